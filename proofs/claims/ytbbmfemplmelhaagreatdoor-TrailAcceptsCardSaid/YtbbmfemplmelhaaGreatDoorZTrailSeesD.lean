/- Proved here, in parts, for one law: contracts of the functions that the laws call, and the plain facts behind them. Conditions: none. -/
import Derived.Test.YtbbmfemplmelhaaGreatDoorZTrailSeesC
import Derived.ProofKit
import Derived.LaidMore
import Derived.OpenShut
import Derived.Stop.Joined
import Derived.Test.YtbbmfemplmelhaaGreatDoorRows
import Derived.IntWalk
set_option linter.unusedVariables false
set_option linter.unusedSimpArgs false
set_option linter.defProp false
set_option maxRecDepth 4000
set_option maxHeartbeats 4000000
namespace Go.Proofs.YtbbmfemplmelhaaGreatDoor.AM
open Go Go.Proofs
section
open Go Go.ChangeShapes Go.WideShapes Go.RowKit
mutual
def u7 {H : Type} : DataW H → List PV
  | .lit (.bool b) => [.bool b]
  | .lit (.int k n) => [.int k n]
  | .lit (.string l) => [.str ⟨l.toArray⟩]
  | .lit _ => []
  | .nil => [.sl []]
  | .slice elems _ => [.sl (D6 elems)]
  | .agg parts => nR parts
  | .ptr _ => []
  | .iface _ _ => []
  | .map _ => []
  | .held _ => []
def D6 {H : Type} : List (DataW H) → List (List PV)
  | [] => []
  | d :: r => u7 d :: D6 r
def nR {H : Type} : List (DataW H) → List PV
  | [] => []
  | d :: r => u7 d ++ nR r
end
def gd (P : Program) (S : List Nat) (t : Nat) : Bool :=
  match P.underlying t with
  | some .bool | some (.int _) | some .string => P.cellsOf t == 1
  | some (.slice e) => S.contains e && decide (0 < P.cellsOf e) && P.cellsOf t == 1
  | some (.array n e) => S.contains e && P.cellsOf t == n * P.cellsOf e
  | some (.struct fs) => fs.toList.all (fun f => S.contains f.type) &&
      (fs.toList.foldl (fun (acc : Option Nat) f => acc.bind fun o => if f.offset == o then some (o + P.cellsOf f.type) else none) (some 0) == some (P.cellsOf t))
  | _ => false
def plainB (P : Program) (S : List Nat) : Bool := S.all (gd P S)
def Ty (P : Program) : Nat → Nat → List PV → Prop
  | 0, _, _ => False
  | fuel + 1, t, xs =>
    match P.underlying t with
    | some .bool => ∃ b, xs = [.bool b]
    | some (.int k) => ∃ n, u4 k n ∧ xs = [.int k n]
    | some .string => ∃ s, xs = [.str s]
    | some (.slice e) => ∃ rows, xs = [.sl rows] ∧ ∀ row ∈ rows, Ty P fuel e row
    | some (.array n e) => ∃ rows : List (List PV), rows.length = n ∧ xs = rows.flatMap id ∧ ∀ row ∈ rows, Ty P fuel e row
    | some (.struct fs) => ∃ rows : List (List PV), rows.length = fs.size ∧ xs = rows.flatMap id ∧ ∀ (i : Nat) f row, fs[i]? = some f → rows[i]? = some row → Ty P fuel f.type row
    | _ => False
def LR (w : World) (xs : List PV) (cs : List Value) : Prop := xs.length = cs.length ∧ ∀ (i : Nat) x v, xs[i]? = some x → cs[i]? = some v → PRel w (fun _ => False) x v
section
variable {P : Program} {w : World} {H : Type} {enc : TypeId × Value → H} {spare : Nat → Bool} {held : Bool}
theorem jX {α β : Type} {f : α → Option β} : ∀ {l : List α} {r : List β}, l.mapM f = some r → r.length = l.length ∧ ∀ (i : Nat) x y, l[i]? = some x → r[i]? = some y → f x = some y
  | [], r, h => by simp at h; subst h; simp
  | a :: l, r, h => by
    simp only [List.mapM_cons] at h
    cases ha : f a with
    | none => simp [ha] at h
    | some b =>
      cases hl : l.mapM f with
      | none => simp [ha, hl] at h
      | some bs =>
        simp [ha, hl] at h
        subst h
        obtain ⟨l1, l2⟩ := jX hl
        refine ⟨by simp [l1], fun i x y hx hy => ?_⟩
        cases i with
        | zero => simp at hx hy; rw [← hx, ← hy]; exact ha
        | succ i => simp at hx hy; exact l2 i x y hx hy
theorem LR.append {xs ys : List PV} {cs ds : List Value} (h1 : LR w xs cs) (h2 : LR w ys ds) : LR w (xs ++ ys) (cs ++ ds) := by
  refine ⟨by simp [h1.1, h2.1], fun i x v hx hv => ?_⟩
  by_cases hi : i < xs.length
  · rw [List.getElem?_append_left hi] at hx
    rw [List.getElem?_append_left (by rw [← h1.1]; exact hi)] at hv
    exact h1.2 i x v hx hv
  · rw [List.getElem?_append_right (by omega)] at hx
    rw [List.getElem?_append_right (by rw [← h1.1]; omega), ← h1.1] at hv
    exact h2.2 _ x v hx hv
theorem gf (ds : List (DataW H)) : ∀ i : Nat, (D6 ds)[i]? = (ds[i]?).map u7 := by
  induction ds with
  | nil => intro i; simp [D6]
  | cons d r ih => intro i; cases i with
    | zero => simp [D6]
    | succ i => simp [D6, ih]
theorem aM (ds : List (DataW H)) : (D6 ds).length = ds.length := by
  induction ds with
  | nil => rfl
  | cons d r ih => simp [D6, ih]
theorem cC (ds : List (DataW H)) : nR ds = (D6 ds).flatMap id := by
  induction ds with
  | nil => rfl
  | cons d r ih => simp [nR, D6, ih]
theorem LR.rows : ∀ (rows : List (List PV)) (sizes : List Nat) (cs : List Value), rows.length = sizes.length → cs.length = sizes.foldl (· + ·) 0 →
    (∀ (i : Nat) row n, rows[i]? = some row → sizes[i]? = some n → LR w row ((cs.drop ((sizes.take i).foldl (· + ·) 0)).take n)) → LR w (rows.flatMap id) cs := by
  have hf : ∀ (l : List Nat) (a : Nat), l.foldl (· + ·) a = a + l.foldl (· + ·) 0 := by
    intro l
    induction l with
    | nil => intro a; rfl
    | cons x r ih => intro a; simp only [List.foldl_cons]; rw [ih, ih (0 + x)]; omega
  intro rows
  induction rows with
  | nil =>
    intro sizes cs hl hc _
    cases sizes with
    | nil => simp at hc; subst hc; exact ⟨rfl, fun i x v hx => by simp at hx⟩
    | cons => simp at hl
  | cons row rest ih =>
    intro sizes cs hl hc h
    cases sizes with
    | nil => simp at hl
    | cons n ns =>
      simp only [List.foldl_cons] at hc
      rw [hf] at hc
      have h0 := h 0 row n rfl rfl
      simp at h0
      have hrest : LR w (rest.flatMap id) (cs.drop n) := by
        refine ih ns (cs.drop n) (by simpa using hl) (by simp; omega) fun i r m hr hm => ?_
        have := h (i + 1) r m (by simpa using hr) (by simpa using hm)
        simp only [List.take_succ_cons, List.foldl_cons] at this
        rw [hf] at this
        rw [List.drop_drop]
        simpa using this
      have := h0.append hrest
      simpa using this
theorem bY {a : Addr} {n : Nat} {cs : List Value} (h : w.cells? 0 a n = some cs) : cs.length = n ∧ ∀ (i : Nat) v, cs[i]? = some v → w.cell? (a.add i) = some v := by
  unfold World.cells? at h
  simp only [Nat.zero_le, if_true] at h
  obtain ⟨l1, l2⟩ := jX h
  refine ⟨by simpa using l1, fun i v hv => ?_⟩
  have hi : i < n := by have := j4 hv; simp at l1; omega
  exact l2 i i v (by simp [hi]) hv
theorem wx {S : List Nat} (hS : plainB P S = true) : ∀ (fuel t : Nat) (cs : List Value) (x : DataW H × List MemPlace), t ∈ S → DataW.trod enc P w 0 spare held fuel t cs = some x →
    LR w (u7 x.1) cs ∧ Ty P fuel t (u7 x.1) ∧ cs.length = P.cellsOf t := by
  have hpl : ∀ t ∈ S, gd P S t = true := by simpa [plainB] using hS
  intro fuel
  induction fuel with
  | zero => intro t cs x _ h; simp [DataW.trod] at h
  | succ fuel ih =>
    intro t cs x ht h
    have hp := hpl t ht
    unfold gd at hp
    unfold Ty
    have one : ∀ (y : PV) (v : Value), PRel w (fun _ => False) y v → LR w [y] [v] := by
      intro y v hy
      refine ⟨rfl, fun i x v hx hv => ?_⟩
      cases i with
      | zero => simp at hx hv; rw [← hx, ← hv]; exact hy
      | succ i => simp at hx
    cases hu : P.underlying t with
    | none => rw [hu] at hp; simp at hp
    | some d =>
      rw [hu] at hp
      cases d with
      | bool =>
        simp only [beq_iff_eq] at hp
        obtain ⟨b, rfl, rfl⟩ := DataW.trod_bool hu h
        exact ⟨one _ _ (.bool b), ⟨b, rfl⟩, hp.symm⟩
      | int k =>
        simp only [beq_iff_eq] at hp
        obtain ⟨n, rfl, rfl, hw⟩ := DataW.trod_int hu h
        have hr : u4 k n := by
          simp only [Lit.wf] at hw
          unfold u4
          simpa using hw
        exact ⟨one _ _ (.int _ _ hr), ⟨n, hr, rfl⟩, hp.symm⟩
      | string =>
        simp only [beq_iff_eq] at hp
        obtain ⟨s, rfl, rfl, hs⟩ := DataW.trod_string hu h
        have hm : s.size ≤ 9223372036854775807 := by unfold maxLen at hs; omega
        have e : (⟨s.data.toList.toArray⟩ : ByteArray) = s := by simp
        refine ⟨?_, ⟨_, rfl⟩, hp.symm⟩
        simp only [u7, e]
        exact one _ _ (.str s hm)
      | slice e =>
        simp only [Bool.and_eq_true, beq_iff_eq, decide_eq_true_eq, List.contains_iff_mem] at hp
        obtain ⟨⟨he, hpos⟩, h1⟩ := hp
        rcases DataW.trod_slice hu h with ⟨rfl, rfl⟩ | ⟨a, len, cap, elems, rest, m, hm, rfl, rfl, _, hlc, hcm, m1, m2, _⟩
        · exact ⟨one _ _ (.slz _ _), ⟨[], rfl, by simp⟩, h1.symm⟩
        · have : m = fuel := by omega
          subst this
          have hrow : ∀ (i : Nat) y, elems[i]? = some y → ∃ rc, w.cells? 0 (a.add (i * P.cellsOf e)) (P.cellsOf e) = some rc ∧ LR w (u7 y.1) rc ∧ Ty P m e (u7 y.1) := by
            intro i y hy
            have hi : i < len := by have := j4 hy; omega
            have := m2 i hi
            rw [hy] at this
            obtain ⟨rc, hrc, ht'⟩ := Option.bind_eq_some_iff.mp this
            obtain ⟨q1, q2, _⟩ := ih e rc y he ht'
            exact ⟨rc, hrc, q1, q2⟩
          have hrg : ∀ i : Nat, (D6 (elems.map (·.1)))[i]? = (elems[i]?).map fun y => u7 y.1 := by
            intro i; rw [gf]; simp
            cases elems[i]? <;> rfl
          have hrl : (D6 (elems.map (·.1))).length = len := by rw [aM]; simp [m1]
          have hmem : ∀ row ∈ D6 (elems.map (·.1)), ∃ (i : Nat) (y : DataW H × List MemPlace), elems[i]? = some y ∧ u7 y.1 = row := by
            intro row hr
            obtain ⟨i, hi, rfl⟩ := List.getElem_of_mem hr
            have h1 : (D6 (elems.map (·.1)))[i]? = some ((D6 (elems.map (·.1)))[i]) := List.getElem?_eq_getElem hi
            rw [hrg] at h1
            obtain ⟨y, hy, hye⟩ := Option.map_eq_some_iff.mp h1
            exact ⟨i, y, hy, hye⟩
          have hcd : u7 (DataW.slice (elems.map (·.1)) (rest.map (·.1))) = [.sl (D6 (elems.map (fun y : DataW H × List MemPlace => y.1)))] := by simp only [u7]
          show LR w (u7 (DataW.slice (elems.map (·.1)) (rest.map (·.1)))) _ ∧ (∃ rows, u7 (DataW.slice (elems.map (·.1)) (rest.map (·.1))) = [.sl rows] ∧ ∀ row ∈ rows, Ty P m e row) ∧ _
          rw [hcd]
          refine ⟨one (.sl (D6 (elems.map (fun y : DataW H × List MemPlace => y.1)))) _ ?_, ⟨_, rfl, fun row hr => ?_⟩, h1.symm⟩
          · by_cases hz : len = 0
            · have : D6 (elems.map (·.1)) = [] := List.eq_nil_of_length_eq_zero (by omega)
              rw [this, hz]
              exact .slz _ _
            · obtain ⟨y0, hy0⟩ : ∃ y, elems[0]? = some y := ⟨elems[0]'(by omega), by simp⟩
              obtain ⟨rc0, hrc0, _, _⟩ := hrow 0 y0 hy0
              obtain ⟨c1, c2⟩ := bY hrc0
              have hc0 : w.cell? a = some (rc0[0]'(by omega)) := by
                have := c2 0 (rc0[0]'(by omega)) (by simp)
                simpa [Addr.add] using this
              have hspot : a.spot = none := by
                unfold World.cell? at hc0
                split at hc0
                · split at hc0
                  · cases hc0
                  · rename_i hs; simpa using hs
                · cases hc0
              obtain ⟨blk, off, sp⟩ := a
              simp only at hspot
              subst hspot
              have hb := block_lt_of_cell hc0
              have hf : ∀ q : Nat × Nat, ∃ v, ∀ x, P8 (D6 (elems.map (·.1))) q.1 q.2 = some x → w.cell? ⟨blk, off + (q.1 * P.cellsOf e + q.2), none⟩ = some v ∧ PRel w (fun _ => False) x v := by
                intro q
                cases hq : P8 (D6 (elems.map (·.1))) q.1 q.2 with
                | none => exact ⟨undef, fun x hx => by cases hx⟩
                | some x =>
                  unfold P8 at hq
                  obtain ⟨row, hr1, hr2⟩ := Option.bind_eq_some_iff.mp hq
                  rw [hrg] at hr1
                  obtain ⟨y, hy, rfl⟩ := Option.map_eq_some_iff.mp hr1
                  obtain ⟨rc, hrc, ⟨l1, l2⟩, _⟩ := hrow q.1 y hy
                  obtain ⟨d1, d2⟩ := bY hrc
                  have hj : q.2 < rc.length := by have := j4 hr2; omega
                  refine ⟨rc[q.2], fun x' hx' => ?_⟩
                  cases hx'
                  refine ⟨?_, l2 q.2 x rc[q.2] hr2 (by simp)⟩
                  have := d2 q.2 rc[q.2] (by simp)
                  rw [Addr.add_lit, Addr.add_lit] at this
                  rw [← Nat.add_assoc]
                  exact this
              obtain ⟨f, hf⟩ := Classical.axiomOfChoice hf
              have := PRel.sl (w := w) (own := fun _ => False) (D6 (elems.map (·.1))) blk off cap (P.cellsOf e) (fun i j => f (i, j)) (by omega) (by unfold maxLen at hcm; omega) (fun h => h) hb
                (fun row hr => by
                  obtain ⟨i, y, hy, hye⟩ := hmem row hr
                  obtain ⟨rc, hrc, ⟨l1, _⟩, _⟩ := hrow i y hy
                  rw [← hye, l1, (bY hrc).1])
                (fun i j x hx => (hf (i, j) x hx).1) (fun i j x hx => (hf (i, j) x hx).2)
              rwa [hrl] at this
          · obtain ⟨i, y, hy, hye⟩ := hmem row hr
            obtain ⟨rc, hrc, _, q⟩ := hrow i y hy
            rw [← hye]; exact q
      | array n e =>
        simp only [Bool.and_eq_true, beq_iff_eq, List.contains_iff_mem] at hp
        obtain ⟨he, hc⟩ := hp
        obtain ⟨xs, m, hm, rfl, hlen, m1, m2⟩ := DataW.trod_array hu h
        have : m = fuel := by omega
        subst this
        have hrg : ∀ i : Nat, (D6 (xs.map (·.1)))[i]? = (xs[i]?).map fun y => u7 y.1 := by
          intro i; rw [gf]; simp
          cases xs[i]? <;> rfl
        have hrl : (D6 (xs.map (·.1))).length = n := by rw [aM]; simp [m1]
        have hrow : ∀ (i : Nat) y, xs[i]? = some y → LR w (u7 y.1) ((cs.drop (i * P.cellsOf e)).take (P.cellsOf e)) ∧ Ty P m e (u7 y.1) := by
          intro i y hy
          have hi : i < n := by have := j4 hy; omega
          obtain ⟨q1, q2, _⟩ := ih e _ y he ((m2 i hi).trans hy)
          exact ⟨q1, q2⟩
        refine ⟨?_, ⟨D6 (xs.map (·.1)), hrl, by simp only [u7, cC], fun row hr => ?_⟩, hlen⟩
        · simp only [u7, cC]
          have hsum : ∀ m : Nat, (List.replicate m (P.cellsOf e)).foldl (· + ·) 0 = m * P.cellsOf e := by
            intro m
            have hf : ∀ (l : List Nat) (a : Nat), l.foldl (· + ·) a = a + l.foldl (· + ·) 0 := by
              intro l
              induction l with
              | nil => intro a; rfl
              | cons x r ih => intro a; simp only [List.foldl_cons]; rw [ih, ih (0 + x)]; omega
            induction m with
            | zero => simp
            | succ m ih => rw [List.replicate_succ, List.foldl_cons, hf, ih, Nat.succ_mul]; omega
          refine LR.rows _ (List.replicate n (P.cellsOf e)) cs (by simp [hrl]) (by rw [hsum, hlen, hc]) fun i row k hr hk => ?_
          rw [hrg] at hr
          obtain ⟨y, hy, rfl⟩ := Option.map_eq_some_iff.mp hr
          have hi : i < n := by have := j4 hy; omega
          rw [List.getElem?_replicate, if_pos hi] at hk
          cases hk
          rw [List.take_replicate, show min i n = i by omega, hsum]
          exact (hrow i y hy).1
        · obtain ⟨i, hi, rfl⟩ := List.getElem_of_mem hr
          have h1 : (D6 (xs.map (·.1)))[i]? = some ((D6 (xs.map (·.1)))[i]) := List.getElem?_eq_getElem hi
          rw [hrg] at h1
          obtain ⟨y, hy, hye⟩ := Option.map_eq_some_iff.mp h1
          rw [← hye]; exact (hrow i y hy).2
      | struct fs =>
        rw [Bool.and_eq_true, List.all_eq_true, beq_iff_eq] at hp
        obtain ⟨hfs0, hoff⟩ := hp
        have hfs : ∀ f ∈ fs.toList, f.type ∈ S := fun f hf => by simpa using hfs0 f hf
        obtain ⟨xs, m, hm, rfl, hlen, m1, m2⟩ := DataW.trod_struct hu h
        have : m = fuel := by omega
        subst this
        have hrg : ∀ i : Nat, (D6 (xs.map (·.1)))[i]? = (xs[i]?).map fun y => u7 y.1 := by
          intro i; rw [gf]; simp
          cases xs[i]? <;> rfl
        have hrl : (D6 (xs.map (·.1))).length = fs.toList.length := by rw [aM]; simp [m1]
        have hrow : ∀ (i : Nat) y f, xs[i]? = some y → fs.toList[i]? = some f → LR w (u7 y.1) ((cs.drop f.offset).take (P.cellsOf f.type)) ∧ Ty P m f.type (u7 y.1) := by
          intro i y f hy hf
          obtain ⟨q1, q2, _⟩ := ih f.type _ y (hfs f (List.mem_of_getElem? hf)) ((m2 i f (by simpa using hf)).trans hy)
          exact ⟨q1, q2⟩
        have hgen : ∀ (l : List Field) (o tot : Nat), l.foldl (fun (acc : Option Nat) f => acc.bind fun o => if f.offset == o then some (o + P.cellsOf f.type) else none) (some o) = some tot →
            tot = o + (l.map fun f => P.cellsOf f.type).foldl (· + ·) 0 ∧ ∀ (i : Nat) f, l[i]? = some f → f.offset = o + ((l.map fun f => P.cellsOf f.type).take i).foldl (· + ·) 0 := by
          have hf : ∀ (l : List Nat) (a : Nat), l.foldl (· + ·) a = a + l.foldl (· + ·) 0 := by
            intro l
            induction l with
            | nil => intro a; rfl
            | cons x r ih => intro a; simp only [List.foldl_cons]; rw [ih, ih (0 + x)]; omega
          have hnone : ∀ l : List Field, l.foldl (fun (acc : Option Nat) f => acc.bind fun o => if f.offset == o then some (o + P.cellsOf f.type) else none) none = none := by
            intro l; induction l with
            | nil => rfl
            | cons f r ih => simpa using ih
          intro l
          induction l with
          | nil => intro o tot h; simp at h; subst h; simp
          | cons f r ihl =>
            intro o tot h
            simp only [List.foldl_cons, Option.bind_some] at h
            split at h
            · rename_i ho
              obtain ⟨e1, e2⟩ := ihl _ _ h
              refine ⟨by simp only [List.map_cons, List.foldl_cons]; rw [hf]; omega, fun i g hg => ?_⟩
              cases i with
              | zero => simp at hg ho; subst hg; simpa using ho
              | succ i =>
                simp at hg
                have := e2 i g hg
                simp only [List.map_cons, List.take_succ_cons, List.foldl_cons]
                rw [hf]; omega
            · rw [hnone] at h; cases h
        obtain ⟨g1, g2⟩ := hgen fs.toList 0 _ hoff
        refine ⟨?_, ⟨D6 (xs.map (·.1)), by simpa using hrl, by simp only [u7, cC], fun i f row hf hr => ?_⟩, hlen⟩
        · simp only [u7, cC]
          refine LR.rows _ (fs.toList.map fun f => P.cellsOf f.type) cs (by simpa using hrl) (by omega) fun i row k hr hk => ?_
          rw [hrg] at hr
          obtain ⟨y, hy, rfl⟩ := Option.map_eq_some_iff.mp hr
          simp only [List.getElem?_map, Option.map_eq_some_iff] at hk
          obtain ⟨f, hf, rfl⟩ := hk
          have := g2 i f hf
          rw [Nat.zero_add] at this
          rw [← this]
          exact (hrow i y f hy hf).1
        · rw [hrg] at hr
          obtain ⟨y, hy, rfl⟩ := Option.map_eq_some_iff.mp hr
          exact (hrow i y f hy (by simpa using hf)).2
      | _ => simp at hp
end
end
section
open Go Go.ChangeShapes Go.WideShapes Go.RowKit
def yc (P : Program) (t : Nat) : Bool := match P.underlying t with | some (.struct _) | some (.array _ _) => true | _ => false
def jY (P : Program) (t : Nat) (xs : List PV) : AV :=
  if yc P t then .agg (xs.map .p) else match xs with | x :: _ => .p x | [] => .undef
section
variable {P : Program} {G : Nat → Option (List PV)} {H : Type} {enc : TypeId × Value → H}
theorem ll {f : Func} {s : ChangeSpec} {apart fresh handsOn again : Bool} {W W' : World} {args : Array Value} {v : Value} {ds gs : List (DataW H)} {before pa pv : List MemPlace}
    (hW : DataW.Whole enc P f.params.toList s.vars apart W args.toList ds gs before)
    (hres : ∀ (b : Nat) (sp : Nat → Bool) (hd : Bool), DataW.TrodAll enc P W' b sp hd f.resultTypes.toList (v.resultList f.resultTypes.size) (s.fn H (ds ++ gs)).results [])
    (hargs : ∀ sp : Nat → Bool, (∀ p ∈ before, sp p.block = true) → DataW.TrodAll enc P W' 0 sp true f.params.toList args.toList (s.fn H (ds ++ gs)).args pa)
    (hvars : ∀ sp : Nat → Bool, (∀ p ∈ before, sp p.block = true) → DataW.TrodVars enc P W' sp s.vars (s.fn H (ds ++ gs)).vars pv)
    (hps : before = pa ++ pv) (hb : Below W.heap.size W W')
    (hok : ∀ (j : Nat) (t : TypeId) (r : Value), f.resultTypes[j]? = some t → (v.resultList f.resultTypes.size)[j]? = some r → Value.okWide P W' .any 0 t r) :
    s.post enc P f apart fresh handsOn again W args v W' := by
  have hlt : ∀ p ∈ before, p.block < W.heap.size := fun p hp => hW.lt p hp
  have hold : ∀ p ∈ before, (fun b => decide (b < W.heap.size)) p.block = true := fun p hp => by simpa using hlt p hp
  refine ⟨ds, gs, before, [], pa, pv, hW, hres _ _ _, hargs _ hold, hvars _ hold, World.keptBut_mono (fun p hp => ⟨hp, ?_⟩) (hb.frame (· ∈ before)), fun _ => ?_⟩
  · rw [hps, List.mem_append] at hp
    exact Or.inr hp
  · obtain ⟨_, _, _, _, _, hz, hn⟩ := hW
    refine ⟨hok, _, _, ([] ++ pa) ++ pv, ⟨[] ++ pa, pv, trodAll_append (hargs _ (fun _ _ => rfl)) (hres _ _ _), hvars _ (fun _ _ => rfl), rfl, ?_, ?_⟩, ?_⟩
    · intro b off hp
      have hin : MemPlace.cell b off ∈ before := by rw [hps]; simpa using hp
      rw [hb.frozen (hlt _ hin)]
      exact hz b off hin
    · intro ha
      have := hn ha
      rw [hps] at this
      simpa using this
    · intro p hp _
      rw [hps]
      simpa using hp
theorem iX {ι : Nat → Nat × Nat} {k : Nat} : ¬ own ι [] k := fun ⟨b, bk, h, _⟩ => by simp at h
theorem PRel.weak {w : World} {o : Nat → Prop} {x : PV} {v : Value} (h : PRel w (fun _ => False) x v) (ho : ∀ k, ¬ o k) : PRel w o x v :=
  h.mono (Nat.le_refl _) fun k _ _ => ⟨rfl, ho k⟩
theorem yd {W : World} {S : List Nat} (hS : plainB P S = true) {t : Nat} (ht : t ∈ S) {sp : Nat → Bool} {held : Bool} {v : Value} {d : DataW H} {ps : List MemPlace} (hd : DataW.Trod enc P W 0 sp held t v d ps)
    {r : Reach} {b0 : Nat} (hok : Value.okWide P W r b0 t v) (ι : Nat → Nat × Nat) : VRel ι [] W (jY P t (u7 d)) v ∧ ∃ fuel, Ty P fuel t (u7 d) := by
  obtain ⟨fuel, hf⟩ := hd
  obtain ⟨⟨l1, l2⟩, hty, hlen⟩ := wx hS fuel t _ _ ht hf
  refine ⟨?_, fuel, hty⟩
  unfold jY yc
  unfold Value.okWide at hok
  have hpl : gd P S t = true := by
    have : ∀ t ∈ S, gd P S t = true := by simpa [plainB] using hS
    exact this t ht
  unfold gd at hpl
  have agg : ∀ cs, v = .agg cs → VRel ι [] W (.agg ((u7 d).map .p)) v := by
    intro cs hc
    subst hc
    refine .agg _ _ (by simpa [Value.cells] using l1) fun i x u hx hu => ?_
    simp only [List.getElem?_map, Option.map_eq_some_iff] at hx
    obtain ⟨y, hy, rfl⟩ := hx
    exact .p _ _ ((l2 i y u hy (by simpa [Value.cells] using hu)).weak fun _ => iX)
  cases hu : P.underlying t with
  | none => rw [hu] at hpl; simp at hpl
  | some D =>
    rw [hu] at hok hpl
    have one : P.cellsOf t = 1 → (∀ cs, v ≠ .agg cs) → VRel ι [] W (match u7 d with | x :: _ => .p x | [] => .undef) v := by
      intro h1 hna
      have hc : v.cells = #[v] := by cases v <;> first | rfl | exact absurd rfl (hna _)
      rw [hc] at l1 l2
      match hq : u7 d, l1, l2 with
      | [x], l1, l2 => exact .p _ _ ((l2 0 x v rfl rfl).weak fun _ => iX)
      | [], l1, _ => simp at l1
      | _ :: _ :: _, l1, _ => simp at l1
    cases D with
    | struct fs => obtain ⟨cs, hc, _⟩ := hok; simpa using agg cs hc
    | array n e => obtain ⟨cs, hc, _⟩ := hok; simpa using agg cs hc
    | bool => simpa using one (by simpa using hpl) (fun cs e => by subst e; simp [Cell.okWide, hu, Cell.ok] at hok)
    | int k => simpa using one (by simpa using hpl) (fun cs e => by subst e; simp [Cell.okWide, hu, Cell.ok] at hok)
    | string => simpa using one (by simpa using hpl) (fun cs e => by subst e; simp [Cell.okWide, hu, Cell.ok] at hok)
    | slice e =>
      have h1 : P.cellsOf t = 1 := by simp only [Bool.and_eq_true, beq_iff_eq] at hpl; exact hpl.2
      simpa using one h1 (fun cs e => by subst e; simp [Cell.okWide, hu, Cell.ok] at hok)
    | _ => simp at hpl
theorem pU {W : World} {S : List Nat} (hS : plainB P S = true) {sp : Nat → Bool} {held : Bool} {r : Reach} {b0 : Nat} (ι : Nat → Nat × Nat) :
    ∀ (ts : List Nat) (vs : List Value) (ds : List (DataW H)) (ps : List MemPlace), (∀ t ∈ ts, t ∈ S) → DataW.TrodAll enc P W 0 sp held ts vs ds ps →
      (∀ (j : Nat) t v, ts[j]? = some t → vs[j]? = some v → Value.okWide P W r b0 t v) →
      ds.length = ts.length ∧ vs.length = ts.length ∧ (∀ (j : Nat) t v d, ts[j]? = some t → vs[j]? = some v → ds[j]? = some d → VRel ι [] W (jY P t (u7 d)) v ∧ ∃ fuel, Ty P fuel t (u7 d))
  | [], [], [], ps, _, h, _ => ⟨rfl, rfl, fun j t v d ht => by simp at ht⟩
  | t :: ts, v :: vs, d :: ds, ps, hin, h, hok => by
    obtain ⟨p, q, h1, h2, rfl⟩ := h
    obtain ⟨l1, l2, l3⟩ := pU hS ι ts vs ds q (fun t ht => hin t (by simp [ht])) h2 (fun j t v ht hv => hok (j + 1) t v (by simpa using ht) (by simpa using hv))
    refine ⟨by simp [l1], by simp [l2], fun j t' v' d' ht hv hd => ?_⟩
    cases j with
    | zero =>
      simp at ht hv hd
      subst ht; subst hv; subst hd
      exact yd hS (hin t (by simp)) h1 (hok 0 t v rfl rfl) ι
    | succ j => simp at ht hv hd; exact l3 j t' v' d' ht hv hd
  | [], [], _ :: _, _, _, h, _ => h.elim
  | [], _ :: _, _, _, _, h, _ => h.elim
  | _ :: _, [], _, _, _, h, _ => h.elim
  | _ :: _, _ :: _, [], _, _, h, _ => h.elim
theorem mf {W W' : World} (hl : laidOutB P = true) (hb : Below W.heap.size W W') {sp' : Nat → Bool} : ∀ (ts : List Nat) (vs : List Value) (ds : List (DataW H)) (ps : List MemPlace),
    (∀ t ∈ ts, P.readableRec t = true ∧ t < P.types.size) → DataW.TrodAll enc P W 0 (fun _ => true) true ts vs ds ps → (∀ p ∈ ps, p.block < W.heap.size) → (∀ p ∈ ps, sp' p.block = true) →
      DataW.TrodAll enc P W' 0 sp' true ts vs ds ps
  | [], [], [], ps, _, h, _, _ => h
  | t :: ts, v :: vs, d :: ds, ps, hin, h, hlt, hsp => by
    obtain ⟨p, q, h1, h2, rfl⟩ := h
    obtain ⟨r1, r2⟩ := hin t (by simp)
    exact ⟨p, q, WideElems.Trod_stays hl r1 r2 h1 (fun x hx => hb.same (hlt x (by simp [hx]))) (fun x hx => hsp x (by simp [hx])),
      mf hl hb ts vs ds q (fun t ht => hin t (by simp [ht])) h2 (fun x hx => hlt x (by simp [hx])) (fun x hx => hsp x (by simp [hx])), rfl⟩
  | [], [], _ :: _, _, _, h, _, _ => h.elim
  | [], _ :: _, _, _, _, h, _, _ => h.elim
  | _ :: _, [], _, _, _, h, _, _ => h.elim
  | _ :: _, _ :: _, [], _, _, h, _, _ => h.elim
theorem law_contract {f : FuncId} {fn : Func} {S : List Nat} (hS : plainB P S = true) (hl : laidOutB P = true) {ts : List Nat} (hts : fn.params.toList = ts) (hin : ∀ t ∈ ts, t ∈ S) (hrd : ∀ t ∈ ts, P.readableRec t = true ∧ t < P.types.size)
    {bt : Nat} (hres : fn.resultTypes = #[bt]) (hbt : P.underlying bt = some .bool)
    {s : ChangeSpec} (hsv : s.vars = []) (hsf : ∀ (H : Type) (ds : List (DataW H)), ds.length = ts.length → s.fn H ds = { results := [.lit (.bool true)], args := ds })
    (hlaw : ∀ xss : List (List PV), xss.length = ts.length → (∀ (j : Nat) t xs, ts[j]? = some t → xss[j]? = some xs → ∃ fuel, Ty P fuel t xs) →
      d5 P G f (List.zipWith (jY P) ts xss) [] fun r h' => r = .b true ∧ h' = [])
    {apart fresh handsOn again : Bool} {W : World} (hG : ∀ g cells, G g = some cells → Z0 W (fun _ => False) cells g 0) {base : Nat} {args : Array Value} {ds gs : List (DataW H)} {before : List MemPlace}
    (hval : ∀ (j : Nat) t v, fn.params[j]? = some t → args[j]? = some v → Value.okWide P W .any base t v)
    (hW : DataW.Whole enc P fn.params.toList s.vars apart W args.toList ds gs before) :
    Calls P f args W fun e W' => ∃ v, e = .returned v ∧ s.post enc P fn apart fresh handsOn again W args v W' := by
  have hW' := hW
  obtain ⟨p, q, hA, hV, hps, hfz, hnd⟩ := hW
  rw [hsv] at hV
  obtain ⟨rfl, rfl⟩ := trodVars_none hV
  rw [hts] at hA
  obtain ⟨l1, l2, l3⟩ := pU hS (fun _ => (0, 0)) ts args.toList ds p hin hA (fun j t v ht hv => hval j t v (by rw [← hts] at ht; simpa using ht) (by simpa using hv))
  have hSim : SimH P G (fun _ => (0, 0)) [] W := ⟨⟨fun b bk hb => by simp at hb, fun b b' bk bk' hb => by simp at hb⟩, fun g cells hg => (hG g cells hg).mono (Nat.le_refl _) fun k _ _ => ⟨rfl, iX⟩⟩
  have hcall := hlaw (ds.map u7) (by simp [l1]) (fun j t xs ht hx => by
    simp only [List.getElem?_map, Option.map_eq_some_iff] at hx
    obtain ⟨d, hd, rfl⟩ := hx
    have hj : j < args.toList.length := by have := j4 ht; omega
    exact (l3 j t args.toList[j] d ht (List.getElem?_eq_getElem hj) hd).2) (fun _ => (0, 0)) W args hSim ⟨by simp [l1]; simpa using l2.symm, fun i x v hx hv => by
      simp only [List.getElem?_zipWith, List.getElem?_map] at hx
      cases ht : ts[i]? with
      | none => simp [ht] at hx
      | some t =>
        cases hd : ds[i]? with
        | none => simp [ht, hd] at hx
        | some d =>
          simp [ht, hd] at hx
          rw [← hx]
          exact (l3 i t v d ht (by simpa using hv) hd).1⟩
  refine hcall.mono fun e W' ⟨v, r, h', ι', he, ⟨hr, hh⟩, hS', hv, hev⟩ => ⟨v, he, ?_⟩
  subst hr
  subst hh
  have := hv.bool_inv
  subst this
  have hb : Below W.heap.size W W' := ⟨hev.os, hev.tape, hev.output, hev.size, fun k hk => (hev.keep k hk iX).1⟩
  have hbefore : before = p := by simpa using hps
  have hfn : s.fn H (ds ++ []) = { results := [.lit (.bool true)], args := ds } := by rw [List.append_nil]; exact hsf H ds l1
  have hlt : ∀ x ∈ before, x.block < W.heap.size := fun x hx => hW'.lt x hx
  refine ll (pa := p) (pv := []) hW' (fun b sp hd => ?_) (fun sp hsp => ?_) (fun sp _ => ?_) (by simpa using hps) hb ?_
  · rw [hfn, hres]
    exact trodAll_mk1 (shut_bool hbt true)
  · rw [hfn, hts]
    exact mf hl hb ts args.toList ds p hrd hA (fun x hx => hlt x (by rw [hbefore]; exact hx)) (fun x hx => hsp x (by rw [hbefore]; exact hx))
  · rw [hfn, hsv]; rfl
  · exact ok_one hres rfl (okWide_bool_mk hbt true)
theorem wy {W : World} {S : List Nat} (hS : plainB P S = true) {name : String} {D : DataW Unit} {g0 t0 : Nat} (hg : P.globalNamed name = some g0) (ht : (P.globals[g0]?).map (·.type) = some t0) (hin : t0 ∈ S)
    (hpos : u7 D ≠ []) (h : ∃ g t cs fuel sp held p, P.globalNamed name = some g ∧ (P.globals[g]?).map (·.type) = some t ∧ W.var? P name = some cs ∧ DataW.trod (fun _ => ()) P W 0 sp held fuel t cs.toList = some (D, p)) :
    Z0 W (fun _ => False) (u7 D) g0 0 := by
  obtain ⟨g, t, cs, fuel, sp, held, p, e1, e2, e3, e4⟩ := h
  obtain rfl := Option.some.inj (hg.symm.trans e1)
  obtain rfl := Option.some.inj (ht.symm.trans e2)
  obtain ⟨⟨l1, l2⟩, _, _⟩ := wx hS fuel t0 _ _ hin e4
  have hcell : ∀ i : Nat, W.cell? ⟨g0, i, none⟩ = cs[i]? := fun i => World.var?_cell e1 e3 i
  refine ⟨fun h => h, ?_, fun j x hx => ?_⟩
  · have h0 : 0 < cs.toList.length := by
      rw [← l1]; exact List.length_pos_iff.mpr hpos
    have hc : W.cell? ⟨g0, 0, none⟩ = some (cs[0]'(by simpa using h0)) := by rw [hcell]; simp
    exact block_lt_of_cell hc
  · have hj : j < cs.toList.length := Nat.lt_of_lt_of_eq (j4 hx) l1
    refine ⟨cs.toList[j], by rw [Nat.zero_add, hcell]; simp, l2 j x _ hx (by simp)⟩
end
end
section
section
variable {P : Program}
theorem Z6 {k : IntKind} {a b : Nat} {z : Option (List PV)} {t fuel : Nat} {xs : List PV} (ht : j9 P t = some ⟨.int k, a, b, z⟩) (h : Ty P fuel t xs) : ∃ n, u4 k n ∧ xs = [.int k n] := by
  obtain ⟨_, d, _, h2, h3, _⟩ := k9 ht
  have := dX h3; subst this
  cases fuel with
  | zero => exact h.elim
  | succ m => unfold Ty at h; rw [h2] at h; exact h
theorem ye {a b : Nat} {z : Option (List PV)} {t fuel : Nat} {xs : List PV} (ht : j9 P t = some ⟨.bool, a, b, z⟩) (h : Ty P fuel t xs) : ∃ x, xs = [.bool x] := by
  obtain ⟨_, d, _, h2, h3, _⟩ := k9 ht
  have := fF h3; subst this
  cases fuel with
  | zero => exact h.elim
  | succ m => unfold Ty at h; rw [h2] at h; exact h
theorem bZ {e a b : Nat} {z : Option (List PV)} {t fuel : Nat} {xs : List PV} (ht : j9 P t = some ⟨.slice e, a, b, z⟩) (h : Ty P fuel t xs) : ∃ (m : Nat) (rows : List (List PV)), fuel = m + 1 ∧ xs = [.sl rows] ∧ ∀ row ∈ rows, Ty P m e row := by
  obtain ⟨_, d, _, h2, h3, _⟩ := k9 ht
  have := I7 h3; subst this
  cases fuel with
  | zero => exact h.elim
  | succ m => unfold Ty at h; rw [h2] at h; obtain ⟨rows, h1, h2⟩ := h; exact ⟨m, rows, rfl, h1, h2⟩
theorem ai {fs : List (Nat × Nat × Nat)} {a b : Nat} {z : Option (List PV)} {t fuel : Nat} {xs : List PV} (ht : j9 P t = some ⟨.struct fs, a, b, z⟩) (h : Ty P fuel t xs) :
    ∃ (m : Nat) (rows : List (List PV)), fuel = m + 1 ∧ rows.length = fs.length ∧ xs = rows.flatMap id ∧ ∀ (i : Nat) f row, fs[i]? = some f → rows[i]? = some row → Ty P m f.2.2 row := by
  obtain ⟨_, d, _, h2, h3, _⟩ := k9 ht
  obtain ⟨F, rfl, h4⟩ := R0 h3
  cases fuel with
  | zero => exact h.elim
  | succ m =>
    unfold Ty at h
    rw [h2] at h
    obtain ⟨rows, g1, g2, g3⟩ := h
    refine ⟨m, rows, rfl, by rw [h4]; simpa using g1, g2, fun i f row hf hr => ?_⟩
    rw [h4] at hf
    simp only [List.getElem?_map, Option.map_eq_some_iff] at hf
    obtain ⟨fd, hfd, rfl⟩ := hf
    exact g3 i fd row (by simpa using hfd) hr
theorem tj {k : IntKind} {a b : Nat} {z : Option (List PV)} {e m : Nat} (ht : j9 P e = some ⟨.int k, a, b, z⟩) : ∀ (rows : List (List PV)), (∀ row ∈ rows, Ty P m e row) → ∃ l : List Int, l.length = rows.length ∧ (∀ n ∈ l, u4 k n) ∧ rows = l.map fun n => [.int k n]
  | [], _ => ⟨[], rfl, by simp, rfl⟩
  | r :: rows, h => by
    obtain ⟨n, hn, rfl⟩ := Z6 ht (h r (by simp))
    obtain ⟨l, h1, h2, h3⟩ := tj ht rows fun row hr => h row (by simp [hr])
    exact ⟨n :: l, by simp [h1], by simpa using ⟨hn, h2⟩, by simp [h3]⟩
theorem nS {i : TI} {t : Nat} (ht : j9 P t = some i) (xs : List PV) : jY P t xs = if i.isAgg then .agg (xs.map .p) else match xs with | x :: _ => .p x | [] => .undef := by
  obtain ⟨_, d, _, h2, h3, _⟩ := k9 ht
  have : yc P t = i.isAgg := by
    unfold yc TI.isAgg
    rw [h2, ← h3]
    cases d <;> rfl
  unfold jY
  rw [this]
  all_goals (cases xs <;> rfl)
end
end
section
open Go Go.Proofs Go.ChangeShapes Go.WideShapes Go.RowKit
theorem pV : plainB Tryz.prog [3, 9, 201, 202] = true := by kernel_rfl
theorem gW_pin {W : World} (h : laidMetH Tryz.prog [("treenail/term.words", Rows.laid_treenail_term_words)] W) : ∀ g cells, gW g = some cells → Z0 W (fun _ => False) cells g 0 := by
  intro g cells hg
  unfold gW at hg
  split at hg
  · rename_i e
    cases hg
    subst e
    rw [MakeChecks.laidMetH_plain _ _ _ (by kernel_rfl)] at h
    obtain ⟨ps, ⟨g0, t0, cs0, f0, p0, q0, hg0, ht0, hv0, hd0, _⟩, _⟩ := h
    have e : u7 (Rows.laid_treenail_term_words : DataW Unit) = jJ := by kernel_rfl
    rw [← e]
    exact wy pV (name := "treenail/term.words") (t0 := 202) (by kernel_rfl) (by kernel_rfl) (by decide) (by rw [e]; unfold jJ; simp) ⟨g0, t0, cs0, f0, _, _, p0, hg0, ht0, hv0, hd0⟩
  · cases hg
theorem nT : ∀ (fuel : Nat) (xs : List PV), Ty Tryz.prog fuel 75 xs → ∃ t : Tm, xs = eT t
  | 0, xs, h => h.elim
  | fuel + 1, xs, h => by
    obtain ⟨m, rows, e, hl, rfl, hf⟩ := ai T75 h
    match rows, hl with
    | [r0, r1, r2], _ =>
      have h0 : Ty Tryz.prog m 3 r0 := hf 0 _ r0 rfl rfl
      have h1 : Ty Tryz.prog m 3 r1 := hf 1 _ r1 rfl rfl
      have h2 : Ty Tryz.prog m 73 r2 := hf 2 _ r2 rfl rfl
      obtain ⟨o, _, rfl⟩ := Z6 T3 h0
      obtain ⟨n, _, rfl⟩ := Z6 T3 h1
      obtain ⟨m', rows, e2, rfl, hr⟩ := bZ T73 h2
      have key : ∀ rows : List (List PV), (∀ row ∈ rows, Ty Tryz.prog m' 75 row) → ∃ ks : List Tm, rows = ks.map eT := by
        intro rows
        induction rows with
        | nil => intro _; exact ⟨[], rfl⟩
        | cons r rs ih =>
          intro hh
          obtain ⟨t, ht⟩ := nT m' r (hh r (by simp))
          obtain ⟨ks, hks⟩ := ih fun row hrow => hh row (by simp [hrow])
          exact ⟨t :: ks, by rw [ht, hks]; rfl⟩
      obtain ⟨ks, hks⟩ := key rows hr
      refine ⟨.mk o n ks, ?_⟩
      rw [hks]
      simp [eT]
termination_by fuel => fuel
decreasing_by omega
theorem iY {α : Type} {e : α → List PV} {p : List PV → Prop} (h : ∀ row, p row → ∃ a, row = e a) : ∀ rows : List (List PV), (∀ row ∈ rows, p row) → ∃ l : List α, rows = l.map e
  | [], _ => ⟨[], rfl⟩
  | r :: rs, hr => by
    obtain ⟨a, ha⟩ := h r (hr r (by simp))
    obtain ⟨l, hl⟩ := iY h rs fun row hrow => hr row (by simp [hrow])
    exact ⟨a :: l, by rw [ha, hl]; rfl⟩
theorem yf {fuel : Nat} {xs : List PV} (h : Ty Tryz.prog fuel 77 xs) : ∃ k : Nd, xs = eN k := by
  obtain ⟨m, rows, e, hl, rfl, hf⟩ := ai T77 h
  match rows, hl with
  | [r0, r1, r2], _ =>
    have h0 : Ty Tryz.prog m 3 r0 := hf 0 _ r0 rfl rfl
    have h1 : Ty Tryz.prog m 3 r1 := hf 1 _ r1 rfl rfl
    have h2 : Ty Tryz.prog m 75 r2 := hf 2 _ r2 rfl rfl
    obtain ⟨o, _, rfl⟩ := Z6 T3 h0
    obtain ⟨n, _, rfl⟩ := Z6 T3 h1
    obtain ⟨t, rfl⟩ := nT _ _ h2
    exact ⟨⟨o, n, t⟩, by simp [eN, p9]⟩
theorem yg {fuel : Nat} {xs : List PV} (h : Ty Tryz.prog fuel 80 xs) : ∃ k : Fl, xs = eF k := by
  obtain ⟨m, rows, e, hl, rfl, hf⟩ := ai T80 h
  match rows, hl with
  | [r0, r1, r2, r3], _ =>
    have h0 : Ty Tryz.prog m 3 r0 := hf 0 _ r0 rfl rfl
    have h1 : Ty Tryz.prog m 3 r1 := hf 1 _ r1 rfl rfl
    have h2 : Ty Tryz.prog m 4 r2 := hf 2 _ r2 rfl rfl
    have h3 : Ty Tryz.prog m 75 r3 := hf 3 _ r3 rfl rfl
    obtain ⟨o, _, rfl⟩ := Z6 T3 h0
    obtain ⟨n, _, rfl⟩ := Z6 T3 h1
    obtain ⟨b, rfl⟩ := ye T4 h2
    obtain ⟨t, rfl⟩ := nT _ _ h3
    exact ⟨⟨o, n, b, t⟩, by simp [eF, p9]⟩
theorem tl {fuel : Nat} {xs : List PV} (h : Ty Tryz.prog fuel 25 xs) : ∃ (ns : List Nd) (fl : List Fl), jY Tryz.prog 25 xs = G7 ns fl := by
  obtain ⟨m, rows, e, hl, rfl, hf⟩ := ai T25 h
  match rows, hl with
  | [r0, r1], _ =>
    have h0 : Ty Tryz.prog m 22 r0 := hf 0 _ r0 rfl rfl
    have h1 : Ty Tryz.prog m 23 r1 := hf 1 _ r1 rfl rfl
    obtain ⟨m0, rows0, _, rfl, hr0⟩ := bZ T22 h0
    obtain ⟨m1, rows1, _, rfl, hr1⟩ := bZ T23 h1
    obtain ⟨ns, rfl⟩ := iY (fun row hrow => yf hrow) rows0 hr0
    obtain ⟨fl, rfl⟩ := iY (fun row hrow => yg hrow) rows1 hr1
    exact ⟨ns, fl, by rw [nS T25]; rfl⟩
end
section
mutual
def jZ : PV → PV → Bool
  | .int k n, .int k' n' => decide (k = k') && decide (n = n')
  | .bool a, .bool b => a == b
  | .str s, .str t => decide (s = t)
  | .nils, .nils => true
  | .nilp, .nilp => true
  | .nilf, .nilf => true
  | .sl r, .sl r' => mg r r'
  | _, _ => false
def ka : List PV → List PV → Bool
  | [], [] => true
  | x :: r, y :: r' => jZ x y && ka r r'
  | _, _ => false
def mg : List (List PV) → List (List PV) → Bool
  | [], [] => true
  | x :: r, y :: r' => ka x y && mg r r'
  | _, _ => false
end
mutual
theorem tm : ∀ (x y : PV), jZ x y = true → x = y
  | .int k n, y, h => by cases y <;> simp [jZ] at h; rw [h.1, h.2]
  | .bool a, y, h => by cases y <;> simp [jZ] at h; rw [h]
  | .str s, y, h => by cases y <;> simp [jZ] at h; rw [h]
  | .nils, y, h => by cases y <;> simp [jZ] at h; rfl
  | .nilp, y, h => by cases y <;> simp [jZ] at h; rfl
  | .nilf, y, h => by cases y <;> simp [jZ] at h; rfl
  | .sl r, y, h => by
    cases y with
    | sl r' => simp only [jZ] at h; rw [pW r r' h]
    | _ => simp [jZ] at h
theorem kb : ∀ (x y : List PV), ka x y = true → x = y
  | [], y, h => by cases y <;> simp [ka] at h; rfl
  | a :: r, y, h => by
    cases y with
    | nil => simp [ka] at h
    | cons b r' => simp only [ka, Bool.and_eq_true] at h; rw [tm a b h.1, kb r r' h.2]
theorem pW : ∀ (x y : List (List PV)), mg x y = true → x = y
  | [], y, h => by cases y <;> simp [mg] at h; rfl
  | a :: r, y, h => by
    cases y with
    | nil => simp [mg] at h
    | cons b r' => simp only [mg, Bool.and_eq_true] at h; rw [kb a b h.1, pW r r' h.2]
end
mutual
def nU : AV → AV → Bool
  | .p x, .p y => jZ x y
  | .agg l, .agg l' => ig l l'
  | .tup l, .tup l' => ig l l'
  | .fn f l, .fn f' l' => decide (f = f') && ig l l'
  | .ref b g o s n, .ref b' g' o' s' n' => decide (b = b') && (decide (g = g') && (decide (o = o') && (decide (s = s') && decide (n = n'))))
  | .ptr b g o, .ptr b' g' o' => decide (b = b') && (decide (g = g') && decide (o = o'))
  | .pin c, .pin c' => ka c c'
  | _, _ => false
def ig : List AV → List AV → Bool
  | [], [] => true
  | x :: r, y :: r' => nU x y && ig r r'
  | _, _ => false
end
mutual
theorem yh : ∀ (x y : AV), nU x y = true → x = y
  | .p x, y, h => by cases y <;> simp [nU] at h; rw [tm _ _ h]
  | .agg l, y, h => by cases y <;> simp [nU] at h; rw [eV _ _ h]
  | .tup l, y, h => by cases y <;> simp [nU] at h; rw [eV _ _ h]
  | .fn f l, y, h => by cases y <;> simp [nU] at h; rw [h.1, eV _ _ h.2]
  | .ref b g o s n, y, h => by cases y <;> simp [nU] at h; obtain ⟨rfl, rfl, rfl, rfl, rfl⟩ := h; rfl
  | .ptr b g o, y, h => by cases y <;> simp [nU] at h; obtain ⟨rfl, rfl, rfl⟩ := h; rfl
  | .pin c, y, h => by cases y <;> simp [nU] at h; rw [kb _ _ h]
theorem eV : ∀ (x y : List AV), ig x y = true → x = y
  | [], y, h => by cases y <;> simp [ig] at h; rfl
  | a :: r, y, h => by
    cases y with
    | nil => simp [ig] at h
    | cons b r' => simp only [ig, Bool.and_eq_true] at h; rw [yh a b h.1, eV r r' h.2]
end
mutual
def ii (m : Nat) : AV → Bool
  | .p _ => true
  | .agg l => gh m l
  | .tup l => gh m l
  | .fn _ l => gh m l
  | .ref b _ _ _ _ => decide (b < m)
  | .ptr b _ _ => decide (b < m)
  | .pin _ => true
  | .mref b _ => decide (b < m)
  | .mp _ => true
def gh (m : Nat) : List AV → Bool
  | [] => true
  | x :: r => ii m x && gh m r
end
mutual
theorem wz {m : Nat} : ∀ x : AV, ii m x = true → AVlt m x
  | .p x, _ => .p x
  | .agg l, h => .agg l (cD l (by simpa [ii] using h))
  | .tup l, h => .tup l (cD l (by simpa [ii] using h))
  | .fn f l, h => .fn f l (cD l (by simpa [ii] using h))
  | .ref b g o s n, h => .ref b g o s n (by simpa [ii] using h)
  | .ptr b g o, h => .ptr b g o (by simpa [ii] using h)
  | .pin c, _ => .pin c
  | .mref b g, h => .mref b g (by simpa [ii] using h)
  | .mp es, _ => .mp es
theorem cD {m : Nat} : ∀ l : List AV, gh m l = true → ∀ x ∈ l, AVlt m x
  | [], _ => fun x hx => by simp at hx
  | y :: r, h => fun x hx => by
    simp only [gh, Bool.and_eq_true] at h
    rcases List.mem_cons.mp hx with e | e
    · rw [e]; exact wz y h.1
    · exact cD r h.2 x e
end
section
variable (P : Program) (G : Nat → Option (List PV)) (rl : List String)
abbrev zO := FuncId → List AV → Heap → Option (AV × Heap)
end
section
variable {P : Program} {G : Nat → Option (List PV)} {rl : List String} {h0 : Heap}
variable {call : zO}
end
end
section
theorem Right.event {ns : List Nd} {fl : List Fl} (h : Right ns fl) {i : Nat} (hi : i < ns.length) (hk : w4 ns i = 7) : (o5 fl i).length = 1 ∧ 2 ≤ (i7 fl i).length := by
  have := h.three hi
  unfold E1 at this
  simp only [hk] at this
  simp only [Int.reduceEq, reduceIte, Bool.or_eq_true, Bool.and_eq_true, beq_iff_eq, decide_eq_true_eq] at this
  omega
theorem Right.start {ns : List Nd} {fl : List Fl} (h : Right ns fl) {i : Nat} (hi : i < ns.length) (hk : w4 ns i = 1) : (o5 fl i).length = 0 ∧ (i7 fl i).length = 1 := by
  have := h.three hi
  unfold E1 at this
  simp only [hk] at this
  simp only [Int.reduceEq, reduceIte, Bool.or_eq_true, Bool.and_eq_true, beq_iff_eq, decide_eq_true_eq] at this
  omega
theorem Right.count {ns : List Nd} {fl : List Fl} (h : Right ns fl) {i : Nat} (hi : i < ns.length) :
    (w4 ns i = 1 → (rO fl i (w4 ns i)).length = 0) ∧ (w4 ns i = 5 ∨ w4 ns i = 7 → (rO fl i (w4 ns i)).length = (o5 fl i).length * (i7 fl i).length) ∧
    (w4 ns i ≠ 1 → w4 ns i ≠ 5 → w4 ns i ≠ 7 → (rO fl i (w4 ns i)).length = 1) := by
  refine ⟨fun hk => ?_, fun hk => ?_, fun k1 k5 k7 => ?_⟩
  · unfold rO; rw [if_pos hk]; rfl
  · rcases hk with hk | hk
    · unfold rO
      rw [if_neg (by omega), if_neg (by omega), if_neg (by omega), if_pos hk]
      rcases h.xor hi hk with ⟨a, b⟩ | ⟨a, b⟩
      · rw [if_pos (by omega), List.length_map, a, Nat.one_mul]
      · rw [if_neg (by omega), List.length_map, b, Nat.mul_one]
    · unfold rO
      rw [if_neg (by omega), if_pos hk, List.length_map, (h.event hi hk).1, Nat.one_mul]
  · unfold rO
    rw [if_neg k1, if_neg k7]
    split <;> rfl
def pX := And.intro T2 (And.intro T3 (And.intro T4 (And.intro T22 (And.intro T23 (And.intro T25 (And.intro T28 (And.intro T41 (And.intro T57 (And.intro T58 (And.intro T60 (And.intro T62 (And.intro T65 (And.intro T77 (And.intro T80 (And.intro rm rn)))))))))))))))
attribute [local irreducible] awp n9 k3 l8 o6 n5
variable {G : Nat → Option (List PV)}
structure StOk (S : List Int) : Prop where
  held : eU S
  queue : ∀ i x, 44 ≤ i → i < 48 → S[i]? = some x → 0 ≤ x ∧ x ≤ 3
def qAt (S : List Int) (a : Int) : Int := S.getD (44 + a.toNat) 0
def ndA (ns : List Nd) (c : Int) : Int := match ns[c.toNat]? with | some k => k.a | none => 0
def r5 (ns : List Nd) (fl : List Fl) (S : List Int) (node arg c : Int) (fr : List Int) : List Sp :=
  if ndA ns c < 4 then (if qAt S (ndA ns c) = 0 then [] else m8 S ⟨node, arg, 3, c, 0, S.set (44 + (ndA ns c).toNat) (qAt S (ndA ns c) - 1)⟩ fr (i7 fl c))
  else m8 S ⟨node, arg, 4, c, 0, S⟩ fr (i7 fl c)
theorem j6 {ns : List Nd} {fl : List Fl} {S : List Int} {lb n e bt : Nat} {z : Option (List PV)} : P3 ⟨.slice e, 1, bt, z⟩ (gmC ns fl S lb n) = some (.p (.sl (ns.map eN))) := rfl
theorem StOk.q {S : List Int} (h : StOk S) {k : Nat} (hk : k < 4) : S[44 + k]? = some (qAt S k) ∧ 0 ≤ qAt S k ∧ qAt S k ≤ 3 := by
  have hl := h.held.1
  have e : S[44 + k]? = some (qAt S k) := by
    unfold qAt
    rw [Int.toNat_natCast, List.getD_eq_getElem?_getD, List.getElem?_eq_getElem (by omega)]; rfl
  exact ⟨e, h.queue _ _ (by omega) (by omega) e⟩
theorem D7 {fl : List Fl} (hf : fl.length ≤ 40) (i : Int) : InF (i7 fl i) := by
  refine ⟨Nat.le_trans (pT fl i) (by omega), fun f hm => ?_⟩
  obtain ⟨j, _, h1, rfl, _⟩ := F1 hm
  omega
theorem L8 {fl : List Fl} (hf : fl.length ≤ 40) (i : Int) : InF (o5 fl i) := by
  refine ⟨Nat.le_trans (te fl i) (by omega), fun f hm => ?_⟩
  obtain ⟨j, _, h1, rfl, _⟩ := F1 hm
  omega
theorem rP {S : List Int} {a : Nat} {q : Int} (hq : S[44 + a]? = some q) (x1 x2 x3 x4 x5 : AV) : (x1 :: x2 :: x3 :: x4 :: x5 :: S.map AV.i).drop (49 + a) = .p (.int .i64 q) :: (S.drop (44 + a + 1)).map AV.i := by
  rw [show 49 + a = (44 + a) + 1 + 1 + 1 + 1 + 1 by omega, List.drop_succ_cons, List.drop_succ_cons, List.drop_succ_cons, List.drop_succ_cons, List.drop_succ_cons, N2 hq]
theorem uu (S : List Int) (a : Nat) (v : Int) (x1 x2 x3 x4 x5 : AV) : (x1 :: x2 :: x3 :: x4 :: x5 :: S.map AV.i).set (49 + a) (.p (.int .i64 v)) = x1 :: x2 :: x3 :: x4 :: x5 :: (S.set (44 + a) v).map AV.i := by
  rw [show 49 + a = (44 + a) + 1 + 1 + 1 + 1 + 1 by omega, List.set_cons_succ, List.set_cons_succ, List.set_cons_succ, List.set_cons_succ, List.set_cons_succ, I3]
theorem zg {ns : List Nd} {fl : List Fl} {S : List Int} {lb n a : Nat} {q : Int} (hq : S[44 + a]? = some q) : (gmC ns fl S lb n).drop (46 + a) = .p (.int .i64 q) :: ((S.drop (44 + a + 1)).map AV.i ++ [.ref lb n 0 54 n]) := by
  rw [show 46 + a = 2 + (44 + a) by omega, W2 hq]
theorem ij {h : Heap} {b lb : Nat} {ns : List Nd} {fl : List Fl} {S : List Int} {l : List Sp} (ok : GmOk h b lb S l) (st : StOk S) (hf : fl.length ≤ 40) (node arg : Int) (Z : List Int) (hZ : Z.length = 49) (lk ln la : Int) (c : Nat) {k : Nd} (hc : ns[c]? = some k) (ha : 0 ≤ k.a ∧ k.a ≤ 4) (fr : List Int) (hfr : InF fr) :
    d5 Tryz.prog G 71 [.ptr b 0 0, .agg (.p (.int .i64 node) :: .p (.int .i64 arg) :: .p (.int .i64 lk) :: .p (.int .i64 ln) :: .p (.int .i64 la) :: Z.map AV.i), .i c, aI fr] (l5 h b lb ns fl S l) (fun r h' => r = .undef ∧ h' = l5 h b lb ns fl S (l ++ r5 ns fl S node arg c fr)) := by
  have hb := ok.hb
  have hl := ok.hl
  have hne := ok.ne
  have hS := ok.held.1
  have gl := w8 (ns := ns) (fl := fl) (lb := lb) (n := l.length) hS
  have t49 := x6 (ns := ns) (fl := fl) (lb := lb) (n := l.length) hS
  have c0 : (0 : Int) ≤ (c : Int) := by omega
  have hc' := I2 hc
  have htl := D3 hS
  have en : ndA ns c = k.a := by unfold ndA; rw [Int.toNat_natCast, hc]
  have tk54 : ∀ a b c d e : AV, (a :: b :: c :: d :: e :: S.map AV.i).take 54 = a :: b :: c :: d :: e :: S.map AV.i := fun a b c d e => List.take_of_length_le (by simp [hS])
  by_cases h4 : k.a = 4
  · have eg : r5 ns fl S node arg c fr = m8 S ⟨node, arg, 4, c, 0, S⟩ fr (i7 fl c) := by unfold r5; rw [en, if_neg (by omega)]
    rw [eg]
    refine i3 (rl := []) e9 Tryz.func71 rfl (rs := []) rfl Tryz.ntmps71 (by simp) ?_
    repeat' (first | ((first | apply b8 | apply s4); (try simp only [NB])) | ((repeat ((fail_if_success (refine hK _ ?_)); clear hK K)); refine hK _ ?_; clear hK K) | ((first | refine b9 fun K1 q6 => ?_ | refine v8 rfl rfl rfl fun K1 q6 => ?_ | refine b7 fun A B hA hB => ?_); simp only [S1, simprocAttr, pX, t49, c0, hc', htl, hZ, hS, j6, m3, tk54, h4, eN, PGB, r4 hb hne, l9 hl, m6 hb hne, j8 hl, gmB, spB, gl]; first | refine q6 _ ?_; clear q6 K1 | (refine hB ?_; clear hA hB A B) | (apply d4 E50; exact (dJ ok ⟨node, arg, 4, c, 0, S⟩ hS fr (i7 fl c) hfr (D7 hf c) _); refine q6 _ ?_; clear q6 K1)) | ((first | refine u6 (v := ?_) rfl rfl rfl rfl (by decide) (fun R1 K1 q6 => ?_) ?_ | refine y5 (v := ?_) rfl rfl rfl (by decide) (fun K1 q6 => ?_) ?_); rotate_left; (focus (simp only [S1, simprocAttr, pX, t49, c0, hc', htl, hZ, hS, j6, m3, tk54, h4, eN, PGB, r4 hb hne, l9 hl, m6 hb hne, j8 hl, gmB, spB, gl]; first | (exact q6 _ _ _) | (apply j5 E47; exact (t7 _ fl (by omega) _ _); exact q6 _ _ _)))) | (refine s5 rfl rfl rfl ?_) | refine b6 fun K hK => ?_ | (refine o9 (es := []) [0, 1, 2, 3, 4, 5, 6, 7, 8, 9] 0 (fs := []) rfl (by kernel_rfl) (by kernel_rfl) ?_) | ((first | apply b5 | apply c9); try simp only [NB, simprocAttr]))
    all_goals simp only [S1, simprocAttr, ENB, A0, y7, i5, m5, k8] <;> first | exact d6 hl | exact ⟨d6 hl, rfl⟩ | exact ⟨d6 hl, rfl, rfl⟩
  · obtain ⟨a, hka⟩ := Int.eq_ofNat_of_zero_le ha.1
    have a4 : a < 4 := by omega
    have a0 : (0 : Int) ≤ (a : Int) := by omega
    have a4' : (a : Int) < 4 := by omega
    have a4d : decide ((a : Int) < 4) = true := decide_eq_true a4'
    obtain ⟨hq, q0, q3⟩ := st.q a4
    have gq := zg (ns := ns) (fl := fl) (lb := lb) (n := l.length) hq
    have cd := rP hq
    have cs := uu S a
    have e2 : qAt S k.a = qAt S a := by rw [hka]
    generalize hqv : qAt S (a : Int) = q at *
    by_cases hz : q = 0
    · have eg : r5 ns fl S node arg c fr = [] := by unfold r5; rw [en, if_pos (by omega), e2, if_pos hz]
      have hz' : (q == 0) = true := by simp [hz]
      rw [eg, List.append_nil]
      refine i3 (rl := []) e9 Tryz.func71 rfl (rs := []) rfl Tryz.ntmps71 (by simp) ?_
      repeat' (first | ((repeat ((fail_if_success (refine hK _ ?_)); clear hK K)); refine hK _ ?_; clear hK K) | ((first | refine b9 fun K1 q6 => ?_ | refine b7 fun A B hA hB => ?_); simp only [S1, simprocAttr, pX, t49, c0, hc', htl, hZ, hS, j6, m3, tk54, hka, a0, a4', a4d, gq, hz', eN, PGB, r4 hb hne, l9 hl, m6 hb hne, j8 hl, gmB, spB, gl]; first | refine q6 _ ?_; clear q6 K1 | (refine hA ?_; clear hA hB A B)) | refine b6 fun K hK => ?_ | ((first | apply b8 | apply b5 | apply d3); try simp only [NB, simprocAttr]))
      all_goals simp only [S1, simprocAttr, ENB, A0, y7, i5, m5, k8] <;> first | exact d6 hl | exact ⟨d6 hl, rfl⟩ | exact ⟨d6 hl, rfl, rfl⟩
    · have eg : r5 ns fl S node arg c fr = m8 S ⟨node, arg, 3, c, 0, S.set (44 + a) (q - 1)⟩ fr (i7 fl c) := by
        unfold r5; rw [en, if_pos (by omega), e2, if_neg hz, hka, Int.toNat_natCast]
      have hz' : (q == 0) = false := by simp [hz]
      have hw : IntKind.i64.wrap (q - 1) = q - 1 := IntWalk.i64_in _ (by omega)
      have hS2 : (S.set (44 + a) (q - 1)).length = 49 := by rw [List.length_set, hS]
      have tk2 : ∀ a1 b1 c1 d1 e1 : AV, (a1 :: b1 :: c1 :: d1 :: e1 :: (S.set (44 + a) (q - 1)).map AV.i).take 54 = a1 :: b1 :: c1 :: d1 :: e1 :: (S.set (44 + a) (q - 1)).map AV.i := fun _ _ _ _ _ => List.take_of_length_le (by simp [hS])
      have h54 : 49 + a + 1 ≤ 54 := by omega
      rw [eg]
      refine i3 (rl := []) e9 Tryz.func71 rfl (rs := []) rfl Tryz.ntmps71 (by simp) ?_
      repeat' (first | ((first | apply b8 | apply s4); (try simp only [NB])) | ((repeat ((fail_if_success (refine hK _ ?_)); clear hK K)); refine hK _ ?_; clear hK K) | ((first | refine b9 fun K1 q6 => ?_ | refine v8 rfl rfl rfl fun K1 q6 => ?_ | refine b7 fun A B hA hB => ?_); simp only [S1, simprocAttr, pX, t49, c0, hc', htl, hZ, hS, hS2, j6, m3, tk54, tk2, hka, a0, a4', a4d, gq, cd, cs, hz', hw, h54, eN, PGB, r4 hb hne, l9 hl, m6 hb hne, j8 hl, gmB, spB, gl]; first | refine q6 _ ?_; clear q6 K1 | ((first | refine hA ?_ | refine hB ?_); clear hA hB A B) | (apply d4 E50; exact (dJ ok ⟨node, arg, 3, c, 0, S.set (44 + a) (q - 1)⟩ hS2 fr (i7 fl c) hfr (D7 hf c) _); refine q6 _ ?_; clear q6 K1)) | ((first | refine u6 (v := ?_) rfl rfl rfl rfl (by decide) (fun R1 K1 q6 => ?_) ?_ | refine y5 (v := ?_) rfl rfl rfl (by decide) (fun K1 q6 => ?_) ?_); rotate_left; (focus (simp only [S1, simprocAttr, pX, t49, c0, hc', htl, hZ, hS, hS2, j6, m3, tk54, tk2, hka, a0, a4', a4d, gq, cd, cs, hz', hw, h54, eN, PGB, r4 hb hne, l9 hl, m6 hb hne, j8 hl, gmB, spB, gl]; first | (exact q6 _ _ _) | (apply j5 E47; exact (t7 _ fl (by omega) _ _); exact q6 _ _ _)))) | (refine s5 rfl rfl rfl ?_) | refine b6 fun K hK => ?_ | (refine o9 (es := []) [0, 1, 2, 3, 4, 5, 6, 7, 8, 9] 0 (fs := []) rfl (by kernel_rfl) (by kernel_rfl) ?_) | ((first | apply b5 | apply c9); try simp only [NB, simprocAttr]))
      all_goals simp only [S1, simprocAttr, ENB, A0, y7, i5, m5, k8] <;> first | exact d6 hl | exact ⟨d6 hl, rfl⟩ | exact ⟨d6 hl, rfl, rfl⟩
end
section
def N4 := And.intro T2 (And.intro T3 (And.intro T4 (And.intro T31 (And.intro T58 (And.intro T75 (And.intro ro nr))))))
attribute [local irreducible] awp n9 k3
variable {G : Nat → Option (List PV)}
def Num (n : Int) : Prop := -1099511627776 ≤ n ∧ n ≤ 1099511627776
theorem rQ {n : Int} (hn : -9223372036854775807 ≤ n ∧ n ≤ 9223372036854775807) (h : Heap) : d5 Tryz.prog G 159 [.i n] h (fun r h' => r = .i (n.natAbs : Int) ∧ h' = h) := by
  have hw := IntWalk.i64_in (0 - n) (by omega)
  refine d5.mono (ue n h) ?_
  rintro r h' ⟨rfl, rfl⟩
  refine ⟨?_, rfl⟩
  rw [hw]
  refine congrArg AV.i ?_
  split <;> omega
theorem ca {n : Int} (hn : -9223372036854775807 ≤ n ∧ n ≤ 9223372036854775807) (h : Heap) : d5 Tryz.prog G 151 [.i n] h (fun r h' => r = .i (n.natAbs : Int) ∧ h' = h) := by
  have hw := IntWalk.i64_in (0 - n) (by omega)
  refine d5.mono (rq n h) ?_
  rintro r h' ⟨rfl, rfl⟩
  refine ⟨?_, rfl⟩
  rw [hw]
  refine congrArg AV.i ?_
  split <;> omega
def S2 (a b : Int) : Int × Int := if b ≠ 0 ∧ 1099511627776 / b.natAbs < a.natAbs then (0, 40) else (a * b, 0)
theorem kc {a b : Int} (hb : b ≠ 0) (h : ¬ (1099511627776 / b.natAbs < a.natAbs)) : Num (a * b) := by
  have h1 : a.natAbs ≤ 1099511627776 / b.natAbs := Nat.le_of_not_lt h
  have h2 : a.natAbs * b.natAbs ≤ 1099511627776 := by
    have := Nat.mul_le_mul_right b.natAbs h1
    exact Nat.le_trans this (Nat.div_mul_le_self _ _)
  have h3 : (a * b).natAbs ≤ 1099511627776 := by rw [Int.natAbs_mul]; exact h2
  unfold Num; omega
theorem tp {b : Int} (hb : b ≠ 0) : IntKind.i64.wrap ((1099511627776 : Int).tdiv (b.natAbs : Int)) = ((1099511627776 / b.natAbs : Nat) : Int) := by
  have e : (1099511627776 : Int).tdiv (b.natAbs : Int) = ((1099511627776 / b.natAbs : Nat) : Int) := by
    rw [show (1099511627776 : Int) = ((1099511627776 : Nat) : Int) from rfl, ← Int.ofNat_tdiv]
  have h1 : 1099511627776 / b.natAbs ≤ 1099511627776 := Nat.div_le_self _ _
  rw [e]
  generalize 1099511627776 / b.natAbs = q at *
  rw [IntWalk.i64_in _ (by omega)]
theorem lm {a b : Int} (ha : Num a) (hb : Num b) (h : Heap) : d5 Tryz.prog G 154 [.i a, .i b] h (fun r h' => r = .tup [.i (S2 a b).1, .i (S2 a b).2] ∧ h' = h) := by
  unfold Num at ha hb
  by_cases hz : a = 0 ∨ b = 0
  · have f1 : (a == 0 || b == 0) = true := by rcases hz with e | e <;> simp [e]
    have e : S2 a b = (0, 0) := by
      unfold S2
      rcases hz with e | e
      · subst e; simp
      · subst e; simp
    rw [e]
    refine c8 (rl := []) e9 Tryz.func154 rfl (rs := [.tmp 4, .tmp 5]) rfl Tryz.ntmps154 (by simp) ?_
    repeat' (first | ((repeat ((fail_if_success (refine hK _ ?_)); clear hK K)); refine hK _ ?_; clear hK K) | ((first | refine b9 fun K1 q6 => ?_ | refine b7 fun A B hA hB => ?_); simp only [S1, simprocAttr, N4, f1]; first | refine q6 _ ?_; clear q6 K1 | (refine hA ?_; clear hA hB A B) | (refine l6 (v := ?_) (fun hg q8 => ?_) ?_; rotate_left; (focus (try ((try simp only [BN] at hg); simp only [S1, simprocAttr, N4, f1, hg] at q8 ⊢)); exact q8); refine q6 _ ?_; clear q6 K1)) | refine b6 fun K hK => ?_ | ((first | apply b8 | apply b5 | apply d3); try simp only [NB, simprocAttr]))
    simp only [S1, simprocAttr, ENB, N4]
  · have f0 : ¬ b = 0 := fun e => hz (.inr e)
    have f1 : (a == 0) = false := by simpa using fun e => hz (.inl e)
    have f2 : (b == 0) = false := by simpa using f0
    have f3 : ¬ ((b.natAbs : Int) = 0) := by omega
    have f4 := tp f0
    refine c8 (rl := []) e9 Tryz.func154 rfl (rs := [.tmp 4, .tmp 5]) rfl Tryz.ntmps154 (by simp) ?_
    repeat' (first | ((repeat ((fail_if_success (refine hK _ ?_)); clear hK K)); refine hK _ ?_; clear hK K) | ((first | refine b9 fun K1 q6 => ?_ | refine b7 fun A B hA hB => ?_); simp only [S1, simprocAttr, N4, f1, f2, f3, f4]; first | refine q6 _ ?_; clear q6 K1 | (refine hB ?_; clear hA hB A B) | (apply d4 BA; exact (rQ (by omega) _); refine q6 _ ?_; clear q6 K1) | ((((refine ⟨fun hg => hA ?_, fun hg => hB ?_⟩ <;> clear hA hB A B)) <;> (try simp only [BN2] at hg) <;> (try simp only [hg, cndB])) <;> (try (refine q6 _ ?_; clear q6 K1)) <;> (try simp only [BN3] at hg))) | refine b6 fun K hK => ?_ | ((first | apply b8 | apply b5 | apply c9 | apply d3); try simp only [NB, simprocAttr]))
    · simp only [S1, simprocAttr, ENB, N4]
      have hq : 1099511627776 / b.natAbs < a.natAbs := by generalize 1099511627776 / b.natAbs = q at *; omega
      simp [S2, f0, hq]
    · simp only [S1, simprocAttr, ENB, N4]
      have hq : ¬ 1099511627776 / b.natAbs < a.natAbs := by generalize 1099511627776 / b.natAbs = q at *; omega
      have hn := kc f0 hq
      unfold Num at hn
      rw [IntWalk.i64_in _ (by omega)]
      simp [S2, f0, hq]
def y1 (op a b : Int) : Int × Bool × Int :=
  if op = 10 then (0, a == b, 0) else if op = 11 then (0, decide (a < b), 0) else if op = 12 then (0, a == b || decide (a < b), 0)
  else if op = 8 then (if b = 0 then (0, false, 41) else (a.tdiv b, false, 0))
  else if op = 9 then (if b = 0 then (0, false, 41) else (a.tmod b, false, 0))
  else if op = 7 then ((S2 a b).1, false, (S2 a b).2)
  else if op = 6 then (if 1099511627776 < (a - b).natAbs then (0, false, 40) else (a - b, false, 0))
  else (if 1099511627776 < (a + b).natAbs then (0, false, 40) else (a + b, false, 0))
theorem eW {a b : Int} (ha : Num a) : Num (a.tdiv b) := by
  have : (a.tdiv b).natAbs ≤ a.natAbs := Int.natAbs_tdiv_le_natAbs a b
  unfold Num at *; omega
theorem eY {a b : Int} (ha : Num a) : Num (a.tmod b) := by
  have : (a.tmod b).natAbs ≤ a.natAbs := by rw [Int.natAbs_tmod]; exact Nat.mod_le _ _
  unfold Num at *; omega
theorem eZ {n : Int} : inM n = true ↔ ¬ 1099511627776 < n.natAbs := by unfold inM; simp; omega
theorem rR {a b : Int} (ha : Num a) (hb : Num b) (h : Heap) : d5 Tryz.prog G 148 [.i 5, .i a, .i b] h (fun r h' => r = .tup [.i (y1 5 a b).1, .i (y1 5 a b).2.2] ∧ h' = h) := by
  unfold Num at *
  have w1 := IntWalk.i64_in (a + b) (by omega)
  refine c8 (rl := []) e9 Tryz.func148 rfl (rs := [.tmp 6, .tmp 7]) rfl Tryz.ntmps148 (by simp) ?_
  repeat' (first | ((repeat ((fail_if_success (refine hK _ ?_)); clear hK K)); refine hK _ ?_; clear hK K) | ((first | refine b9 fun K1 q6 => ?_ | refine b7 fun A B hA hB => ?_); simp only [S1, simprocAttr, N4, w1]; first | refine q6 _ ?_; clear q6 K1 | (refine hA ?_; clear hA hB A B) | (apply d4 E99; exact (dE _ _); refine q6 _ ?_; clear q6 K1) | ((((refine ⟨fun hg => hA ?_, fun hg => hB ?_⟩ <;> clear hA hB A B)) <;> (try simp only [BN2] at hg) <;> (try simp only [hg, cndB])) <;> (try (refine q6 _ ?_; clear q6 K1)) <;> (try simp only [BN3] at hg))) | refine b6 fun K hK => ?_ | ((first | apply b8 | apply b5 | apply c7 | apply c9 | apply d3); try simp only [NB, simprocAttr]))
  all_goals simp only [S1, simprocAttr, ENB, N4]
  all_goals (try simp only [Bool.not_eq_true', Bool.not_eq_false'] at hg)
  all_goals (first
    | (have := eZ.mp hg; simp [y1, this])
    | (have := Classical.byContradiction (fun e => Bool.false_ne_true (hg.symm.trans (eZ.mpr e))); simp [y1, this]))
theorem rS {a b : Int} (ha : Num a) (hb : Num b) (h : Heap) : d5 Tryz.prog G 148 [.i 6, .i a, .i b] h (fun r h' => r = .tup [.i (y1 6 a b).1, .i (y1 6 a b).2.2] ∧ h' = h) := by
  unfold Num at *
  have w1 := IntWalk.i64_in (a - b) (by omega)
  refine c8 (rl := []) e9 Tryz.func148 rfl (rs := [.tmp 6, .tmp 7]) rfl Tryz.ntmps148 (by simp) ?_
  repeat' (first | ((repeat ((fail_if_success (refine hK _ ?_)); clear hK K)); refine hK _ ?_; clear hK K) | ((first | refine b9 fun K1 q6 => ?_ | refine b7 fun A B hA hB => ?_); simp only [S1, simprocAttr, N4, w1]; first | refine q6 _ ?_; clear q6 K1 | ((first | refine hA ?_ | refine hB ?_); clear hA hB A B) | (apply d4 E99; exact (dE _ _); refine q6 _ ?_; clear q6 K1) | ((((refine ⟨fun hg => hA ?_, fun hg => hB ?_⟩ <;> clear hA hB A B)) <;> (try simp only [BN2] at hg) <;> (try simp only [hg, cndB])) <;> (try (refine q6 _ ?_; clear q6 K1)) <;> (try simp only [BN3] at hg))) | refine b6 fun K hK => ?_ | ((first | apply b8 | apply b5 | apply c7 | apply c9 | apply d3); try simp only [NB, simprocAttr]))
  all_goals simp only [S1, simprocAttr, ENB, N4]
  all_goals (try simp only [Bool.not_eq_true', Bool.not_eq_false'] at hg)
  all_goals (first
    | (have := eZ.mp hg; simp [y1, this])
    | (have := Classical.byContradiction (fun e => Bool.false_ne_true (hg.symm.trans (eZ.mpr e))); simp [y1, this]))
theorem rT {a b : Int} (ha : Num a) (hb : Num b) (h : Heap) : d5 Tryz.prog G 148 [.i 7, .i a, .i b] h (fun r h' => r = .tup [.i (y1 7 a b).1, .i (y1 7 a b).2.2] ∧ h' = h) := by
  unfold Num at *
  skip
  refine c8 (rl := []) e9 Tryz.func148 rfl (rs := [.tmp 6, .tmp 7]) rfl Tryz.ntmps148 (by simp) ?_
  repeat' (first | ((repeat ((fail_if_success (refine hK _ ?_)); clear hK K)); refine hK _ ?_; clear hK K) | ((first | refine b9 fun K1 q6 => ?_ | refine b7 fun A B hA hB => ?_); simp only [S1, simprocAttr, N4]; first | refine q6 _ ?_; clear q6 K1 | ((first | refine hA ?_ | refine hB ?_); clear hA hB A B) | (apply d4 By; exact (lm (by assumption) (by assumption) _); refine q6 _ ?_; clear q6 K1)) | refine b6 fun K hK => ?_ | ((first | apply b8 | apply b5 | apply c7 | apply d3); try simp only [NB, simprocAttr]))
  all_goals simp only [S1, simprocAttr, ENB, N4]
  all_goals simp [y1]
theorem rU {a b : Int} (ha : Num a) (hb : Num b) (hz : ¬ b = 0) (h : Heap) : d5 Tryz.prog G 148 [.i 8, .i a, .i b] h (fun r h' => r = .tup [.i (y1 8 a b).1, .i (y1 8 a b).2.2] ∧ h' = h) := by
  have hd := eW (b := b) ha
  unfold Num at *
  have f2 : (b == 0) = false := by simpa using hz
  have w1 := IntWalk.i64_in (a.tdiv b) (by omega)
  refine c8 (rl := []) e9 Tryz.func148 rfl (rs := [.tmp 6, .tmp 7]) rfl Tryz.ntmps148 (by simp) ?_
  repeat' (first | ((repeat ((fail_if_success (refine hK _ ?_)); clear hK K)); refine hK _ ?_; clear hK K) | ((first | refine b9 fun K1 q6 => ?_ | refine b7 fun A B hA hB => ?_); simp only [S1, simprocAttr, N4, w1, f2, hz]; first | refine q6 _ ?_; clear q6 K1 | ((first | refine hA ?_ | refine hB ?_); clear hA hB A B)) | refine b6 fun K hK => ?_ | ((first | apply b8 | apply b5 | apply c7 | apply c9 | apply d3); try simp only [NB, simprocAttr]))
  all_goals simp only [S1, simprocAttr, ENB, N4]
  all_goals simp [y1, hz]
theorem rV {a b : Int} (ha : Num a) (hb : Num b) (hz : ¬ b = 0) (h : Heap) : d5 Tryz.prog G 148 [.i 9, .i a, .i b] h (fun r h' => r = .tup [.i (y1 9 a b).1, .i (y1 9 a b).2.2] ∧ h' = h) := by
  have hd := eY (b := b) ha
  unfold Num at *
  have f2 : (b == 0) = false := by simpa using hz
  have w5 : (-9223372036854775808 ≤ a.tmod b) := by omega
  have w6 : (a.tmod b ≤ 9223372036854775807) := by omega
  refine c8 (rl := []) e9 Tryz.func148 rfl (rs := [.tmp 6, .tmp 7]) rfl Tryz.ntmps148 (by simp) ?_
  repeat' (first | ((repeat ((fail_if_success (refine hK _ ?_)); clear hK K)); refine hK _ ?_; clear hK K) | ((first | refine b9 fun K1 q6 => ?_ | refine b7 fun A B hA hB => ?_); simp only [S1, simprocAttr, N4, w5, w6, f2, hz]; first | refine q6 _ ?_; clear q6 K1 | (refine hB ?_; clear hA hB A B)) | refine b6 fun K hK => ?_ | ((first | apply b8 | apply b5 | apply c7 | apply c9 | apply d3); try simp only [NB, simprocAttr]))
  all_goals simp only [S1, simprocAttr, ENB, N4]
  all_goals simp [y1, hz]
theorem uv {a : Int} (h : Heap) : d5 Tryz.prog G 148 [.i 8, .i a, .i 0] h (fun r h' => r = .tup [.i (y1 8 a 0).1, .i (y1 8 a 0).2.2] ∧ h' = h) := by
  refine c8 (rl := []) e9 Tryz.func148 rfl (rs := [.tmp 6, .tmp 7]) rfl Tryz.ntmps148 (by simp) ?_
  repeat' (first | ((repeat ((fail_if_success (refine hK _ ?_)); clear hK K)); refine hK _ ?_; clear hK K) | ((first | refine b9 fun K1 q6 => ?_ | refine b7 fun A B hA hB => ?_); simp only [S1, simprocAttr, N4]; first | refine q6 _ ?_; clear q6 K1 | ((first | refine hA ?_ | refine hB ?_); clear hA hB A B)) | refine b6 fun K hK => ?_ | ((first | apply b8 | apply b5 | apply c7 | apply d3); try simp only [NB, simprocAttr]))
  all_goals simp only [S1, simprocAttr, ENB, N4]
  all_goals simp [y1]
theorem uw {a : Int} (h : Heap) : d5 Tryz.prog G 148 [.i 9, .i a, .i 0] h (fun r h' => r = .tup [.i (y1 9 a 0).1, .i (y1 9 a 0).2.2] ∧ h' = h) := by
  refine c8 (rl := []) e9 Tryz.func148 rfl (rs := [.tmp 6, .tmp 7]) rfl Tryz.ntmps148 (by simp) ?_
  repeat' (first | ((repeat ((fail_if_success (refine hK _ ?_)); clear hK K)); refine hK _ ?_; clear hK K) | ((first | refine b9 fun K1 q6 => ?_ | refine b7 fun A B hA hB => ?_); simp only [S1, simprocAttr, N4]; first | refine q6 _ ?_; clear q6 K1 | ((first | refine hA ?_ | refine hB ?_); clear hA hB A B)) | refine b6 fun K hK => ?_ | ((first | apply b8 | apply b5 | apply c7 | apply d3); try simp only [NB, simprocAttr]))
  all_goals simp only [S1, simprocAttr, ENB, N4]
  all_goals simp [y1]
theorem nV {op a b : Int} (h1 : 5 ≤ op) (h2 : op ≤ 9) (ha : Num a) (hb : Num b) (h : Heap) : d5 Tryz.prog G 148 [.i op, .i a, .i b] h (fun r h' => r = .tup [.i (y1 op a b).1, .i (y1 op a b).2.2] ∧ h' = h) := by
  rcases (by omega : op = 5 ∨ op = 6 ∨ op = 7 ∨ op = 8 ∨ op = 9) with rfl | rfl | rfl | rfl | rfl
  · exact rR ha hb h
  · exact rS ha hb h
  · exact rT ha hb h
  · by_cases hz : b = 0
    · subst hz; exact uv h
    · exact rU ha hb hz h
  · by_cases hz : b = 0
    · subst hz; exact uw h
    · exact rV ha hb hz h
end
section
def H5 := And.intro T2 (And.intro T3 (And.intro T4 (And.intro T31 (And.intro T58 (And.intro T75 (And.intro ro nr))))))
attribute [local irreducible] awp n9 k3
variable {G : Nat → Option (List PV)}
abbrev aV3 (x : Int × Bool × Int) : AV := .agg [.i x.1, .b x.2.1, .i x.2.2]
theorem yi {a b : Int} (h : Heap) : d5 Tryz.prog G 146 [.i 10, .i a, .i b] h (fun r h' => r = aV3 (y1 10 a b) ∧ h' = h) := by
  skip
  refine c8 (rl := []) e9 Tryz.func146 rfl (rs := [.cell 6 185]) rfl Tryz.ntmps146 (by simp) ?_
  repeat' (first | ((repeat ((fail_if_success (refine hK _ ?_)); clear hK K)); refine hK _ ?_; clear hK K) | ((first | refine b9 fun K1 q6 => ?_ | refine b7 fun A B hA hB => ?_); simp only [S1, simprocAttr, H5]; first | refine q6 _ ?_; clear q6 K1 | (refine hA ?_; clear hA hB A B) | (refine l6 (v := ?_) (fun hg q8 => ?_) ?_; rotate_left; (focus (try ((try simp only [BN] at hg); simp only [S1, simprocAttr, H5, hg] at q8 ⊢)); exact q8); refine q6 _ ?_; clear q6 K1)) | refine b6 fun K hK => ?_ | ((first | apply b8 | apply b5 | apply d3); try simp only [NB, simprocAttr]))
  all_goals simp only [S1, simprocAttr, ENB, H5]
  all_goals simp [y1]
theorem yj {a b : Int} (h : Heap) : d5 Tryz.prog G 146 [.i 11, .i a, .i b] h (fun r h' => r = aV3 (y1 11 a b) ∧ h' = h) := by
  skip
  refine c8 (rl := []) e9 Tryz.func146 rfl (rs := [.cell 6 185]) rfl Tryz.ntmps146 (by simp) ?_
  repeat' (first | ((repeat ((fail_if_success (refine hK _ ?_)); clear hK K)); refine hK _ ?_; clear hK K) | ((first | refine b9 fun K1 q6 => ?_ | refine b7 fun A B hA hB => ?_); simp only [S1, simprocAttr, H5]; first | refine q6 _ ?_; clear q6 K1 | (refine hA ?_; clear hA hB A B) | (refine l6 (v := ?_) (fun hg q8 => ?_) ?_; rotate_left; (focus (try ((try simp only [BN] at hg); simp only [S1, simprocAttr, H5, hg] at q8 ⊢)); exact q8); refine q6 _ ?_; clear q6 K1)) | refine b6 fun K hK => ?_ | ((first | apply b8 | apply b5 | apply d3); try simp only [NB, simprocAttr]))
  all_goals simp only [S1, simprocAttr, ENB, H5]
  all_goals simp [y1]
theorem yk {a b : Int} (h : Heap) : d5 Tryz.prog G 146 [.i 12, .i a, .i b] h (fun r h' => r = aV3 (y1 12 a b) ∧ h' = h) := by
  skip
  refine c8 (rl := []) e9 Tryz.func146 rfl (rs := [.cell 6 185]) rfl Tryz.ntmps146 (by simp) ?_
  repeat' (first | ((repeat ((fail_if_success (refine hK _ ?_)); clear hK K)); refine hK _ ?_; clear hK K) | ((first | refine b9 fun K1 q6 => ?_ | refine b7 fun A B hA hB => ?_); simp only [S1, simprocAttr, H5]; first | refine q6 _ ?_; clear q6 K1 | (refine hA ?_; clear hA hB A B) | (refine l6 (v := ?_) (fun hg q8 => ?_) ?_; rotate_left; (focus (try ((try simp only [BN] at hg); simp only [S1, simprocAttr, H5, hg] at q8 ⊢)); exact q8); refine q6 _ ?_; clear q6 K1)) | refine b6 fun K hK => ?_ | ((first | apply b8 | apply b5 | apply d3); try simp only [NB, simprocAttr]))
  all_goals simp only [S1, simprocAttr, ENB, H5]
  all_goals simp [y1]
theorem zP {a : Int} (h : Heap) : d5 Tryz.prog G 146 [.i 8, .i a, .i 0] h (fun r h' => r = aV3 (y1 8 a 0) ∧ h' = h) := by
  skip
  refine c8 (rl := []) e9 Tryz.func146 rfl (rs := [.cell 6 185]) rfl Tryz.ntmps146 (by simp) ?_
  repeat' (first | ((repeat ((fail_if_success (refine hK _ ?_)); clear hK K)); refine hK _ ?_; clear hK K) | ((first | refine b9 fun K1 q6 => ?_ | refine b7 fun A B hA hB => ?_); simp only [S1, simprocAttr, H5]; first | refine q6 _ ?_; clear q6 K1 | ((first | refine hA ?_ | refine hB ?_); clear hA hB A B)) | refine b6 fun K hK => ?_ | ((first | apply b8 | apply b5 | apply c9 | apply d3); try simp only [NB, simprocAttr]))
  all_goals simp only [S1, simprocAttr, ENB, H5]
  all_goals simp [y1]
theorem zQ {a : Int} (h : Heap) : d5 Tryz.prog G 146 [.i 9, .i a, .i 0] h (fun r h' => r = aV3 (y1 9 a 0) ∧ h' = h) := by
  skip
  refine c8 (rl := []) e9 Tryz.func146 rfl (rs := [.cell 6 185]) rfl Tryz.ntmps146 (by simp) ?_
  repeat' (first | ((repeat ((fail_if_success (refine hK _ ?_)); clear hK K)); refine hK _ ?_; clear hK K) | ((first | refine b9 fun K1 q6 => ?_ | refine b7 fun A B hA hB => ?_); simp only [S1, simprocAttr, H5]; first | refine q6 _ ?_; clear q6 K1 | ((first | refine hA ?_ | refine hB ?_); clear hA hB A B)) | refine b6 fun K hK => ?_ | ((first | apply b8 | apply b5 | apply c9 | apply d3); try simp only [NB, simprocAttr]))
  all_goals simp only [S1, simprocAttr, ENB, H5]
  all_goals simp [y1]
theorem yl {a b : Int} (ha : Num a) (hb : Num b) (hz : ¬ b = 0) (h : Heap) : d5 Tryz.prog G 146 [.i 8, .i a, .i b] h (fun r h' => r = aV3 (y1 8 a b) ∧ h' = h) := by
  have hd := eW (b := b) ha
  have hm := eY (b := b) ha
  unfold Num at *
  have f2 : (b == 0) = false := by simpa using hz
  have w1 := IntWalk.i64_in (a.tdiv b) (by omega)
  refine c8 (rl := []) e9 Tryz.func146 rfl (rs := [.cell 6 185]) rfl Tryz.ntmps146 (by simp) ?_
  repeat' (first | ((repeat ((fail_if_success (refine hK _ ?_)); clear hK K)); refine hK _ ?_; clear hK K) | ((first | refine b9 fun K1 q6 => ?_ | refine b7 fun A B hA hB => ?_); simp only [S1, simprocAttr, H5, w1, f2, hz]; first | refine q6 _ ?_; clear q6 K1 | ((first | refine hA ?_ | refine hB ?_); clear hA hB A B)) | refine b6 fun K hK => ?_ | ((first | apply b8 | apply b5 | apply c9 | apply d3); try simp only [NB, simprocAttr]))
  all_goals simp only [S1, simprocAttr, ENB, H5]
  all_goals simp [y1, hz]
theorem ym {a b : Int} (ha : Num a) (hb : Num b) (hz : ¬ b = 0) (h : Heap) : d5 Tryz.prog G 146 [.i 9, .i a, .i b] h (fun r h' => r = aV3 (y1 9 a b) ∧ h' = h) := by
  have hd := eW (b := b) ha
  have hm := eY (b := b) ha
  unfold Num at *
  have f2 : (b == 0) = false := by simpa using hz
  have w1 := IntWalk.i64_in (a.tdiv b) (by omega)
  have e : a.tdiv b * b = a - a.tmod b := by rw [Int.tmod_def, Int.mul_comm]; omega
  have w2 : IntKind.i64.wrap (a.tdiv b * b) = a - a.tmod b := by rw [e, IntWalk.i64_in _ (by omega)]
  have w3 : IntKind.i64.wrap (a - (a - a.tmod b)) = a.tmod b := by rw [IntWalk.i64_in _ (by omega)]; omega
  refine c8 (rl := []) e9 Tryz.func146 rfl (rs := [.cell 6 185]) rfl Tryz.ntmps146 (by simp) ?_
  repeat' (first | ((repeat ((fail_if_success (refine hK _ ?_)); clear hK K)); refine hK _ ?_; clear hK K) | ((first | refine b9 fun K1 q6 => ?_ | refine b7 fun A B hA hB => ?_); simp only [S1, simprocAttr, H5, w1, w2, w3, f2, hz]; first | refine q6 _ ?_; clear q6 K1 | ((first | refine hA ?_ | refine hB ?_); clear hA hB A B)) | refine b6 fun K hK => ?_ | ((first | apply b8 | apply b5 | apply c9 | apply d3); try simp only [NB, simprocAttr]))
  all_goals simp only [S1, simprocAttr, ENB, H5]
  all_goals simp [y1, hz]
theorem wA {a : Int} (h : Heap) : d5 Tryz.prog G 146 [.i 7, .i a, .i 0] h (fun r h' => r = aV3 (y1 7 a 0) ∧ h' = h) := by
  have w : IntKind.i64.wrap 0 = 0 := by rfl
  refine c8 (rl := []) e9 Tryz.func146 rfl (rs := [.cell 6 185]) rfl Tryz.ntmps146 (by simp) ?_
  repeat' (first | ((repeat ((fail_if_success (refine hK _ ?_)); clear hK K)); refine hK _ ?_; clear hK K) | ((first | refine b9 fun K1 q6 => ?_ | refine b7 fun A B hA hB => ?_); simp only [S1, simprocAttr, H5, w, Int.mul_zero]; first | refine q6 _ ?_; clear q6 K1 | ((first | refine hA ?_ | refine hB ?_); clear hA hB A B)) | refine b6 fun K hK => ?_ | ((first | apply b8 | apply b5 | apply c9 | apply d3); try simp only [NB, simprocAttr]))
  all_goals simp only [S1, simprocAttr, ENB, H5]
  all_goals simp [y1, S2]
theorem yn {a b : Int} (ha : Num a) (hb : Num b) (hz : ¬ b = 0) (h : Heap) : d5 Tryz.prog G 146 [.i 7, .i a, .i b] h (fun r h' => r = aV3 (y1 7 a b) ∧ h' = h) := by
  have hp := kc (a := a) hz
  unfold Num at *
  have f2 : (b == 0) = false := by simpa using hz
  have f2' : (b != 0) = true := by simpa using hz
  have f3 : ¬ ((b.natAbs : Int) = 0) := by omega
  have f4 := tp hz
  refine c8 (rl := []) e9 Tryz.func146 rfl (rs := [.cell 6 185]) rfl Tryz.ntmps146 (by simp) ?_
  repeat' (first | ((repeat ((fail_if_success (refine hK _ ?_)); clear hK K)); refine hK _ ?_; clear hK K) | ((first | refine b9 fun K1 q6 => ?_ | refine b7 fun A B hA hB => ?_); simp only [S1, simprocAttr, H5, f2, f2', f3, f4, hz]; first | refine q6 _ ?_; clear q6 K1 | ((first | refine hA ?_ | refine hB ?_); clear hA hB A B) | (apply d4 zA; exact (ca (by omega) _); refine q6 _ ?_; clear q6 K1) | ((((refine ⟨fun hg => hA ?_, fun hg => hB ?_⟩ <;> clear hA hB A B)) <;> (try simp only [BN2] at hg) <;> (try simp only [hg, cndB])) <;> (try (refine q6 _ ?_; clear q6 K1)) <;> (try simp only [BN3] at hg))) | refine b6 fun K hK => ?_ | ((first | apply b8 | apply b5 | apply c9 | apply d3); try simp only [NB, simprocAttr]))
  all_goals simp only [S1, simprocAttr, ENB, H5]
  · have hq : 1099511627776 / b.natAbs < a.natAbs := by generalize 1099511627776 / b.natAbs = q at *; omega
    simp [y1, S2, hz, hq]
  · have hq : ¬ 1099511627776 / b.natAbs < a.natAbs := by generalize 1099511627776 / b.natAbs = q at *; omega
    have := hp hq
    rw [IntWalk.i64_in _ (by omega)]
    simp [y1, S2, hz, hq]
theorem yo {a b : Int} (ha : Num a) (hb : Num b) (h : Heap) : d5 Tryz.prog G 146 [.i 5, .i a, .i b] h (fun r h' => r = aV3 (y1 5 a b) ∧ h' = h) := by
  unfold Num at *
  have w1 := IntWalk.i64_in (a + b) (by omega)
  refine c8 (rl := []) e9 Tryz.func146 rfl (rs := [.cell 6 185]) rfl Tryz.ntmps146 (by simp) ?_
  repeat' (first | ((repeat ((fail_if_success (refine hK _ ?_)); clear hK K)); refine hK _ ?_; clear hK K) | ((first | refine b9 fun K1 q6 => ?_ | refine b7 fun A B hA hB => ?_); simp only [S1, simprocAttr, H5, w1]; first | refine q6 _ ?_; clear q6 K1 | (refine hB ?_; clear hA hB A B) | (apply d4 zA; exact (ca (by omega) _); refine q6 _ ?_; clear q6 K1) | ((((refine ⟨fun hg => hA ?_, fun hg => hB ?_⟩ <;> clear hA hB A B)) <;> (try simp only [BN2] at hg) <;> (try simp only [hg, cndB])) <;> (try (refine q6 _ ?_; clear q6 K1)) <;> (try simp only [BN3] at hg))) | refine b6 fun K hK => ?_ | ((first | apply b8 | apply b5 | apply c9 | apply d3); try simp only [NB, simprocAttr]))
  all_goals simp only [S1, simprocAttr, ENB, H5]
  · have hq : 1099511627776 < (a + b).natAbs := by omega
    simp [y1, hq]
  · have hq : ¬ 1099511627776 < (a + b).natAbs := by omega
    simp [y1, hq]
theorem yp {a b : Int} (ha : Num a) (hb : Num b) (h : Heap) : d5 Tryz.prog G 146 [.i 6, .i a, .i b] h (fun r h' => r = aV3 (y1 6 a b) ∧ h' = h) := by
  unfold Num at *
  have w1 := IntWalk.i64_in (a - b) (by omega)
  have w2 := IntWalk.i64_in (a + b) (by omega)
  refine c8 (rl := []) e9 Tryz.func146 rfl (rs := [.cell 6 185]) rfl Tryz.ntmps146 (by simp) ?_
  repeat' (first | ((repeat ((fail_if_success (refine hK _ ?_)); clear hK K)); refine hK _ ?_; clear hK K) | ((first | refine b9 fun K1 q6 => ?_ | refine b7 fun A B hA hB => ?_); simp only [S1, simprocAttr, H5, w1, w2]; first | refine q6 _ ?_; clear q6 K1 | ((first | refine hA ?_ | refine hB ?_); clear hA hB A B) | (apply d4 zA; exact (ca (by omega) _); refine q6 _ ?_; clear q6 K1) | ((((refine ⟨fun hg => hA ?_, fun hg => hB ?_⟩ <;> clear hA hB A B)) <;> (try simp only [BN2] at hg) <;> (try simp only [hg, cndB])) <;> (try (refine q6 _ ?_; clear q6 K1)) <;> (try simp only [BN3] at hg))) | refine b6 fun K hK => ?_ | ((first | apply b8 | apply b5 | apply c9 | apply d3); try simp only [NB, simprocAttr]))
  all_goals simp only [S1, simprocAttr, ENB, H5]
  · have hq : 1099511627776 < (a - b).natAbs := by omega
    simp [y1, hq]
  · have hq : ¬ 1099511627776 < (a - b).natAbs := by omega
    simp [y1, hq]
theorem ux {op a b : Int} (h1 : 5 ≤ op) (h2 : op ≤ 12) (ha : Num a) (hb : Num b) (h : Heap) : d5 Tryz.prog G 146 [.i op, .i a, .i b] h (fun r h' => r = aV3 (y1 op a b) ∧ h' = h) := by
  rcases (by omega : op = 5 ∨ op = 6 ∨ op = 7 ∨ op = 8 ∨ op = 9 ∨ op = 10 ∨ op = 11 ∨ op = 12) with rfl | rfl | rfl | rfl | rfl | rfl | rfl | rfl
  · exact yo ha hb h
  · exact yp ha hb h
  · by_cases hz : b = 0
    · subst hz; exact wA h
    · exact yn ha hb hz h
  · by_cases hz : b = 0
    · subst hz; exact zP h
    · exact yl ha hb hz h
  · by_cases hz : b = 0
    · subst hz; exact zQ h
    · exact ym ha hb hz h
  · exact yi h
  · exact yj h
  · exact yk h
end
section
attribute [local irreducible] awp n9 k3
variable {G : Nat → Option (List PV)}
inductive Good : Tm → Bool → Prop where
  | num (n : Int) (h1 : 0 ≤ n) (h2 : n ≤ 1099511627776) : Good (.mk 1 n []) false
  | var (n : Int) (h : n = 0 ∨ n = 1 ∨ n = 2 ∨ n = 3) : Good (.mk 2 n []) false
  | neg (a : Tm) (h : Good a false) : Good (.mk 3 0 [a]) false
  | not (a : Tm) (h : Good a true) : Good (.mk 4 0 [a]) true
  | bin (o : Int) (a b : Tm) (h1 : 5 ≤ o) (h2 : o ≤ 9) (ha : Good a false) (hb : Good b false) : Good (.mk o 0 [a, b]) false
  | cmp (o : Int) (a b : Tm) (h1 : 10 ≤ o) (h2 : o ≤ 12) (ha : Good a false) (hb : Good b false) : Good (.mk o 0 [a, b]) true
  | log (o : Int) (a b : Tm) (h : o = 13 ∨ o = 14) (ha : Good a true) (hb : Good b true) : Good (.mk o 0 [a, b]) true
theorem yq (t : Tm) : t.form = true → t.typed = true → Good t (w7 t.op) := by
  refine Tm.ind (p := fun t => t.form = true → t.typed = true → Good t (w7 t.op)) (fun t ih hf ht => ?_) t
  rw [Tm.form_eq, Bool.and_eq_true, List.all_eq_true] at hf
  rw [Tm.typed_eq, List.all_eq_true] at ht
  obtain ⟨h1, h2⟩ := hf
  cases t with
  | mk o n ks =>
    simp only [Tm.op, Tm.n, Tm.kids] at *
    simp only [A1, Bool.and_eq_true, decide_eq_true_eq] at h1
    obtain ⟨⟨⟨⟨⟨⟨g1, g2⟩, g3⟩, g4⟩, g5⟩, g6⟩, g7⟩ := h1
    have hk : ∀ k ∈ ks, w7 k.op = G6 o ∧ Good k (G6 o) := fun k hm => by
      have := ht k hm
      simp only [I8, Bool.and_eq_true, beq_iff_eq] at this
      exact ⟨this.1, this.1 ▸ ih k hm (h2 k hm) this.2⟩
    unfold bO at g3
    match ks, hk, g3 with
    | [], hk, g3 =>
      have : o = 1 ∨ o = 2 := by
        simp only [List.length_nil] at g3
        split at g3
        · omega
        · split at g3 <;> omega
      rcases this with rfl | rfl
      · exact Good.num n g4 (g5 rfl)
      · exact Good.var n (by have := g6 rfl; omega)
    | [a], hk, g3 =>
      have : o = 3 ∨ o = 4 := by
        simp only [List.length_cons, List.length_nil] at g3
        split at g3
        · omega
        · split at g3 <;> omega
      have ha := (hk a (by simp)).2
      have hn := g7 (by omega)
      subst hn
      rcases this with rfl | rfl
      · exact Good.neg a ha
      · exact Good.not a ha
    | [a, b], hk, g3 =>
      have h5 : 5 ≤ o := by
        simp only [List.length_cons, List.length_nil] at g3
        split at g3
        · omega
        · split at g3 <;> omega
      have ha := (hk a (by simp)).2
      have hb := (hk b (by simp)).2
      have hn := g7 (by omega)
      subst hn
      rcases (by omega : o ≤ 9 ∨ (10 ≤ o ∧ o ≤ 12) ∨ (o = 13 ∨ o = 14)) with e | e | e
      · have w : G6 o = false := by unfold G6; simp; omega
        have u : w7 o = false := by unfold w7; simp; omega
        rw [w] at ha hb; rw [u]
        exact Good.bin o a b h5 e ha hb
      · have w : G6 o = false := by unfold G6; simp; omega
        have u : w7 o = true := by unfold w7; simp; omega
        rw [w] at ha hb; rw [u]
        exact Good.cmp o a b e.1 e.2 ha hb
      · have w : G6 o = true := by unfold G6; simp; omega
        have u : w7 o = true := by unfold w7; simp; omega
        rw [w] at ha hb; rw [u]
        exact Good.log o a b e ha hb
    | a :: b :: c :: r, hk, g3 =>
      exfalso
      simp only [List.length_cons] at g3
      split at g3
      · omega
      · split at g3 <;> omega
def yr (v : Int → Int) (o n : Int) : List (Int × Bool × Int) → Int × Bool × Int
  | [] => if o = 1 then (n, false, 0) else (v n, false, 0)
  | [a] => if a.2.2 ≠ 0 then (0, false, a.2.2) else if o = 3 then (-a.1, false, 0) else (0, !a.2.1, 0)
  | a :: b :: _ => if a.2.2 ≠ 0 then (0, false, a.2.2) else if o = 13 then (if a.2.1 then b else a) else if o = 14 then (if a.2.1 then a else b)
    else if b.2.2 ≠ 0 then (0, false, b.2.2) else y1 o a.1 b.1
def ev (v : Int → Int) : Tm → Int × Bool × Int
  | .mk o n ks => yr v o n (ks.map (ev v))
theorem gi (v : Int → Int) (o n : Int) : ev v (.mk o n []) = if o = 1 then (n, false, 0) else (v n, false, 0) := by simp [ev, yr]
theorem gj (v : Int → Int) (o n : Int) (a : Tm) : ev v (.mk o n [a]) = if (ev v a).2.2 ≠ 0 then (0, false, (ev v a).2.2) else if o = 3 then (-(ev v a).1, false, 0) else (0, !(ev v a).2.1, 0) := by simp [ev, yr]
theorem aO (v : Int → Int) (o n : Int) (a b : Tm) : ev v (.mk o n [a, b]) = if (ev v a).2.2 ≠ 0 then (0, false, (ev v a).2.2) else if o = 13 then (if (ev v a).2.1 then ev v b else ev v a) else if o = 14 then (if (ev v a).2.1 then ev v a else ev v b)
    else if (ev v b).2.2 ≠ 0 then (0, false, (ev v b).2.2) else y1 o (ev v a).1 (ev v b).1 := by simp [ev, yr]
theorem uy {a b : Int} : Num (S2 a b).1 ∧ ((S2 a b).2 ≠ 0 → (S2 a b).1 = 0) ∧ ((S2 a b).2 = 0 ∨ (S2 a b).2 = 40) := by
  unfold S2
  split
  · exact ⟨⟨by decide, by decide⟩, fun _ => rfl, .inr rfl⟩
  · rename_i h
    refine ⟨?_, fun h => absurd rfl h, .inl rfl⟩
    by_cases hb : b = 0
    · subst hb; simp; exact ⟨by decide, by decide⟩
    · exact kc hb fun e => h ⟨hb, e⟩
theorem pY {o a b : Int} (ha : Num a) : Num (y1 o a b).1 ∧ ((y1 o a b).2.2 ≠ 0 → (y1 o a b).1 = 0 ∧ (y1 o a b).2.1 = false) ∧ ((y1 o a b).2.2 = 0 ∨ (y1 o a b).2.2 = 40 ∨ (y1 o a b).2.2 = 41) := by
  have z : Num 0 := ⟨by decide, by decide⟩
  have hp := uy (a := a) (b := b)
  unfold y1
  repeat' split
  all_goals first
    | exact ⟨z, fun h => ⟨rfl, rfl⟩, .inr (.inl rfl)⟩
    | exact ⟨z, fun h => ⟨rfl, rfl⟩, .inr (.inr rfl)⟩
    | exact ⟨z, fun h => absurd rfl h, .inl rfl⟩
    | exact ⟨eW ha, fun h => absurd rfl h, .inl rfl⟩
    | exact ⟨eY ha, fun h => absurd rfl h, .inl rfl⟩
    | exact ⟨hp.1, fun h => ⟨hp.2.1 h, rfl⟩, by rcases hp.2.2 with e | e <;> simp [e]⟩
    | exact ⟨(by unfold Num; dsimp only; omega), fun h => absurd rfl h, .inl rfl⟩
theorem G9 {v : Int → Int} (hv : ∀ i, Num (v i)) {t : Tm} {k : Bool} (h : Good t k) : (k = false → Num (ev v t).1) ∧ ((ev v t).2.2 ≠ 0 → (ev v t).1 = 0 ∧ (ev v t).2.1 = false) ∧ ((ev v t).2.2 = 0 ∨ (ev v t).2.2 = 40 ∨ (ev v t).2.2 = 41) := by
  have z : Num 0 := ⟨by decide, by decide⟩
  induction h with
  | num n h1 h2 => rw [gi]; simp; unfold Num; omega
  | var n h => rw [gi, if_neg (by decide)]; exact ⟨fun _ => hv n, fun h => absurd rfl h, .inl rfl⟩
  | neg a h ih =>
    rw [gj]
    split
    · rename_i e; exact ⟨fun _ => z, fun _ => ⟨rfl, rfl⟩, ih.2.2⟩
    · have := ih.1 rfl
      rw [if_pos rfl]
      exact ⟨fun _ => (by unfold Num at *; simp only; omega), fun h => absurd rfl h, .inl rfl⟩
  | not a h ih =>
    rw [gj]
    split
    · exact ⟨fun _ => z, fun _ => ⟨rfl, rfl⟩, ih.2.2⟩
    · rw [if_neg (by decide)]; exact ⟨fun e => (by cases e), fun h => absurd rfl h, .inl rfl⟩
  | bin o a b h1 h2 ha hb iha ihb =>
    rw [aO]
    split
    · exact ⟨fun _ => z, fun _ => ⟨rfl, rfl⟩, iha.2.2⟩
    · rw [if_neg (by omega), if_neg (by omega)]
      split
      · exact ⟨fun _ => z, fun _ => ⟨rfl, rfl⟩, ihb.2.2⟩
      · have := pY (o := o) (b := (ev v b).1) (iha.1 rfl)
        exact ⟨fun _ => this.1, this.2⟩
  | cmp o a b h1 h2 ha hb iha ihb =>
    rw [aO]
    split
    · exact ⟨fun _ => z, fun _ => ⟨rfl, rfl⟩, iha.2.2⟩
    · rw [if_neg (by omega), if_neg (by omega)]
      split
      · exact ⟨fun _ => z, fun _ => ⟨rfl, rfl⟩, ihb.2.2⟩
      · have := pY (o := o) (b := (ev v b).1) (iha.1 rfl)
        exact ⟨fun e => (by cases e), this.2⟩
  | log o a b h ha hb iha ihb =>
    rw [aO]
    split
    · exact ⟨fun e => (by cases e), fun _ => ⟨rfl, rfl⟩, iha.2.2⟩
    · rcases h with rfl | rfl
      · rw [if_pos rfl]; split
        · exact ⟨fun e => (by cases e), ihb.2⟩
        · exact ⟨fun e => (by cases e), iha.2⟩
      · rw [if_neg (by decide), if_pos rfl]; split
        · exact ⟨fun e => (by cases e), iha.2⟩
        · exact ⟨fun e => (by cases e), ihb.2⟩
end
section
def aj := And.intro T2 (And.intro T3 (And.intro T4 (And.intro T31 (And.intro T58 (And.intro T73 (And.intro T75 (And.intro ro nr)))))))
attribute [local irreducible] awp n9 k3
variable {G : Nat → Option (List PV)}
abbrev aV (v : Int → Int) : AV := .agg [.i (v 0), .i (v 1), .i (v 2), .i (v 3)]
abbrev aN (x : Int × Bool × Int) : AV := .tup [.i x.1, .i x.2.2]
abbrev aB (x : Int × Bool × Int) : AV := .tup [.b x.2.1, .i x.2.2]
theorem rW (v : Int → Int) (n : Int) (hn : n = 0 ∨ n = 1 ∨ n = 2 ∨ n = 3) (h : Heap) : d5 Tryz.prog G 140 [.agg [.i 2, .i n, .p (.sl [])], aV v] h (fun r h' => r = .tup [.i (v n), .i 0] ∧ h' = h) := by
  rcases hn with rfl | rfl | rfl | rfl
  all_goals
    refine c8 (rl := []) e9 Tryz.func140 rfl (rs := [.tmp 4, .tmp 5]) rfl Tryz.ntmps140 (by simp) ?_
    repeat' (first | ((repeat ((fail_if_success (refine hK _ ?_)); clear hK K)); refine hK _ ?_; clear hK K) | ((first | refine b9 fun K1 q6 => ?_ | refine b7 fun A B hA hB => ?_); simp only [S1, simprocAttr, aj]; first | refine q6 _ ?_; clear q6 K1 | ((first | refine hA ?_ | refine hB ?_); clear hA hB A B)) | refine b6 fun K hK => ?_ | ((first | apply b8 | apply b5 | apply c7 | apply d3); try simp only [NB, simprocAttr]))
    all_goals simp only [S1, simprocAttr, ENB, aj]
theorem rX (v : Int → Int) (n : Int) (h : Heap) : d5 Tryz.prog G 140 [.agg [.i 1, .i n, .p (.sl [])], aV v] h (fun r h' => r = .tup [.i n, .i 0] ∧ h' = h) := by
  refine c8 (rl := []) e9 Tryz.func140 rfl (rs := [.tmp 4, .tmp 5]) rfl Tryz.ntmps140 (by simp) ?_
  repeat' (first | ((repeat ((fail_if_success (refine hK _ ?_)); clear hK K)); refine hK _ ?_; clear hK K) | ((first | refine b9 fun K1 q6 => ?_ | refine b7 fun A B hA hB => ?_); simp only [S1, simprocAttr, aj]; first | refine q6 _ ?_; clear q6 K1 | (refine hA ?_; clear hA hB A B)) | refine b6 fun K hK => ?_ | ((first | apply b8 | apply b5 | apply c7 | apply d3); try simp only [NB, simprocAttr]))
  all_goals simp only [S1, simprocAttr, ENB, aj]
theorem rY (v : Int → Int) (a : Tm) {x : Int × Bool × Int} (hx : Num x.1) (ih : ∀ h : Heap, d5 Tryz.prog G 140 [aT a, aV v] h (fun r h' => r = aN x ∧ h' = h)) (h : Heap) :
    d5 Tryz.prog G 140 [.agg [.i 3, .i 0, .p (.sl [eT a])], aV v] h (fun r h' => r = .tup [.i (-x.1), .i x.2.2] ∧ h' = h) := by
  unfold Num at hx
  have hw := IntWalk.i64_in (-x.1) (by omega)
  have hz : (0 : Int) - x.1 = - x.1 := by omega
  refine c8 (rl := []) e9 Tryz.func140 rfl (rs := [.tmp 4, .tmp 5]) rfl Tryz.ntmps140 (by simp) ?_
  repeat' (first | ((repeat ((fail_if_success (refine hK _ ?_)); clear hK K)); refine hK _ ?_; clear hK K) | ((first | refine b9 fun K1 q6 => ?_ | refine k4 fun K1 q6 => ?_ | refine b7 fun A B hA hB => ?_); simp only [S1, simprocAttr, aj, p9, hw, hz]; first | refine q6 _ ?_; clear q6 K1 | ((first | refine hA ?_ | refine hB ?_); clear hA hB A B) | (apply j5 iP; exact (ih _); refine q6 _ ?_; clear q6 K1) | (refine l6 (v := ?_) (fun hg q8 => ?_) ?_; rotate_left; (focus (try ((try simp only [BN] at hg); simp only [S1, simprocAttr, aj, p9, hw, hz, hg] at q8 ⊢)); exact q8); refine q6 _ ?_; clear q6 K1)) | refine b6 fun K hK => ?_ | ((first | apply b8 | apply i8 | apply b5 | refine i9 ?_ | apply c7 | apply c9 | apply d3); try simp only [NB, simprocAttr]))
  all_goals simp only [S1, simprocAttr, ENB, aj]
theorem rZ (v : Int → Int) (o : Int) (h1 : 5 ≤ o) (h2 : o ≤ 9) (a b : Tm) {x y : Int × Bool × Int} (hx : Num x.1) (hy : Num y.1)
    (iha : ∀ h : Heap, d5 Tryz.prog G 140 [aT a, aV v] h (fun r h' => r = aN x ∧ h' = h))
    (ihb : ∀ h : Heap, d5 Tryz.prog G 140 [aT b, aV v] h (fun r h' => r = aN y ∧ h' = h)) (hx0 : x.2.2 ≠ 0 → x.1 = 0) (h : Heap) :
    d5 Tryz.prog G 140 [.agg [.i o, .i 0, .p (.sl [eT a, eT b])], aV v] h (fun r h' => r = aN (if x.2.2 ≠ 0 then (0, false, x.2.2) else if y.2.2 ≠ 0 then (0, false, y.2.2) else y1 o x.1 y.1) ∧ h' = h) := by
  have f1 : (o == 1) = false := by simp; omega
  have f2 : (o == 2) = false := by simp; omega
  have f3 : (o == 3) = false := by simp; omega
  have hz : IntKind.i64.wrap (0 - 0) = 0 := rfl
  have hz0 : IntKind.i64.wrap 0 = 0 := rfl
  by_cases e1 : x.2.2 = 0
  · have f4 : (x.2.2 != 0) = false := by simp [e1]
    by_cases e2 : y.2.2 = 0
    · have f5 : (y.2.2 != 0) = false := by simp [e2]
      refine c8 (rl := []) e9 Tryz.func140 rfl (rs := [.tmp 4, .tmp 5]) rfl Tryz.ntmps140 (by simp) ?_
      repeat' (first | ((repeat ((fail_if_success (refine hK _ ?_)); clear hK K)); refine hK _ ?_; clear hK K) | ((first | refine b9 fun K1 q6 => ?_ | refine k4 fun K1 q6 => ?_ | refine b7 fun A B hA hB => ?_); simp only [S1, simprocAttr, aj, p9, f1, f2, f3, f4, f5]; first | refine q6 _ ?_; clear q6 K1 | (refine hB ?_; clear hA hB A B) | (apply j5 iP; exact (iha _); refine q6 _ ?_; clear q6 K1) | (apply j5 iP; exact (ihb _); refine q6 _ ?_; clear q6 K1) | (apply d4 Bw; exact (nV h1 h2 hx hy _); refine q6 _ ?_; clear q6 K1)) | refine b6 fun K hK => ?_ | ((first | apply b8 | apply i8 | apply b5 | refine i9 ?_ | apply c7 | apply c9 | apply d3); try simp only [NB, simprocAttr]))
      all_goals simp only [S1, simprocAttr, ENB, aj]
      all_goals simp [e1, e2]
    · have f5 : (y.2.2 != 0) = true := by simp [e2]
      refine c8 (rl := []) e9 Tryz.func140 rfl (rs := [.tmp 4, .tmp 5]) rfl Tryz.ntmps140 (by simp) ?_
      repeat' (first | ((repeat ((fail_if_success (refine hK _ ?_)); clear hK K)); refine hK _ ?_; clear hK K) | ((first | refine b9 fun K1 q6 => ?_ | refine k4 fun K1 q6 => ?_ | refine b7 fun A B hA hB => ?_); simp only [S1, simprocAttr, aj, p9, f1, f2, f3, f4, f5]; first | refine q6 _ ?_; clear q6 K1 | ((first | refine hA ?_ | refine hB ?_); clear hA hB A B) | (apply j5 iP; exact (iha _); refine q6 _ ?_; clear q6 K1) | (apply j5 iP; exact (ihb _); refine q6 _ ?_; clear q6 K1)) | refine b6 fun K hK => ?_ | ((first | apply b8 | apply i8 | apply b5 | refine i9 ?_ | apply c7 | apply c9 | apply d3); try simp only [NB, simprocAttr]))
      all_goals simp only [S1, simprocAttr, ENB, aj]
      all_goals simp [e1, e2]
  · have f4 : (x.2.2 != 0) = true := by simp [e1]
    have f6 := hx0 e1
    refine c8 (rl := []) e9 Tryz.func140 rfl (rs := [.tmp 4, .tmp 5]) rfl Tryz.ntmps140 (by simp) ?_
    repeat' (first | ((repeat ((fail_if_success (refine hK _ ?_)); clear hK K)); refine hK _ ?_; clear hK K) | ((first | refine b9 fun K1 q6 => ?_ | refine k4 fun K1 q6 => ?_ | refine b7 fun A B hA hB => ?_); simp only [S1, simprocAttr, aj, p9, f1, f2, f3, f4, f6, hz, hz0]; first | refine q6 _ ?_; clear q6 K1 | ((first | refine hA ?_ | refine hB ?_); clear hA hB A B) | (apply j5 iP; exact (iha _); refine q6 _ ?_; clear q6 K1)) | refine b6 fun K hK => ?_ | ((first | apply b8 | apply i8 | apply b5 | refine i9 ?_ | apply c7 | apply c9 | apply d3); try simp only [NB, simprocAttr]))
    all_goals simp only [S1, simprocAttr, ENB, aj]
    all_goals simp [e1]
theorem aP {v : Int → Int} (hv : ∀ i, Num (v i)) {t : Tm} (ht : Good t false) : ∀ h : Heap, d5 Tryz.prog G 140 [aT t, aV v] h (fun r h' => r = aN (ev v t) ∧ h' = h) := by
  have key : ∀ {t k}, Good t k → k = false → ∀ h : Heap, d5 Tryz.prog G 140 [aT t, aV v] h (fun r h' => r = aN (ev v t) ∧ h' = h) := by
    intro t k hg
    induction hg with
    | num n h1 h2 => intro _ h; rw [gi]; exact rX v n h
    | var n hn => intro _ h; rw [gi, if_neg (by decide)]; exact rW v n hn h
    | neg a hg ih =>
      intro _ h
      have g := G9 hv hg
      refine d5.mono (rY v a (g.1 rfl) (ih rfl) h) ?_
      rintro r h' ⟨rfl, rfl⟩
      refine ⟨?_, rfl⟩
      rw [gj]
      split
      · rename_i e; rw [(g.2.1 e).1]; rfl
      · rename_i e; rw [if_pos rfl, Classical.not_not.mp e]
    | bin o a b h1 h2 ha hb iha ihb =>
      intro _ h
      have g := G9 hv ha
      refine d5.mono (rZ v o h1 h2 a b (g.1 rfl) ((G9 hv hb).1 rfl) (iha rfl) (ihb rfl) (fun e => (g.2.1 e).1) h) ?_
      rintro r h' ⟨rfl, rfl⟩
      refine ⟨?_, rfl⟩
      rw [aO, if_neg (show ¬ o = 13 by omega), if_neg (show ¬ o = 14 by omega)]
    | not => intro e; cases e
    | cmp => intro e; cases e
    | log => intro e; cases e
  exact key ht rfl
end
section
def y6 := And.intro T2 (And.intro T3 (And.intro T4 (And.intro T58 (And.intro T73 (And.intro T75 nr)))))
attribute [local irreducible] awp n9 k3 l8
variable {G : Nat → Option (List PV)}
theorem zR (v : Int → Int) (n : Int) (h : Heap) : d5 Tryz.prog G 130 [.agg [.i 1, .i n, .p (.sl [])], aV v] h (fun r h' => r = aV3 (n, false, 0) ∧ h' = h) := by
  refine c8 (rl := []) e9 Tryz.func130 rfl (rs := [.cell 4 185]) rfl Tryz.ntmps130 (by simp) ?_
  repeat' (first | ((repeat ((fail_if_success (refine hK _ ?_)); clear hK K)); refine hK _ ?_; clear hK K) | ((first | refine b9 fun K1 q6 => ?_ | refine b7 fun A B hA hB => ?_); simp only [S1, simprocAttr, y6]; first | refine q6 _ ?_; clear q6 K1 | (refine hA ?_; clear hA hB A B)) | refine b6 fun K hK => ?_ | ((first | apply b8 | apply b5 | apply d3); try simp only [NB, simprocAttr]))
  all_goals simp only [S1, simprocAttr, ENB, y6]
theorem zT (v : Int → Int) (n : Int) (hn : n = 0 ∨ n = 1 ∨ n = 2 ∨ n = 3) (h : Heap) : d5 Tryz.prog G 130 [.agg [.i 2, .i n, .p (.sl [])], aV v] h (fun r h' => r = aV3 (v n, false, 0) ∧ h' = h) := by
  rcases hn with rfl | rfl | rfl | rfl
  all_goals
    refine c8 (rl := []) e9 Tryz.func130 rfl (rs := [.cell 4 185]) rfl Tryz.ntmps130 (by simp) ?_
    repeat' (first | ((repeat ((fail_if_success (refine hK _ ?_)); clear hK K)); refine hK _ ?_; clear hK K) | ((first | refine b9 fun K1 q6 => ?_ | refine b7 fun A B hA hB => ?_); simp only [S1, simprocAttr, y6]; first | refine q6 _ ?_; clear q6 K1 | ((first | refine hA ?_ | refine hB ?_); clear hA hB A B)) | refine b6 fun K hK => ?_ | ((first | apply b8 | apply b5 | apply c9 | apply d3); try simp only [NB, simprocAttr]))
    all_goals simp only [S1, simprocAttr, ENB, y6]
theorem zU (v : Int → Int) (a : Tm) {x : Int × Bool × Int} (hx : Num x.1) (ih : ∀ h : Heap, d5 Tryz.prog G 130 [aT a, aV v] h (fun r h' => r = aV3 x ∧ h' = h)) (h : Heap) :
    d5 Tryz.prog G 130 [.agg [.i 3, .i 0, .p (.sl [eT a])], aV v] h (fun r h' => r = aV3 (if x.2.2 ≠ 0 then (0, false, x.2.2) else (-x.1, false, 0)) ∧ h' = h) := by
  unfold Num at hx
  have hw := IntWalk.i64_in (-x.1) (by omega)
  have hz : (0 : Int) - x.1 = - x.1 := by omega
  by_cases e1 : x.2.2 = 0
  · have f4 : (x.2.2 != 0) = false := by simp [e1]
    refine c8 (rl := []) e9 Tryz.func130 rfl (rs := [.cell 4 185]) rfl Tryz.ntmps130 (by simp) ?_
    repeat' (first | ((first | apply b8 | refine E8 ?_); (try simp only [NB])) | ((repeat ((fail_if_success (refine hK _ ?_)); clear hK K)); refine hK _ ?_; clear hK K) | ((first | refine b9 fun K1 q6 => ?_ | refine J7 rfl fun K1 q6 => ?_ | refine b7 fun A B hA hB => ?_); simp only [S1, simprocAttr, y6, p9, hw, hz, f4]; first | refine q6 _ ?_; clear q6 K1 | ((first | refine hA ?_ | refine hB ?_); clear hA hB A B)) | (refine O0 (v := ?_) rfl rfl (by decide) (fun L K1 q6 => ?_) ?_; rotate_left; (focus (simp only [S1, simprocAttr, y6, p9, hw, hz, f4]; first | (exact q6 _ _ _) | (apply j5 eA; exact (ih _); exact q6 _ _ _)))) | refine b6 fun K hK => ?_ | ((first | apply b5 | refine E7 (by kernel_rfl) ?_ | apply c7 | apply c9 | apply d3); try simp only [NB, simprocAttr]))
    all_goals simp only [S1, simprocAttr, ENB, y6]
    all_goals simp [e1]
  · have f4 : (x.2.2 != 0) = true := by simp [e1]
    refine c8 (rl := []) e9 Tryz.func130 rfl (rs := [.cell 4 185]) rfl Tryz.ntmps130 (by simp) ?_
    repeat' (first | ((first | apply b8 | refine E8 ?_); (try simp only [NB])) | ((repeat ((fail_if_success (refine hK _ ?_)); clear hK K)); refine hK _ ?_; clear hK K) | ((first | refine b9 fun K1 q6 => ?_ | refine J7 rfl fun K1 q6 => ?_ | refine b7 fun A B hA hB => ?_); simp only [S1, simprocAttr, y6, p9, hw, hz, f4]; first | refine q6 _ ?_; clear q6 K1 | ((first | refine hA ?_ | refine hB ?_); clear hA hB A B)) | (refine O0 (v := ?_) rfl rfl (by decide) (fun L K1 q6 => ?_) ?_; rotate_left; (focus (simp only [S1, simprocAttr, y6, p9, hw, hz, f4]; first | (exact q6 _ _ _) | (apply j5 eA; exact (ih _); exact q6 _ _ _)))) | refine b6 fun K hK => ?_ | ((first | apply b5 | refine E7 (by kernel_rfl) ?_ | apply c9 | apply d3); try simp only [NB, simprocAttr]))
    all_goals simp only [S1, simprocAttr, ENB, y6]
    all_goals simp [e1]
theorem zV (v : Int → Int) (a : Tm) {x : Int × Bool × Int} (ih : ∀ h : Heap, d5 Tryz.prog G 130 [aT a, aV v] h (fun r h' => r = aV3 x ∧ h' = h)) (h : Heap) :
    d5 Tryz.prog G 130 [.agg [.i 4, .i 0, .p (.sl [eT a])], aV v] h (fun r h' => r = aV3 (if x.2.2 ≠ 0 then (0, false, x.2.2) else (0, !x.2.1, 0)) ∧ h' = h) := by
  by_cases e1 : x.2.2 = 0
  · have f4 : (x.2.2 != 0) = false := by simp [e1]
    refine c8 (rl := []) e9 Tryz.func130 rfl (rs := [.cell 4 185]) rfl Tryz.ntmps130 (by simp) ?_
    repeat' (first | ((first | apply b8 | refine E8 ?_); (try simp only [NB])) | ((repeat ((fail_if_success (refine hK _ ?_)); clear hK K)); refine hK _ ?_; clear hK K) | ((first | refine b9 fun K1 q6 => ?_ | refine J7 rfl fun K1 q6 => ?_ | refine b7 fun A B hA hB => ?_); simp only [S1, simprocAttr, y6, p9, f4]; first | refine q6 _ ?_; clear q6 K1 | ((first | refine hA ?_ | refine hB ?_); clear hA hB A B)) | (refine O0 (v := ?_) rfl rfl (by decide) (fun L K1 q6 => ?_) ?_; rotate_left; (focus (simp only [S1, simprocAttr, y6, p9, f4]; first | (exact q6 _ _ _) | (apply j5 eA; exact (ih _); exact q6 _ _ _)))) | refine b6 fun K hK => ?_ | ((first | apply b5 | refine E7 (by kernel_rfl) ?_ | apply c7 | apply c9 | apply d3); try simp only [NB, simprocAttr]))
    all_goals simp only [S1, simprocAttr, ENB, y6]
    all_goals simp [e1]
  · have f4 : (x.2.2 != 0) = true := by simp [e1]
    refine c8 (rl := []) e9 Tryz.func130 rfl (rs := [.cell 4 185]) rfl Tryz.ntmps130 (by simp) ?_
    repeat' (first | ((first | apply b8 | refine E8 ?_); (try simp only [NB])) | ((repeat ((fail_if_success (refine hK _ ?_)); clear hK K)); refine hK _ ?_; clear hK K) | ((first | refine b9 fun K1 q6 => ?_ | refine J7 rfl fun K1 q6 => ?_ | refine b7 fun A B hA hB => ?_); simp only [S1, simprocAttr, y6, p9, f4]; first | refine q6 _ ?_; clear q6 K1 | ((first | refine hA ?_ | refine hB ?_); clear hA hB A B)) | (refine O0 (v := ?_) rfl rfl (by decide) (fun L K1 q6 => ?_) ?_; rotate_left; (focus (simp only [S1, simprocAttr, y6, p9, f4]; first | (exact q6 _ _ _) | (apply j5 eA; exact (ih _); exact q6 _ _ _)))) | refine b6 fun K hK => ?_ | ((first | apply b5 | refine E7 (by kernel_rfl) ?_ | apply c9 | apply d3); try simp only [NB, simprocAttr]))
    all_goals simp only [S1, simprocAttr, ENB, y6]
    all_goals simp [e1]
theorem zW (v : Int → Int) (o : Int) (ho : o = 13 ∨ o = 14) (a b : Tm) {x y : Int × Bool × Int}
    (iha : ∀ h : Heap, d5 Tryz.prog G 130 [aT a, aV v] h (fun r h' => r = aV3 x ∧ h' = h))
    (ihb : ∀ h : Heap, d5 Tryz.prog G 130 [aT b, aV v] h (fun r h' => r = aV3 y ∧ h' = h)) (h : Heap) :
    d5 Tryz.prog G 130 [.agg [.i o, .i 0, .p (.sl [eT a, eT b])], aV v] h (fun r h' => r = aV3 (if x.2.2 ≠ 0 then (0, false, x.2.2) else if o = 13 then (if x.2.1 then y else x) else (if x.2.1 then x else y)) ∧ h' = h) := by
  by_cases e1 : x.2.2 = 0
  · have f4 : (x.2.2 != 0) = false := by simp [e1]
    obtain ⟨x1, x2, x3⟩ := x
    dsimp only at *
    subst e1
    rcases ho with rfl | rfl
    all_goals
      cases x2
      all_goals
        refine c8 (rl := []) e9 Tryz.func130 rfl (rs := [.cell 4 185]) rfl Tryz.ntmps130 (by simp) ?_
        repeat' (first | ((first | apply b8 | refine E8 ?_); (try simp only [NB])) | ((repeat ((fail_if_success (refine hK _ ?_)); clear hK K)); refine hK _ ?_; clear hK K) | ((first | refine b9 fun K1 q6 => ?_ | refine J7 rfl fun K1 q6 => ?_ | refine b7 fun A B hA hB => ?_); simp only [S1, simprocAttr, y6, p9]; first | refine q6 _ ?_; clear q6 K1 | ((first | refine hA ?_ | refine hB ?_); clear hA hB A B)) | (refine O0 (v := ?_) rfl rfl (by decide) (fun L K1 q6 => ?_) ?_; rotate_left; (focus (simp only [S1, simprocAttr, y6, p9]; first | (exact q6 _ _ _) | (apply j5 eA; exact (iha _); exact q6 _ _ _) | (apply j5 eA; exact (ihb _); exact q6 _ _ _)))) | refine b6 fun K hK => ?_ | ((first | apply b5 | refine E7 (by kernel_rfl) ?_ | apply c7 | apply c9 | apply d3); try simp only [NB, simprocAttr]))
        all_goals simp only [S1, simprocAttr, ENB, y6]
        all_goals simp
  · have f4 : (x.2.2 != 0) = true := by simp [e1]
    rcases ho with rfl | rfl
    all_goals
      refine c8 (rl := []) e9 Tryz.func130 rfl (rs := [.cell 4 185]) rfl Tryz.ntmps130 (by simp) ?_
      repeat' (first | ((first | apply b8 | refine E8 ?_); (try simp only [NB])) | ((repeat ((fail_if_success (refine hK _ ?_)); clear hK K)); refine hK _ ?_; clear hK K) | ((first | refine b9 fun K1 q6 => ?_ | refine J7 rfl fun K1 q6 => ?_ | refine b7 fun A B hA hB => ?_); simp only [S1, simprocAttr, y6, p9, f4]; first | refine q6 _ ?_; clear q6 K1 | ((first | refine hA ?_ | refine hB ?_); clear hA hB A B)) | (refine O0 (v := ?_) rfl rfl (by decide) (fun L K1 q6 => ?_) ?_; rotate_left; (focus (simp only [S1, simprocAttr, y6, p9, f4]; first | (exact q6 _ _ _) | (apply j5 eA; exact (iha _); exact q6 _ _ _)))) | refine b6 fun K hK => ?_ | ((first | apply b5 | refine E7 (by kernel_rfl) ?_ | apply c9 | apply d3); try simp only [NB, simprocAttr]))
      all_goals simp only [S1, simprocAttr, ENB, y6]
      all_goals simp [e1]
theorem wB (v : Int → Int) (o : Int) (h1 : 5 ≤ o) (h2 : o ≤ 12) (a b : Tm) {x y : Int × Bool × Int} (hx : Num x.1) (hy : Num y.1)
    (iha : ∀ h : Heap, d5 Tryz.prog G 130 [aT a, aV v] h (fun r h' => r = aV3 x ∧ h' = h))
    (ihb : ∀ h : Heap, d5 Tryz.prog G 130 [aT b, aV v] h (fun r h' => r = aV3 y ∧ h' = h)) (h : Heap) :
    d5 Tryz.prog G 130 [.agg [.i o, .i 0, .p (.sl [eT a, eT b])], aV v] h (fun r h' => r = aV3 (if x.2.2 ≠ 0 then (0, false, x.2.2) else if y.2.2 ≠ 0 then (0, false, y.2.2) else y1 o x.1 y.1) ∧ h' = h) := by
  have f1 : (o == 1) = false := by simp; omega
  have f2 : (o == 2) = false := by simp; omega
  have f3 : (o == 3) = false := by simp; omega
  have f6 : (o == 4) = false := by simp; omega
  have f7 : (o == 13) = false := by simp; omega
  have f8 : (o == 14) = false := by simp; omega
  by_cases e1 : x.2.2 = 0
  · have f4 : (x.2.2 != 0) = false := by simp [e1]
    by_cases e2 : y.2.2 = 0
    · have f5 : (y.2.2 != 0) = false := by simp [e2]
      refine c8 (rl := []) e9 Tryz.func130 rfl (rs := [.cell 4 185]) rfl Tryz.ntmps130 (by simp) ?_
      repeat' (first | ((first | apply b8 | refine E8 ?_); (try simp only [NB])) | ((repeat ((fail_if_success (refine hK _ ?_)); clear hK K)); refine hK _ ?_; clear hK K) | ((first | refine b9 fun K1 q6 => ?_ | refine J7 rfl fun K1 q6 => ?_ | refine b7 fun A B hA hB => ?_); simp only [S1, simprocAttr, y6, p9, f1, f2, f3, f4, f5, f6, f7, f8]; first | refine q6 _ ?_; clear q6 K1 | (refine hB ?_; clear hA hB A B) | (apply d4 Bu; exact (ux h1 h2 hx hy _); refine q6 _ ?_; clear q6 K1)) | (refine O0 (v := ?_) rfl rfl (by decide) (fun L K1 q6 => ?_) ?_; rotate_left; (focus (simp only [S1, simprocAttr, y6, p9, f1, f2, f3, f4, f5, f6, f7, f8]; first | (exact q6 _ _ _) | (apply j5 eA; exact (iha _); exact q6 _ _ _) | (apply j5 eA; exact (ihb _); exact q6 _ _ _)))) | refine b6 fun K hK => ?_ | ((first | apply b5 | refine E7 (by kernel_rfl) ?_ | apply c7 | apply c9 | apply d3); try simp only [NB, simprocAttr]))
      all_goals simp only [S1, simprocAttr, ENB, y6]
      all_goals simp [e1, e2]
    · have f5 : (y.2.2 != 0) = true := by simp [e2]
      refine c8 (rl := []) e9 Tryz.func130 rfl (rs := [.cell 4 185]) rfl Tryz.ntmps130 (by simp) ?_
      repeat' (first | ((first | apply b8 | refine E8 ?_); (try simp only [NB])) | ((repeat ((fail_if_success (refine hK _ ?_)); clear hK K)); refine hK _ ?_; clear hK K) | ((first | refine b9 fun K1 q6 => ?_ | refine J7 rfl fun K1 q6 => ?_ | refine b7 fun A B hA hB => ?_); simp only [S1, simprocAttr, y6, p9, f1, f2, f3, f4, f5, f6, f7, f8]; first | refine q6 _ ?_; clear q6 K1 | ((first | refine hA ?_ | refine hB ?_); clear hA hB A B)) | (refine O0 (v := ?_) rfl rfl (by decide) (fun L K1 q6 => ?_) ?_; rotate_left; (focus (simp only [S1, simprocAttr, y6, p9, f1, f2, f3, f4, f5, f6, f7, f8]; first | (exact q6 _ _ _) | (apply j5 eA; exact (iha _); exact q6 _ _ _) | (apply j5 eA; exact (ihb _); exact q6 _ _ _)))) | refine b6 fun K hK => ?_ | ((first | apply b5 | refine E7 (by kernel_rfl) ?_ | apply c7 | apply c9 | apply d3); try simp only [NB, simprocAttr]))
      all_goals simp only [S1, simprocAttr, ENB, y6]
      all_goals simp [e1, e2]
  · have f4 : (x.2.2 != 0) = true := by simp [e1]
    refine c8 (rl := []) e9 Tryz.func130 rfl (rs := [.cell 4 185]) rfl Tryz.ntmps130 (by simp) ?_
    repeat' (first | ((first | apply b8 | refine E8 ?_); (try simp only [NB])) | ((repeat ((fail_if_success (refine hK _ ?_)); clear hK K)); refine hK _ ?_; clear hK K) | ((first | refine b9 fun K1 q6 => ?_ | refine J7 rfl fun K1 q6 => ?_ | refine b7 fun A B hA hB => ?_); simp only [S1, simprocAttr, y6, p9, f1, f2, f3, f4, f6, f7, f8]; first | refine q6 _ ?_; clear q6 K1 | ((first | refine hA ?_ | refine hB ?_); clear hA hB A B)) | (refine O0 (v := ?_) rfl rfl (by decide) (fun L K1 q6 => ?_) ?_; rotate_left; (focus (simp only [S1, simprocAttr, y6, p9, f1, f2, f3, f4, f6, f7, f8]; first | (exact q6 _ _ _) | (apply j5 eA; exact (iha _); exact q6 _ _ _)))) | refine b6 fun K hK => ?_ | ((first | apply b5 | refine E7 (by kernel_rfl) ?_ | apply c9 | apply d3); try simp only [NB, simprocAttr]))
    all_goals simp only [S1, simprocAttr, ENB, y6]
    all_goals simp [e1]
theorem pZ {v : Int → Int} (hv : ∀ i, Num (v i)) {t : Tm} {k : Bool} (ht : Good t k) : ∀ h : Heap, d5 Tryz.prog G 130 [aT t, aV v] h (fun r h' => r = aV3 (ev v t) ∧ h' = h) := by
  induction ht with
  | num n h1 h2 => intro h; rw [gi]; exact zR v n h
  | var n hn => intro h; rw [gi, if_neg (by decide)]; exact zT v n hn h
  | neg a hg ih =>
    intro h
    refine d5.mono (zU v a ((G9 hv hg).1 rfl) ih h) ?_
    rintro r h' ⟨rfl, rfl⟩
    exact ⟨by rw [gj, if_pos (rfl : (3 : Int) = 3)], rfl⟩
  | not a hg ih =>
    intro h
    refine d5.mono (zV v a ih h) ?_
    rintro r h' ⟨rfl, rfl⟩
    exact ⟨by rw [gj, if_neg (by decide : ¬ (4 : Int) = 3)], rfl⟩
  | bin o a b h1 h2 ha hb iha ihb =>
    intro h
    refine d5.mono (wB v o h1 (by omega) a b ((G9 hv ha).1 rfl) ((G9 hv hb).1 rfl) iha ihb h) ?_
    rintro r h' ⟨rfl, rfl⟩
    exact ⟨by rw [aO, if_neg (show ¬ o = 13 by omega), if_neg (show ¬ o = 14 by omega)], rfl⟩
  | cmp o a b h1 h2 ha hb iha ihb =>
    intro h
    refine d5.mono (wB v o (by omega) h2 a b ((G9 hv ha).1 rfl) ((G9 hv hb).1 rfl) iha ihb h) ?_
    rintro r h' ⟨rfl, rfl⟩
    exact ⟨by rw [aO, if_neg (show ¬ o = 13 by omega), if_neg (show ¬ o = 14 by omega)], rfl⟩
  | log o a b ho ha hb iha ihb =>
    intro h
    refine d5.mono (zW v o ho a b iha ihb h) ?_
    rintro r h' ⟨rfl, rfl⟩
    refine ⟨?_, rfl⟩
    rw [aO]
    rcases ho with rfl | rfl
    · rfl
    · rfl
end
section
def cb := And.intro T2 (And.intro T3 (And.intro T4 (And.intro T31 (And.intro T58 (And.intro T73 (And.intro T75 (And.intro ro nr)))))))
attribute [local irreducible] awp n9 k3
variable {G : Nat → Option (List PV)}
theorem uz (v : Int → Int) (a : Tm) {x : Int × Bool × Int} (ih : ∀ h : Heap, d5 Tryz.prog G 149 [aT a, aV v] h (fun r h' => r = aB x ∧ h' = h)) (h : Heap) :
    d5 Tryz.prog G 149 [.agg [.i 4, .i 0, .p (.sl [eT a])], aV v] h (fun r h' => r = .tup [.b (!x.2.1 && x.2.2 == 0), .i x.2.2] ∧ h' = h) := by
  refine c8 (rl := []) e9 Tryz.func149 rfl (rs := [.tmp 4, .tmp 5]) rfl Tryz.ntmps149 (by simp) ?_
  repeat' (first | ((repeat ((fail_if_success (refine hK _ ?_)); clear hK K)); refine hK _ ?_; clear hK K) | ((first | refine b9 fun K1 q6 => ?_ | refine k4 fun K1 q6 => ?_ | refine b7 fun A B hA hB => ?_); simp only [S1, simprocAttr, cb, p9]; first | refine q6 _ ?_; clear q6 K1 | (refine hA ?_; clear hA hB A B) | (apply j5 pp; exact (ih _); refine q6 _ ?_; clear q6 K1) | (refine l6 (v := ?_) (fun hg q8 => ?_) ?_; rotate_left; (focus (try ((try simp only [BN] at hg); simp only [S1, simprocAttr, cb, p9, hg] at q8 ⊢)); exact q8); refine q6 _ ?_; clear q6 K1)) | refine b6 fun K hK => ?_ | ((first | apply b8 | apply i8 | apply b5 | refine i9 ?_ | apply c7 | apply d3); try simp only [NB, simprocAttr]))
  all_goals simp only [S1, simprocAttr, ENB, cb]
  all_goals trace_state
theorem uA (v : Int → Int) (o : Int) (ho : o = 13 ∨ o = 14) (a b : Tm) {x y : Int × Bool × Int}
    (iha : ∀ h : Heap, d5 Tryz.prog G 149 [aT a, aV v] h (fun r h' => r = aB x ∧ h' = h))
    (ihb : ∀ h : Heap, d5 Tryz.prog G 149 [aT b, aV v] h (fun r h' => r = aB y ∧ h' = h)) (h : Heap) :
    d5 Tryz.prog G 149 [.agg [.i o, .i 0, .p (.sl [eT a, eT b])], aV v] h (fun r h' => r = aB (if x.2.2 ≠ 0 then x else if x.2.1 = (o == 14) then x else y) ∧ h' = h) := by
  rcases ho with rfl | rfl
  all_goals
    cases hx : x.2.1 with
    | true =>
      by_cases e1 : x.2.2 = 0
      · refine c8 (rl := []) e9 Tryz.func149 rfl (rs := [.tmp 4, .tmp 5]) rfl Tryz.ntmps149 (by simp) ?_
        repeat' (first | ((repeat ((fail_if_success (refine hK _ ?_)); clear hK K)); refine hK _ ?_; clear hK K) | ((first | refine b9 fun K1 q6 => ?_ | refine k4 fun K1 q6 => ?_ | refine b7 fun A B hA hB => ?_); simp only [S1, simprocAttr, cb, p9, e1, hx]; first | refine q6 _ ?_; clear q6 K1 | ((first | refine hA ?_ | refine hB ?_); clear hA hB A B) | (apply j5 pp; exact (iha _); refine q6 _ ?_; clear q6 K1) | (apply j5 pp; exact (ihb _); refine q6 _ ?_; clear q6 K1)) | refine b6 fun K hK => ?_ | ((first | apply b8 | apply i8 | apply b5 | refine i9 ?_ | apply c7 | apply c9 | apply d3); try simp only [NB, simprocAttr]))
        all_goals simp only [S1, simprocAttr, ENB, cb]
        all_goals simp [e1, hx]
      · have f4 : (x.2.2 != 0) = true := by simp [e1]
        refine c8 (rl := []) e9 Tryz.func149 rfl (rs := [.tmp 4, .tmp 5]) rfl Tryz.ntmps149 (by simp) ?_
        repeat' (first | ((repeat ((fail_if_success (refine hK _ ?_)); clear hK K)); refine hK _ ?_; clear hK K) | ((first | refine b9 fun K1 q6 => ?_ | refine k4 fun K1 q6 => ?_ | refine b7 fun A B hA hB => ?_); simp only [S1, simprocAttr, cb, p9, f4, hx]; first | refine q6 _ ?_; clear q6 K1 | ((first | refine hA ?_ | refine hB ?_); clear hA hB A B) | (apply j5 pp; exact (iha _); refine q6 _ ?_; clear q6 K1)) | refine b6 fun K hK => ?_ | ((first | apply b8 | apply i8 | apply b5 | refine i9 ?_ | apply c7 | apply c9 | apply d3); try simp only [NB, simprocAttr]))
        all_goals simp only [S1, simprocAttr, ENB, cb]
        all_goals simp [e1, hx]
    | false =>
      by_cases e1 : x.2.2 = 0
      · refine c8 (rl := []) e9 Tryz.func149 rfl (rs := [.tmp 4, .tmp 5]) rfl Tryz.ntmps149 (by simp) ?_
        repeat' (first | ((repeat ((fail_if_success (refine hK _ ?_)); clear hK K)); refine hK _ ?_; clear hK K) | ((first | refine b9 fun K1 q6 => ?_ | refine k4 fun K1 q6 => ?_ | refine b7 fun A B hA hB => ?_); simp only [S1, simprocAttr, cb, p9, e1, hx]; first | refine q6 _ ?_; clear q6 K1 | ((first | refine hA ?_ | refine hB ?_); clear hA hB A B) | (apply j5 pp; exact (iha _); refine q6 _ ?_; clear q6 K1) | (apply j5 pp; exact (ihb _); refine q6 _ ?_; clear q6 K1)) | refine b6 fun K hK => ?_ | ((first | apply b8 | apply i8 | apply b5 | refine i9 ?_ | apply c7 | apply c9 | apply d3); try simp only [NB, simprocAttr]))
        all_goals simp only [S1, simprocAttr, ENB, cb]
        all_goals simp [e1, hx]
      · have f4 : (x.2.2 != 0) = true := by simp [e1]
        refine c8 (rl := []) e9 Tryz.func149 rfl (rs := [.tmp 4, .tmp 5]) rfl Tryz.ntmps149 (by simp) ?_
        repeat' (first | ((repeat ((fail_if_success (refine hK _ ?_)); clear hK K)); refine hK _ ?_; clear hK K) | ((first | refine b9 fun K1 q6 => ?_ | refine k4 fun K1 q6 => ?_ | refine b7 fun A B hA hB => ?_); simp only [S1, simprocAttr, cb, p9, f4, hx]; first | refine q6 _ ?_; clear q6 K1 | ((first | refine hA ?_ | refine hB ?_); clear hA hB A B) | (apply j5 pp; exact (iha _); refine q6 _ ?_; clear q6 K1)) | refine b6 fun K hK => ?_ | ((first | apply b8 | apply i8 | apply b5 | refine i9 ?_ | apply c7 | apply c9 | apply d3); try simp only [NB, simprocAttr]))
        all_goals simp only [S1, simprocAttr, ENB, cb]
        all_goals simp [e1, hx]
end
section
def mh := And.intro T2 (And.intro T3 (And.intro T4 (And.intro T31 (And.intro T58 (And.intro T73 (And.intro T75 (And.intro ro nr)))))))
attribute [local irreducible] awp n9 k3
variable {G : Nat → Option (List PV)}
theorem uB (v : Int → Int) (o : Int) (ho : o = 10 ∨ o = 11 ∨ o = 12) (a b : Tm) {x y : Int × Bool × Int}
    (iha : ∀ h : Heap, d5 Tryz.prog G 140 [aT a, aV v] h (fun r h' => r = aN x ∧ h' = h))
    (ihb : ∀ h : Heap, d5 Tryz.prog G 140 [aT b, aV v] h (fun r h' => r = aN y ∧ h' = h)) (h : Heap) :
    d5 Tryz.prog G 149 [.agg [.i o, .i 0, .p (.sl [eT a, eT b])], aV v] h (fun r h' => r = aB (if x.2.2 ≠ 0 then (0, false, x.2.2) else if y.2.2 ≠ 0 then (0, false, y.2.2) else y1 o x.1 y.1) ∧ h' = h) := by
  by_cases e1 : x.2.2 = 0
  · by_cases e2 : y.2.2 = 0
    · rcases ho with rfl | rfl | rfl
      all_goals
        refine c8 (rl := []) e9 Tryz.func149 rfl (rs := [.tmp 4, .tmp 5]) rfl Tryz.ntmps149 (by simp) ?_
        repeat' (first | ((repeat ((fail_if_success (refine hK _ ?_)); clear hK K)); refine hK _ ?_; clear hK K) | ((first | refine b9 fun K1 q6 => ?_ | refine k4 fun K1 q6 => ?_ | refine b7 fun A B hA hB => ?_); simp only [S1, simprocAttr, mh, p9, e1, e2]; first | refine q6 _ ?_; clear q6 K1 | ((first | refine hA ?_ | refine hB ?_); clear hA hB A B) | (apply j5 iP; exact (iha _); refine q6 _ ?_; clear q6 K1) | (apply j5 iP; exact (ihb _); refine q6 _ ?_; clear q6 K1)) | refine b6 fun K hK => ?_ | ((first | apply b8 | apply i8 | apply b5 | refine i9 ?_ | apply c7 | apply c9 | apply d3); try simp only [NB, simprocAttr]))
        all_goals simp only [S1, simprocAttr, ENB, mh]
        all_goals simp [e1, e2, y1]
        all_goals (rw [Bool.eq_iff_iff]; simp; omega)
    · have f5 : (y.2.2 != 0) = true := by simp [e2]
      rcases ho with rfl | rfl | rfl
      all_goals
        refine c8 (rl := []) e9 Tryz.func149 rfl (rs := [.tmp 4, .tmp 5]) rfl Tryz.ntmps149 (by simp) ?_
        repeat' (first | ((repeat ((fail_if_success (refine hK _ ?_)); clear hK K)); refine hK _ ?_; clear hK K) | ((first | refine b9 fun K1 q6 => ?_ | refine k4 fun K1 q6 => ?_ | refine b7 fun A B hA hB => ?_); simp only [S1, simprocAttr, mh, p9, e1, f5]; first | refine q6 _ ?_; clear q6 K1 | ((first | refine hA ?_ | refine hB ?_); clear hA hB A B) | (apply j5 iP; exact (iha _); refine q6 _ ?_; clear q6 K1) | (apply j5 iP; exact (ihb _); refine q6 _ ?_; clear q6 K1)) | refine b6 fun K hK => ?_ | ((first | apply b8 | apply i8 | apply b5 | refine i9 ?_ | apply c7 | apply c9 | apply d3); try simp only [NB, simprocAttr]))
        all_goals simp only [S1, simprocAttr, ENB, mh]
        all_goals simp [e1, e2]
  · have f4 : (x.2.2 != 0) = true := by simp [e1]
    rcases ho with rfl | rfl | rfl
    all_goals
      refine c8 (rl := []) e9 Tryz.func149 rfl (rs := [.tmp 4, .tmp 5]) rfl Tryz.ntmps149 (by simp) ?_
      repeat' (first | ((repeat ((fail_if_success (refine hK _ ?_)); clear hK K)); refine hK _ ?_; clear hK K) | ((first | refine b9 fun K1 q6 => ?_ | refine k4 fun K1 q6 => ?_ | refine b7 fun A B hA hB => ?_); simp only [S1, simprocAttr, mh, p9, f4]; first | refine q6 _ ?_; clear q6 K1 | ((first | refine hA ?_ | refine hB ?_); clear hA hB A B) | (apply j5 iP; exact (iha _); refine q6 _ ?_; clear q6 K1)) | refine b6 fun K hK => ?_ | ((first | apply b8 | apply i8 | apply b5 | refine i9 ?_ | apply c7 | apply c9 | apply d3); try simp only [NB, simprocAttr]))
      all_goals simp only [S1, simprocAttr, ENB, mh]
      all_goals simp [e1]
theorem qa {v : Int → Int} (hv : ∀ i, Num (v i)) {t : Tm} (ht : Good t true) : ∀ h : Heap, d5 Tryz.prog G 149 [aT t, aV v] h (fun r h' => r = aB (ev v t) ∧ h' = h) := by
  have key : ∀ {t k}, Good t k → k = true → ∀ h : Heap, d5 Tryz.prog G 149 [aT t, aV v] h (fun r h' => r = aB (ev v t) ∧ h' = h) := by
    intro t k hg
    induction hg with
    | num n h1 h2 => intro e; cases e
    | var n hn => intro e; cases e
    | neg a hg ih => intro e; cases e
    | bin o a b h1 h2 ha hb iha ihb => intro e; cases e
    | not a hg ih =>
      intro _ h
      have g := G9 hv hg
      refine d5.mono (uz v a (ih rfl) h) ?_
      rintro r h' ⟨rfl, rfl⟩
      refine ⟨?_, rfl⟩
      rw [gj]
      split
      · rename_i e; simp [e]
      · rename_i e; rw [if_neg (by decide), Classical.not_not.mp e]; simp
    | cmp o a b h1 h2 ha hb iha ihb =>
      intro _ h
      refine d5.mono (uB v o (by omega) a b (aP hv ha) (aP hv hb) h) ?_
      rintro r h' ⟨rfl, rfl⟩
      refine ⟨?_, rfl⟩
      rw [aO, if_neg (show ¬ o = 13 by omega), if_neg (show ¬ o = 14 by omega)]
    | log o a b ho ha hb iha ihb =>
      intro _ h
      have g := G9 hv ha
      refine d5.mono (uA v o ho a b (iha rfl) (ihb rfl) h) ?_
      rintro r h' ⟨rfl, rfl⟩
      refine ⟨?_, rfl⟩
      rw [aO]
      have g1 := g.2.1
      rcases hx : ev v a with ⟨x1, x2, x3⟩
      rw [hx] at g1
      simp only at g1 ⊢
      by_cases e : x3 = 0
      · subst e
        rcases ho with rfl | rfl <;> cases x2 <;> simp
      · rw [if_pos e, if_pos e, (g1 e).2]
  exact key ht rfl
end
section
def ke := And.intro T2 (And.intro T3 (And.intro T4 (And.intro T31 T58)))
attribute [local irreducible] awp n9 k3
variable {G : Nat → Option (List PV)}
def inV (v : Int → Int) : Bool := inM (v 0) && inM (v 1) && inM (v 2) && inM (v 3)
theorem cN0 : ((0 : Nat) : Int) = 0 := rfl
theorem cN1 : ((1 : Nat) : Int) = 1 := rfl
theorem cN2 : ((2 : Nat) : Int) = 2 := rfl
theorem cN3 : ((3 : Nat) : Int) = 3 := rfl
theorem cN4 : ((4 : Nat) : Int) = 4 := rfl
theorem wl1 : IntKind.i64.wrap 1 = 1 := rfl
theorem wl2 : IntKind.i64.wrap 2 = 2 := rfl
theorem wl3 : IntKind.i64.wrap 3 = 3 := rfl
theorem wl4 : IntKind.i64.wrap 4 = 4 := rfl
theorem wC {v : Int → Int} (h : ∀ j : Nat, j < 4 → inM (v j) = true) : inV v = true := by
  have h0 := h 0 (by omega)
  have h1 := h 1 (by omega)
  have h2 := h 2 (by omega)
  have h3 := h 3 (by omega)
  unfold inV
  simp only [cN0, cN1, cN2, cN3] at h0 h1 h2 h3
  simp [h0, h1, h2, h3]
theorem ik (v : Int → Int) (h : Heap) : d5 Tryz.prog G 73 [.agg [.i (v 0), .i (v 1), .i (v 2), .i (v 3)]] h (fun r h' => r = .b (inV v) ∧ h' = h) := by
  refine c8 (rl := []) e9 Tryz.func73 rfl (rs := [.tmp 2]) rfl Tryz.ntmps73 (by simp) ?_
  repeat' (first | ((repeat ((fail_if_success (refine hK _ ?_)); clear hK K)); refine hK _ ?_; clear hK K) | (refine b9 fun K1 q6 => ?_; simp only [S1, simprocAttr, ke]; refine q6 _ ?_; clear q6 K1) | refine b6 fun K hK => ?_ | ((first | apply b8 | apply b5 | apply c7); try simp only [NB, simprocAttr]))
  refine p8 4 13 (fun i => [(6, .i i), (5, .agg [.i (v 0), .i (v 1), .i (v 2), .i (v 3)])]) (fun i => []) (fun i => ∀ j : Nat, j < i → inM (v j) = true) ?_ (fun j hj => absurd hj (Nat.not_lt_zero _)) fun i hi hp K hK => ?_
  · (refine ⟨rfl, (by first | exact ⟨_, rfl⟩ | exact ⟨[], by simp⟩), ?_, ?_⟩ <;> simp only [S1, simprocAttr, KNB] <;> (try and_intros) <;> (try assumption) <;> (try trivial) <;> (try omega))
  have hw : IntKind.i64.wrap ((i : Int) + 1) = ((i + 1 : Nat) : Int) := by rw [IntWalk.i64_in _ (by omega)]; omega
  rcases (by omega : i = 0 ∨ i = 1 ∨ i = 2 ∨ i = 3 ∨ i = 4) with rfl | rfl | rfl | rfl | rfl
  all_goals
    repeat' (first | ((repeat ((fail_if_success (refine hK _ ?_)); clear hK K)); refine hK _ ?_; clear hK K) | ((first | refine b9 fun K1 q6 => ?_ | refine b7 fun A B hA hB => ?_); simp only [S1, simprocAttr, ke, cN0, cN1, cN2, cN3, cN4, Int.reduceAdd, wl1, wl2, wl3, wl4]; first | refine q6 _ ?_; clear q6 K1 | ((first | refine hA ?_ | refine hB ?_); clear hA hB A B) | (apply d4 E99; exact (dE _ _); refine q6 _ ?_; clear q6 K1) | ((((refine ⟨fun hg => hA ?_, fun hg => hB ?_⟩ <;> clear hA hB A B)) <;> (try simp only [BN2] at hg) <;> (try simp only [hg, cndB])) <;> (try (refine q6 _ ?_; clear q6 K1)) <;> (try simp only [BN3] at hg))) | refine b6 fun K hK => ?_ | ((first | apply b8 | apply b5 | apply c7 | apply f9 | apply c9 | apply d3); try simp only [NB, simprocAttr]))
    all_goals first
      | (refine ⟨by omega, fun j hj => ?_, ?_⟩
         · rcases Nat.lt_succ_iff_lt_or_eq.mp hj with e | rfl
           · exact hp j e
           · exact hg
         · (refine ⟨rfl, (by first | exact ⟨_, rfl⟩ | exact ⟨[], by simp⟩), ?_, ?_⟩ <;> simp only [S1, simprocAttr, KNB] <;> (try and_intros) <;> (try assumption) <;> (try trivial) <;> (try omega)))
      | (simp only [S1, simprocAttr, ENB, ke]
         first
           | (rw [wC hp]; done)
           | (simp [inV, hg]; done))
theorem il (v : Int → Int) (h : Heap) : d5 Tryz.prog G 67 [.agg [.i (v 0), .i (v 1), .i (v 2), .i (v 3)]] h (fun r h' => r = .b (inV v) ∧ h' = h) := by
  refine c8 (rl := []) e9 Tryz.func67 rfl (rs := [.tmp 2]) rfl Tryz.ntmps67 (by simp) ?_
  repeat' (first | ((repeat ((fail_if_success (refine hK _ ?_)); clear hK K)); refine hK _ ?_; clear hK K) | (refine b9 fun K1 q6 => ?_; simp only [S1, simprocAttr, ke]; refine q6 _ ?_; clear q6 K1) | refine b6 fun K hK => ?_ | ((first | apply b8 | apply b5 | apply c7); try simp only [NB, simprocAttr]))
  refine p8 4 18 (fun i => [(3, .i i), (1, .ptr h.length 0 0)]) (fun i => [some ⟨0, [.i (v 0), .i (v 1), .i (v 2), .i (v 3)]⟩]) (fun i => ∀ j : Nat, j < i → inM (v j) = true) ?_ (fun j hj => absurd hj (Nat.not_lt_zero _)) fun i hi hp K hK => ?_
  · (refine ⟨rfl, (by first | exact ⟨_, rfl⟩ | exact ⟨[], by simp⟩), ?_, ?_⟩ <;> simp only [S1, simprocAttr, KNB] <;> (try and_intros) <;> (try assumption) <;> (try trivial) <;> (try omega))
  rcases (by omega : i = 0 ∨ i = 1 ∨ i = 2 ∨ i = 3 ∨ i = 4) with rfl | rfl | rfl | rfl | rfl
  all_goals
    repeat' (first | ((repeat ((fail_if_success (refine hK _ ?_)); clear hK K)); refine hK _ ?_; clear hK K) | ((first | refine b9 fun K1 q6 => ?_ | refine b7 fun A B hA hB => ?_); simp only [S1, simprocAttr, ke, cN0, cN1, cN2, cN3, cN4, Int.reduceAdd, wl1, wl2, wl3, wl4]; first | refine q6 _ ?_; clear q6 K1 | ((first | refine hA ?_ | refine hB ?_); clear hA hB A B) | (refine l6 (v := ?_) (fun hg q8 => ?_) ?_; rotate_left; (focus (try ((try simp only [BN] at hg); simp only [S1, simprocAttr, ke, cN0, cN1, cN2, cN3, cN4, Int.reduceAdd, wl1, wl2, wl3, wl4, hg] at q8 ⊢)); exact q8); refine q6 _ ?_; clear q6 K1) | ((((refine ⟨fun hg => hA ?_, fun hg => hB ?_⟩ <;> clear hA hB A B)) <;> (try simp only [BN2] at hg) <;> (try simp only [hg, cndB])) <;> (try (refine q6 _ ?_; clear q6 K1)) <;> (try simp only [BN3] at hg))) | refine b6 fun K hK => ?_ | ((first | apply b8 | apply b5 | apply c7 | apply f9 | apply c9 | apply d3); try simp only [NB, simprocAttr]))
    all_goals first
      | (refine ⟨by omega, fun j hj => ?_, ?_⟩
         · rcases Nat.lt_succ_iff_lt_or_eq.mp hj with e | rfl
           · exact hp j e
           · simp [inM] at hg ⊢; omega
         · (refine ⟨rfl, (by first | exact ⟨_, rfl⟩ | exact ⟨[], by simp⟩), ?_, ?_⟩ <;> simp only [S1, simprocAttr, KNB] <;> (try and_intros) <;> (try assumption) <;> (try trivial) <;> (try omega)))
      | (simp only [S1, simprocAttr, ENB, ke]
         first
           | (rw [wC hp]; done)
           | (simp [inV, inM] at hg ⊢; omega))
end
section
def ce := And.intro T2 (And.intro T3 (And.intro T4 (And.intro T31 (And.intro T58 (And.intro T73 (And.intro T75 (And.intro ro nr)))))))
attribute [local irreducible] awp n9 k3
def U8 (t : Tm) (v : Int → Int) (k : Int) : Int := if (C9 t).2 ≠ 0 then (C9 t).2 else if (C9 t).1 ≠ k then 30 else if inV v then 0 else 1
theorem Y2 {n : Nat} {t : Tm} (ht : Tm.Ok n t) (v : Int → Int) (k : Int) (h : Heap) : d5 Tryz.prog gW 139 [aT t, aV v, .i k] h (fun r h' => r = .i (U8 t v k) ∧ h' = h) := by
  refine c8 (rl := []) e9 Tryz.func139 rfl (rs := [.tmp 6]) rfl Tryz.ntmps139 (by simp) ?_
  repeat' (first | ((repeat ((fail_if_success (refine hK _ ?_)); clear hK K)); refine hK _ ?_; clear hK K) | ((first | refine b9 fun K1 q6 => ?_ | refine b7 fun A B hA hB => ?_); simp only [S1, simprocAttr, ce]; first | refine q6 _ ?_; clear q6 K1 | (apply d4 AH; exact (gX ht _); refine q6 _ ?_; clear q6 K1) | (apply d4 E73; exact (ik v _); refine q6 _ ?_; clear q6 K1) | ((((refine ⟨fun hg => hA ?_, fun hg => hB ?_⟩ <;> clear hA hB A B)) <;> (try simp only [BN2] at hg) <;> (try simp only [hg, cndB])) <;> (try (refine q6 _ ?_; clear q6 K1)) <;> (try simp only [BN3] at hg))) | refine b6 fun K hK => ?_ | ((first | apply b8 | apply b5 | apply c7 | apply c9 | apply d3); try simp only [NB, simprocAttr]))
  all_goals simp only [S1, simprocAttr, ENB, ce]
  all_goals simp_all [U8]
theorem W4 {t : Tm} {v : Int → Int} {k : Int} (h : U8 t v k = 0) : Good t (w7 t.op) ∧ inV v = true ∧ jK t.op = k := by
  unfold U8 at h
  by_cases h1 : (C9 t).2 = 0
  · rw [if_neg (by simpa using h1)] at h
    by_cases h2 : (C9 t).1 = k
    · rw [if_neg (by simpa using h2)] at h
      have hv : inV v = true := by
        cases hh : inV v with
        | true => rfl
        | false => rw [hh] at h; simp at h
      unfold C9 at h1 h2
      by_cases hw : S6 t = 0
      · rw [if_neg (by simpa using hw)] at h1 h2
        cases hty : t.typed with
        | true =>
          rw [hty] at h1 h2
          have hf : t.form = true := by
            unfold S6 at hw
            split at hw
            · cases hw
            · split at hw
              · assumption
              · cases hw
          exact ⟨yq t hf hty, hv, by simpa using h2⟩
        | false => rw [hty] at h1; simp at h1
      · rw [if_pos hw] at h1; exact absurd h1 hw
    · rw [if_pos h2] at h; cases h
  · rw [if_pos h1] at h; exact absurd h h1
def N8 (t : Tm) (v : Int → Int) : Int × Int := if U8 t v 1 ≠ 0 then (0, U8 t v 1) else ((ev v t).1, (ev v t).2.2)
def P1 (t : Tm) (v : Int → Int) : Bool × Int := if U8 t v 2 ≠ 0 then (false, U8 t v 2) else ((ev v t).2.1, (ev v t).2.2)
theorem nW {n : Nat} {t : Tm} (ht : Tm.Ok n t) (v : Int → Int) (hv : inV v = true → ∀ i, Num (v i)) (h : Heap) : d5 Tryz.prog gW 111 [aT t, aV v] h (fun r h' => r = .tup [.i (N8 t v).1, .i (N8 t v).2] ∧ h' = h) := by
  by_cases e : U8 t v 1 = 0
  · obtain ⟨g1, g2, g3⟩ := W4 e
    have g0 : w7 t.op = false := by
      cases hh : w7 t.op with
      | false => rfl
      | true => unfold jK at g3; rw [hh] at g3; simp at g3
    rw [g0] at g1
    have hg := G9 (hv g2) g1
    have e1 : (U8 t v 1 != 0) = false := by simp [e]
    refine c8 (rl := []) e9 Tryz.func111 rfl (rs := [.tmp 4, .tmp 5]) rfl Tryz.ntmps111 (by simp) ?_
    repeat' (first | ((repeat ((fail_if_success (refine hK _ ?_)); clear hK K)); refine hK _ ?_; clear hK K) | ((first | refine b9 fun K1 q6 => ?_ | refine b7 fun A B hA hB => ?_); simp only [S1, simprocAttr, ce, e1]; first | refine q6 _ ?_; clear q6 K1 | (refine hB ?_; clear hA hB A B) | (apply d4 xW; exact (Y2 ht v 1 _); refine q6 _ ?_; clear q6 K1) | (apply d4 iP; exact (aP (hv g2) g1 _); refine q6 _ ?_; clear q6 K1) | ((((refine ⟨fun hg => hA ?_, fun hg => hB ?_⟩ <;> clear hA hB A B)) <;> (try simp only [BN2] at hg) <;> (try simp only [hg, cndB])) <;> (try (refine q6 _ ?_; clear q6 K1)) <;> (try simp only [BN3] at hg))) | refine b6 fun K hK => ?_ | ((first | apply b8 | apply b5 | apply c9 | apply d3); try simp only [NB, simprocAttr]))
    all_goals simp only [S1, simprocAttr, ENB, ce]
    all_goals simp_all [N8]
  · have e1 : (U8 t v 1 != 0) = true := by simp [e]
    refine c8 (rl := []) e9 Tryz.func111 rfl (rs := [.tmp 4, .tmp 5]) rfl Tryz.ntmps111 (by simp) ?_
    repeat' (first | ((repeat ((fail_if_success (refine hK _ ?_)); clear hK K)); refine hK _ ?_; clear hK K) | ((first | refine b9 fun K1 q6 => ?_ | refine b7 fun A B hA hB => ?_); simp only [S1, simprocAttr, ce, e1]; first | refine q6 _ ?_; clear q6 K1 | (refine hA ?_; clear hA hB A B) | (apply d4 xW; exact (Y2 ht v 1 _); refine q6 _ ?_; clear q6 K1)) | refine b6 fun K hK => ?_ | ((first | apply b8 | apply b5 | apply d3); try simp only [NB, simprocAttr]))
    all_goals simp only [S1, simprocAttr, ENB, ce]
    all_goals simp_all [N8]
theorem qb {n : Nat} {t : Tm} (ht : Tm.Ok n t) (v : Int → Int) (hv : inV v = true → ∀ i, Num (v i)) (h : Heap) : d5 Tryz.prog gW 141 [aT t, aV v] h (fun r h' => r = .tup [.b (P1 t v).1, .i (P1 t v).2] ∧ h' = h) := by
  by_cases e : U8 t v 2 = 0
  · obtain ⟨g1, g2, g3⟩ := W4 e
    have g0 : w7 t.op = true := by
      cases hh : w7 t.op with
      | true => rfl
      | false => unfold jK at g3; rw [hh] at g3; simp at g3
    rw [g0] at g1
    have hg := G9 (hv g2) g1
    have e1 : (U8 t v 2 != 0) = false := by simp [e]
    refine c8 (rl := []) e9 Tryz.func141 rfl (rs := [.tmp 4, .tmp 5]) rfl Tryz.ntmps141 (by simp) ?_
    repeat' (first | ((repeat ((fail_if_success (refine hK _ ?_)); clear hK K)); refine hK _ ?_; clear hK K) | ((first | refine b9 fun K1 q6 => ?_ | refine b7 fun A B hA hB => ?_); simp only [S1, simprocAttr, ce, e1]; first | refine q6 _ ?_; clear q6 K1 | (refine hB ?_; clear hA hB A B) | (apply d4 xW; exact (Y2 ht v 2 _); refine q6 _ ?_; clear q6 K1) | (apply d4 pp; exact (qa (hv g2) g1 _); refine q6 _ ?_; clear q6 K1) | (refine l6 (v := ?_) (fun hg q8 => ?_) ?_; rotate_left; (focus (try ((try simp only [BN] at hg); simp only [S1, simprocAttr, ce, e1, hg] at q8 ⊢)); exact q8); refine q6 _ ?_; clear q6 K1)) | refine b6 fun K hK => ?_ | ((first | apply b8 | apply b5 | apply c9 | apply d3); try simp only [NB, simprocAttr]))
    all_goals simp only [S1, simprocAttr, ENB, ce]
    all_goals (by_cases hf : (ev v t).2.2 = 0 <;> simp_all [P1])
  · have e1 : (U8 t v 2 != 0) = true := by simp [e]
    refine c8 (rl := []) e9 Tryz.func141 rfl (rs := [.tmp 4, .tmp 5]) rfl Tryz.ntmps141 (by simp) ?_
    repeat' (first | ((repeat ((fail_if_success (refine hK _ ?_)); clear hK K)); refine hK _ ?_; clear hK K) | ((first | refine b9 fun K1 q6 => ?_ | refine b7 fun A B hA hB => ?_); simp only [S1, simprocAttr, ce, e1]; first | refine q6 _ ?_; clear q6 K1 | (refine hA ?_; clear hA hB A B) | (apply d4 xW; exact (Y2 ht v 2 _); refine q6 _ ?_; clear q6 K1)) | refine b6 fun K hK => ?_ | ((first | apply b8 | apply b5 | apply d3); try simp only [NB, simprocAttr]))
    all_goals simp only [S1, simprocAttr, ENB, ce]
    all_goals simp_all [P1]
end
section
def L0 := And.intro T2 (And.intro T3 (And.intro T4 (And.intro T58 (And.intro T75 nr))))
attribute [local irreducible] awp n9 k3 l8 o6 n5
theorem Y3 {n : Nat} {t : Tm} (ht : Tm.Ok n t) (hn : n ≤ 200) (v : Int → Int) (k : Int) (h : Heap) : d5 Tryz.prog gW 129 [aT t, aV v, .i k] h (fun r h' => r = .i (U8 t v k) ∧ h' = h) := by
  by_cases e1 : (C9 t).2 = 0
  · have f1 : ((C9 t).2 != 0) = false := by simp [e1]
    by_cases e2 : (C9 t).1 = k
    · have f2 : ((C9 t).1 != k) = false := by simp [e2]
      refine c8 (rl := []) e9 Tryz.func129 rfl (rs := [.tmp 6]) rfl Tryz.ntmps129 (by simp) ?_
      repeat' (first | ((repeat ((fail_if_success (refine hK _ ?_)); clear hK K)); refine hK _ ?_; clear hK K) | ((first | refine b9 fun K1 q6 => ?_ | refine b7 fun A B hA hB => ?_); simp only [S1, simprocAttr, L0, f1, f2]; first | refine q6 _ ?_; clear q6 K1 | (refine hB ?_; clear hA hB A B) | (apply d4 E95; exact (U5 ht hn _); refine q6 _ ?_; clear q6 K1) | (apply d4 E67; exact (il v _); refine q6 _ ?_; clear q6 K1) | ((((refine ⟨fun hg => hA ?_, fun hg => hB ?_⟩ <;> clear hA hB A B)) <;> (try simp only [BN2] at hg) <;> (try simp only [hg, cndB])) <;> (try (refine q6 _ ?_; clear q6 K1)) <;> (try simp only [BN3] at hg))) | refine b6 fun K hK => ?_ | ((first | apply b8 | apply b5 | apply c9 | apply d3); try simp only [NB, simprocAttr]))
      all_goals simp only [S1, simprocAttr, ENB, L0]
      all_goals simp_all [U8]
    · have f2 : ((C9 t).1 != k) = true := by simp [e2]
      refine c8 (rl := []) e9 Tryz.func129 rfl (rs := [.tmp 6]) rfl Tryz.ntmps129 (by simp) ?_
      repeat' (first | ((repeat ((fail_if_success (refine hK _ ?_)); clear hK K)); refine hK _ ?_; clear hK K) | ((first | refine b9 fun K1 q6 => ?_ | refine b7 fun A B hA hB => ?_); simp only [S1, simprocAttr, L0, f1, f2]; first | refine q6 _ ?_; clear q6 K1 | ((first | refine hA ?_ | refine hB ?_); clear hA hB A B) | (apply d4 E95; exact (U5 ht hn _); refine q6 _ ?_; clear q6 K1)) | refine b6 fun K hK => ?_ | ((first | apply b8 | apply b5 | apply c9 | apply d3); try simp only [NB, simprocAttr]))
      all_goals simp only [S1, simprocAttr, ENB, L0]
      all_goals simp_all [U8]
  · have f1 : ((C9 t).2 != 0) = true := by simp [e1]
    refine c8 (rl := []) e9 Tryz.func129 rfl (rs := [.tmp 6]) rfl Tryz.ntmps129 (by simp) ?_
    repeat' (first | ((repeat ((fail_if_success (refine hK _ ?_)); clear hK K)); refine hK _ ?_; clear hK K) | ((first | refine b9 fun K1 q6 => ?_ | refine b7 fun A B hA hB => ?_); simp only [S1, simprocAttr, L0, f1]; first | refine q6 _ ?_; clear q6 K1 | (refine hA ?_; clear hA hB A B) | (apply d4 E95; exact (U5 ht hn _); refine q6 _ ?_; clear q6 K1)) | refine b6 fun K hK => ?_ | ((first | apply b8 | apply b5 | apply d3); try simp only [NB, simprocAttr]))
    all_goals simp only [S1, simprocAttr, ENB, L0]
    all_goals simp_all [U8]
theorem lp {n : Nat} {t : Tm} (ht : Tm.Ok n t) (hn : n ≤ 200) (v : Int → Int) (hv : inV v = true → ∀ i, Num (v i)) (h : Heap) : d5 Tryz.prog gW 96 [aT t, aV v] h (fun r h' => r = .tup [.i (N8 t v).1, .i (N8 t v).2] ∧ h' = h) := by
  by_cases e : U8 t v 1 = 0
  · obtain ⟨g1, g2, g3⟩ := W4 e
    have hA := fun h => Y3 ht hn v 1 h
    rw [e] at hA
    refine c8 (rl := []) e9 Tryz.func96 rfl (rs := [.tmp 4, .tmp 5]) rfl Tryz.ntmps96 (by simp) ?_
    repeat' (first | ((first | apply b8 | refine E8 ?_); (try simp only [NB])) | ((repeat ((fail_if_success (refine hK _ ?_)); clear hK K)); refine hK _ ?_; clear hK K) | ((first | refine b9 fun K1 q6 => ?_ | refine b7 fun A B hA hB => ?_); simp only [S1, simprocAttr, L0]; first | refine q6 _ ?_; clear q6 K1 | (refine hB ?_; clear hA hB A B) | (apply d4 xV; exact (hA _); refine q6 _ ?_; clear q6 K1) | (apply d4 eA; exact (pZ (hv g2) g1 _); refine q6 _ ?_; clear q6 K1)) | (refine O0 (v := ?_) rfl rfl (by decide) (fun L K1 q6 => ?_) ?_; rotate_left; (focus (simp only [S1, simprocAttr, L0]; (exact q6 _ _ _)))) | refine b6 fun K hK => ?_ | ((first | apply b5 | refine E7 (by kernel_rfl) ?_ | apply c9 | apply d3); try simp only [NB, simprocAttr]))
    all_goals simp only [S1, simprocAttr, ENB, L0]
    all_goals simp [N8, e]
  · have f1 : (U8 t v 1 != 0) = true := by simp [e]
    refine c8 (rl := []) e9 Tryz.func96 rfl (rs := [.tmp 4, .tmp 5]) rfl Tryz.ntmps96 (by simp) ?_
    repeat' (first | ((repeat ((fail_if_success (refine hK _ ?_)); clear hK K)); refine hK _ ?_; clear hK K) | ((first | refine b9 fun K1 q6 => ?_ | refine b7 fun A B hA hB => ?_); simp only [S1, simprocAttr, L0, f1]; first | refine q6 _ ?_; clear q6 K1 | (refine hA ?_; clear hA hB A B) | (apply d4 xV; exact (Y3 ht hn v 1 _); refine q6 _ ?_; clear q6 K1)) | refine b6 fun K hK => ?_ | ((first | apply b8 | apply b5 | apply d3); try simp only [NB, simprocAttr]))
    all_goals simp only [S1, simprocAttr, ENB, L0]
    all_goals simp [N8, e]
theorem nX {n : Nat} {t : Tm} (ht : Tm.Ok n t) (hn : n ≤ 200) (v : Int → Int) (hv : inV v = true → ∀ i, Num (v i)) (h : Heap) : d5 Tryz.prog gW 131 [aT t, aV v] h (fun r h' => r = .tup [.b (P1 t v).1, .i (P1 t v).2] ∧ h' = h) := by
  by_cases e : U8 t v 2 = 0
  · obtain ⟨g1, g2, g3⟩ := W4 e
    have hA := fun h => Y3 ht hn v 2 h
    rw [e] at hA
    refine c8 (rl := []) e9 Tryz.func131 rfl (rs := [.tmp 4, .tmp 5]) rfl Tryz.ntmps131 (by simp) ?_
    repeat' (first | ((first | apply b8 | refine E8 ?_); (try simp only [NB])) | ((repeat ((fail_if_success (refine hK _ ?_)); clear hK K)); refine hK _ ?_; clear hK K) | ((first | refine b9 fun K1 q6 => ?_ | refine b7 fun A B hA hB => ?_); simp only [S1, simprocAttr, L0]; first | refine q6 _ ?_; clear q6 K1 | (refine hB ?_; clear hA hB A B) | (apply d4 xV; exact (hA _); refine q6 _ ?_; clear q6 K1) | (apply d4 eA; exact (pZ (hv g2) g1 _); refine q6 _ ?_; clear q6 K1)) | (refine O0 (v := ?_) rfl rfl (by decide) (fun L K1 q6 => ?_) ?_; rotate_left; (focus (simp only [S1, simprocAttr, L0]; (exact q6 _ _ _)))) | refine b6 fun K hK => ?_ | ((first | apply b5 | refine E7 (by kernel_rfl) ?_ | apply c9 | apply d3); try simp only [NB, simprocAttr]))
    all_goals simp only [S1, simprocAttr, ENB, L0]
    all_goals simp [P1, e]
  · have f1 : (U8 t v 2 != 0) = true := by simp [e]
    refine c8 (rl := []) e9 Tryz.func131 rfl (rs := [.tmp 4, .tmp 5]) rfl Tryz.ntmps131 (by simp) ?_
    repeat' (first | ((repeat ((fail_if_success (refine hK _ ?_)); clear hK K)); refine hK _ ?_; clear hK K) | ((first | refine b9 fun K1 q6 => ?_ | refine b7 fun A B hA hB => ?_); simp only [S1, simprocAttr, L0, f1]; first | refine q6 _ ?_; clear q6 K1 | (refine hA ?_; clear hA hB A B) | (apply d4 xV; exact (Y3 ht hn v 2 _); refine q6 _ ?_; clear q6 K1)) | refine b6 fun K hK => ?_ | ((first | apply b8 | apply b5 | apply d3); try simp only [NB, simprocAttr]))
    all_goals simp only [S1, simprocAttr, ENB, L0]
    all_goals simp [P1, e]
end
section
def ak := And.intro T2 (And.intro T3 (And.intro T4 (And.intro T23 (And.intro T25 (And.intro T41 (And.intro T58 (And.intro T73 (And.intro T75 (And.intro T80 Aq)))))))))
attribute [local irreducible] awp n9 k3 l8 o6 n5
def chF (fl : List Fl) (v : Int → Int) : List Int → Option (Int × Int)
  | [] => none
  | f :: r => match fl[f.toNat]? with
    | none => chF fl v r
    | some x => if x.els = true then chF fl v r else if (P1 x.cond v).2 ≠ 0 then some (0, (P1 x.cond v).2) else if (P1 x.cond v).1 = true then some (f, 0) else chF fl v r
def chE (fl : List Fl) : List Int → Int
  | [] => 0
  | f :: r => if B1 fl f = true then f else chE fl r
def r8 (fl : List Fl) (v : Int → Int) (outs : List Int) : Int × Int := (chF fl v outs).getD (chE fl outs, 0)
theorem qc {fl : List Fl} {v : Int → Int} {outs : List Int} {i : Nat} {f : Int} (h : outs[i]? = some f) : chF fl v (outs.drop i) = match fl[f.toNat]? with
    | none => chF fl v (outs.drop (i + 1))
    | some x => if x.els = true then chF fl v (outs.drop (i + 1)) else if (P1 x.cond v).2 ≠ 0 then some (0, (P1 x.cond v).2) else if (P1 x.cond v).1 = true then some (f, 0) else chF fl v (outs.drop (i + 1)) := by
  obtain ⟨hi, e⟩ := List.getElem?_eq_some_iff.mp h
  rw [List.drop_eq_getElem_cons hi, e]; rfl
theorem wD {fl : List Fl} {outs : List Int} {i : Nat} {f : Int} (h : outs[i]? = some f) : chE fl (outs.drop i) = if B1 fl f = true then f else chE fl (outs.drop (i + 1)) := by
  obtain ⟨hi, e⟩ := List.getElem?_eq_some_iff.mp h
  rw [List.drop_eq_getElem_cons hi, e]; rfl
theorem nY (ns : List Nd) (fl : List Fl) (ok : NetOk ns fl) (outs : List Int) (hlen : outs.length ≤ 100) (ho : ∀ x ∈ outs, ∃ i : Nat, x = (i : Int) ∧ i < fl.length) (v : Int → Int) (hv : inV v = true → ∀ i, Num (v i)) (h : Heap) :
    d5 Tryz.prog gW 98 [G7 ns fl, aI outs, aV v] h (fun r h' => r = .agg [.i (r8 fl v outs).1, .i (r8 fl v outs).2] ∧ h' = h) := by
  obtain ⟨m2, hm2, ht2⟩ := ok.tf
  refine c8 (rl := []) e9 Tryz.func98 rfl (rs := [.cell 6 165]) rfl Tryz.ntmps98 (by simp) ?_
  repeat' (first | ((repeat ((fail_if_success (refine hK _ ?_)); clear hK K)); refine hK _ ?_; clear hK K) | (refine b9 fun K1 q6 => ?_; simp only [S1, simprocAttr, ak, List.length_map]; refine q6 _ ?_; clear q6 K1) | refine b6 fun K hK => ?_ | ((first | apply b8 | apply b5 | apply c7); try simp only [NB, simprocAttr]))
  refine p8 outs.length 60 (fun i => [(15, .i i), (14, .i outs.length), (13, aI outs), (6, .ptr (h.length + 2) 0 0), (5, .ptr (h.length + 1) 0 0), (3, .ptr h.length 0 0), (1, aI outs)])
    (fun i => [some ⟨0, x8 ns fl⟩, some ⟨0, [.i (v 0), .i (v 1), .i (v 2), .i (v 3)]⟩, some ⟨0, [.i 0, .i 0]⟩]) (fun i => chF fl v outs = chF fl v (outs.drop i)) ?_ rfl fun i hi hp K hK => ?_
  · (refine ⟨rfl, (by first | exact ⟨_, rfl⟩ | exact ⟨[], by simp⟩), ?_, ?_⟩ <;> simp only [S1, simprocAttr, KNB] <;> (try and_intros) <;> (try assumption) <;> (try trivial) <;> (try omega))
  rcases Nat.lt_or_ge i outs.length with hlt | hge
  · obtain ⟨f, hf⟩ : ∃ f, outs[i]? = some f := ⟨_, List.getElem?_eq_getElem hlt⟩
    obtain ⟨j, rfl, hj⟩ := ho f (List.mem_of_getElem? hf)
    obtain ⟨x, hx⟩ : ∃ x, fl[j]? = some x := ⟨_, List.getElem?_eq_getElem hj⟩
    have hx' := U6 hx
    have j0 : (0 : Int) ≤ (j : Int) := by omega
    have ht := fun h => nX (ht2 x (List.mem_of_getElem? hx)) hm2 v hv h
    rw [qc hf, Int.toNat_natCast, hx] at hp
    simp only at hp
    cases he : x.els with
    | true =>
      rw [he, if_pos rfl] at hp
      repeat' (first | ((repeat ((fail_if_success (refine hK _ ?_)); clear hK K)); refine hK _ ?_; clear hK K) | ((first | refine b9 fun K1 q6 => ?_ | refine b7 fun A B hA hB => ?_); simp only [S1, simprocAttr, ak, F5 hf, O1 hlt, H3 (by omega) hlt, j0, hx', eF, he, List.length_map]; first | refine q6 _ ?_; clear q6 K1 | (refine hA ?_; clear hA hB A B)) | refine b6 fun K hK => ?_ | ((first | apply b8 | apply b5 | apply c7 | apply f9 | apply c9); try simp only [NB, simprocAttr]))
      all_goals exact ⟨hlt, hp, by (refine ⟨rfl, (by first | exact ⟨_, rfl⟩ | exact ⟨[], by simp⟩), ?_, ?_⟩ <;> simp only [S1, simprocAttr, KNB] <;> (try and_intros) <;> (try assumption) <;> (try trivial) <;> (try omega))⟩
    | false =>
      rw [he, if_neg (by decide)] at hp
      by_cases h0 : (P1 x.cond v).2 = 0
      · have h0' : ((P1 x.cond v).2 != 0) = false := by simp [h0]
        rw [if_neg (by simpa using h0)] at hp
        cases hb : (P1 x.cond v).1 with
        | true =>
          rw [hb, if_pos rfl] at hp
          have ec : r8 fl v outs = ((j : Int), 0) := by unfold r8; rw [hp]; rfl
          rw [ec]
          repeat' (first | ((repeat ((fail_if_success (refine hK _ ?_)); clear hK K)); refine hK _ ?_; clear hK K) | ((first | refine b9 fun K1 q6 => ?_ | refine k4 fun K1 q6 => ?_ | refine b7 fun A B hA hB => ?_); simp only [S1, simprocAttr, ak, F5 hf, O1 hlt, H3 (by omega) hlt, j0, hx', eF, he, h0', hb, List.length_map]; first | refine q6 _ ?_; clear q6 K1 | ((first | refine hA ?_ | refine hB ?_); clear hA hB A B) | (apply j5 zw; exact (ht _); refine q6 _ ?_; clear q6 K1)) | refine b6 fun K hK => ?_ | ((first | apply b8 | apply i8 | apply b5 | refine i9 ?_ | apply c7 | apply c9 | apply d3); try simp only [NB, simprocAttr]))
          all_goals simp only [S1, simprocAttr, ENB, ak]
        | false =>
          rw [hb, if_neg (by decide)] at hp
          repeat' (first | ((repeat ((fail_if_success (refine hK _ ?_)); clear hK K)); refine hK _ ?_; clear hK K) | ((first | refine b9 fun K1 q6 => ?_ | refine k4 fun K1 q6 => ?_ | refine b7 fun A B hA hB => ?_); simp only [S1, simprocAttr, ak, F5 hf, O1 hlt, H3 (by omega) hlt, j0, hx', eF, he, h0', hb, List.length_map]; first | refine q6 _ ?_; clear q6 K1 | ((first | refine hA ?_ | refine hB ?_); clear hA hB A B) | (apply j5 zw; exact (ht _); refine q6 _ ?_; clear q6 K1)) | refine b6 fun K hK => ?_ | ((first | apply b8 | apply i8 | apply b5 | refine i9 ?_ | apply c7 | apply c9); try simp only [NB, simprocAttr]))
          all_goals exact ⟨hlt, hp, by (refine ⟨rfl, (by first | exact ⟨_, rfl⟩ | exact ⟨[], by simp⟩), ?_, ?_⟩ <;> simp only [S1, simprocAttr, KNB] <;> (try and_intros) <;> (try assumption) <;> (try trivial) <;> (try omega))⟩
      · have h0' : ((P1 x.cond v).2 != 0) = true := by simp [h0]
        rw [if_pos h0] at hp
        have ec : r8 fl v outs = (0, (P1 x.cond v).2) := by unfold r8; rw [hp]; rfl
        rw [ec]
        repeat' (first | ((repeat ((fail_if_success (refine hK _ ?_)); clear hK K)); refine hK _ ?_; clear hK K) | ((first | refine b9 fun K1 q6 => ?_ | refine k4 fun K1 q6 => ?_ | refine b7 fun A B hA hB => ?_); simp only [S1, simprocAttr, ak, F5 hf, O1 hlt, H3 (by omega) hlt, j0, hx', eF, he, h0', List.length_map]; first | refine q6 _ ?_; clear q6 K1 | ((first | refine hA ?_ | refine hB ?_); clear hA hB A B) | (apply j5 zw; exact (ht _); refine q6 _ ?_; clear q6 K1)) | refine b6 fun K hK => ?_ | ((first | apply b8 | apply i8 | apply b5 | refine i9 ?_ | apply c7 | apply c9 | apply d3); try simp only [NB, simprocAttr]))
        all_goals simp only [S1, simprocAttr, ENB, ak]
  obtain rfl : i = outs.length := by omega
  rw [List.drop_length] at hp
  have ec : r8 fl v outs = (chE fl outs, 0) := by unfold r8; rw [hp]; rfl
  repeat' (first | ((repeat ((fail_if_success (refine hK _ ?_)); clear hK K)); refine hK _ ?_; clear hK K) | ((first | refine b9 fun K1 q6 => ?_ | refine b7 fun A B hA hB => ?_); simp only [S1, simprocAttr, ak, I1, List.length_map]; first | refine q6 _ ?_; clear q6 K1 | (refine hB ?_; clear hA hB A B)) | refine b6 fun K hK => ?_ | ((first | apply b8 | apply b5 | apply c7 | apply f9); try simp only [NB, simprocAttr]))
  refine p8 outs.length 60 (fun i => [(46, .i i), (45, .i outs.length), (44, aI outs), (6, .ptr (h.length + 2) 0 0), (3, .ptr h.length 0 0)])
    (fun i => [some ⟨0, x8 ns fl⟩, some ⟨0, [.i (v 0), .i (v 1), .i (v 2), .i (v 3)]⟩, some ⟨0, [.i 0, .i 0]⟩]) (fun i => chE fl outs = chE fl (outs.drop i)) ?_ rfl fun i hi hp K hK => ?_
  · (refine ⟨rfl, (by first | exact ⟨_, rfl⟩ | exact ⟨[], by simp⟩), ?_, ?_⟩ <;> simp only [S1, simprocAttr, KNB] <;> (try and_intros) <;> (try assumption) <;> (try trivial) <;> (try omega))
  rcases Nat.lt_or_ge i outs.length with hlt | hge
  · obtain ⟨f, hf⟩ : ∃ f, outs[i]? = some f := ⟨_, List.getElem?_eq_getElem hlt⟩
    obtain ⟨j, rfl, hj⟩ := ho f (List.mem_of_getElem? hf)
    obtain ⟨x, hx⟩ : ∃ x, fl[j]? = some x := ⟨_, List.getElem?_eq_getElem hj⟩
    have hx' := U6 hx
    have j0 : (0 : Int) ≤ (j : Int) := by omega
    have hee : B1 fl (j : Int) = x.els := by unfold B1; rw [Int.toNat_natCast, hx]
    rw [wD hf, hee] at hp
    cases he : x.els with
    | true =>
      rw [he, if_pos rfl] at hp
      repeat' (first | ((repeat ((fail_if_success (refine hK _ ?_)); clear hK K)); refine hK _ ?_; clear hK K) | ((first | refine b9 fun K1 q6 => ?_ | refine b7 fun A B hA hB => ?_); simp only [S1, simprocAttr, ak, F5 hf, O1 hlt, H3 (by omega) hlt, j0, hx', eF, he, List.length_map]; first | refine q6 _ ?_; clear q6 K1 | (refine hA ?_; clear hA hB A B)) | refine b6 fun K hK => ?_ | ((first | apply b8 | apply b5 | apply c7 | apply c9 | apply d3); try simp only [NB, simprocAttr]))
      all_goals simp only [S1, simprocAttr, ENB, ak]
      all_goals rw [ec, hp]
    | false =>
      rw [he, if_neg (by decide)] at hp
      repeat' (first | ((repeat ((fail_if_success (refine hK _ ?_)); clear hK K)); refine hK _ ?_; clear hK K) | ((first | refine b9 fun K1 q6 => ?_ | refine b7 fun A B hA hB => ?_); simp only [S1, simprocAttr, ak, F5 hf, O1 hlt, H3 (by omega) hlt, j0, hx', eF, he, List.length_map]; first | refine q6 _ ?_; clear q6 K1 | ((first | refine hA ?_ | refine hB ?_); clear hA hB A B)) | refine b6 fun K hK => ?_ | ((first | apply b8 | apply b5 | apply c7 | apply c9); try simp only [NB, simprocAttr]))
      all_goals exact ⟨hlt, hp, by (refine ⟨rfl, (by first | exact ⟨_, rfl⟩ | exact ⟨[], by simp⟩), ?_, ?_⟩ <;> simp only [S1, simprocAttr, KNB] <;> (try and_intros) <;> (try assumption) <;> (try trivial) <;> (try omega))⟩
  obtain rfl : i = outs.length := by omega
  rw [List.drop_length] at hp
  repeat' (first | ((repeat ((fail_if_success (refine hK _ ?_)); clear hK K)); refine hK _ ?_; clear hK K) | ((first | refine b9 fun K1 q6 => ?_ | refine b7 fun A B hA hB => ?_); simp only [S1, simprocAttr, ak, I1]; first | refine q6 _ ?_; clear q6 K1 | (refine hB ?_; clear hA hB A B)) | refine b6 fun K hK => ?_ | ((first | apply b8 | apply b5 | apply f9 | apply d3); try simp only [NB, simprocAttr]))
  all_goals simp only [S1, simprocAttr, ENB, ak]
  all_goals rw [ec, hp]
  all_goals rfl
end
section
def cZ := And.intro T2 (And.intro T3 (And.intro T4 (And.intro T25 (And.intro T28 (And.intro T41 (And.intro T57 (And.intro T58 (And.intro T60 (And.intro T62 (And.intro T65 (And.intro rm (And.intro rn Aq))))))))))))
attribute [local irreducible] awp n9 k3 l8 o6 n5
theorem uC {S T : List Int} {f : Int} (h : T7 S f = some T) : T.length = S.length := by
  unfold T7 at h
  split at h
  · cases h
  · cases h; simp
theorem uD {S T : List Int} {f : Int} (h : W3 S f = some T) : T.length = S.length := by
  unfold W3 at h
  split at h
  · cases h
  · cases h; simp
theorem kf {step : List Int → Int → Option (List Int)} (hs : ∀ S T f, step S f = some T → T.length = S.length) : ∀ {l S T : List Int}, S7 step l S = some T → T.length = S.length
  | [], S, T, h => by cases h; rfl
  | f :: r, S, T, h => by
    unfold S7 at h
    rw [List.foldlM_cons] at h
    obtain ⟨U, h1, h2⟩ := Option.bind_eq_some_iff.mp h
    rw [kf hs (l := r) (S := U) h2, hs _ _ _ h1]
theorem y9 {S : List Int} {x : Sp} {fr to : List Int} (hS : S.length = 49) (hx : x.to.length = 49) : ∀ y ∈ m8 S x fr to, y.to.length = 49 := by
  intro y hy
  unfold m8 at hy
  split at hy
  · cases hy
  · rename_i T hT
    split at hy
    · cases hy
    · rename_i U hU
      rw [List.mem_singleton.mp hy]
      simp only
      rw [kf (fun _ _ _ => uD) hU, kf (fun _ _ _ => uC) hT]
      simp [B2, hS, hx]
theorem GmOk.app {h : Heap} {b lb : Nat} {S : List Int} {l l2 : List Sp} (ok : GmOk h b lb S l) (h2 : ∀ y ∈ l2, y.to.length = 49) (hf : l.length + l2.length ≤ 1000000) : GmOk h b lb S (l ++ l2) :=
  ⟨ok.hb, ok.hl, ok.ne, ok.held, fun x hx => (List.mem_append.mp hx).elim (ok.len x) (h2 x), by rw [List.length_append]; exact hf⟩
def vS (S : List Int) : Int → Int := fun i => if i = 0 then S.getD 40 0 else if i = 1 then S.getD 41 0 else if i = 2 then S.getD 42 0 else S.getD 43 0
theorem yu (S : List Int) : vS S 0 = S.getD 40 0 := rfl
theorem yv (S : List Int) : vS S 1 = S.getD 41 0 := rfl
theorem yw (S : List Int) : vS S 2 = S.getD 42 0 := rfl
theorem yx (S : List Int) : vS S 3 = S.getD 43 0 := rfl
theorem nZ {S : List Int} (h : inV (vS S) = true) : ∀ i, Num (vS S i) := by
  unfold inV at h
  rw [yu, yv, yw, yx] at h
  simp only [inM, Bool.and_eq_true, decide_eq_true_eq] at h
  intro i
  unfold vS Num
  split
  · exact ⟨by omega, by omega⟩
  · split
    · exact ⟨by omega, by omega⟩
    · split <;> exact ⟨by omega, by omega⟩
theorem qd {S : List Int} (hS : S.length = 49) : ((S.drop 40).take 4).map AV.i = [.p (.int .i64 (vS S 0)), .p (.int .i64 (vS S 1)), .p (.int .i64 (vS S 2)), .p (.int .i64 (vS S 3))] := by
  rw [yu, yv, yw, yx]
  have e : ∀ k, k < 49 → S[k]? = some (S.getD k 0) := fun k hk => by rw [List.getD_eq_getElem?_getD, List.getElem?_eq_getElem (by omega)]; rfl
  apply List.ext_getElem?
  intro i
  rw [List.getElem?_map, List.getElem?_take]
  match i with
  | 0 => rw [if_pos (by omega), List.getElem?_drop, e 40 (by omega)]; rfl
  | 1 => rw [if_pos (by omega), List.getElem?_drop, e 41 (by omega)]; rfl
  | 2 => rw [if_pos (by omega), List.getElem?_drop, e 42 (by omega)]; rfl
  | 3 => rw [if_pos (by omega), List.getElem?_drop, e 43 (by omega)]; rfl
  | k + 4 => rw [if_neg (by omega)]; rfl
theorem F2 {ns : List Nd} {fl : List Fl} {S : List Int} {lb n : Nat} (hS : S.length = 49) : ((gmC ns fl S lb n).drop 42).take 4 = [.p (.int .i64 (vS S 0)), .p (.int .i64 (vS S 1)), .p (.int .i64 (vS S 2)), .p (.int .i64 (vS S 3))] := by
  have := jS (ns := ns) (fl := fl) (lb := lb) (n := n) (S := S) 40 4 (by omega)
  rw [show 2 + 40 = 42 by rfl] at this
  rw [this, qd hS]
def O6 (fl : List Fl) (S : List Int) (i : Int) (ins outs : List Int) : List Sp :=
  if outs.length = 1 then ins.flatMap fun f => m8 S ⟨i, f, 0, 0, 0, S⟩ [f] outs
  else if tk S (ins.headD 0) = 0 then []
  else if (r8 fl (vS S) outs).2 ≠ 0 then [v7 S i (r8 fl (vS S) outs).2]
  else m8 S ⟨i, (r8 fl (vS S) outs).1, 0, 0, 0, S⟩ ins [(r8 fl (vS S) outs).1]
theorem oa {fl : List Fl} {v : Int → Int} : ∀ {outs : List Int} {q : Int × Int}, chF fl v outs = some q → q.2 = 0 → q.1 ∈ outs
  | [], q, h, _ => by cases h
  | f :: r, q, h, h0 => by
    unfold chF at h
    split at h
    · exact List.mem_cons_of_mem _ (oa h h0)
    · split at h
      · exact List.mem_cons_of_mem _ (oa h h0)
      · split at h
        · cases h; contradiction
        · split at h
          · cases h; simp
          · exact List.mem_cons_of_mem _ (oa h h0)
theorem sa {fl : List Fl} : ∀ {outs : List Int}, (∃ f ∈ outs, B1 fl f = true) → chE fl outs ∈ outs
  | [], h => by obtain ⟨f, hf, _⟩ := h; cases hf
  | f :: r, h => by
    unfold chE
    split
    · simp
    · rename_i hn
      obtain ⟨g, hg, he⟩ := h
      rcases List.mem_cons.mp hg with rfl | hg
      · exact absurd he hn
      · exact List.mem_cons_of_mem _ (sa ⟨g, hg, he⟩)
theorem kg {fl : List Fl} {v : Int → Int} {outs : List Int} (he : ∃ f ∈ outs, B1 fl f = true) (h0 : (r8 fl v outs).2 = 0) : (r8 fl v outs).1 ∈ outs := by
  unfold r8 at *
  cases hq : chF fl v outs with
  | none => rw [hq] at h0; exact sa he
  | some q => rw [hq] at h0; exact oa hq h0
theorem uE {h : Heap} {b lb : Nat} {ns : List Nd} {fl : List Fl} (nk : NetOk ns fl) {S : List Int} {l : List Sp} (ok : GmOk h b lb S l) (few : l.length ≤ 900000) (hf : fl.length ≤ 40) (i : Int) (ins outs : List Int) (hi : InF ins) (ho : InF outs) (hof : ∀ x ∈ outs, ∃ i : Nat, x = (i : Int) ∧ i < fl.length)
    (hne0 : ins ≠ []) (hels : outs.length ≠ 1 → ∃ f ∈ outs, B1 fl f = true) :
    d5 Tryz.prog gW 70 [.ptr b 0 0, .i i, aI ins, aI outs] (l5 h b lb ns fl S l) (fun r h' => r = .undef ∧ h' = l5 h b lb ns fl S (l ++ O6 fl S i ins outs)) := by
  have hb := ok.hb
  have hl := ok.hl
  have hne := ok.ne
  have hS := ok.held.1
  have gl := w8 (ns := ns) (fl := fl) (lb := lb) (n := l.length) hS
  have t49 := x6 (ns := ns) (fl := fl) (lb := lb) (n := l.length) hS
  have htl := D3 hS
  have hin0 : (0 : Int) ≤ 0 := Int.le_refl 0
  by_cases h1 : outs.length = 1
  · have h1' : ((outs.length : Int) == 1) = true := by simp [h1]
    let acc := fun j => (ins.take j).flatMap fun f => m8 S ⟨i, f, 0, 0, 0, S⟩ [f] outs
    have hal : ∀ j, (acc j).length ≤ j := by
      intro j
      induction j with
      | zero => simp [acc]
      | succ j ih =>
        rcases Nat.lt_or_ge j ins.length with hj | hj
        · have e : ins.take (j + 1) = ins.take j ++ [ins[j]] := by rw [List.take_add_one, List.getElem?_eq_getElem hj]; rfl
          simp only [acc] at ih ⊢
          rw [e, List.flatMap_append, List.length_append]
          have := B6 S ⟨i, ins[j], 0, 0, 0, S⟩ [ins[j]] outs
          simp only [List.flatMap_cons, List.flatMap_nil, List.append_nil]
          omega
        · have e : ins.take (j + 1) = ins.take j := by rw [List.take_of_length_le (by omega), List.take_of_length_le hj]
          simp only [acc] at ih ⊢
          rw [e]; omega
    have hto : ∀ j, ∀ y ∈ acc j, y.to.length = 49 := by
      intro j y hy
      obtain ⟨f, _, hy⟩ := List.mem_flatMap.mp hy
      exact y9 hS hS y hy
    have eg : O6 fl S i ins outs = acc ins.length := by unfold O6; rw [if_pos h1]; simp only [acc, List.take_length]
    rw [eg]
    have hil := hi.1
    refine i3 (rl := []) e9 Tryz.func70 rfl (rs := []) rfl Tryz.ntmps70 (by simp) ?_
    repeat' (first | ((repeat ((fail_if_success (refine hK _ ?_)); clear hK K)); refine hK _ ?_; clear hK K) | ((first | refine b9 fun K1 q6 => ?_ | refine b7 fun A B hA hB => ?_); simp only [S1, simprocAttr, cZ, h1', PGB, r4 hb hne, l9 hl, m6 hb hne, j8 hl, gmB, spB, gl]; first | refine q6 _ ?_; clear q6 K1 | (refine hA ?_; clear hA hB A B)) | refine b6 fun K hK => ?_ | ((first | apply b8 | apply b5 | apply c7); try simp only [NB, simprocAttr]))
    refine R5 ins.length 76 (fun j => l5 h b lb ns fl S (l ++ acc j)) (fun j => [(16, .i j), (15, .i ins.length), (14, aI ins), (3, aI outs), (1, .i i), (0, .ptr b 0 0)]) (fun j => []) (fun j => True) (fun j => ⟨by rw [i5, i5], aK hl⟩) ?_ trivial fun j hj hp K hK => ?_
    · have e0 : acc 0 = [] := by simp [acc]
      simp only [e0, List.append_nil]
      refine ⟨rfl, ⟨[], by simp only [List.append_nil]⟩, ?_, trivial⟩
      simp only [S1, simprocAttr, KNB, i5] <;> (try and_intros) <;> (try assumption) <;> (try trivial) <;> (try omega)
    have okj : GmOk h b lb S (l ++ acc j) := ok.app (hto j) (by have := hal j; omega)
    have glj := w8 (ns := ns) (fl := fl) (lb := lb) (n := (l ++ acc j).length) hS
    have t49j := x6 (ns := ns) (fl := fl) (lb := lb) (n := (l ++ acc j).length) hS
    rcases Nat.lt_or_ge j ins.length with hlt | hge
    · obtain ⟨f, hfj⟩ : ∃ f, ins[j]? = some f := ⟨_, List.getElem?_eq_getElem hlt⟩
      have hf1 : InF [f] := ⟨by simp, fun g hg => by rw [List.mem_singleton.mp hg]; exact hi.2 f (List.mem_of_getElem? hfj)⟩
      have ea : acc (j + 1) = acc j ++ m8 S ⟨i, f, 0, 0, 0, S⟩ [f] outs := by
        simp only [acc]
        rw [List.take_add_one, hfj, List.flatMap_append]; simp
      have ea' : l ++ acc (j + 1) = (l ++ acc j) ++ m8 S ⟨i, f, 0, 0, 0, S⟩ [f] outs := by rw [ea, List.append_assoc]
      generalize hlj : l ++ acc j = lj at ea' okj glj t49j ⊢
      repeat' (first | ((repeat ((fail_if_success (refine hK _ ?_)); clear hK K)); refine hK _ ?_; clear hK K) | ((first | refine b9 fun K1 q6 => ?_ | refine b7 fun A B hA hB => ?_); simp only [S1, simprocAttr, cZ, F5 hfj, O1 hlt, H3 (by omega) hlt, t49j, glj, htl, hS, PGB, r4 hb hne, l9 hl, m6 hb hne, j8 hl, gmB, spB, gl]; first | refine q6 _ ?_; clear q6 K1 | (refine hA ?_; clear hA hB A B) | (apply d4 E50; exact (gb okj ⟨i, f, 0, 0, 0, S⟩ hS [f] outs hf1 ho); refine q6 _ ?_; clear q6 K1)) | refine b6 fun K hK => ?_ | ((first | apply b8 | apply b5 | apply c7 | apply c9); try simp only [NB, simprocAttr]))
      all_goals refine ⟨hlt, trivial, ?_⟩
      all_goals simp only [ea']
      all_goals refine ⟨rfl, ⟨[], by simp only [List.append_nil]⟩, ?_, trivial⟩
      all_goals simp only [S1, simprocAttr, KNB, i5] <;> (try and_intros) <;> (try assumption) <;> (try trivial) <;> (try omega)
    · obtain rfl : j = ins.length := by omega
      repeat' (first | ((repeat ((fail_if_success (refine hK _ ?_)); clear hK K)); refine hK _ ?_; clear hK K) | ((first | refine b9 fun K1 q6 => ?_ | refine b7 fun A B hA hB => ?_); simp only [S1, simprocAttr, cZ, I1]; first | refine q6 _ ?_; clear q6 K1 | (refine hB ?_; clear hA hB A B)) | refine b6 fun K hK => ?_ | ((first | apply b8 | apply b5 | apply f9 | apply d3); try simp only [NB, simprocAttr]))
      all_goals simp only [S1, simprocAttr, ENB, A0, y7, i5, m5, k8] <;> first | exact d6 hl | exact ⟨d6 hl, rfl⟩ | exact ⟨d6 hl, rfl, rfl⟩
  · have h1' : ((outs.length : Int) == 1) = false := by simp; omega
    obtain ⟨i0, hi0, hh⟩ : ∃ i0, ins[0]? = some i0 ∧ ins.headD 0 = i0 := by
      cases ins with
      | nil => exact absurd rfl hne0
      | cons a r => exact ⟨a, rfl, rfl⟩
    obtain ⟨f0, f40⟩ := hi.2 i0 (List.mem_of_getElem? hi0)
    obtain ⟨k, rfl⟩ := Int.eq_ofNat_of_zero_le f0
    have k40 : k < 40 := by omega
    obtain ⟨hv, v0, v3⟩ := ok.held.at k40
    have gk := W2 (ns := ns) (fl := fl) (lb := lb) (n := l.length) hv
    have gv := F2 (ns := ns) (fl := fl) (lb := lb) (n := l.length) hS
    by_cases hz : tk S (k : Int) = 0
    · have hz' : (tk S (k : Int) == 0) = true := by simp [hz]
      have eg : O6 fl S i ins outs = [] := by unfold O6; rw [if_neg h1, hh, if_pos hz]
      rw [eg, List.append_nil]
      refine i3 (rl := []) e9 Tryz.func70 rfl (rs := []) rfl Tryz.ntmps70 (by simp) ?_
      repeat' (first | ((repeat ((fail_if_success (refine hK _ ?_)); clear hK K)); refine hK _ ?_; clear hK K) | ((first | refine b9 fun K1 q6 => ?_ | refine k4 fun K1 q6 => ?_ | refine b7 fun A B hA hB => ?_); simp only [S1, simprocAttr, cZ, h1', f0, f40, gk, hz', F5 hi0, hin0, PGB, r4 hb hne, l9 hl, m6 hb hne, j8 hl, gmB, spB, gl]; first | refine q6 _ ?_; clear q6 K1 | ((first | refine hA ?_ | refine hB ?_); clear hA hB A B)) | refine b6 fun K hK => ?_ | ((first | apply b8 | apply i8 | apply b5 | refine i9 ?_ | apply c9 | apply d3); try simp only [NB, simprocAttr]))
      all_goals simp only [S1, simprocAttr, ENB, A0, y7, i5, m5, k8] <;> first | exact d6 hl | exact ⟨d6 hl, rfl⟩ | exact ⟨d6 hl, rfl, rfl⟩
    · have hz' : (tk S (k : Int) == 0) = false := by simp [hz]
      have ch := fun h => nY ns fl nk outs ho.1 hof (vS S) nZ h
      by_cases h2 : (r8 fl (vS S) outs).2 = 0
      · have h2' : ((r8 fl (vS S) outs).2 != 0) = false := by simp [h2]
        have hin := ho.2 _ (kg (hels h1) h2)
        have eg : O6 fl S i ins outs = m8 S ⟨i, (r8 fl (vS S) outs).1, 0, 0, 0, S⟩ ins [(r8 fl (vS S) outs).1] := by
          unfold O6; rw [if_neg h1, hh, if_neg hz, if_neg (by simpa using h2)]
        rw [eg]
        have hf1 : InF [(r8 fl (vS S) outs).1] := ⟨by simp, fun g hg => by rw [List.mem_singleton.mp hg]; exact hin⟩
        generalize (r8 fl (vS S) outs).1 = cf at *
        refine i3 (rl := []) e9 Tryz.func70 rfl (rs := []) rfl Tryz.ntmps70 (by simp) ?_
        repeat' (first | ((first | apply b8 | apply i8 | apply s4); (try simp only [NB])) | ((repeat ((fail_if_success (refine hK _ ?_)); clear hK K)); refine hK _ ?_; clear hK K) | ((first | refine b9 fun K1 q6 => ?_ | refine k4 fun K1 q6 => ?_ | refine v8 rfl rfl rfl fun K1 q6 => ?_ | refine b7 fun A B hA hB => ?_); simp only [S1, simprocAttr, cZ, h1', h2', f0, f40, gk, gv, t49, htl, hS, hz', m3, F5 hi0, hin0, PGB, r4 hb hne, l9 hl, m6 hb hne, j8 hl, gmB, spB, gl]; first | refine q6 _ ?_; clear q6 K1 | (refine hB ?_; clear hA hB A B) | (apply d4 E50; exact (dJ ok ⟨i, cf, 0, 0, 0, S⟩ hS ins [cf] hi hf1 _); refine q6 _ ?_; clear q6 K1)) | ((first | refine u6 (v := ?_) rfl rfl rfl rfl (by decide) (fun R1 K1 q6 => ?_) ?_ | refine y5 (v := ?_) rfl rfl rfl (by decide) (fun K1 q6 => ?_) ?_); rotate_left; (focus (simp only [S1, simprocAttr, cZ, h1', h2', f0, f40, gk, gv, t49, htl, hS, hz', m3, F5 hi0, hin0, PGB, r4 hb hne, l9 hl, m6 hb hne, j8 hl, gmB, spB, gl]; first | (exact q6 _ _ _) | (apply j5 E98; exact (ch _); exact q6 _ _ _)))) | (refine s5 rfl rfl rfl ?_) | ((refine C2 (z := ?_) 0 rfl rfl rfl rfl (by decide) rfl ?_ ?_); rotate_left; (focus (simp only [S1, simprocAttr, cZ, h1', h2', f0, f40, gk, gv, t49, htl, hS, hz', m3, F5 hi0, hin0, PGB, r4 hb hne, l9 hl, m6 hb hne, j8 hl, gmB, spB, gl, T0]; rfl))) | refine b6 fun K hK => ?_ | (refine o9 (es := []) [0, 1, 2, 3, 4, 5, 6, 7, 8, 9, 10, 11, 12] 1 (fs := []) rfl (by kernel_rfl) (by kernel_rfl) ?_) | (refine o9 (es := []) [0, 1, 2, 3, 4, 5, 6, 7, 8, 9, 10, 11, 12, 13] 0 (fs := []) rfl (by kernel_rfl) (by kernel_rfl) ?_) | ((first | apply b5 | refine i9 ?_ | apply c9); try simp only [NB, simprocAttr]))
        all_goals simp only [S1, simprocAttr, ENB, A0, y7, i5, m5, k8] <;> first | exact d6 hl | exact ⟨d6 hl, rfl⟩ | exact ⟨d6 hl, rfl, rfl⟩
      · have h2' : ((r8 fl (vS S) outs).2 != 0) = true := by simp [h2]
        have eg : O6 fl S i ins outs = [v7 S i (r8 fl (vS S) outs).2] := by
          unfold O6; rw [if_neg h1, hh, if_neg hz, if_pos h2]
        rw [eg]
        refine i3 (rl := []) e9 Tryz.func70 rfl (rs := []) rfl Tryz.ntmps70 (by simp) ?_
        repeat' (first | ((first | apply b8 | apply i8 | apply s4); (try simp only [NB])) | ((repeat ((fail_if_success (refine hK _ ?_)); clear hK K)); refine hK _ ?_; clear hK K) | ((first | refine b9 fun K1 q6 => ?_ | refine k4 fun K1 q6 => ?_ | refine v8 rfl rfl rfl fun K1 q6 => ?_ | refine b7 fun A B hA hB => ?_); simp only [S1, simprocAttr, cZ, h1', h2', f0, f40, gk, gv, t49, htl, hS, hz', m3, F5 hi0, hin0, PGB, r4 hb hne, l9 hl, m6 hb hne, j8 hl, gmB, spB, gl]; first | refine q6 _ ?_; clear q6 K1 | ((first | refine hA ?_ | refine hB ?_); clear hA hB A B) | (apply d4 E97; exact (pS ok i (r8 fl (vS S) outs).2 _); refine q6 _ ?_; clear q6 K1)) | ((first | refine u6 (v := ?_) rfl rfl rfl rfl (by decide) (fun R1 K1 q6 => ?_) ?_ | refine y5 (v := ?_) rfl rfl rfl (by decide) (fun K1 q6 => ?_) ?_); rotate_left; (focus (simp only [S1, simprocAttr, cZ, h1', h2', f0, f40, gk, gv, t49, htl, hS, hz', m3, F5 hi0, hin0, PGB, r4 hb hne, l9 hl, m6 hb hne, j8 hl, gmB, spB, gl]; first | (exact q6 _ _ _) | (apply j5 E98; exact (ch _); exact q6 _ _ _)))) | (refine s5 rfl rfl rfl ?_) | ((refine C2 (z := ?_) 0 rfl rfl rfl rfl (by decide) rfl ?_ ?_); rotate_left; (focus (simp only [S1, simprocAttr, cZ, h1', h2', f0, f40, gk, gv, t49, htl, hS, hz', m3, F5 hi0, hin0, PGB, r4 hb hne, l9 hl, m6 hb hne, j8 hl, gmB, spB, gl, T0]; rfl))) | refine b6 fun K hK => ?_ | (refine o9 (es := []) [0, 1, 2, 3, 4, 5, 6, 7, 8, 9, 10, 11, 12] 1 (fs := []) rfl (by kernel_rfl) (by kernel_rfl) ?_) | ((first | apply b5 | refine i9 ?_ | apply c9 | apply d3); try simp only [NB, simprocAttr]))
        all_goals simp only [S1, simprocAttr, ENB, A0, y7, i5, m5, k8] <;> first | exact d6 hl | exact ⟨d6 hl, rfl⟩ | exact ⟨d6 hl, rfl, rfl⟩
end
section
def mi := And.intro T2 (And.intro T3 (And.intro T4 (And.intro T22 (And.intro T23 (And.intro T25 (And.intro T28 (And.intro T41 (And.intro T57 (And.intro T58 (And.intro T60 (And.intro T62 (And.intro T65 (And.intro T75 (And.intro T77 (And.intro T80 (And.intro rm rn))))))))))))))))
attribute [local irreducible] awp n9 k3 l8 o6 n5
def N5 (S : List Int) (k : Nd) (i : Int) (ins outs : List Int) : List Sp :=
  if tk S (ins.headD 0) = 0 then []
  else if k.kind = 3 then m8 S ⟨i, 0, 1, i, 0, S.set (40 + k.a.toNat) 0⟩ ins outs ++ m8 S ⟨i, 1, 1, i, 1, S.set (40 + k.a.toNat) 1⟩ ins outs
  else if (N8 k.term (vS S)).2 ≠ 0 then [v7 S i (N8 k.term (vS S)).2]
  else m8 S ⟨i, 0, 2, i, 0, S.set (40 + k.a.toNat) (N8 k.term (vS S)).1⟩ ins outs
def Sj (S : List Int) (a j : Nat) : List Int := if j = 0 then S else S.set (40 + a) ((j : Int) - 1)
theorem zX (S : List Int) (a j : Nat) (v : Int) : (Sj S a j).set (40 + a) v = S.set (40 + a) v := by
  unfold Sj; split
  · rfl
  · rw [List.set_set]
theorem zY {S : List Int} {a j : Nat} : (Sj S a j).length = S.length := by unfold Sj; split <;> simp
theorem yy (S : List Int) (a j : Nat) : Sj S a (j + 1) = S.set (40 + a) (j : Int) := by
  unfold Sj; rw [if_neg (by omega)]; congr 1; omega
theorem ki {h : Heap} {b lb : Nat} {ns : List Nd} {fl : List Fl} (nk : NetOk ns fl) {S : List Int} {l : List Sp} (ok : GmOk h b lb S l) (few : l.length ≤ 900000) (c : Nat) {k : Nd} (hc : ns[c]? = some k) (ha : 0 ≤ k.a ∧ k.a < 4) (ins outs : List Int) (hi : InF ins) (ho : InF outs) (hne0 : ins ≠ []) :
    d5 Tryz.prog gW 69 [.ptr b 0 0, .i c, aI ins, aI outs] (l5 h b lb ns fl S l) (fun r h' => r = .undef ∧ h' = l5 h b lb ns fl S (l ++ N5 S k c ins outs)) := by
  have hb := ok.hb
  have hl := ok.hl
  have hne := ok.ne
  have hS := ok.held.1
  have gl := w8 (ns := ns) (fl := fl) (lb := lb) (n := l.length) hS
  have t49 := x6 (ns := ns) (fl := fl) (lb := lb) (n := l.length) hS
  have hin0 : (0 : Int) ≤ 0 := Int.le_refl 0
  have c0 : (0 : Int) ≤ (c : Int) := by omega
  have hc' := I2 hc
  obtain ⟨a, hka⟩ := Int.eq_ofNat_of_zero_le ha.1
  have a4 : a < 4 := by omega
  have a0 : (0 : Int) ≤ (a : Int) := by omega
  have a4' : (a : Int) < 4 := by omega
  have h49 : 40 + a + 1 ≤ 49 := by omega
  obtain ⟨i0, hi0, hh⟩ : ∃ i0, ins[0]? = some i0 ∧ ins.headD 0 = i0 := by
    cases ins with
    | nil => exact absurd rfl hne0
    | cons a r => exact ⟨a, rfl, rfl⟩
  obtain ⟨f0, f40⟩ := hi.2 i0 (List.mem_of_getElem? hi0)
  obtain ⟨m, rfl⟩ := Int.eq_ofNat_of_zero_le f0
  have k40 : m < 40 := by omega
  obtain ⟨hv, v0, v3⟩ := ok.held.at k40
  have gk := W2 (ns := ns) (fl := fl) (lb := lb) (n := l.length) hv
  have gv := F2 (ns := ns) (fl := fl) (lb := lb) (n := l.length) hS
  have hov := l7 (cs := S.map AV.i) (n := 49) (by rw [List.length_map, hS])
  have hS2 : ∀ v, (S.set (40 + a) v).length = 49 := fun v => by rw [List.length_set, hS]
  have htk : ∀ v, ((S.set (40 + a) v).map AV.i).take 49 = (S.set (40 + a) v).map AV.i := fun v => List.take_of_length_le (by rw [List.length_map, hS2]; exact Nat.le_refl _)
  have htl : ∀ v, _ := fun v => D3 (hS2 v)
  have hset := fun v => I3 S (40 + a) v
  by_cases hz : tk S (m : Int) = 0
  · have hz' : (tk S (m : Int) == 0) = true := by simp [hz]
    have eg : N5 S k c ins outs = [] := by unfold N5; rw [hh, if_pos hz]
    rw [eg, List.append_nil]
    refine i3 (rl := []) e9 Tryz.func69 rfl (rs := []) rfl Tryz.ntmps69 (by simp) ?_
    repeat' (first | ((repeat ((fail_if_success (refine hK _ ?_)); clear hK K)); refine hK _ ?_; clear hK K) | ((first | refine b9 fun K1 q6 => ?_ | refine k4 fun K1 q6 => ?_ | refine b7 fun A B hA hB => ?_); simp only [S1, simprocAttr, mi, f0, f40, gk, hz', c0, hc', eN, j6, F5 hi0, hin0, PGB, r4 hb hne, l9 hl, m6 hb hne, j8 hl, gmB, spB, gl]; first | refine q6 _ ?_; clear q6 K1 | (refine hA ?_; clear hA hB A B)) | refine b6 fun K hK => ?_ | ((first | apply b8 | apply i8 | apply b5 | refine i9 ?_ | apply d3); try simp only [NB, simprocAttr]))
    all_goals simp only [S1, simprocAttr, ENB, A0, y7, i5, m5, k8] <;> first | exact d6 hl | exact ⟨d6 hl, rfl⟩ | exact ⟨d6 hl, rfl, rfl⟩
  have hz' : (tk S (m : Int) == 0) = false := by simp [hz]
  by_cases h3 : k.kind = 3
  · have h3' : (k.kind == 3) = true := by simp [h3]
    have eg : N5 S k c ins outs = m8 S ⟨c, 0, 1, c, 0, S.set (40 + a) 0⟩ ins outs ++ m8 S ⟨c, 1, 1, c, 1, S.set (40 + a) 1⟩ ins outs := by
      unfold N5; rw [hh, if_neg hz, if_pos h3, hka, Int.toNat_natCast]
    rw [eg]
    let acc : Nat → List Sp := fun j => (if j = 0 then [] else m8 S ⟨c, 0, 1, c, 0, S.set (40 + a) 0⟩ ins outs) ++ (if j ≤ 1 then [] else m8 S ⟨c, 1, 1, c, 1, S.set (40 + a) 1⟩ ins outs)
    have hto : ∀ j, ∀ y ∈ acc j, y.to.length = 49 := by
      intro j y hy
      simp only [acc] at hy
      rcases List.mem_append.mp hy with hy | hy
      · split at hy
        · cases hy
        · exact y9 hS (hS2 _) y hy
      · split at hy
        · cases hy
        · exact y9 hS (hS2 _) y hy
    have hal : ∀ j, (acc j).length ≤ 2 := by
      intro j
      simp only [acc, List.length_append]
      have h1 := B6 S ⟨c, 0, 1, c, 0, S.set (40 + a) 0⟩ ins outs
      have h2 := B6 S ⟨c, 1, 1, c, 1, S.set (40 + a) 1⟩ ins outs
      split <;> split <;> simp <;> omega
    have e2 : acc 2 = m8 S ⟨c, 0, 1, c, 0, S.set (40 + a) 0⟩ ins outs ++ m8 S ⟨c, 1, 1, c, 1, S.set (40 + a) 1⟩ ins outs := by simp only [acc]; rfl
    rw [← e2]
    refine i3 (rl := []) e9 Tryz.func69 rfl (rs := []) rfl Tryz.ntmps69 (by simp) ?_
    repeat' (first | ((repeat ((fail_if_success (refine hK _ ?_)); clear hK K)); refine hK _ ?_; clear hK K) | ((first | refine b9 fun K1 q6 => ?_ | refine k4 fun K1 q6 => ?_ | refine b7 fun A B hA hB => ?_); simp only [S1, simprocAttr, mi, f0, f40, gk, hz', h3', hka, c0, hc', eN, t49, hov, hS, j6, F5 hi0, hin0, PGB, r4 hb hne, l9 hl, m6 hb hne, j8 hl, gmB, spB, gl]; first | refine q6 _ ?_; clear q6 K1 | ((first | refine hA ?_ | refine hB ?_); clear hA hB A B)) | refine b6 fun K hK => ?_ | ((first | apply b8 | apply i8 | apply b5 | refine i9 ?_ | apply c7 | apply c9); try simp only [NB, simprocAttr]))
    refine R5 2 89 (fun j => l5 h b lb ns fl S (l ++ acc j)) (fun j => [(10, .i j), (9, .ptr (h.length + 1) 0 0), (8, .ptr h.length 0 0), (3, aI outs), (2, aI ins), (1, .i c), (0, .ptr b 0 0)])
      (fun j => [some ⟨0, [.i k.kind, .i a, .i k.term.op, .i k.term.n, .p (.sl (k.term.kids.map eT))]⟩, some ⟨0, (Sj S a j).map AV.i⟩]) (fun j => True) (fun j => ⟨by rw [i5, i5], aK hl⟩) ?_ trivial fun j hj hp K hK => ?_
    · have e0 : acc 0 = [] := by simp [acc]
      have s0 : Sj S a 0 = S := rfl
      simp only [e0, s0, List.append_nil]
      refine ⟨rfl, ⟨[], by simp only [List.append_nil]⟩, ?_, ?_⟩
      · simp only [S1, simprocAttr, KNB, i5] <;> (try and_intros) <;> (try assumption) <;> (try trivial) <;> (try omega)
      · exact ⟨⟨trivial, trivial, trivial, trivial, trivial, trivial⟩, g9 _ _, trivial⟩
    have okj : GmOk h b lb S (l ++ acc j) := ok.app (hto j) (by have := hal j; omega)
    have glj := w8 (ns := ns) (fl := fl) (lb := lb) (n := (l ++ acc j).length) hS
    rcases Nat.lt_or_ge j 2 with hlt | hge
    · have hlt' : decide ((j : Int) < 2) = true := decide_eq_true (by omega)
      have hnx : IntKind.i64.wrap ((j : Int) + 1) = ((j + 1 : Nat) : Int) := by rw [IntWalk.i64_in _ (by omega)]; omega
      have ea' : l ++ acc (j + 1) = (l ++ acc j) ++ m8 S ⟨c, j, 1, c, j, S.set (40 + a) j⟩ ins outs := by
        rw [List.append_assoc]
        congr 1
        match j, hlt with
        | 0, _ => simp [acc]
        | 1, _ => simp [acc]
      generalize hlj : l ++ acc j = lj at ea' okj glj ⊢
      have hsj := fun v => I3 (Sj S a j) (40 + a) v
      have hss := zX S a j
      have hsl : (Sj S a j).length = 49 := by rw [zY, hS]
      have hsn := yy S a j
      repeat' (first | ((repeat ((fail_if_success (refine hK _ ?_)); clear hK K)); refine hK _ ?_; clear hK K) | ((first | refine b9 fun K1 q6 => ?_ | refine b7 fun A B hA hB => ?_); simp only [S1, simprocAttr, mi, hlt', hnx, a0, a4', h49, hsj, hss, hsl, htk, htl, hS2, glj, PGB, r4 hb hne, l9 hl, m6 hb hne, j8 hl, gmB, spB, gl]; first | refine q6 _ ?_; clear q6 K1 | (refine hA ?_; clear hA hB A B) | (apply d4 E50; exact (dJ okj ⟨c, j, 1, c, j, S.set (40 + a) j⟩ (hS2 _) ins outs hi ho _); refine q6 _ ?_; clear q6 K1)) | refine b6 fun K hK => ?_ | ((first | apply b8 | apply b5 | apply c7 | apply c9); try simp only [NB, simprocAttr]))
      all_goals refine ⟨hlt, trivial, ?_⟩
      all_goals simp only [ea', hsn]
      all_goals refine ⟨rfl, ⟨[], by simp only [List.append_nil]⟩, ?_, ?_⟩
      · simp only [S1, simprocAttr, KNB, i5] <;> (try and_intros) <;> (try assumption) <;> (try trivial) <;> (try omega)
      · exact ⟨⟨trivial, trivial, trivial, trivial, trivial, trivial⟩, g9 _ _, trivial⟩
    · obtain rfl : j = 2 := by omega
      repeat' (first | ((repeat ((fail_if_success (refine hK _ ?_)); clear hK K)); refine hK _ ?_; clear hK K) | ((first | refine b9 fun K1 q6 => ?_ | refine b7 fun A B hA hB => ?_); simp only [S1, simprocAttr, mi, (show decide (((2 : Nat) : Int) < 2) = false by decide)]; first | refine q6 _ ?_; clear q6 K1 | (refine hB ?_; clear hA hB A B)) | refine b6 fun K hK => ?_ | ((first | apply b8 | apply b5 | apply f9 | apply d3); try simp only [NB, simprocAttr]))
      all_goals simp only [S1, simprocAttr, ENB, A0, y7, i5, m5, k8] <;> first | exact d6 hl | exact ⟨d6 hl, rfl⟩ | exact ⟨d6 hl, rfl, rfl⟩
  have h3' : (k.kind == 3) = false := by simp [h3]
  obtain ⟨mm, hmm, ht⟩ := nk.tn
  have ch := fun h => lp (ht k (List.mem_of_getElem? hc)) hmm (vS S) nZ h
  by_cases h2 : (N8 k.term (vS S)).2 = 0
  · have h2' : ((N8 k.term (vS S)).2 != 0) = false := by simp [h2]
    have eg : N5 S k c ins outs = m8 S ⟨c, 0, 2, c, 0, S.set (40 + a) (N8 k.term (vS S)).1⟩ ins outs := by
      unfold N5; rw [hh, if_neg hz, if_neg h3, if_neg (by simpa using h2), hka, Int.toNat_natCast]
    rw [eg]
    generalize (N8 k.term (vS S)).1 = w at *
    refine i3 (rl := []) e9 Tryz.func69 rfl (rs := []) rfl Tryz.ntmps69 (by simp) ?_
    repeat' (first | ((repeat ((fail_if_success (refine hK _ ?_)); clear hK K)); refine hK _ ?_; clear hK K) | ((first | refine b9 fun K1 q6 => ?_ | refine k4 fun K1 q6 => ?_ | refine b7 fun A B hA hB => ?_); simp only [S1, simprocAttr, mi, f0, f40, gk, gv, hz', h3', h2', hka, a0, a4', h49, c0, hc', eN, t49, hov, hset, htk, htl, hS, hS2, j6, F5 hi0, hin0, PGB, r4 hb hne, l9 hl, m6 hb hne, j8 hl, gmB, spB, gl]; first | refine q6 _ ?_; clear q6 K1 | (refine hB ?_; clear hA hB A B) | (apply j5 E96; exact (ch _); refine q6 _ ?_; clear q6 K1) | (apply d4 E50; exact (dJ ok ⟨c, 0, 2, c, 0, S.set (40 + a) w⟩ (hS2 _) ins outs hi ho _); refine q6 _ ?_; clear q6 K1)) | refine b6 fun K hK => ?_ | ((first | apply b8 | apply i8 | apply b5 | refine i9 ?_ | apply c9); try simp only [NB, simprocAttr]))
    all_goals simp only [S1, simprocAttr, ENB, A0, y7, i5, m5, k8] <;> first | exact d6 hl | exact ⟨d6 hl, rfl⟩ | exact ⟨d6 hl, rfl, rfl⟩
  · have h2' : ((N8 k.term (vS S)).2 != 0) = true := by simp [h2]
    have eg : N5 S k c ins outs = [v7 S c (N8 k.term (vS S)).2] := by
      unfold N5; rw [hh, if_neg hz, if_neg h3, if_pos h2]
    rw [eg]
    refine i3 (rl := []) e9 Tryz.func69 rfl (rs := []) rfl Tryz.ntmps69 (by simp) ?_
    repeat' (first | ((repeat ((fail_if_success (refine hK _ ?_)); clear hK K)); refine hK _ ?_; clear hK K) | ((first | refine b9 fun K1 q6 => ?_ | refine k4 fun K1 q6 => ?_ | refine b7 fun A B hA hB => ?_); simp only [S1, simprocAttr, mi, f0, f40, gk, gv, hz', h3', h2', hka, c0, hc', eN, t49, hov, hS, j6, F5 hi0, hin0, PGB, r4 hb hne, l9 hl, m6 hb hne, j8 hl, gmB, spB, gl]; first | refine q6 _ ?_; clear q6 K1 | ((first | refine hA ?_ | refine hB ?_); clear hA hB A B) | (apply j5 E96; exact (ch _); refine q6 _ ?_; clear q6 K1) | (apply d4 E97; exact (pS ok c (N8 k.term (vS S)).2 _); refine q6 _ ?_; clear q6 K1)) | refine b6 fun K hK => ?_ | ((first | apply b8 | apply i8 | apply b5 | refine i9 ?_ | apply c9 | apply d3); try simp only [NB, simprocAttr]))
    all_goals simp only [S1, simprocAttr, ENB, A0, y7, i5, m5, k8] <;> first | exact d6 hl | exact ⟨d6 hl, rfl⟩ | exact ⟨d6 hl, rfl, rfl⟩
end
section
def cg := And.intro T2 (And.intro T3 (And.intro T4 (And.intro T22 (And.intro T23 (And.intro T25 (And.intro T28 (And.intro T41 (And.intro T57 (And.intro T58 (And.intro T60 (And.intro T62 (And.intro T65 (And.intro T75 (And.intro T77 (And.intro T80 (And.intro rm rn))))))))))))))))
attribute [local irreducible] awp n9 k3 l8 o6 n5
def ci (S : List Int) (i : Int) (ins : List Int) : List Sp :=
  if bx (S.take 40) = 1 then m8 S ⟨i, 0, 7, 0, 0, S.set 48 1⟩ ins [] else m8 S ⟨i, 0, 0, 0, 0, S⟩ ins []
def m7 (ns : List Nd) (fl : List Fl) (S : List Int) (i : Nat) (k : Nd) : List Sp :=
  if k.kind = 2 then ci S i (o5 fl i)
  else if k.kind = 3 ∨ k.kind = 4 then N5 S k i (o5 fl i) (i7 fl i)
  else if k.kind = 5 then O6 fl S i (o5 fl i) (i7 fl i)
  else if k.kind = 6 then m8 S ⟨i, 0, 0, 0, 0, S⟩ (o5 fl i) (i7 fl i)
  else if k.kind = 7 then (i7 fl i).flatMap fun f => r5 ns fl S i f (Y1 fl f) (o5 fl i)
  else if k.kind = 8 then r5 ns fl S i 0 i (o5 fl i)
  else []
theorem Right.kind {ns : List Nd} {fl : List Fl} (h : Right ns fl) {i : Nat} {k : Nd} (hc : ns[i]? = some k) : (1 ≤ k.kind ∧ k.kind ≤ 8) ∧ 0 ≤ k.a ∧ (k.kind = 3 ∨ k.kind = 4 → k.a < 4) ∧ k.a ≤ 4 := by
  have hi := (List.getElem?_eq_some_iff.mp hc).1
  have := h.b1 i hi
  unfold Z3 at this
  rw [hc] at this
  simp only [Bool.not_eq_false'] at this
  unfold bw at this
  split at this
  · simp only [Bool.and_eq_true, decide_eq_true_eq] at this; omega
  · simp only [Bool.and_eq_true, decide_eq_true_eq] at this
    have hm : cV k.kind ≤ 4 ∧ (k.kind = 3 → cV k.kind = 3) := by unfold cV; split <;> (try split) <;> omega
    omega
theorem Right.ins {ns : List Nd} {fl : List Fl} (h : Right ns fl) {i : Nat} {k : Nd} (hc : ns[i]? = some k) (h1 : k.kind ≠ 1) : o5 fl i ≠ [] := by
  have hi := (List.getElem?_eq_some_iff.mp hc).1
  have := h.three hi
  unfold E1 at this
  simp only [O3 hc, if_neg h1] at this
  intro e
  rw [e] at this
  simp only [List.length_nil] at this
  repeat' split at this
  all_goals simp at this
theorem Right.els {ns : List Nd} {fl : List Fl} (h : Right ns fl) {i : Nat} {k : Nd} (hc : ns[i]? = some k) (h5 : k.kind = 5) (hn : (i7 fl i).length ≠ 1) : ∃ f ∈ i7 fl i, B1 fl f = true := by
  have hi := (List.getElem?_eq_some_iff.mp hc).1
  have := h.three hi
  unfold E1 at this
  simp only [O3 hc, h5] at this
  simp only [Int.reduceEq, reduceIte, Bool.or_eq_true, Bool.and_eq_true, beq_iff_eq, decide_eq_true_eq] at this
  rcases this with h | h
  · have h2 := h.2
    unfold aG at h2
    rw [List.take_length] at h2
    obtain ⟨f, hf, he⟩ := List.countP_pos_iff.mp (by omega : 0 < (i7 fl i).countP (B1 fl))
    exact ⟨f, hf, he⟩
  · exact absurd h.2 hn
theorem fa {fl : List Fl} (i : Int) : ∀ x ∈ i7 fl i, ∃ i : Nat, x = (i : Int) ∧ i < fl.length := by
  intro x hx
  obtain ⟨j, f, h1, rfl, h2, _⟩ := F1 hx
  exact ⟨j, rfl, h1⟩
theorem qe (S : List Int) : R7 (S.map AV.i) = S.map AV.i := by
  rw [V0, List.map_map]; rfl
theorem dM (l : List Int) : I5 (l.map eI) = l.map eI := by
  rw [R6, List.map_map]; rfl
theorem tq {h : Heap} {b lb : Nat} {ns : List Nd} {fl : List Fl} {S : List Int} {l : List Sp} (ok : GmOk h b lb S l) (x : Sp) (hx : x.to.length = 49) (fr : List Int) (hfr : InF fr) (L : Heap) :
    d5 Tryz.prog gW 50 [.ptr b 0 0, aSp x, aI fr, .p .nils] (l5 h b lb ns fl S l ++ L) (fun r h' => r = .undef ∧ h' = l5 h b lb ns fl S (l ++ m8 S x fr []) ++ L) := by
  have := dJ (G := gW) (ns := ns) (fl := fl) ok x hx fr [] hfr ⟨by simp, by simp⟩ L
  refine d5.nrm ?_
  have hr := qe (cSp x)
  have hk := dM fr
  simp only [R7, bP, nrm, hr, hk]
  exact this
theorem wF {h : Heap} {b lb : Nat} {ns : List Nd} {fl : List Fl} {S : List Int} {l : List Sp} (ok : GmOk h b lb S l) (x : Sp) (hx : x.to.length = 49) (L : Heap) :
    d5 Tryz.prog gW 50 [.ptr b 0 0, aSp x, .p .nils, .p .nils] (l5 h b lb ns fl S l ++ L) (fun r h' => r = .undef ∧ h' = l5 h b lb ns fl S (l ++ m8 S x [] []) ++ L) := by
  have := dJ (G := gW) (ns := ns) (fl := fl) ok x hx [] [] ⟨by simp, by simp⟩ ⟨by simp, by simp⟩ L
  refine d5.nrm ?_
  have hr := qe (cSp x)
  simp only [R7, bP, nrm, hr]
  exact this
theorem qf {h : Heap} {b lb : Nat} {ns : List Nd} {fl : List Fl} (nk : NetOk ns fl) (rt : Right ns fl) {S : List Int} {l : List Sp} (ok : GmOk h b lb S l) (st : StOk S) (few : l.length ≤ 900000) (c : Nat) {k : Nd} (hc : ns[c]? = some k) :
    d5 Tryz.prog gW 49 [.ptr b 0 0, .i c] (l5 h b lb ns fl S l) (fun r h' => r = .undef ∧ h' = l5 h b lb ns fl S (l ++ m7 ns fl S c k)) := by
  have hb := ok.hb
  have hl := ok.hl
  have hne := ok.ne
  have hS := ok.held.1
  have gl := w8 (ns := ns) (fl := fl) (lb := lb) (n := l.length) hS
  have t49 := x6 (ns := ns) (fl := fl) (lb := lb) (n := l.length) hS
  have c0 : (0 : Int) ≤ (c : Int) := by omega
  have hc' := I2 hc
  have hkd := rt.kind hc
  have hf := rt.f
  have hf' : fl.length ≤ 100 := by omega
  have ho := D7 hf c
  have hi := L8 hf c
  have htl := D3 hS
  have hov := l7 (cs := S.map AV.i) (n := 49) (by rw [List.length_map, hS])
  have hno : ∀ n : Int, k.kind = n → (k.kind == n) = true := fun n e => by simp [e]
  by_cases h34 : k.kind = 3 ∨ k.kind = 4
  · have eg : m7 ns fl S c k = N5 S k c (o5 fl c) (i7 fl c) := by unfold m7; rw [if_neg (by omega), if_pos h34]
    rw [eg]
    have e2 : (k.kind == 2) = false := by simp; omega
    have hin := rt.ins hc (by omega)
    rcases h34 with h3 | h4
    · have e3 : (k.kind == 3) = true := by simp [h3]
      refine i3 (rl := []) e9 Tryz.func49 rfl (rs := []) rfl Tryz.ntmps49 (by simp) ?_
      repeat' (first | ((repeat ((fail_if_success (refine hK _ ?_)); clear hK K)); refine hK _ ?_; clear hK K) | ((first | refine b9 fun K1 q6 => ?_ | refine b7 fun A B hA hB => ?_); simp only [S1, simprocAttr, cg, e2, e3, c0, hc', eN, j6, m3, PGB, r4 hb hne, l9 hl, m6 hb hne, j8 hl, gmB, spB, gl]; first | refine q6 _ ?_; clear q6 K1 | ((first | refine hA ?_ | refine hB ?_); clear hA hB A B) | (apply d4 E66; exact (D9 _ fl hf' _ _); refine q6 _ ?_; clear q6 K1) | (apply d4 E47; exact (t7 _ fl hf' _ _); refine q6 _ ?_; clear q6 K1) | (apply d4 E69; exact (ki nk ok few c hc ⟨hkd.2.1, hkd.2.2.1 (.inl h3)⟩ _ _ hi ho hin); refine q6 _ ?_; clear q6 K1)) | refine b6 fun K hK => ?_ | ((first | apply b8 | apply b5 | apply c7 | apply c9); try simp only [NB, simprocAttr]))
      all_goals simp only [S1, simprocAttr, ENB, A0, y7, i5, m5, k8] <;> first | exact d6 hl | exact ⟨d6 hl, rfl⟩ | exact ⟨d6 hl, rfl, rfl⟩
    · have e3 : (k.kind == 3) = false := by simp [h4]
      have e4 : (k.kind == 4) = true := by simp [h4]
      refine i3 (rl := []) e9 Tryz.func49 rfl (rs := []) rfl Tryz.ntmps49 (by simp) ?_
      repeat' (first | ((repeat ((fail_if_success (refine hK _ ?_)); clear hK K)); refine hK _ ?_; clear hK K) | ((first | refine b9 fun K1 q6 => ?_ | refine b7 fun A B hA hB => ?_); simp only [S1, simprocAttr, cg, e2, e3, e4, c0, hc', eN, j6, m3, PGB, r4 hb hne, l9 hl, m6 hb hne, j8 hl, gmB, spB, gl]; first | refine q6 _ ?_; clear q6 K1 | ((first | refine hA ?_ | refine hB ?_); clear hA hB A B) | (apply d4 E66; exact (D9 _ fl hf' _ _); refine q6 _ ?_; clear q6 K1) | (apply d4 E47; exact (t7 _ fl hf' _ _); refine q6 _ ?_; clear q6 K1) | (apply d4 E69; exact (ki nk ok few c hc ⟨hkd.2.1, hkd.2.2.1 (.inr h4)⟩ _ _ hi ho hin); refine q6 _ ?_; clear q6 K1)) | refine b6 fun K hK => ?_ | ((first | apply b8 | apply b5 | apply c7); try simp only [NB, simprocAttr]))
      all_goals simp only [S1, simprocAttr, ENB, A0, y7, i5, m5, k8] <;> first | exact d6 hl | exact ⟨d6 hl, rfl⟩ | exact ⟨d6 hl, rfl, rfl⟩
  have e3 : (k.kind == 3) = false := by simp; omega
  have e4 : (k.kind == 4) = false := by simp; omega
  by_cases h5 : k.kind = 5
  · have eg : m7 ns fl S c k = O6 fl S c (o5 fl c) (i7 fl c) := by unfold m7; rw [if_neg (by omega), if_neg h34, if_pos h5]
    rw [eg]
    have e2 : (k.kind == 2) = false := by simp; omega
    have e5 : (k.kind == 5) = true := by simp; omega
    have hin := rt.ins hc (by omega)
    refine i3 (rl := []) e9 Tryz.func49 rfl (rs := []) rfl Tryz.ntmps49 (by simp) ?_
    repeat' (first | ((repeat ((fail_if_success (refine hK _ ?_)); clear hK K)); refine hK _ ?_; clear hK K) | ((first | refine b9 fun K1 q6 => ?_ | refine b7 fun A B hA hB => ?_); simp only [S1, simprocAttr, cg, e2, e3, e4, e5, c0, hc', eN, j6, m3, PGB, r4 hb hne, l9 hl, m6 hb hne, j8 hl, gmB, spB, gl]; first | refine q6 _ ?_; clear q6 K1 | ((first | refine hA ?_ | refine hB ?_); clear hA hB A B) | (apply d4 E66; exact (D9 _ fl hf' _ _); refine q6 _ ?_; clear q6 K1) | (apply d4 E47; exact (t7 _ fl hf' _ _); refine q6 _ ?_; clear q6 K1) | (apply d4 E70; exact (uE nk ok few hf c _ _ hi ho (fa c) hin (rt.els hc h5)); refine q6 _ ?_; clear q6 K1)) | refine b6 fun K hK => ?_ | ((first | apply b8 | apply b5 | apply c7); try simp only [NB, simprocAttr]))
    all_goals simp only [S1, simprocAttr, ENB, A0, y7, i5, m5, k8] <;> first | exact d6 hl | exact ⟨d6 hl, rfl⟩ | exact ⟨d6 hl, rfl, rfl⟩
  have e5 : (k.kind == 5) = false := by simp; omega
  by_cases h6 : k.kind = 6
  · have eg : m7 ns fl S c k = m8 S ⟨c, 0, 0, 0, 0, S⟩ (o5 fl c) (i7 fl c) := by unfold m7; rw [if_neg (by omega), if_neg h34, if_neg h5, if_pos h6]
    rw [eg]
    have e2 : (k.kind == 2) = false := by simp; omega
    have e6 : (k.kind == 6) = true := by simp; omega
    refine i3 (rl := []) e9 Tryz.func49 rfl (rs := []) rfl Tryz.ntmps49 (by simp) ?_
    repeat' (first | ((repeat ((fail_if_success (refine hK _ ?_)); clear hK K)); refine hK _ ?_; clear hK K) | ((first | refine b9 fun K1 q6 => ?_ | refine b7 fun A B hA hB => ?_); simp only [S1, simprocAttr, cg, e2, e3, e4, e5, e6, c0, hc', t49, htl, hS, eN, j6, m3, PGB, r4 hb hne, l9 hl, m6 hb hne, j8 hl, gmB, spB, gl]; first | refine q6 _ ?_; clear q6 K1 | ((first | refine hA ?_ | refine hB ?_); clear hA hB A B) | (apply d4 E66; exact (D9 _ fl hf' _ _); refine q6 _ ?_; clear q6 K1) | (apply d4 E47; exact (t7 _ fl hf' _ _); refine q6 _ ?_; clear q6 K1) | (apply d4 E50; exact (gb ok ⟨c, 0, 0, 0, 0, S⟩ hS _ _ hi ho); refine q6 _ ?_; clear q6 K1)) | refine b6 fun K hK => ?_ | ((first | apply b8 | apply b5 | apply c7); try simp only [NB, simprocAttr]))
    all_goals simp only [S1, simprocAttr, ENB, A0, y7, i5, m5, k8] <;> first | exact d6 hl | exact ⟨d6 hl, rfl⟩ | exact ⟨d6 hl, rfl, rfl⟩
  have e6 : (k.kind == 6) = false := by simp; omega
  by_cases h8 : k.kind = 8
  · have eg : m7 ns fl S c k = r5 ns fl S c 0 c (o5 fl c) := by unfold m7; rw [if_neg (by omega), if_neg h34, if_neg h5, if_neg h6, if_neg (by omega), if_pos h8]
    rw [eg]
    have e2 : (k.kind == 2) = false := by simp; omega
    have e7 : (k.kind == 7) = false := by simp; omega
    have e8 : (k.kind == 8) = true := by simp; omega
    refine i3 (rl := []) e9 Tryz.func49 rfl (rs := []) rfl Tryz.ntmps49 (by simp) ?_
    repeat' (first | ((repeat ((fail_if_success (refine hK _ ?_)); clear hK K)); refine hK _ ?_; clear hK K) | ((first | refine b9 fun K1 q6 => ?_ | refine b7 fun A B hA hB => ?_); simp only [S1, simprocAttr, cg, e2, e3, e4, e5, e6, e7, e8, c0, hc', eN, j6, m3, PGB, r4 hb hne, l9 hl, m6 hb hne, j8 hl, gmB, spB, gl]; first | refine q6 _ ?_; clear q6 K1 | ((first | refine hA ?_ | refine hB ?_); clear hA hB A B) | (apply d4 E66; exact (D9 _ fl hf' _ _); refine q6 _ ?_; clear q6 K1) | (apply d4 E47; exact (t7 _ fl hf' _ _); refine q6 _ ?_; clear q6 K1) | (apply d4 E71; exact (ij ok st hf c 0 (List.replicate 49 0) (by simp) 0 0 0 c hc ⟨hkd.2.1, hkd.2.2.2⟩ _ hi); refine q6 _ ?_; clear q6 K1)) | refine b6 fun K hK => ?_ | ((first | apply b8 | apply b5 | apply c7); try simp only [NB, simprocAttr]))
    all_goals simp only [S1, simprocAttr, ENB, A0, y7, i5, m5, k8] <;> first | exact d6 hl | exact ⟨d6 hl, rfl⟩ | exact ⟨d6 hl, rfl, rfl⟩
  have e8 : (k.kind == 8) = false := by simp; omega
  by_cases h7 : k.kind = 7
  · have eg : m7 ns fl S c k = (i7 fl c).flatMap fun f => r5 ns fl S c f (Y1 fl f) (o5 fl c) := by unfold m7; rw [if_neg (by omega), if_neg h34, if_neg h5, if_neg h6, if_pos h7]
    have e2 : (k.kind == 2) = false := by simp; omega
    have e7 : (k.kind == 7) = true := by simp; omega
    let acc := fun j => ((i7 fl c).take j).flatMap fun f => r5 ns fl S c f (Y1 fl f) (o5 fl c)
    have hcl : ∀ f d, (r5 ns fl S c f d (o5 fl c)).length ≤ 1 := by
      intro f d
      unfold r5
      split
      · split
        · simp
        · exact B6 _ _ _ _
      · exact B6 _ _ _ _
    have hal : ∀ j, (acc j).length ≤ j := by
      intro j
      induction j with
      | zero => simp [acc]
      | succ j ih =>
        rcases Nat.lt_or_ge j (i7 fl c).length with hj | hj
        · have e : (i7 fl c).take (j + 1) = (i7 fl c).take j ++ [(i7 fl c)[j]] := by rw [List.take_add_one, List.getElem?_eq_getElem hj]; rfl
          simp only [acc] at ih ⊢
          rw [e, List.flatMap_append, List.length_append]
          have := hcl (i7 fl c)[j] (Y1 fl (i7 fl c)[j])
          simp only [List.flatMap_cons, List.flatMap_nil, List.append_nil]
          omega
        · have e : (i7 fl c).take (j + 1) = (i7 fl c).take j := by rw [List.take_of_length_le (by omega), List.take_of_length_le hj]
          simp only [acc] at ih ⊢
          rw [e]; omega
    have hto : ∀ j, ∀ y ∈ acc j, y.to.length = 49 := by
      intro j y hy
      obtain ⟨f, _, hy⟩ := List.mem_flatMap.mp hy
      unfold r5 at hy
      split at hy
      · split at hy
        · cases hy
        · exact y9 hS (by rw [List.length_set, hS]) y hy
      · exact y9 hS hS y hy
    have eg2 : m7 ns fl S c k = acc (i7 fl c).length := by rw [eg]; simp only [acc, List.take_length]
    rw [eg2]
    have hol := ho.1
    refine i3 (rl := []) e9 Tryz.func49 rfl (rs := []) rfl Tryz.ntmps49 (by simp) ?_
    repeat' (first | ((repeat ((fail_if_success (refine hK _ ?_)); clear hK K)); refine hK _ ?_; clear hK K) | ((first | refine b9 fun K1 q6 => ?_ | refine b7 fun A B hA hB => ?_); simp only [S1, simprocAttr, cg, e2, e3, e4, e5, e6, e7, c0, hc', eN, j6, m3, PGB, r4 hb hne, l9 hl, m6 hb hne, j8 hl, gmB, spB, gl]; first | refine q6 _ ?_; clear q6 K1 | ((first | refine hA ?_ | refine hB ?_); clear hA hB A B) | (apply d4 E66; exact (D9 _ fl hf' _ _); refine q6 _ ?_; clear q6 K1) | (apply d4 E47; exact (t7 _ fl hf' _ _); refine q6 _ ?_; clear q6 K1)) | refine b6 fun K hK => ?_ | ((first | apply b8 | apply b5 | apply c7); try simp only [NB, simprocAttr]))
    refine R5 (i7 fl c).length 111 (fun j => l5 h b lb ns fl S (l ++ acc j)) (fun j => [(83, .i j), (82, .i (i7 fl c).length), (81, aI (i7 fl c)), (4, aI (o5 fl c)), (1, .i c), (0, .ptr b 0 0)]) (fun j => []) (fun j => True) (fun j => ⟨by rw [i5, i5], aK hl⟩) ?_ trivial fun j hj hp K hK => ?_
    · have e0 : acc 0 = [] := by simp [acc]
      simp only [e0, List.append_nil]
      refine ⟨rfl, ⟨[], by simp only [List.append_nil]⟩, ?_, trivial⟩
      simp only [S1, simprocAttr, KNB, i5] <;> (try and_intros) <;> (try assumption) <;> (try trivial) <;> (try omega)
    have okj : GmOk h b lb S (l ++ acc j) := ok.app (hto j) (by have := hal j; omega)
    have glj := w8 (ns := ns) (fl := fl) (lb := lb) (n := (l ++ acc j).length) hS
    rcases Nat.lt_or_ge j (i7 fl c).length with hlt | hge
    · obtain ⟨f, hfj⟩ : ∃ f, (i7 fl c)[j]? = some f := ⟨_, List.getElem?_eq_getElem hlt⟩
      obtain ⟨q, hfq, hq⟩ := fa c f (List.mem_of_getElem? hfj)
      subst hfq
      obtain ⟨x, hx⟩ : ∃ x, fl[q]? = some x := ⟨_, List.getElem?_eq_getElem hq⟩
      obtain ⟨⟨s0, s1⟩, d0, d1⟩ := rt.isIn x (List.mem_of_getElem? hx)
      obtain ⟨d, hd⟩ := Int.eq_ofNat_of_zero_le d0
      obtain ⟨k2, hk2⟩ : ∃ k2, ns[d]? = some k2 := ⟨_, List.getElem?_eq_getElem (by omega)⟩
      have hkd2 := rt.kind hk2
      have hx' := U6 hx
      have q0 : (0 : Int) ≤ (q : Int) := by omega
      have eds : Y1 fl (q : Int) = (d : Int) := by unfold Y1; rw [Int.toNat_natCast, hx]; exact hd
      have ea' : l ++ acc (j + 1) = (l ++ acc j) ++ r5 ns fl S c q d (o5 fl c) := by
        simp only [acc]
        rw [List.take_add_one, hfj, List.flatMap_append, List.append_assoc]
        simp [eds]
      generalize hlj : l ++ acc j = lj at ea' okj glj ⊢
      repeat' (first | ((repeat ((fail_if_success (refine hK _ ?_)); clear hK K)); refine hK _ ?_; clear hK K) | ((first | refine b9 fun K1 q6 => ?_ | refine b7 fun A B hA hB => ?_); simp only [S1, simprocAttr, cg, F5 hfj, O1 hlt, H3 (by omega) hlt, q0, hx', eF, hd, mb, glj, PGB, r4 hb hne, l9 hl, m6 hb hne, j8 hl, gmB, spB, gl]; first | refine q6 _ ?_; clear q6 K1 | (refine hA ?_; clear hA hB A B) | (apply d4 E71; exact (ij okj st hf c q (List.replicate 49 0) (by simp) 0 0 0 d hk2 ⟨hkd2.2.1, hkd2.2.2.2⟩ _ hi); refine q6 _ ?_; clear q6 K1)) | refine b6 fun K hK => ?_ | ((first | apply b8 | apply b5 | apply c7 | apply c9); try simp only [NB, simprocAttr]))
      all_goals refine ⟨hlt, trivial, ?_⟩
      all_goals simp only [ea']
      all_goals refine ⟨rfl, ⟨[], by simp only [List.append_nil]⟩, ?_, trivial⟩
      all_goals simp only [S1, simprocAttr, KNB, i5] <;> (try and_intros) <;> (try assumption) <;> (try trivial) <;> (try omega)
    · obtain rfl : j = (i7 fl c).length := by omega
      repeat' (first | ((repeat ((fail_if_success (refine hK _ ?_)); clear hK K)); refine hK _ ?_; clear hK K) | ((first | refine b9 fun K1 q6 => ?_ | refine b7 fun A B hA hB => ?_); simp only [S1, simprocAttr, cg, I1]; first | refine q6 _ ?_; clear q6 K1 | (refine hB ?_; clear hA hB A B)) | refine b6 fun K hK => ?_ | ((first | apply b8 | apply b5 | apply f9); try simp only [NB, simprocAttr]))
      all_goals simp only [S1, simprocAttr, ENB, A0, y7, i5, m5, k8] <;> first | exact d6 hl | exact ⟨d6 hl, rfl⟩ | exact ⟨d6 hl, rfl, rfl⟩
  have e7 : (k.kind == 7) = false := by simp; omega
  by_cases h2 : k.kind = 2
  · have e2 : (k.kind == 2) = true := by simp; omega
    have hset := I3 S 48 1
    have hS2 : (S.set 48 1).length = 49 := by rw [List.length_set, hS]
    have tk54 : ∀ a b c d e : AV, (a :: b :: c :: d :: e :: S.map AV.i).take 54 = a :: b :: c :: d :: e :: S.map AV.i := fun a b c d e => List.take_of_length_le (by simp [hS])
    have tk2 : ∀ a b c d e : AV, (a :: b :: c :: d :: e :: (S.set 48 1).map AV.i).take 54 = a :: b :: c :: d :: e :: (S.set 48 1).map AV.i := fun a b c d e => List.take_of_length_le (by simp [hS])
    by_cases hw : bx (S.take 40) = 1
    · have eg : m7 ns fl S c k = m8 S ⟨c, 0, 7, 0, 0, S.set 48 1⟩ (o5 fl c) [] := by unfold m7 ci; rw [if_pos h2, if_pos hw]
      have hw' : (bx (S.take 40) == 1) = true := by simp [hw]
      rw [eg]
      refine i3 (rl := []) e9 Tryz.func49 rfl (rs := []) rfl Tryz.ntmps49 (by simp) ?_
      repeat' (first | ((repeat ((fail_if_success (refine hK _ ?_)); clear hK K)); refine hK _ ?_; clear hK K) | ((first | refine b9 fun K1 q6 => ?_ | refine b7 fun A B hA hB => ?_); simp only [S1, simprocAttr, cg, e2, hw', c0, hc', eN, t49, htl, hset, hS2, tk2, hS, j6, m3, PGB, r4 hb hne, l9 hl, m6 hb hne, j8 hl, gmB, spB, gl]; first | refine q6 _ ?_; clear q6 K1 | (refine hA ?_; clear hA hB A B) | (apply d4 E66; exact (D9 _ fl hf' _ _); refine q6 _ ?_; clear q6 K1) | (apply d4 E47; exact (t7 _ fl hf' _ _); refine q6 _ ?_; clear q6 K1) | (apply d4 E68; exact (cY S hS _); refine q6 _ ?_; clear q6 K1) | (apply d4 E50; exact (tq ok ⟨c, 0, 7, 0, 0, S.set 48 1⟩ hS2 _ hi _); refine q6 _ ?_; clear q6 K1)) | refine b6 fun K hK => ?_ | ((first | apply b8 | apply b5 | apply c7); try simp only [NB, simprocAttr]))
      all_goals simp only [S1, simprocAttr, ENB, A0, y7, i5, m5, k8] <;> first | exact d6 hl | exact ⟨d6 hl, rfl⟩ | exact ⟨d6 hl, rfl, rfl⟩
    · have eg : m7 ns fl S c k = m8 S ⟨c, 0, 0, 0, 0, S⟩ (o5 fl c) [] := by unfold m7 ci; rw [if_pos h2, if_neg hw]
      have hw' : (bx (S.take 40) == 1) = false := by simp [hw]
      rw [eg]
      refine i3 (rl := []) e9 Tryz.func49 rfl (rs := []) rfl Tryz.ntmps49 (by simp) ?_
      repeat' (first | ((repeat ((fail_if_success (refine hK _ ?_)); clear hK K)); refine hK _ ?_; clear hK K) | ((first | refine b9 fun K1 q6 => ?_ | refine b7 fun A B hA hB => ?_); simp only [S1, simprocAttr, cg, e2, hw', c0, hc', eN, t49, htl, tk54, hS, j6, m3, PGB, r4 hb hne, l9 hl, m6 hb hne, j8 hl, gmB, spB, gl]; first | refine q6 _ ?_; clear q6 K1 | ((first | refine hA ?_ | refine hB ?_); clear hA hB A B) | (apply d4 E66; exact (D9 _ fl hf' _ _); refine q6 _ ?_; clear q6 K1) | (apply d4 E47; exact (t7 _ fl hf' _ _); refine q6 _ ?_; clear q6 K1) | (apply d4 E68; exact (cY S hS _); refine q6 _ ?_; clear q6 K1) | (apply d4 E50; exact (tq ok ⟨c, 0, 0, 0, 0, S⟩ hS _ hi _); refine q6 _ ?_; clear q6 K1)) | refine b6 fun K hK => ?_ | ((first | apply b8 | apply b5 | apply c7 | apply c9); try simp only [NB, simprocAttr]))
      all_goals simp only [S1, simprocAttr, ENB, A0, y7, i5, m5, k8] <;> first | exact d6 hl | exact ⟨d6 hl, rfl⟩ | exact ⟨d6 hl, rfl, rfl⟩
  · have eg : m7 ns fl S c k = [] := by unfold m7; rw [if_neg h2, if_neg h34, if_neg h5, if_neg h6, if_neg h7, if_neg h8]
    rw [eg, List.append_nil]
    have e2 : (k.kind == 2) = false := by simp; omega
    refine i3 (rl := []) e9 Tryz.func49 rfl (rs := []) rfl Tryz.ntmps49 (by simp) ?_
    repeat' (first | ((repeat ((fail_if_success (refine hK _ ?_)); clear hK K)); refine hK _ ?_; clear hK K) | ((first | refine b9 fun K1 q6 => ?_ | refine b7 fun A B hA hB => ?_); simp only [S1, simprocAttr, cg, e2, e3, e4, e5, e6, e7, e8, c0, hc', eN, j6, m3, PGB, r4 hb hne, l9 hl, m6 hb hne, j8 hl, gmB, spB, gl]; first | refine q6 _ ?_; clear q6 K1 | (refine hB ?_; clear hA hB A B) | (apply d4 E66; exact (D9 _ fl hf' _ _); refine q6 _ ?_; clear q6 K1) | (apply d4 E47; exact (t7 _ fl hf' _ _); refine q6 _ ?_; clear q6 K1)) | refine b6 fun K hK => ?_ | ((first | apply b8 | apply b5 | apply c7 | apply c9); try simp only [NB, simprocAttr]))
    all_goals simp only [S1, simprocAttr, ENB, A0, y7, i5, m5, k8] <;> first | exact d6 hl | exact ⟨d6 hl, rfl⟩ | exact ⟨d6 hl, rfl, rfl⟩
end
section
def H6 := And.intro T2 (And.intro T3 (And.intro T4 (And.intro T22 (And.intro T23 (And.intro T25 (And.intro T28 (And.intro T41 (And.intro T55 (And.intro T57 (And.intro T58 (And.intro T60 (And.intro T75 (And.intro T77 T80)))))))))))))
attribute [local irreducible] awp n9 k3 l8 o6 n5
def cO (n : Nat) (S : List Int) (i : Nat) : Bool := (decide (tk S i < 0) || decide (3 < tk S i)) || (decide ((n : Int) ≤ (i : Int)) && (tk S i != 0))
def gm (S : List Int) (i : Nat) : Bool := decide (qAt S i < 0) || decide (3 < qAt S i)
def mdS (S : List Int) : Int := S.getD 48 0
def okS (n : Nat) (S : List Int) : Bool := ((List.range 40).all (fun i => !cO n S i) && (List.range 4).all (fun i => !gm S i)) && (inV (vS S) && (decide (0 ≤ mdS S) && decide (mdS S ≤ 2)))
noncomputable def stC (ns : List Nd) (fl : List Fl) (S : List Int) : Int := if (A9 ns fl).1 ≠ 0 then 4 else if okS fl.length S = true then 0 else 1
theorem L1 {S : List Int} (hS : S.length = 49) {k : Nat} (hk : k < 49) : S[k]? = some (S.getD k 0) := by
  rw [List.getD_eq_getElem?_getD, List.getElem?_eq_getElem (by omega)]; rfl
theorem wG {S : List Int} (hS : S.length = 49) : ((S.map AV.i).drop 40).take 4 = [.p (.int .i64 (vS S 0)), .p (.int .i64 (vS S 1)), .p (.int .i64 (vS S 2)), .p (.int .i64 (vS S 3))] := by
  rw [← List.map_drop, ← List.map_take, qd hS]
theorem kj {ns : List Nd} {fl : List Fl} {S : List Int} (h0 : (A9 ns fl).1 = 0) {i : Nat} (hi : i < 40) (hb : cO fl.length S i = true) : stC ns fl S = 1 := by
  unfold stC
  rw [if_neg (by simpa using h0), if_neg]
  intro e
  unfold okS at e
  simp only [Bool.and_eq_true, List.all_eq_true, List.mem_range] at e
  have := e.1.1 i hi
  rw [hb] at this
  cases this
theorem qh {ns : List Nd} {fl : List Fl} {S : List Int} (h0 : (A9 ns fl).1 = 0) {i : Nat} (hi : i < 4) (hb : gm S i = true) : stC ns fl S = 1 := by
  unfold stC
  rw [if_neg (by simpa using h0), if_neg]
  intro e
  unfold okS at e
  simp only [Bool.and_eq_true, List.all_eq_true, List.mem_range] at e
  have := e.1.2 i hi
  rw [hb] at this
  cases this
theorem ko {p : Nat → Bool} {i : Nat} (h : ∀ j, j < i → p j = false) (hi : p i = false) : ∀ j, j < i + 1 → p j = false := by
  intro j hj
  rcases Nat.lt_or_ge j i with h1 | h1
  · exact h j h1
  · obtain rfl : j = i := by omega
    exact hi
theorem kp {ns : List Nd} {fl : List Fl} (nk : NetOk ns fl) {S : List Int} (hS : S.length = 49) (h : Heap) :
    d5 Tryz.prog gW 48 [G7 ns fl, aS S] h (fun r h' => r = .i (stC ns fl S) ∧ h' = h) := by
  have hne := K6 hS
  by_cases h0 : (A9 ns fl).1 = 0
  · have h0' : ((A9 ns fl).1 != 0) = false := by simp [h0]
    refine c8 (rl := []) e9 Tryz.func48 rfl (rs := [.tmp 4]) rfl Tryz.ntmps48 (by simp) ?_
    repeat' (first | ((repeat ((fail_if_success (refine hK _ ?_)); clear hK K)); refine hK _ ?_; clear hK K) | ((first | refine b9 fun K1 q6 => ?_ | refine b7 fun A B hA hB => ?_); simp only [S1, simprocAttr, H6, List.length_map, hS, hne, d8, h0']; first | refine q6 _ ?_; clear q6 K1 | (refine hB ?_; clear hA hB A B) | (apply d4 E22; exact (O2 ns fl nk _); refine q6 _ ?_; clear q6 K1)) | refine b6 fun K hK => ?_ | ((first | apply b8 | apply b5 | apply c7 | apply c9); try simp only [NB, simprocAttr]))
    refine p8 40 71 (fun i => [(5, .i i), (3, .ptr (h.length + 1) 0 0), (2, .ptr h.length 0 0)]) (fun i => [some ⟨0, [.p (.sl (ns.map eN)), .p (.sl (fl.map eF))]⟩, some ⟨0, S.map AV.i⟩]) (fun i => ∀ j, j < i → cO fl.length S j = false) ?_ (fun j hj => absurd hj (Nat.not_lt_zero _)) fun i hi hp K hK => ?_
    · refine ⟨rfl, ⟨[], by simp only [List.append_nil]⟩, ?_, ⟨trivial, trivial, trivial⟩, g9 _ _, trivial⟩
      simp only [S1, simprocAttr, KNB] <;> (try and_intros) <;> (try assumption) <;> (try trivial) <;> (try omega)
    rcases Nat.lt_or_ge i 40 with hlt | hge
    · have i0 : (0 : Int) ≤ (i : Int) := by omega
      have i40 : (i : Int) < 40 := by omega
      have hx : S[i]? = some (tk S i) := L1 hS (by omega)
      have dr := N2 hx
      have ebt : cO fl.length S i = ((decide (tk S i < 0) || decide (3 < tk S i)) || (decide ((fl.length : Int) ≤ (i : Int)) && (tk S i != 0))) := rfl
      generalize tk S (i : Int) = v at *
      cases f1 : decide (v < 0) with
      | true =>
        have hbad : cO fl.length S i = true := by rw [ebt, f1]; rfl
        repeat' (first | ((repeat ((fail_if_success (refine hK _ ?_)); clear hK K)); refine hK _ ?_; clear hK K) | ((first | refine b9 fun K1 q6 => ?_ | refine b7 fun A B hA hB => ?_); simp only [S1, simprocAttr, H6, cX hlt rfl, i0, i40, dr, f1, hne, hS, d8, d7, d9, LNB]; first | refine q6 _ ?_; clear q6 K1 | (refine hA ?_; clear hA hB A B)) | refine b6 fun K hK => ?_ | ((first | apply b8 | apply b5 | apply c7 | apply c9 | apply d3); try simp only [NB, simprocAttr]))
        all_goals simp only [S1, simprocAttr, ENB, H6]
        all_goals rw [kj h0 hlt hbad]
      | false =>
      cases f2 : decide (3 < v) with
      | true =>
        have hbad : cO fl.length S i = true := by rw [ebt, f1, f2]; rfl
        repeat' (first | ((repeat ((fail_if_success (refine hK _ ?_)); clear hK K)); refine hK _ ?_; clear hK K) | ((first | refine b9 fun K1 q6 => ?_ | refine b7 fun A B hA hB => ?_); simp only [S1, simprocAttr, H6, cX hlt rfl, i0, i40, dr, f1, f2, hne, hS, d8, d7, d9, LNB]; first | refine q6 _ ?_; clear q6 K1 | (refine hA ?_; clear hA hB A B)) | refine b6 fun K hK => ?_ | ((first | apply b8 | apply b5 | apply c7 | apply c9 | apply d3); try simp only [NB, simprocAttr]))
        all_goals simp only [S1, simprocAttr, ENB, H6]
        all_goals rw [kj h0 hlt hbad]
      | false =>
      cases f3 : decide ((fl.length : Int) ≤ (i : Int)) with
      | false =>
        have hbad : cO fl.length S i = false := by rw [ebt, f1, f2, f3]; rfl
        repeat' (first | ((repeat ((fail_if_success (refine hK _ ?_)); clear hK K)); refine hK _ ?_; clear hK K) | ((first | refine b9 fun K1 q6 => ?_ | refine b7 fun A B hA hB => ?_); simp only [S1, simprocAttr, H6, cX hlt rfl, Q4 (n := 40) (by omega) hlt, i0, i40, dr, f1, f2, f3, hne, hS, d8, d7, d9, LNB]; first | refine q6 _ ?_; clear q6 K1 | ((first | refine hA ?_ | refine hB ?_); clear hA hB A B)) | refine b6 fun K hK => ?_ | ((first | apply b8 | apply b5 | apply c7 | apply c9); try simp only [NB, simprocAttr]))
        all_goals refine ⟨hlt, ko hp hbad, ?_⟩
        all_goals refine ⟨rfl, ⟨[], by simp only [List.append_nil]⟩, ?_, ⟨trivial, trivial, trivial⟩, g9 _ _, trivial⟩
        all_goals simp only [S1, simprocAttr, KNB] <;> (try and_intros) <;> (try assumption) <;> (try trivial) <;> (try omega)
      | true =>
      cases f4 : (v != 0) with
      | true =>
        have hbad : cO fl.length S i = true := by rw [ebt, f1, f2, f3, f4]; rfl
        repeat' (first | ((repeat ((fail_if_success (refine hK _ ?_)); clear hK K)); refine hK _ ?_; clear hK K) | ((first | refine b9 fun K1 q6 => ?_ | refine b7 fun A B hA hB => ?_); simp only [S1, simprocAttr, H6, cX hlt rfl, i0, i40, dr, f1, f2, f3, f4, hne, hS, d8, d7, d9, LNB]; first | refine q6 _ ?_; clear q6 K1 | (refine hA ?_; clear hA hB A B)) | refine b6 fun K hK => ?_ | ((first | apply b8 | apply b5 | apply c7 | apply c9 | apply d3); try simp only [NB, simprocAttr]))
        all_goals simp only [S1, simprocAttr, ENB, H6]
        all_goals rw [kj h0 hlt hbad]
      | false =>
        have hbad : cO fl.length S i = false := by rw [ebt, f1, f2, f3, f4]; rfl
        repeat' (first | ((repeat ((fail_if_success (refine hK _ ?_)); clear hK K)); refine hK _ ?_; clear hK K) | ((first | refine b9 fun K1 q6 => ?_ | refine b7 fun A B hA hB => ?_); simp only [S1, simprocAttr, H6, cX hlt rfl, Q4 (n := 40) (by omega) hlt, i0, i40, dr, f1, f2, f3, f4, hne, hS, d8, d7, d9, LNB]; first | refine q6 _ ?_; clear q6 K1 | ((first | refine hA ?_ | refine hB ?_); clear hA hB A B)) | refine b6 fun K hK => ?_ | ((first | apply b8 | apply b5 | apply c7 | apply c9); try simp only [NB, simprocAttr]))
        all_goals refine ⟨hlt, ko hp hbad, ?_⟩
        all_goals refine ⟨rfl, ⟨[], by simp only [List.append_nil]⟩, ?_, ⟨trivial, trivial, trivial⟩, g9 _ _, trivial⟩
        all_goals simp only [S1, simprocAttr, KNB] <;> (try and_intros) <;> (try assumption) <;> (try trivial) <;> (try omega)
    obtain rfl : i = 40 := by omega
    have hpT := hp
    repeat' (first | ((repeat ((fail_if_success (refine hK _ ?_)); clear hK K)); refine hK _ ?_; clear hK K) | ((first | refine b9 fun K1 q6 => ?_ | refine b7 fun A B hA hB => ?_); simp only [S1, simprocAttr, H6]; first | refine q6 _ ?_; clear q6 K1 | (refine hB ?_; clear hA hB A B)) | refine b6 fun K hK => ?_ | ((first | apply b8 | apply b5 | apply c7 | apply f9); try simp only [NB, simprocAttr]))
    refine p8 4 71 (fun i => [(6, .i i), (3, .ptr (h.length + 1) 0 0), (2, .ptr h.length 0 0)]) (fun i => [some ⟨0, [.p (.sl (ns.map eN)), .p (.sl (fl.map eF))]⟩, some ⟨0, S.map AV.i⟩]) (fun i => ∀ j, j < i → gm S j = false) ?_ (fun j hj => absurd hj (Nat.not_lt_zero _)) fun i hi hp K hK => ?_
    · refine ⟨rfl, ⟨[], by simp only [List.append_nil]⟩, ?_, ⟨trivial, trivial, trivial⟩, g9 _ _, trivial⟩
      simp only [S1, simprocAttr, KNB] <;> (try and_intros) <;> (try assumption) <;> (try trivial) <;> (try omega)
    rcases Nat.lt_or_ge i 4 with hlt | hge
    · have i0 : (0 : Int) ≤ (i : Int) := by omega
      have i4 : (i : Int) < 4 := by omega
      have hx : S[44 + i]? = some (qAt S i) := L1 hS (by omega)
      have dr := N2 hx
      have ebt : gm S i = (decide (qAt S i < 0) || decide (3 < qAt S i)) := rfl
      generalize qAt S (i : Int) = v at *
      cases f1 : decide (v < 0) with
      | true =>
        have hbad : gm S i = true := by rw [ebt, f1]; rfl
        repeat' (first | ((repeat ((fail_if_success (refine hK _ ?_)); clear hK K)); refine hK _ ?_; clear hK K) | ((first | refine b9 fun K1 q6 => ?_ | refine b7 fun A B hA hB => ?_); simp only [S1, simprocAttr, H6, cX hlt rfl, i0, i4, dr, f1, hne, hS, d8, d7, d9, LNB]; first | refine q6 _ ?_; clear q6 K1 | (refine hA ?_; clear hA hB A B)) | refine b6 fun K hK => ?_ | ((first | apply b8 | apply b5 | apply c7 | apply c9 | apply d3); try simp only [NB, simprocAttr]))
        all_goals simp only [S1, simprocAttr, ENB, H6]
        all_goals rw [qh h0 hlt hbad]
      | false =>
      cases f2 : decide (3 < v) with
      | true =>
        have hbad : gm S i = true := by rw [ebt, f1, f2]; rfl
        repeat' (first | ((repeat ((fail_if_success (refine hK _ ?_)); clear hK K)); refine hK _ ?_; clear hK K) | ((first | refine b9 fun K1 q6 => ?_ | refine b7 fun A B hA hB => ?_); simp only [S1, simprocAttr, H6, cX hlt rfl, i0, i4, dr, f1, f2, hne, hS, d8, d7, d9, LNB]; first | refine q6 _ ?_; clear q6 K1 | (refine hA ?_; clear hA hB A B)) | refine b6 fun K hK => ?_ | ((first | apply b8 | apply b5 | apply c7 | apply c9 | apply d3); try simp only [NB, simprocAttr]))
        all_goals simp only [S1, simprocAttr, ENB, H6]
        all_goals rw [qh h0 hlt hbad]
      | false =>
        have hbad : gm S i = false := by rw [ebt, f1, f2]; rfl
        repeat' (first | ((repeat ((fail_if_success (refine hK _ ?_)); clear hK K)); refine hK _ ?_; clear hK K) | ((first | refine b9 fun K1 q6 => ?_ | refine b7 fun A B hA hB => ?_); simp only [S1, simprocAttr, H6, cX hlt rfl, Q4 (n := 4) (by omega) hlt, i0, i4, dr, f1, f2, hne, hS, d8, d7, d9, LNB]; first | refine q6 _ ?_; clear q6 K1 | ((first | refine hA ?_ | refine hB ?_); clear hA hB A B)) | refine b6 fun K hK => ?_ | ((first | apply b8 | apply b5 | apply c7 | apply c9); try simp only [NB, simprocAttr]))
        all_goals refine ⟨hlt, ko hp hbad, ?_⟩
        all_goals refine ⟨rfl, ⟨[], by simp only [List.append_nil]⟩, ?_, ⟨trivial, trivial, trivial⟩, g9 _ _, trivial⟩
        all_goals simp only [S1, simprocAttr, KNB] <;> (try and_intros) <;> (try assumption) <;> (try trivial) <;> (try omega)
    obtain rfl : i = 4 := by omega
    have ar := wG hS
    have dm := N2 (L1 hS (k := 48) (by omega))
    have hok : okS fl.length S = (inV (vS S) && (decide (0 ≤ mdS S) && decide (mdS S ≤ 2))) := by
      have a1 : (List.range 40).all (fun i => !cO fl.length S i) = true := by
        rw [List.all_eq_true]; intro j hj; rw [hpT j (List.mem_range.mp hj)]; rfl
      have a2 : (List.range 4).all (fun i => !gm S i) = true := by
        rw [List.all_eq_true]; intro j hj; rw [hp j (List.mem_range.mp hj)]; rfl
      unfold okS; rw [a1, a2]; rfl
    have hst : stC ns fl S = if (inV (vS S) && (decide (0 ≤ mdS S) && decide (mdS S ≤ 2))) = true then 0 else 1 := by
      unfold stC; rw [if_neg (by simpa using h0), hok]
    have emd : S.getD 48 0 = mdS S := rfl
    rw [emd] at dm
    have hf4 := fun h => il (G := gW) (vS S) h
    generalize mdS S = v at *
    cases f1 : inV (vS S) with
    | false =>
      rw [f1] at hst hf4
      repeat' (first | ((repeat ((fail_if_success (refine hK _ ?_)); clear hK K)); refine hK _ ?_; clear hK K) | ((first | refine b9 fun K1 q6 => ?_ | refine b7 fun A B hA hB => ?_); simp only [S1, simprocAttr, H6, ar, dm, hne, hS, d8, d7, d9, LNB]; first | refine q6 _ ?_; clear q6 K1 | ((first | refine hA ?_ | refine hB ?_); clear hA hB A B) | (apply d4 E67; exact (hf4 _); refine q6 _ ?_; clear q6 K1)) | refine b6 fun K hK => ?_ | ((first | apply b8 | apply b5 | apply f9 | apply d3); try simp only [NB, simprocAttr]))
      all_goals simp only [S1, simprocAttr, ENB, H6]
      all_goals rw [hst]; rfl
    | true =>
    rw [f1] at hst hf4
    by_cases h1 : v < 0
    · have f2 : decide (v < 0) = true := decide_eq_true h1
      have f3 : decide (0 ≤ v) = false := decide_eq_false (by omega)
      rw [f3] at hst
      repeat' (first | ((repeat ((fail_if_success (refine hK _ ?_)); clear hK K)); refine hK _ ?_; clear hK K) | ((first | refine b9 fun K1 q6 => ?_ | refine b7 fun A B hA hB => ?_); simp only [S1, simprocAttr, H6, ar, dm, f2, hne, hS, d8, d7, d9, LNB]; first | refine q6 _ ?_; clear q6 K1 | ((first | refine hA ?_ | refine hB ?_); clear hA hB A B) | (apply d4 E67; exact (hf4 _); refine q6 _ ?_; clear q6 K1)) | refine b6 fun K hK => ?_ | ((first | apply b8 | apply b5 | apply f9 | apply d3); try simp only [NB, simprocAttr]))
      all_goals simp only [S1, simprocAttr, ENB, H6]
      all_goals rw [hst]; rfl
    · have f2 : decide (v < 0) = false := decide_eq_false h1
      have f3 : decide (0 ≤ v) = true := decide_eq_true (by omega)
      by_cases h2 : 2 < v
      · have f4 : decide (2 < v) = true := decide_eq_true h2
        have f5 : decide (v ≤ 2) = false := decide_eq_false (by omega)
        rw [f3, f5] at hst
        repeat' (first | ((repeat ((fail_if_success (refine hK _ ?_)); clear hK K)); refine hK _ ?_; clear hK K) | ((first | refine b9 fun K1 q6 => ?_ | refine b7 fun A B hA hB => ?_); simp only [S1, simprocAttr, H6, ar, dm, f2, f4, hne, hS, d8, d7, d9, LNB]; first | refine q6 _ ?_; clear q6 K1 | ((first | refine hA ?_ | refine hB ?_); clear hA hB A B) | (apply d4 E67; exact (hf4 _); refine q6 _ ?_; clear q6 K1)) | refine b6 fun K hK => ?_ | ((first | apply b8 | apply b5 | apply f9 | apply d3); try simp only [NB, simprocAttr]))
        all_goals simp only [S1, simprocAttr, ENB, H6]
        all_goals rw [hst]; rfl
      · have f4 : decide (2 < v) = false := decide_eq_false h2
        have f5 : decide (v ≤ 2) = true := decide_eq_true (by omega)
        rw [f3, f5] at hst
        repeat' (first | ((repeat ((fail_if_success (refine hK _ ?_)); clear hK K)); refine hK _ ?_; clear hK K) | ((first | refine b9 fun K1 q6 => ?_ | refine b7 fun A B hA hB => ?_); simp only [S1, simprocAttr, H6, ar, dm, f2, f4, hne, hS, d8, d7, d9, LNB]; first | refine q6 _ ?_; clear q6 K1 | (refine hB ?_; clear hA hB A B) | (apply d4 E67; exact (hf4 _); refine q6 _ ?_; clear q6 K1)) | refine b6 fun K hK => ?_ | ((first | apply b8 | apply b5 | apply f9 | apply c9 | apply d3); try simp only [NB, simprocAttr]))
        all_goals simp only [S1, simprocAttr, ENB, H6]
        all_goals rw [hst]; rfl
  · have h0' : ((A9 ns fl).1 != 0) = true := by simp [h0]
    have hst : stC ns fl S = 4 := by unfold stC; rw [if_pos h0]
    refine c8 (rl := []) e9 Tryz.func48 rfl (rs := [.tmp 4]) rfl Tryz.ntmps48 (by simp) ?_
    repeat' (first | ((repeat ((fail_if_success (refine hK _ ?_)); clear hK K)); refine hK _ ?_; clear hK K) | ((first | refine b9 fun K1 q6 => ?_ | refine b7 fun A B hA hB => ?_); simp only [S1, simprocAttr, H6, List.length_map, hS, hne, d8, h0']; first | refine q6 _ ?_; clear q6 K1 | (refine hA ?_; clear hA hB A B) | (apply d4 E22; exact (O2 ns fl nk _); refine q6 _ ?_; clear q6 K1)) | refine b6 fun K hK => ?_ | ((first | apply b8 | apply b5 | apply d3); try simp only [NB, simprocAttr]))
    all_goals simp only [S1, simprocAttr, ENB, H6]
    all_goals rw [hst]
end
section
attribute [local irreducible] awp n9 k3 l8 o6 n5
def u0 (ns : List Nd) (fl : List Fl) (S : List Int) : Nat → List Sp
  | 0 => []
  | j + 1 => u0 ns fl S j ++ (match ns[j]? with | some k => m7 ns fl S j k | none => [])
def cE (ns : List Nd) (m : Int) : Bool := ns.any fun k => k.kind == 8 && k.a == m
def G1 (ns : List Nd) (S : List Int) (m : Nat) : List Sp :=
  if cE ns m = true ∧ qAt S m < 3 then m8 S ⟨-1, m, 5, 0, m, S.set (44 + m) (qAt S m + 1)⟩ [] [] else []
def o7 (ns : List Nd) (S : List Int) : Nat → List Sp
  | 0 => []
  | m + 1 => o7 ns S m ++ G1 ns S m
noncomputable def n7 (ns : List Nd) (fl : List Fl) (S : List Int) : List Sp :=
  if stC ns fl S ≠ 0 ∨ mdS S ≠ 0 then [] else u0 ns fl S ns.length ++ o7 ns S 4
theorem Y4 (h : Heap) (A B X Y : Option Blk) (L : Heap) (ns : List Nd) (fl : List Fl) (S : List Int) (l : List Sp) : l5 (h ++ [A, B, X, Y]) (h.length + 2) (h.length + 3) ns fl S l ++ L = h ++ (A :: B :: gmB ns fl S (h.length + 3) l :: spB l :: L) := by
  unfold l5
  simp only [Q9, List.set_cons_succ, List.set_cons_zero, List.append_assoc, List.cons_append, List.nil_append]
theorem uF (ns : List Nd) (fl : List Fl) (S : List Int) (hf : fl.length ≤ 40) (i : Nat) (k : Nd) : (m7 ns fl S i k).length ≤ 100 := by
  have hcl : ∀ f d fr, (r5 ns fl S i f d fr).length ≤ 1 := by
    intro f d fr
    unfold r5
    split
    · split
      · simp
      · exact B6 _ _ _ _
    · exact B6 _ _ _ _
  have fm : ∀ (l : List Int) (g : Int → List Sp), (∀ x, (g x).length ≤ 1) → (l.flatMap g).length ≤ l.length := by
    intro l g hg
    induction l with
    | nil => simp
    | cons x r ih => rw [List.flatMap_cons, List.length_append, List.length_cons]; have := hg x; omega
  have hi := te fl i
  have ho := pT fl i
  have hm := fun x fr to => B6 S x fr to
  unfold m7
  split
  · unfold ci; split <;> exact Nat.le_trans (hm _ _ _) (by omega)
  · split
    · unfold N5
      repeat' split
      · simp
      · rw [List.length_append]
        have := hm ⟨i, 0, 1, i, 0, S.set (40 + k.a.toNat) 0⟩ (o5 fl i) (i7 fl i)
        have := hm ⟨i, 1, 1, i, 1, S.set (40 + k.a.toNat) 1⟩ (o5 fl i) (i7 fl i)
        omega
      · simp
      · exact Nat.le_trans (hm _ _ _) (by omega)
    · split
      · unfold O6
        split
        · exact Nat.le_trans (fm _ _ fun x => hm _ _ _) (by omega)
        · repeat' split
          · simp
          · simp
          · exact Nat.le_trans (hm _ _ _) (by omega)
      · split
        · exact Nat.le_trans (hm _ _ _) (by omega)
        · split
          · exact Nat.le_trans (fm _ _ fun x => hcl _ _ _) (by omega)
          · split
            · exact Nat.le_trans (hcl _ _ _) (by omega)
            · simp
theorem wH {ns : List Nd} {fl : List Fl} {S : List Int} (hS : S.length = 49) (i : Nat) (k : Nd) : ∀ y ∈ m7 ns fl S i k, y.to.length = 49 := by
  have hcl : ∀ f d fr, ∀ y ∈ r5 ns fl S i f d fr, y.to.length = 49 := by
    intro f d fr y hy
    unfold r5 at hy
    split at hy
    · split at hy
      · cases hy
      · exact y9 hS (by rw [List.length_set, hS]) y hy
    · exact y9 hS hS y hy
  have hst : ∀ (a : Nat) (v : Int), (S.set a v).length = 49 := fun a v => by rw [List.length_set, hS]
  have hfa : ∀ e, ∀ y ∈ [v7 S i e], y.to.length = 49 := by
    intro e y hy
    rw [List.mem_singleton.mp hy]; exact hst _ _
  intro y hy
  unfold m7 at hy
  split at hy
  · unfold ci at hy
    split at hy
    · exact y9 hS (hst _ _) y hy
    · exact y9 hS hS y hy
  · split at hy
    · unfold N5 at hy
      split at hy
      · cases hy
      · split at hy
        · rcases List.mem_append.mp hy with hy | hy <;> exact y9 hS (hst _ _) y hy
        · split at hy
          · exact hfa _ y hy
          · exact y9 hS (hst _ _) y hy
    · split at hy
      · unfold O6 at hy
        split at hy
        · obtain ⟨f, _, hy⟩ := List.mem_flatMap.mp hy
          exact y9 hS hS y hy
        · split at hy
          · cases hy
          · split at hy
            · exact hfa _ y hy
            · exact y9 hS hS y hy
      · split at hy
        · exact y9 hS hS y hy
        · split at hy
          · obtain ⟨f, _, hy⟩ := List.mem_flatMap.mp hy
            exact hcl _ _ _ y hy
          · split at hy
            · exact hcl _ _ _ y hy
            · cases hy
theorem aR (ns : List Nd) (fl : List Fl) (S : List Int) (hf : fl.length ≤ 40) : ∀ j, (u0 ns fl S j).length ≤ 100 * j
  | 0 => by simp [u0]
  | j + 1 => by
    have := aR ns fl S hf j
    rw [u0, List.length_append]
    split
    · rename_i k _
      have := uF ns fl S hf j k
      omega
    · simp only [List.length_nil]; omega
theorem V1 {ns : List Nd} {fl : List Fl} {S : List Int} (hS : S.length = 49) : ∀ j, ∀ y ∈ u0 ns fl S j, y.to.length = 49
  | 0, y, hy => by simp [u0] at hy
  | j + 1, y, hy => by
    rw [u0] at hy
    rcases List.mem_append.mp hy with hy | hy
    · exact V1 hS j y hy
    · split at hy
      · exact wH hS j _ y hy
      · cases hy
theorem aU (ns : List Nd) (S : List Int) : ∀ m, (o7 ns S m).length ≤ m
  | 0 => by simp [o7]
  | m + 1 => by
    have := aU ns S m
    rw [o7, List.length_append]
    unfold G1
    split
    · have := B6 S ⟨-1, m, 5, 0, m, S.set (44 + m) (qAt S m + 1)⟩ [] []
      omega
    · simp only [List.length_nil]; omega
theorem cF {ns : List Nd} {S : List Int} (hS : S.length = 49) : ∀ m, ∀ y ∈ o7 ns S m, y.to.length = 49
  | 0, y, hy => by simp [o7] at hy
  | m + 1, y, hy => by
    rw [o7] at hy
    rcases List.mem_append.mp hy with hy | hy
    · exact cF hS m y hy
    · unfold G1 at hy
      split at hy
      · exact y9 hS (by rw [List.length_set, hS]) y hy
      · cases hy
theorem wI {n : Nat} {S : List Int} (hS : S.length = 49) (h : okS n S = true) : StOk S := by
  unfold okS at h
  simp only [Bool.and_eq_true, List.all_eq_true, List.mem_range, Bool.not_eq_true'] at h
  refine ⟨⟨hS, fun i x hi hx => ?_⟩, fun i x h44 h48 hx => ?_⟩
  · have := h.1.1 i hi
    unfold cO at this
    simp only [Bool.or_eq_false_iff, decide_eq_false_iff_not] at this
    have e := L1 hS (k := i) (by omega)
    rw [hx] at e
    have e2 : tk S (i : Int) = x := (Option.some.inj e).symm
    omega
  · have := h.1.2 (i - 44) (by omega)
    unfold gm at this
    simp only [Bool.or_eq_false_iff, decide_eq_false_iff_not] at this
    have e := L1 hS (k := i) (by omega)
    rw [hx] at e
    have e2 : qAt S ((i - 44 : Nat) : Int) = x := by unfold qAt; rw [Int.toNat_natCast, show 44 + (i - 44) = i by omega]; exact (Option.some.inj e).symm
    omega
theorem zZ (r : Sp) : ∀ x ∈ eSp r, x ≠ .nils := by
  intro x hx
  obtain ⟨n, _, rfl⟩ := List.mem_map.mp hx
  exact fun e => by cases e
theorem W5 {ns : List Nd} {fl : List Fl} {S : List Int} (h : stC ns fl S = 0) : (A9 ns fl).1 = 0 ∧ okS fl.length S = true := by
  unfold stC at h
  split at h
  · cases h
  · rename_i h0
    split at h
    · rename_i h1; exact ⟨by simpa using h0, h1⟩
    · cases h
end
end Go.Proofs.YtbbmfemplmelhaaGreatDoor.AM
