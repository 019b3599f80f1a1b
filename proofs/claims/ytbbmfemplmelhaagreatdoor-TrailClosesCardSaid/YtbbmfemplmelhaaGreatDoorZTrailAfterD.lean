/- Proved here, in parts, for one law: contracts of the functions that the laws call, and the plain facts behind them. Conditions: none. -/
import Derived.Test.YtbbmfemplmelhaaGreatDoorZTrailAfterC
import Derived.ProofKit
import Derived.LaidMore
import Derived.OpenShut
import Derived.Stop.Joined
import Derived.Test.YtbbmfemplmelhaaGreatDoorRows
import Derived.IntWalk
set_option linter.unusedVariables false
set_option linter.unusedSimpArgs false
set_option linter.defProp false
set_option maxRecDepth 4000
set_option maxHeartbeats 4000000
namespace Go.Proofs.YtbbmfemplmelhaaGreatDoor.AM
open Go Go.Proofs
section
open Go Go.ChangeShapes Go.WideShapes Go.RowKit
mutual
def u4 {H : Type} : DataW H → List PV
  | .lit (.bool b) => [.bool b]
  | .lit (.int k n) => [.int k n]
  | .lit (.string l) => [.str ⟨l.toArray⟩]
  | .lit _ => []
  | .nil => [.sl []]
  | .slice elems _ => [.sl (D6 elems)]
  | .agg parts => nK parts
  | .ptr _ => []
  | .iface _ _ => []
  | .map _ => []
  | .held _ => []
def D6 {H : Type} : List (DataW H) → List (List PV)
  | [] => []
  | d :: r => u4 d :: D6 r
def nK {H : Type} : List (DataW H) → List PV
  | [] => []
  | d :: r => u4 d ++ nK r
end
def gh (P : Program) (S : List Nat) (t : Nat) : Bool :=
  match P.underlying t with
  | some .bool | some (.int _) | some .string => P.cellsOf t == 1
  | some (.slice e) => S.contains e && decide (0 < P.cellsOf e) && P.cellsOf t == 1
  | some (.array n e) => S.contains e && P.cellsOf t == n * P.cellsOf e
  | some (.struct fs) => fs.toList.all (fun f => S.contains f.type) &&
      (fs.toList.foldl (fun (acc : Option Nat) f => acc.bind fun o => if f.offset == o then some (o + P.cellsOf f.type) else none) (some 0) == some (P.cellsOf t))
  | _ => false
def plainB (P : Program) (S : List Nat) : Bool := S.all (gh P S)
def Ty (P : Program) : Nat → Nat → List PV → Prop
  | 0, _, _ => False
  | fuel + 1, t, xs =>
    match P.underlying t with
    | some .bool => ∃ b, xs = [.bool b]
    | some (.int k) => ∃ n, t7 k n ∧ xs = [.int k n]
    | some .string => ∃ s, xs = [.str s]
    | some (.slice e) => ∃ rows, xs = [.sl rows] ∧ ∀ row ∈ rows, Ty P fuel e row
    | some (.array n e) => ∃ rows : List (List PV), rows.length = n ∧ xs = rows.flatMap id ∧ ∀ row ∈ rows, Ty P fuel e row
    | some (.struct fs) => ∃ rows : List (List PV), rows.length = fs.size ∧ xs = rows.flatMap id ∧ ∀ (i : Nat) f row, fs[i]? = some f → rows[i]? = some row → Ty P fuel f.type row
    | _ => False
def LR (w : World) (xs : List PV) (cs : List Value) : Prop := xs.length = cs.length ∧ ∀ (i : Nat) x v, xs[i]? = some x → cs[i]? = some v → PRel w (fun _ => False) x v
section
variable {P : Program} {w : World} {H : Type} {enc : TypeId × Value → H} {spare : Nat → Bool} {held : Bool}
theorem kc {α β : Type} {f : α → Option β} : ∀ {l : List α} {r : List β}, l.mapM f = some r → r.length = l.length ∧ ∀ (i : Nat) x y, l[i]? = some x → r[i]? = some y → f x = some y
  | [], r, h => by simp at h; subst h; simp
  | a :: l, r, h => by
    simp only [List.mapM_cons] at h
    cases ha : f a with
    | none => simp [ha] at h
    | some b =>
      cases hl : l.mapM f with
      | none => simp [ha, hl] at h
      | some bs =>
        simp [ha, hl] at h
        subst h
        obtain ⟨l1, l2⟩ := kc hl
        refine ⟨by simp [l1], fun i x y hx hy => ?_⟩
        cases i with
        | zero => simp at hx hy; rw [← hx, ← hy]; exact ha
        | succ i => simp at hx hy; exact l2 i x y hx hy
theorem LR.append {xs ys : List PV} {cs ds : List Value} (h1 : LR w xs cs) (h2 : LR w ys ds) : LR w (xs ++ ys) (cs ++ ds) := by
  refine ⟨by simp [h1.1, h2.1], fun i x v hx hv => ?_⟩
  by_cases hi : i < xs.length
  · rw [List.getElem?_append_left hi] at hx
    rw [List.getElem?_append_left (by rw [← h1.1]; exact hi)] at hv
    exact h1.2 i x v hx hv
  · rw [List.getElem?_append_right (by omega)] at hx
    rw [List.getElem?_append_right (by rw [← h1.1]; omega), ← h1.1] at hv
    exact h2.2 _ x v hx hv
theorem gi (ds : List (DataW H)) : ∀ i : Nat, (D6 ds)[i]? = (ds[i]?).map u4 := by
  induction ds with
  | nil => intro i; simp [D6]
  | cons d r ih => intro i; cases i with
    | zero => simp [D6]
    | succ i => simp [D6, ih]
theorem aW (ds : List (DataW H)) : (D6 ds).length = ds.length := by
  induction ds with
  | nil => rfl
  | cons d r ih => simp [D6, ih]
theorem cD (ds : List (DataW H)) : nK ds = (D6 ds).flatMap id := by
  induction ds with
  | nil => rfl
  | cons d r ih => simp [nK, D6, ih]
theorem LR.rows : ∀ (rows : List (List PV)) (sizes : List Nat) (cs : List Value), rows.length = sizes.length → cs.length = sizes.foldl (· + ·) 0 →
    (∀ (i : Nat) row n, rows[i]? = some row → sizes[i]? = some n → LR w row ((cs.drop ((sizes.take i).foldl (· + ·) 0)).take n)) → LR w (rows.flatMap id) cs := by
  have hf : ∀ (l : List Nat) (a : Nat), l.foldl (· + ·) a = a + l.foldl (· + ·) 0 := by
    intro l
    induction l with
    | nil => intro a; rfl
    | cons x r ih => intro a; simp only [List.foldl_cons]; rw [ih, ih (0 + x)]; omega
  intro rows
  induction rows with
  | nil =>
    intro sizes cs hl hc _
    cases sizes with
    | nil => simp at hc; subst hc; exact ⟨rfl, fun i x v hx => by simp at hx⟩
    | cons => simp at hl
  | cons row rest ih =>
    intro sizes cs hl hc h
    cases sizes with
    | nil => simp at hl
    | cons n ns =>
      simp only [List.foldl_cons] at hc
      rw [hf] at hc
      have h0 := h 0 row n rfl rfl
      simp at h0
      have hrest : LR w (rest.flatMap id) (cs.drop n) := by
        refine ih ns (cs.drop n) (by simpa using hl) (by simp; omega) fun i r m hr hm => ?_
        have := h (i + 1) r m (by simpa using hr) (by simpa using hm)
        simp only [List.take_succ_cons, List.foldl_cons] at this
        rw [hf] at this
        rw [List.drop_drop]
        simpa using this
      have := h0.append hrest
      simpa using this
theorem cb {a : Addr} {n : Nat} {cs : List Value} (h : w.cells? 0 a n = some cs) : cs.length = n ∧ ∀ (i : Nat) v, cs[i]? = some v → w.cell? (a.add i) = some v := by
  unfold World.cells? at h
  simp only [Nat.zero_le, if_true] at h
  obtain ⟨l1, l2⟩ := kc h
  refine ⟨by simpa using l1, fun i v hv => ?_⟩
  have hi : i < n := by have := j6 hv; simp at l1; omega
  exact l2 i i v (by simp [hi]) hv
theorem ws {S : List Nat} (hS : plainB P S = true) : ∀ (fuel t : Nat) (cs : List Value) (x : DataW H × List MemPlace), t ∈ S → DataW.trod enc P w 0 spare held fuel t cs = some x →
    LR w (u4 x.1) cs ∧ Ty P fuel t (u4 x.1) ∧ cs.length = P.cellsOf t := by
  have hpl : ∀ t ∈ S, gh P S t = true := by simpa [plainB] using hS
  intro fuel
  induction fuel with
  | zero => intro t cs x _ h; simp [DataW.trod] at h
  | succ fuel ih =>
    intro t cs x ht h
    have hp := hpl t ht
    unfold gh at hp
    unfold Ty
    have one : ∀ (y : PV) (v : Value), PRel w (fun _ => False) y v → LR w [y] [v] := by
      intro y v hy
      refine ⟨rfl, fun i x v hx hv => ?_⟩
      cases i with
      | zero => simp at hx hv; rw [← hx, ← hv]; exact hy
      | succ i => simp at hx
    cases hu : P.underlying t with
    | none => rw [hu] at hp; simp at hp
    | some d =>
      rw [hu] at hp
      cases d with
      | bool =>
        simp only [beq_iff_eq] at hp
        obtain ⟨b, rfl, rfl⟩ := DataW.trod_bool hu h
        exact ⟨one _ _ (.bool b), ⟨b, rfl⟩, hp.symm⟩
      | int k =>
        simp only [beq_iff_eq] at hp
        obtain ⟨n, rfl, rfl, hw⟩ := DataW.trod_int hu h
        have hr : t7 k n := by
          simp only [Lit.wf] at hw
          unfold t7
          simpa using hw
        exact ⟨one _ _ (.int _ _ hr), ⟨n, hr, rfl⟩, hp.symm⟩
      | string =>
        simp only [beq_iff_eq] at hp
        obtain ⟨s, rfl, rfl, hs⟩ := DataW.trod_string hu h
        have hm : s.size ≤ 9223372036854775807 := by unfold maxLen at hs; omega
        have e : (⟨s.data.toList.toArray⟩ : ByteArray) = s := by simp
        refine ⟨?_, ⟨_, rfl⟩, hp.symm⟩
        simp only [u4, e]
        exact one _ _ (.str s hm)
      | slice e =>
        simp only [Bool.and_eq_true, beq_iff_eq, decide_eq_true_eq, List.contains_iff_mem] at hp
        obtain ⟨⟨he, hpos⟩, h1⟩ := hp
        rcases DataW.trod_slice hu h with ⟨rfl, rfl⟩ | ⟨a, len, cap, elems, rest, m, hm, rfl, rfl, _, hlc, hcm, m1, m2, _⟩
        · exact ⟨one _ _ (.slz _ _), ⟨[], rfl, by simp⟩, h1.symm⟩
        · have : m = fuel := by omega
          subst this
          have hrow : ∀ (i : Nat) y, elems[i]? = some y → ∃ rc, w.cells? 0 (a.add (i * P.cellsOf e)) (P.cellsOf e) = some rc ∧ LR w (u4 y.1) rc ∧ Ty P m e (u4 y.1) := by
            intro i y hy
            have hi : i < len := by have := j6 hy; omega
            have := m2 i hi
            rw [hy] at this
            obtain ⟨rc, hrc, ht'⟩ := Option.bind_eq_some_iff.mp this
            obtain ⟨q1, q2, _⟩ := ih e rc y he ht'
            exact ⟨rc, hrc, q1, q2⟩
          have hrg : ∀ i : Nat, (D6 (elems.map (·.1)))[i]? = (elems[i]?).map fun y => u4 y.1 := by
            intro i; rw [gi]; simp
            cases elems[i]? <;> rfl
          have hrl : (D6 (elems.map (·.1))).length = len := by rw [aW]; simp [m1]
          have hmem : ∀ row ∈ D6 (elems.map (·.1)), ∃ (i : Nat) (y : DataW H × List MemPlace), elems[i]? = some y ∧ u4 y.1 = row := by
            intro row hr
            obtain ⟨i, hi, rfl⟩ := List.getElem_of_mem hr
            have h1 : (D6 (elems.map (·.1)))[i]? = some ((D6 (elems.map (·.1)))[i]) := List.getElem?_eq_getElem hi
            rw [hrg] at h1
            obtain ⟨y, hy, hye⟩ := Option.map_eq_some_iff.mp h1
            exact ⟨i, y, hy, hye⟩
          have hcd : u4 (DataW.slice (elems.map (·.1)) (rest.map (·.1))) = [.sl (D6 (elems.map (fun y : DataW H × List MemPlace => y.1)))] := by simp only [u4]
          show LR w (u4 (DataW.slice (elems.map (·.1)) (rest.map (·.1)))) _ ∧ (∃ rows, u4 (DataW.slice (elems.map (·.1)) (rest.map (·.1))) = [.sl rows] ∧ ∀ row ∈ rows, Ty P m e row) ∧ _
          rw [hcd]
          refine ⟨one (.sl (D6 (elems.map (fun y : DataW H × List MemPlace => y.1)))) _ ?_, ⟨_, rfl, fun row hr => ?_⟩, h1.symm⟩
          · by_cases hz : len = 0
            · have : D6 (elems.map (·.1)) = [] := List.eq_nil_of_length_eq_zero (by omega)
              rw [this, hz]
              exact .slz _ _
            · obtain ⟨y0, hy0⟩ : ∃ y, elems[0]? = some y := ⟨elems[0]'(by omega), by simp⟩
              obtain ⟨rc0, hrc0, _, _⟩ := hrow 0 y0 hy0
              obtain ⟨c1, c2⟩ := cb hrc0
              have hc0 : w.cell? a = some (rc0[0]'(by omega)) := by
                have := c2 0 (rc0[0]'(by omega)) (by simp)
                simpa [Addr.add] using this
              have hspot : a.spot = none := by
                unfold World.cell? at hc0
                split at hc0
                · split at hc0
                  · cases hc0
                  · rename_i hs; simpa using hs
                · cases hc0
              obtain ⟨blk, off, sp⟩ := a
              simp only at hspot
              subst hspot
              have hb := block_lt_of_cell hc0
              have hf : ∀ q : Nat × Nat, ∃ v, ∀ x, P2 (D6 (elems.map (·.1))) q.1 q.2 = some x → w.cell? ⟨blk, off + (q.1 * P.cellsOf e + q.2), none⟩ = some v ∧ PRel w (fun _ => False) x v := by
                intro q
                cases hq : P2 (D6 (elems.map (·.1))) q.1 q.2 with
                | none => exact ⟨undef, fun x hx => by cases hx⟩
                | some x =>
                  unfold P2 at hq
                  obtain ⟨row, hr1, hr2⟩ := Option.bind_eq_some_iff.mp hq
                  rw [hrg] at hr1
                  obtain ⟨y, hy, rfl⟩ := Option.map_eq_some_iff.mp hr1
                  obtain ⟨rc, hrc, ⟨l1, l2⟩, _⟩ := hrow q.1 y hy
                  obtain ⟨d1, d2⟩ := cb hrc
                  have hj : q.2 < rc.length := by have := j6 hr2; omega
                  refine ⟨rc[q.2], fun x' hx' => ?_⟩
                  cases hx'
                  refine ⟨?_, l2 q.2 x rc[q.2] hr2 (by simp)⟩
                  have := d2 q.2 rc[q.2] (by simp)
                  rw [Addr.add_lit, Addr.add_lit] at this
                  rw [← Nat.add_assoc]
                  exact this
              obtain ⟨f, hf⟩ := Classical.axiomOfChoice hf
              have := PRel.sl (w := w) (own := fun _ => False) (D6 (elems.map (·.1))) blk off cap (P.cellsOf e) (fun i j => f (i, j)) (by omega) (by unfold maxLen at hcm; omega) (fun h => h) hb
                (fun row hr => by
                  obtain ⟨i, y, hy, hye⟩ := hmem row hr
                  obtain ⟨rc, hrc, ⟨l1, _⟩, _⟩ := hrow i y hy
                  rw [← hye, l1, (cb hrc).1])
                (fun i j x hx => (hf (i, j) x hx).1) (fun i j x hx => (hf (i, j) x hx).2)
              rwa [hrl] at this
          · obtain ⟨i, y, hy, hye⟩ := hmem row hr
            obtain ⟨rc, hrc, _, q⟩ := hrow i y hy
            rw [← hye]; exact q
      | array n e =>
        simp only [Bool.and_eq_true, beq_iff_eq, List.contains_iff_mem] at hp
        obtain ⟨he, hc⟩ := hp
        obtain ⟨xs, m, hm, rfl, hlen, m1, m2⟩ := DataW.trod_array hu h
        have : m = fuel := by omega
        subst this
        have hrg : ∀ i : Nat, (D6 (xs.map (·.1)))[i]? = (xs[i]?).map fun y => u4 y.1 := by
          intro i; rw [gi]; simp
          cases xs[i]? <;> rfl
        have hrl : (D6 (xs.map (·.1))).length = n := by rw [aW]; simp [m1]
        have hrow : ∀ (i : Nat) y, xs[i]? = some y → LR w (u4 y.1) ((cs.drop (i * P.cellsOf e)).take (P.cellsOf e)) ∧ Ty P m e (u4 y.1) := by
          intro i y hy
          have hi : i < n := by have := j6 hy; omega
          obtain ⟨q1, q2, _⟩ := ih e _ y he ((m2 i hi).trans hy)
          exact ⟨q1, q2⟩
        refine ⟨?_, ⟨D6 (xs.map (·.1)), hrl, by simp only [u4, cD], fun row hr => ?_⟩, hlen⟩
        · simp only [u4, cD]
          have hsum : ∀ m : Nat, (List.replicate m (P.cellsOf e)).foldl (· + ·) 0 = m * P.cellsOf e := by
            intro m
            have hf : ∀ (l : List Nat) (a : Nat), l.foldl (· + ·) a = a + l.foldl (· + ·) 0 := by
              intro l
              induction l with
              | nil => intro a; rfl
              | cons x r ih => intro a; simp only [List.foldl_cons]; rw [ih, ih (0 + x)]; omega
            induction m with
            | zero => simp
            | succ m ih => rw [List.replicate_succ, List.foldl_cons, hf, ih, Nat.succ_mul]; omega
          refine LR.rows _ (List.replicate n (P.cellsOf e)) cs (by simp [hrl]) (by rw [hsum, hlen, hc]) fun i row k hr hk => ?_
          rw [hrg] at hr
          obtain ⟨y, hy, rfl⟩ := Option.map_eq_some_iff.mp hr
          have hi : i < n := by have := j6 hy; omega
          rw [List.getElem?_replicate, if_pos hi] at hk
          cases hk
          rw [List.take_replicate, show min i n = i by omega, hsum]
          exact (hrow i y hy).1
        · obtain ⟨i, hi, rfl⟩ := List.getElem_of_mem hr
          have h1 : (D6 (xs.map (·.1)))[i]? = some ((D6 (xs.map (·.1)))[i]) := List.getElem?_eq_getElem hi
          rw [hrg] at h1
          obtain ⟨y, hy, hye⟩ := Option.map_eq_some_iff.mp h1
          rw [← hye]; exact (hrow i y hy).2
      | struct fs =>
        rw [Bool.and_eq_true, List.all_eq_true, beq_iff_eq] at hp
        obtain ⟨hfs0, hoff⟩ := hp
        have hfs : ∀ f ∈ fs.toList, f.type ∈ S := fun f hf => by simpa using hfs0 f hf
        obtain ⟨xs, m, hm, rfl, hlen, m1, m2⟩ := DataW.trod_struct hu h
        have : m = fuel := by omega
        subst this
        have hrg : ∀ i : Nat, (D6 (xs.map (·.1)))[i]? = (xs[i]?).map fun y => u4 y.1 := by
          intro i; rw [gi]; simp
          cases xs[i]? <;> rfl
        have hrl : (D6 (xs.map (·.1))).length = fs.toList.length := by rw [aW]; simp [m1]
        have hrow : ∀ (i : Nat) y f, xs[i]? = some y → fs.toList[i]? = some f → LR w (u4 y.1) ((cs.drop f.offset).take (P.cellsOf f.type)) ∧ Ty P m f.type (u4 y.1) := by
          intro i y f hy hf
          obtain ⟨q1, q2, _⟩ := ih f.type _ y (hfs f (List.mem_of_getElem? hf)) ((m2 i f (by simpa using hf)).trans hy)
          exact ⟨q1, q2⟩
        have hgen : ∀ (l : List Field) (o tot : Nat), l.foldl (fun (acc : Option Nat) f => acc.bind fun o => if f.offset == o then some (o + P.cellsOf f.type) else none) (some o) = some tot →
            tot = o + (l.map fun f => P.cellsOf f.type).foldl (· + ·) 0 ∧ ∀ (i : Nat) f, l[i]? = some f → f.offset = o + ((l.map fun f => P.cellsOf f.type).take i).foldl (· + ·) 0 := by
          have hf : ∀ (l : List Nat) (a : Nat), l.foldl (· + ·) a = a + l.foldl (· + ·) 0 := by
            intro l
            induction l with
            | nil => intro a; rfl
            | cons x r ih => intro a; simp only [List.foldl_cons]; rw [ih, ih (0 + x)]; omega
          have hnone : ∀ l : List Field, l.foldl (fun (acc : Option Nat) f => acc.bind fun o => if f.offset == o then some (o + P.cellsOf f.type) else none) none = none := by
            intro l; induction l with
            | nil => rfl
            | cons f r ih => simpa using ih
          intro l
          induction l with
          | nil => intro o tot h; simp at h; subst h; simp
          | cons f r ihl =>
            intro o tot h
            simp only [List.foldl_cons, Option.bind_some] at h
            split at h
            · rename_i ho
              obtain ⟨e1, e2⟩ := ihl _ _ h
              refine ⟨by simp only [List.map_cons, List.foldl_cons]; rw [hf]; omega, fun i g hg => ?_⟩
              cases i with
              | zero => simp at hg ho; subst hg; simpa using ho
              | succ i =>
                simp at hg
                have := e2 i g hg
                simp only [List.map_cons, List.take_succ_cons, List.foldl_cons]
                rw [hf]; omega
            · rw [hnone] at h; cases h
        obtain ⟨g1, g2⟩ := hgen fs.toList 0 _ hoff
        refine ⟨?_, ⟨D6 (xs.map (·.1)), by simpa using hrl, by simp only [u4, cD], fun i f row hf hr => ?_⟩, hlen⟩
        · simp only [u4, cD]
          refine LR.rows _ (fs.toList.map fun f => P.cellsOf f.type) cs (by simpa using hrl) (by omega) fun i row k hr hk => ?_
          rw [hrg] at hr
          obtain ⟨y, hy, rfl⟩ := Option.map_eq_some_iff.mp hr
          simp only [List.getElem?_map, Option.map_eq_some_iff] at hk
          obtain ⟨f, hf, rfl⟩ := hk
          have := g2 i f hf
          rw [Nat.zero_add] at this
          rw [← this]
          exact (hrow i y f hy hf).1
        · rw [hrg] at hr
          obtain ⟨y, hy, rfl⟩ := Option.map_eq_some_iff.mp hr
          exact (hrow i y f hy (by simpa using hf)).2
      | _ => simp at hp
end
end
section
open Go Go.ChangeShapes Go.WideShapes Go.RowKit
def xI (P : Program) (t : Nat) : Bool := match P.underlying t with | some (.struct _) | some (.array _ _) => true | _ => false
def ke (P : Program) (t : Nat) (xs : List PV) : AV :=
  if xI P t then .agg (xs.map .p) else match xs with | x :: _ => .p x | [] => .undef
section
variable {P : Program} {G : Nat → Option (List PV)} {H : Type} {enc : TypeId × Value → H}
theorem lm {f : Func} {s : ChangeSpec} {apart fresh handsOn again : Bool} {W W' : World} {args : Array Value} {v : Value} {ds gs : List (DataW H)} {before pa pv : List MemPlace}
    (hW : DataW.Whole enc P f.params.toList s.vars apart W args.toList ds gs before)
    (hres : ∀ (b : Nat) (sp : Nat → Bool) (hd : Bool), DataW.TrodAll enc P W' b sp hd f.resultTypes.toList (v.resultList f.resultTypes.size) (s.fn H (ds ++ gs)).results [])
    (hargs : ∀ sp : Nat → Bool, (∀ p ∈ before, sp p.block = true) → DataW.TrodAll enc P W' 0 sp true f.params.toList args.toList (s.fn H (ds ++ gs)).args pa)
    (hvars : ∀ sp : Nat → Bool, (∀ p ∈ before, sp p.block = true) → DataW.TrodVars enc P W' sp s.vars (s.fn H (ds ++ gs)).vars pv)
    (hps : before = pa ++ pv) (hb : Below W.heap.size W W')
    (hok : ∀ (j : Nat) (t : TypeId) (r : Value), f.resultTypes[j]? = some t → (v.resultList f.resultTypes.size)[j]? = some r → Value.okWide P W' .any 0 t r) :
    s.post enc P f apart fresh handsOn again W args v W' := by
  have hlt : ∀ p ∈ before, p.block < W.heap.size := fun p hp => hW.lt p hp
  have hold : ∀ p ∈ before, (fun b => decide (b < W.heap.size)) p.block = true := fun p hp => by simpa using hlt p hp
  refine ⟨ds, gs, before, [], pa, pv, hW, hres _ _ _, hargs _ hold, hvars _ hold, World.keptBut_mono (fun p hp => ⟨hp, ?_⟩) (hb.frame (· ∈ before)), fun _ => ?_⟩
  · rw [hps, List.mem_append] at hp
    exact Or.inr hp
  · obtain ⟨_, _, _, _, _, hz, hn⟩ := hW
    refine ⟨hok, _, _, ([] ++ pa) ++ pv, ⟨[] ++ pa, pv, trodAll_append (hargs _ (fun _ _ => rfl)) (hres _ _ _), hvars _ (fun _ _ => rfl), rfl, ?_, ?_⟩, ?_⟩
    · intro b off hp
      have hin : MemPlace.cell b off ∈ before := by rw [hps]; simpa using hp
      rw [hb.frozen (hlt _ hin)]
      exact hz b off hin
    · intro ha
      have := hn ha
      rw [hps] at this
      simpa using this
    · intro p hp _
      rw [hps]
      simpa using hp
theorem jd {ι : Nat → Nat × Nat} {k : Nat} : ¬ own ι [] k := fun ⟨b, bk, h, _⟩ => by simp at h
theorem PRel.weak {w : World} {o : Nat → Prop} {x : PV} {v : Value} (h : PRel w (fun _ => False) x v) (ho : ∀ k, ¬ o k) : PRel w o x v :=
  h.mono (Nat.le_refl _) fun k _ _ => ⟨rfl, ho k⟩
theorem xJ {W : World} {S : List Nat} (hS : plainB P S = true) {t : Nat} (ht : t ∈ S) {sp : Nat → Bool} {held : Bool} {v : Value} {d : DataW H} {ps : List MemPlace} (hd : DataW.Trod enc P W 0 sp held t v d ps)
    {r : Reach} {b0 : Nat} (hok : Value.okWide P W r b0 t v) (ι : Nat → Nat × Nat) : VRel ι [] W (ke P t (u4 d)) v ∧ ∃ fuel, Ty P fuel t (u4 d) := by
  obtain ⟨fuel, hf⟩ := hd
  obtain ⟨⟨l1, l2⟩, hty, hlen⟩ := ws hS fuel t _ _ ht hf
  refine ⟨?_, fuel, hty⟩
  unfold ke xI
  unfold Value.okWide at hok
  have hpl : gh P S t = true := by
    have : ∀ t ∈ S, gh P S t = true := by simpa [plainB] using hS
    exact this t ht
  unfold gh at hpl
  have agg : ∀ cs, v = .agg cs → VRel ι [] W (.agg ((u4 d).map .p)) v := by
    intro cs hc
    subst hc
    refine .agg _ _ (by simpa [Value.cells] using l1) fun i x u hx hu => ?_
    simp only [List.getElem?_map, Option.map_eq_some_iff] at hx
    obtain ⟨y, hy, rfl⟩ := hx
    exact .p _ _ ((l2 i y u hy (by simpa [Value.cells] using hu)).weak fun _ => jd)
  cases hu : P.underlying t with
  | none => rw [hu] at hpl; simp at hpl
  | some D =>
    rw [hu] at hok hpl
    have one : P.cellsOf t = 1 → (∀ cs, v ≠ .agg cs) → VRel ι [] W (match u4 d with | x :: _ => .p x | [] => .undef) v := by
      intro h1 hna
      have hc : v.cells = #[v] := by cases v <;> first | rfl | exact absurd rfl (hna _)
      rw [hc] at l1 l2
      match hq : u4 d, l1, l2 with
      | [x], l1, l2 => exact .p _ _ ((l2 0 x v rfl rfl).weak fun _ => jd)
      | [], l1, _ => simp at l1
      | _ :: _ :: _, l1, _ => simp at l1
    cases D with
    | struct fs => obtain ⟨cs, hc, _⟩ := hok; simpa using agg cs hc
    | array n e => obtain ⟨cs, hc, _⟩ := hok; simpa using agg cs hc
    | bool => simpa using one (by simpa using hpl) (fun cs e => by subst e; simp [Cell.okWide, hu, Cell.ok] at hok)
    | int k => simpa using one (by simpa using hpl) (fun cs e => by subst e; simp [Cell.okWide, hu, Cell.ok] at hok)
    | string => simpa using one (by simpa using hpl) (fun cs e => by subst e; simp [Cell.okWide, hu, Cell.ok] at hok)
    | slice e =>
      have h1 : P.cellsOf t = 1 := by simp only [Bool.and_eq_true, beq_iff_eq] at hpl; exact hpl.2
      simpa using one h1 (fun cs e => by subst e; simp [Cell.okWide, hu, Cell.ok] at hok)
    | _ => simp at hpl
theorem pM {W : World} {S : List Nat} (hS : plainB P S = true) {sp : Nat → Bool} {held : Bool} {r : Reach} {b0 : Nat} (ι : Nat → Nat × Nat) :
    ∀ (ts : List Nat) (vs : List Value) (ds : List (DataW H)) (ps : List MemPlace), (∀ t ∈ ts, t ∈ S) → DataW.TrodAll enc P W 0 sp held ts vs ds ps →
      (∀ (j : Nat) t v, ts[j]? = some t → vs[j]? = some v → Value.okWide P W r b0 t v) →
      ds.length = ts.length ∧ vs.length = ts.length ∧ (∀ (j : Nat) t v d, ts[j]? = some t → vs[j]? = some v → ds[j]? = some d → VRel ι [] W (ke P t (u4 d)) v ∧ ∃ fuel, Ty P fuel t (u4 d))
  | [], [], [], ps, _, h, _ => ⟨rfl, rfl, fun j t v d ht => by simp at ht⟩
  | t :: ts, v :: vs, d :: ds, ps, hin, h, hok => by
    obtain ⟨p, q, h1, h2, rfl⟩ := h
    obtain ⟨l1, l2, l3⟩ := pM hS ι ts vs ds q (fun t ht => hin t (by simp [ht])) h2 (fun j t v ht hv => hok (j + 1) t v (by simpa using ht) (by simpa using hv))
    refine ⟨by simp [l1], by simp [l2], fun j t' v' d' ht hv hd => ?_⟩
    cases j with
    | zero =>
      simp at ht hv hd
      subst ht; subst hv; subst hd
      exact xJ hS (hin t (by simp)) h1 (hok 0 t v rfl rfl) ι
    | succ j => simp at ht hv hd; exact l3 j t' v' d' ht hv hd
  | [], [], _ :: _, _, _, h, _ => h.elim
  | [], _ :: _, _, _, _, h, _ => h.elim
  | _ :: _, [], _, _, _, h, _ => h.elim
  | _ :: _, _ :: _, [], _, _, h, _ => h.elim
theorem mg {W W' : World} (hl : laidOutB P = true) (hb : Below W.heap.size W W') {sp' : Nat → Bool} : ∀ (ts : List Nat) (vs : List Value) (ds : List (DataW H)) (ps : List MemPlace),
    (∀ t ∈ ts, P.readableRec t = true ∧ t < P.types.size) → DataW.TrodAll enc P W 0 (fun _ => true) true ts vs ds ps → (∀ p ∈ ps, p.block < W.heap.size) → (∀ p ∈ ps, sp' p.block = true) →
      DataW.TrodAll enc P W' 0 sp' true ts vs ds ps
  | [], [], [], ps, _, h, _, _ => h
  | t :: ts, v :: vs, d :: ds, ps, hin, h, hlt, hsp => by
    obtain ⟨p, q, h1, h2, rfl⟩ := h
    obtain ⟨r1, r2⟩ := hin t (by simp)
    exact ⟨p, q, WideElems.Trod_stays hl r1 r2 h1 (fun x hx => hb.same (hlt x (by simp [hx]))) (fun x hx => hsp x (by simp [hx])),
      mg hl hb ts vs ds q (fun t ht => hin t (by simp [ht])) h2 (fun x hx => hlt x (by simp [hx])) (fun x hx => hsp x (by simp [hx])), rfl⟩
  | [], [], _ :: _, _, _, h, _, _ => h.elim
  | [], _ :: _, _, _, _, h, _, _ => h.elim
  | _ :: _, [], _, _, _, h, _, _ => h.elim
  | _ :: _, _ :: _, [], _, _, h, _, _ => h.elim
theorem law_contract {f : FuncId} {fn : Func} {S : List Nat} (hS : plainB P S = true) (hl : laidOutB P = true) {ts : List Nat} (hts : fn.params.toList = ts) (hin : ∀ t ∈ ts, t ∈ S) (hrd : ∀ t ∈ ts, P.readableRec t = true ∧ t < P.types.size)
    {bt : Nat} (hres : fn.resultTypes = #[bt]) (hbt : P.underlying bt = some .bool)
    {s : ChangeSpec} (hsv : s.vars = []) (hsf : ∀ (H : Type) (ds : List (DataW H)), ds.length = ts.length → s.fn H ds = { results := [.lit (.bool true)], args := ds })
    (hlaw : ∀ xss : List (List PV), xss.length = ts.length → (∀ (j : Nat) t xs, ts[j]? = some t → xss[j]? = some xs → ∃ fuel, Ty P fuel t xs) →
      d5 P G f (List.zipWith (ke P) ts xss) [] fun r h' => r = .b true ∧ h' = [])
    {apart fresh handsOn again : Bool} {W : World} (hG : ∀ g cells, G g = some cells → Y8 W (fun _ => False) cells g 0) {base : Nat} {args : Array Value} {ds gs : List (DataW H)} {before : List MemPlace}
    (hval : ∀ (j : Nat) t v, fn.params[j]? = some t → args[j]? = some v → Value.okWide P W .any base t v)
    (hW : DataW.Whole enc P fn.params.toList s.vars apart W args.toList ds gs before) :
    Calls P f args W fun e W' => ∃ v, e = .returned v ∧ s.post enc P fn apart fresh handsOn again W args v W' := by
  have hW' := hW
  obtain ⟨p, q, hA, hV, hps, hfz, hnd⟩ := hW
  rw [hsv] at hV
  obtain ⟨rfl, rfl⟩ := trodVars_none hV
  rw [hts] at hA
  obtain ⟨l1, l2, l3⟩ := pM hS (fun _ => (0, 0)) ts args.toList ds p hin hA (fun j t v ht hv => hval j t v (by rw [← hts] at ht; simpa using ht) (by simpa using hv))
  have hSim : SimH P G (fun _ => (0, 0)) [] W := ⟨⟨fun b bk hb => by simp at hb, fun b b' bk bk' hb => by simp at hb⟩, fun g cells hg => (hG g cells hg).mono (Nat.le_refl _) fun k _ _ => ⟨rfl, jd⟩⟩
  have hcall := hlaw (ds.map u4) (by simp [l1]) (fun j t xs ht hx => by
    simp only [List.getElem?_map, Option.map_eq_some_iff] at hx
    obtain ⟨d, hd, rfl⟩ := hx
    have hj : j < args.toList.length := by have := j6 ht; omega
    exact (l3 j t args.toList[j] d ht (List.getElem?_eq_getElem hj) hd).2) (fun _ => (0, 0)) W args hSim ⟨by simp [l1]; simpa using l2.symm, fun i x v hx hv => by
      simp only [List.getElem?_zipWith, List.getElem?_map] at hx
      cases ht : ts[i]? with
      | none => simp [ht] at hx
      | some t =>
        cases hd : ds[i]? with
        | none => simp [ht, hd] at hx
        | some d =>
          simp [ht, hd] at hx
          rw [← hx]
          exact (l3 i t v d ht (by simpa using hv) hd).1⟩
  refine hcall.mono fun e W' ⟨v, r, h', ι', he, ⟨hr, hh⟩, hS', hv, hev⟩ => ⟨v, he, ?_⟩
  subst hr
  subst hh
  have := hv.bool_inv
  subst this
  have hb : Below W.heap.size W W' := ⟨hev.os, hev.tape, hev.output, hev.size, fun k hk => (hev.keep k hk jd).1⟩
  have hbefore : before = p := by simpa using hps
  have hfn : s.fn H (ds ++ []) = { results := [.lit (.bool true)], args := ds } := by rw [List.append_nil]; exact hsf H ds l1
  have hlt : ∀ x ∈ before, x.block < W.heap.size := fun x hx => hW'.lt x hx
  refine lm (pa := p) (pv := []) hW' (fun b sp hd => ?_) (fun sp hsp => ?_) (fun sp _ => ?_) (by simpa using hps) hb ?_
  · rw [hfn, hres]
    exact trodAll_mk1 (shut_bool hbt true)
  · rw [hfn, hts]
    exact mg hl hb ts args.toList ds p hrd hA (fun x hx => hlt x (by rw [hbefore]; exact hx)) (fun x hx => hsp x (by rw [hbefore]; exact hx))
  · rw [hfn, hsv]; rfl
  · exact ok_one hres rfl (okWide_bool_mk hbt true)
theorem wt {W : World} {S : List Nat} (hS : plainB P S = true) {name : String} {D : DataW Unit} {g0 t0 : Nat} (hg : P.globalNamed name = some g0) (ht : (P.globals[g0]?).map (·.type) = some t0) (hin : t0 ∈ S)
    (hpos : u4 D ≠ []) (h : ∃ g t cs fuel sp held p, P.globalNamed name = some g ∧ (P.globals[g]?).map (·.type) = some t ∧ W.var? P name = some cs ∧ DataW.trod (fun _ => ()) P W 0 sp held fuel t cs.toList = some (D, p)) :
    Y8 W (fun _ => False) (u4 D) g0 0 := by
  obtain ⟨g, t, cs, fuel, sp, held, p, e1, e2, e3, e4⟩ := h
  obtain rfl := Option.some.inj (hg.symm.trans e1)
  obtain rfl := Option.some.inj (ht.symm.trans e2)
  obtain ⟨⟨l1, l2⟩, _, _⟩ := ws hS fuel t0 _ _ hin e4
  have hcell : ∀ i : Nat, W.cell? ⟨g0, i, none⟩ = cs[i]? := fun i => World.var?_cell e1 e3 i
  refine ⟨fun h => h, ?_, fun j x hx => ?_⟩
  · have h0 : 0 < cs.toList.length := by
      rw [← l1]; exact List.length_pos_iff.mpr hpos
    have hc : W.cell? ⟨g0, 0, none⟩ = some (cs[0]'(by simpa using h0)) := by rw [hcell]; simp
    exact block_lt_of_cell hc
  · have hj : j < cs.toList.length := Nat.lt_of_lt_of_eq (j6 hx) l1
    refine ⟨cs.toList[j], by rw [Nat.zero_add, hcell]; simp, l2 j x _ hx (by simp)⟩
end
end
section
section
variable {P : Program}
theorem W1 {k : IntKind} {a b : Nat} {z : Option (List PV)} {t fuel : Nat} {xs : List PV} (ht : k3 P t = some ⟨.int k, a, b, z⟩) (h : Ty P fuel t xs) : ∃ n, t7 k n ∧ xs = [.int k n] := by
  obtain ⟨_, d, _, h2, h3, _⟩ := k9 ht
  have := dY h3; subst this
  cases fuel with
  | zero => exact h.elim
  | succ m => unfold Ty at h; rw [h2] at h; exact h
theorem xK {a b : Nat} {z : Option (List PV)} {t fuel : Nat} {xs : List PV} (ht : k3 P t = some ⟨.bool, a, b, z⟩) (h : Ty P fuel t xs) : ∃ x, xs = [.bool x] := by
  obtain ⟨_, d, _, h2, h3, _⟩ := k9 ht
  have := fH h3; subst this
  cases fuel with
  | zero => exact h.elim
  | succ m => unfold Ty at h; rw [h2] at h; exact h
theorem eY {e a b : Nat} {z : Option (List PV)} {t fuel : Nat} {xs : List PV} (ht : k3 P t = some ⟨.slice e, a, b, z⟩) (h : Ty P fuel t xs) : ∃ (m : Nat) (rows : List (List PV)), fuel = m + 1 ∧ xs = [.sl rows] ∧ ∀ row ∈ rows, Ty P m e row := by
  obtain ⟨_, d, _, h2, h3, _⟩ := k9 ht
  have := I7 h3; subst this
  cases fuel with
  | zero => exact h.elim
  | succ m => unfold Ty at h; rw [h2] at h; obtain ⟨rows, h1, h2⟩ := h; exact ⟨m, rows, rfl, h1, h2⟩
theorem wu {n e a b : Nat} {z : Option (List PV)} {t fuel : Nat} {xs : List PV} (ht : k3 P t = some ⟨.array n e, a, b, z⟩) (h : Ty P fuel t xs) : ∃ (m : Nat) (rows : List (List PV)), fuel = m + 1 ∧ rows.length = n ∧ xs = rows.flatMap id ∧ ∀ row ∈ rows, Ty P m e row := by
  obtain ⟨_, d, _, h2, h3, _⟩ := k9 ht
  have := M1 h3; subst this
  cases fuel with
  | zero => exact h.elim
  | succ m => unfold Ty at h; rw [h2] at h; obtain ⟨rows, h1, h2, h3⟩ := h; exact ⟨m, rows, rfl, h1, h2, h3⟩
theorem U7 {fs : List (Nat × Nat × Nat)} {a b : Nat} {z : Option (List PV)} {t fuel : Nat} {xs : List PV} (ht : k3 P t = some ⟨.struct fs, a, b, z⟩) (h : Ty P fuel t xs) :
    ∃ (m : Nat) (rows : List (List PV)), fuel = m + 1 ∧ rows.length = fs.length ∧ xs = rows.flatMap id ∧ ∀ (i : Nat) f row, fs[i]? = some f → rows[i]? = some row → Ty P m f.2.2 row := by
  obtain ⟨_, d, _, h2, h3, _⟩ := k9 ht
  obtain ⟨F, rfl, h4⟩ := Q5 h3
  cases fuel with
  | zero => exact h.elim
  | succ m =>
    unfold Ty at h
    rw [h2] at h
    obtain ⟨rows, g1, g2, g3⟩ := h
    refine ⟨m, rows, rfl, by rw [h4]; simpa using g1, g2, fun i f row hf hr => ?_⟩
    rw [h4] at hf
    simp only [List.getElem?_map, Option.map_eq_some_iff] at hf
    obtain ⟨fd, hfd, rfl⟩ := hf
    exact g3 i fd row (by simpa using hfd) hr
theorem ta {k : IntKind} {a b : Nat} {z : Option (List PV)} {e m : Nat} (ht : k3 P e = some ⟨.int k, a, b, z⟩) : ∀ (rows : List (List PV)), (∀ row ∈ rows, Ty P m e row) → ∃ l : List Int, l.length = rows.length ∧ (∀ n ∈ l, t7 k n) ∧ rows = l.map fun n => [.int k n]
  | [], _ => ⟨[], rfl, by simp, rfl⟩
  | r :: rows, h => by
    obtain ⟨n, hn, rfl⟩ := W1 ht (h r (by simp))
    obtain ⟨l, h1, h2, h3⟩ := ta ht rows fun row hr => h row (by simp [hr])
    exact ⟨n :: l, by simp [h1], by simpa using ⟨hn, h2⟩, by simp [h3]⟩
theorem uk {k : IntKind} (l : List Int) : (l.map fun n => [PV.int k n]).flatMap id = l.map (.int k) := by
  induction l with
  | nil => rfl
  | cons x r ih => simp only [List.map_cons, List.flatMap_cons, ih]; rfl
theorem gj {k : IntKind} {a b a' b' n e t fuel : Nat} {z z' : Option (List PV)} {xs : List PV} (hta : k3 P t = some ⟨.array n e, a, b, z⟩) (ht : k3 P e = some ⟨.int k, a', b', z'⟩) (h : Ty P fuel t xs) :
    ∃ l : List Int, l.length = n ∧ (∀ x ∈ l, t7 k x) ∧ xs = l.map (.int k) := by
  obtain ⟨m, rows, rfl, h1, rfl, h3⟩ := wu hta h
  obtain ⟨l, g1, g2, g3⟩ := ta ht rows h3
  exact ⟨l, by omega, g2, by rw [g3, uk]⟩
theorem nL {i : TI} {t : Nat} (ht : k3 P t = some i) (xs : List PV) : ke P t xs = if i.isAgg then .agg (xs.map .p) else match xs with | x :: _ => .p x | [] => .undef := by
  obtain ⟨_, d, _, h2, h3, _⟩ := k9 ht
  have : xI P t = i.isAgg := by
    unfold xI TI.isAgg
    rw [h2, ← h3]
    cases d <;> rfl
  unfold ke
  rw [this]
  all_goals (cases xs <;> rfl)
end
end
section
open Go Go.Proofs Go.ChangeShapes Go.WideShapes Go.RowKit
theorem pN : plainB Tryz.prog [3, 9, 201, 202] = true := by kernel_rfl
theorem gW_pin {W : World} (h : laidMetH Tryz.prog [("treenail/term.words", Rows.laid_treenail_term_words)] W) : ∀ g cells, gW g = some cells → Y8 W (fun _ => False) cells g 0 := by
  intro g cells hg
  unfold gW at hg
  split at hg
  · rename_i e
    cases hg
    subst e
    rw [MakeChecks.laidMetH_plain _ _ _ (by kernel_rfl)] at h
    obtain ⟨ps, ⟨g0, t0, cs0, f0, p0, q0, hg0, ht0, hv0, hd0, _⟩, _⟩ := h
    have e : u4 (Rows.laid_treenail_term_words : DataW Unit) = jO := by kernel_rfl
    rw [← e]
    exact wt pN (name := "treenail/term.words") (t0 := 202) (by kernel_rfl) (by kernel_rfl) (by decide) (by rw [e]; unfold jO; simp) ⟨g0, t0, cs0, f0, _, _, p0, hg0, ht0, hv0, hd0⟩
  · cases hg
theorem nM : ∀ (fuel : Nat) (xs : List PV), Ty Tryz.prog fuel 75 xs → ∃ t : Tm, xs = eT t
  | 0, xs, h => h.elim
  | fuel + 1, xs, h => by
    obtain ⟨m, rows, e, hl, rfl, hf⟩ := U7 T75 h
    match rows, hl with
    | [r0, r1, r2], _ =>
      have h0 : Ty Tryz.prog m 3 r0 := hf 0 _ r0 rfl rfl
      have h1 : Ty Tryz.prog m 3 r1 := hf 1 _ r1 rfl rfl
      have h2 : Ty Tryz.prog m 73 r2 := hf 2 _ r2 rfl rfl
      obtain ⟨o, _, rfl⟩ := W1 T3 h0
      obtain ⟨n, _, rfl⟩ := W1 T3 h1
      obtain ⟨m', rows, e2, rfl, hr⟩ := eY T73 h2
      have key : ∀ rows : List (List PV), (∀ row ∈ rows, Ty Tryz.prog m' 75 row) → ∃ ks : List Tm, rows = ks.map eT := by
        intro rows
        induction rows with
        | nil => intro _; exact ⟨[], rfl⟩
        | cons r rs ih =>
          intro hh
          obtain ⟨t, ht⟩ := nM m' r (hh r (by simp))
          obtain ⟨ks, hks⟩ := ih fun row hrow => hh row (by simp [hrow])
          exact ⟨t :: ks, by rw [ht, hks]; rfl⟩
      obtain ⟨ks, hks⟩ := key rows hr
      refine ⟨.mk o n ks, ?_⟩
      rw [hks]
      simp [eT]
termination_by fuel => fuel
decreasing_by omega
theorem je {α : Type} {e : α → List PV} {p : List PV → Prop} (h : ∀ row, p row → ∃ a, row = e a) : ∀ rows : List (List PV), (∀ row ∈ rows, p row) → ∃ l : List α, rows = l.map e
  | [], _ => ⟨[], rfl⟩
  | r :: rs, hr => by
    obtain ⟨a, ha⟩ := h r (hr r (by simp))
    obtain ⟨l, hl⟩ := je h rs fun row hrow => hr row (by simp [hrow])
    exact ⟨a :: l, by rw [ha, hl]; rfl⟩
theorem xL {fuel : Nat} {xs : List PV} (h : Ty Tryz.prog fuel 77 xs) : ∃ k : Nd, xs = eN k := by
  obtain ⟨m, rows, e, hl, rfl, hf⟩ := U7 T77 h
  match rows, hl with
  | [r0, r1, r2], _ =>
    have h0 : Ty Tryz.prog m 3 r0 := hf 0 _ r0 rfl rfl
    have h1 : Ty Tryz.prog m 3 r1 := hf 1 _ r1 rfl rfl
    have h2 : Ty Tryz.prog m 75 r2 := hf 2 _ r2 rfl rfl
    obtain ⟨o, _, rfl⟩ := W1 T3 h0
    obtain ⟨n, _, rfl⟩ := W1 T3 h1
    obtain ⟨t, rfl⟩ := nM _ _ h2
    exact ⟨⟨o, n, t⟩, by simp [eN, q6]⟩
theorem xM {fuel : Nat} {xs : List PV} (h : Ty Tryz.prog fuel 80 xs) : ∃ k : Fl, xs = eF k := by
  obtain ⟨m, rows, e, hl, rfl, hf⟩ := U7 T80 h
  match rows, hl with
  | [r0, r1, r2, r3], _ =>
    have h0 : Ty Tryz.prog m 3 r0 := hf 0 _ r0 rfl rfl
    have h1 : Ty Tryz.prog m 3 r1 := hf 1 _ r1 rfl rfl
    have h2 : Ty Tryz.prog m 4 r2 := hf 2 _ r2 rfl rfl
    have h3 : Ty Tryz.prog m 75 r3 := hf 3 _ r3 rfl rfl
    obtain ⟨o, _, rfl⟩ := W1 T3 h0
    obtain ⟨n, _, rfl⟩ := W1 T3 h1
    obtain ⟨b, rfl⟩ := xK T4 h2
    obtain ⟨t, rfl⟩ := nM _ _ h3
    exact ⟨⟨o, n, b, t⟩, by simp [eF, q6]⟩
theorem tb {fuel : Nat} {xs : List PV} (h : Ty Tryz.prog fuel 25 xs) : ∃ (ns : List Nd) (fl : List Fl), ke Tryz.prog 25 xs = G4 ns fl := by
  obtain ⟨m, rows, e, hl, rfl, hf⟩ := U7 T25 h
  match rows, hl with
  | [r0, r1], _ =>
    have h0 : Ty Tryz.prog m 22 r0 := hf 0 _ r0 rfl rfl
    have h1 : Ty Tryz.prog m 23 r1 := hf 1 _ r1 rfl rfl
    obtain ⟨m0, rows0, _, rfl, hr0⟩ := eY T22 h0
    obtain ⟨m1, rows1, _, rfl, hr1⟩ := eY T23 h1
    obtain ⟨ns, rfl⟩ := je (fun row hrow => xL hrow) rows0 hr0
    obtain ⟨fl, rfl⟩ := je (fun row hrow => xM hrow) rows1 hr1
    exact ⟨ns, fl, by rw [nL T25]; rfl⟩
end
section
mutual
def kf : PV → PV → Bool
  | .int k n, .int k' n' => decide (k = k') && decide (n = n')
  | .bool a, .bool b => a == b
  | .str s, .str t => decide (s = t)
  | .nils, .nils => true
  | .nilp, .nilp => true
  | .nilf, .nilf => true
  | .sl r, .sl r' => mh r r'
  | _, _ => false
def kg : List PV → List PV → Bool
  | [], [] => true
  | x :: r, y :: r' => kf x y && kg r r'
  | _, _ => false
def mh : List (List PV) → List (List PV) → Bool
  | [], [] => true
  | x :: r, y :: r' => kg x y && mh r r'
  | _, _ => false
end
mutual
theorem tc : ∀ (x y : PV), kf x y = true → x = y
  | .int k n, y, h => by cases y <;> simp [kf] at h; rw [h.1, h.2]
  | .bool a, y, h => by cases y <;> simp [kf] at h; rw [h]
  | .str s, y, h => by cases y <;> simp [kf] at h; rw [h]
  | .nils, y, h => by cases y <;> simp [kf] at h; rfl
  | .nilp, y, h => by cases y <;> simp [kf] at h; rfl
  | .nilf, y, h => by cases y <;> simp [kf] at h; rfl
  | .sl r, y, h => by
    cases y with
    | sl r' => simp only [kf] at h; rw [pO r r' h]
    | _ => simp [kf] at h
theorem ki : ∀ (x y : List PV), kg x y = true → x = y
  | [], y, h => by cases y <;> simp [kg] at h; rfl
  | a :: r, y, h => by
    cases y with
    | nil => simp [kg] at h
    | cons b r' => simp only [kg, Bool.and_eq_true] at h; rw [tc a b h.1, ki r r' h.2]
theorem pO : ∀ (x y : List (List PV)), mh x y = true → x = y
  | [], y, h => by cases y <;> simp [mh] at h; rfl
  | a :: r, y, h => by
    cases y with
    | nil => simp [mh] at h
    | cons b r' => simp only [mh, Bool.and_eq_true] at h; rw [ki a b h.1, pO r r' h.2]
end
mutual
def nN : AV → AV → Bool
  | .p x, .p y => kf x y
  | .agg l, .agg l' => il l l'
  | .tup l, .tup l' => il l l'
  | .fn f l, .fn f' l' => decide (f = f') && il l l'
  | .ref b g o s n, .ref b' g' o' s' n' => decide (b = b') && (decide (g = g') && (decide (o = o') && (decide (s = s') && decide (n = n'))))
  | .ptr b g o, .ptr b' g' o' => decide (b = b') && (decide (g = g') && decide (o = o'))
  | .pin c, .pin c' => kg c c'
  | _, _ => false
def il : List AV → List AV → Bool
  | [], [] => true
  | x :: r, y :: r' => nN x y && il r r'
  | _, _ => false
end
mutual
theorem xN : ∀ (x y : AV), nN x y = true → x = y
  | .p x, y, h => by cases y <;> simp [nN] at h; rw [tc _ _ h]
  | .agg l, y, h => by cases y <;> simp [nN] at h; rw [eZ _ _ h]
  | .tup l, y, h => by cases y <;> simp [nN] at h; rw [eZ _ _ h]
  | .fn f l, y, h => by cases y <;> simp [nN] at h; rw [h.1, eZ _ _ h.2]
  | .ref b g o s n, y, h => by cases y <;> simp [nN] at h; obtain ⟨rfl, rfl, rfl, rfl, rfl⟩ := h; rfl
  | .ptr b g o, y, h => by cases y <;> simp [nN] at h; obtain ⟨rfl, rfl, rfl⟩ := h; rfl
  | .pin c, y, h => by cases y <;> simp [nN] at h; rw [ki _ _ h]
theorem eZ : ∀ (x y : List AV), il x y = true → x = y
  | [], y, h => by cases y <;> simp [il] at h; rfl
  | a :: r, y, h => by
    cases y with
    | nil => simp [il] at h
    | cons b r' => simp only [il, Bool.and_eq_true] at h; rw [xN a b h.1, eZ r r' h.2]
end
mutual
def im (m : Nat) : AV → Bool
  | .p _ => true
  | .agg l => gm m l
  | .tup l => gm m l
  | .fn _ l => gm m l
  | .ref b _ _ _ _ => decide (b < m)
  | .ptr b _ _ => decide (b < m)
  | .pin _ => true
  | .mref b _ => decide (b < m)
  | .mp _ => true
def gm (m : Nat) : List AV → Bool
  | [] => true
  | x :: r => im m x && gm m r
end
mutual
theorem wv {m : Nat} : ∀ x : AV, im m x = true → AVlt m x
  | .p x, _ => .p x
  | .agg l, h => .agg l (cE l (by simpa [im] using h))
  | .tup l, h => .tup l (cE l (by simpa [im] using h))
  | .fn f l, h => .fn f l (cE l (by simpa [im] using h))
  | .ref b g o s n, h => .ref b g o s n (by simpa [im] using h)
  | .ptr b g o, h => .ptr b g o (by simpa [im] using h)
  | .pin c, _ => .pin c
  | .mref b g, h => .mref b g (by simpa [im] using h)
  | .mp es, _ => .mp es
theorem cE {m : Nat} : ∀ l : List AV, gm m l = true → ∀ x ∈ l, AVlt m x
  | [], _ => fun x hx => by simp at hx
  | y :: r, h => fun x hx => by
    simp only [gm, Bool.and_eq_true] at h
    rcases List.mem_cons.mp hx with e | e
    · rw [e]; exact wv y h.1
    · exact cE r h.2 x e
end
section
variable (P : Program) (G : Nat → Option (List PV)) (rl : List String)
abbrev zq := FuncId → List AV → Heap → Option (AV × Heap)
end
section
variable {P : Program} {G : Nat → Option (List PV)} {rl : List String} {h0 : Heap}
variable {call : zq}
end
end
section
attribute [local irreducible] awp n9 k8 l8 o5 m9
variable {G : Nat → Option (List PV)}
theorem xO (x : Int) : (x != x) = false := by simp
end
section
theorem Right.event {ns : List Nd} {fl : List Fl} (h : Right ns fl) {i : Nat} (hi : i < ns.length) (hk : v8 ns i = 7) : (o7 fl i).length = 1 ∧ 2 ≤ (j3 fl i).length := by
  have := h.three hi
  unfold E1 at this
  simp only [hk] at this
  simp only [Int.reduceEq, reduceIte, Bool.or_eq_true, Bool.and_eq_true, beq_iff_eq, decide_eq_true_eq] at this
  omega
theorem Right.start {ns : List Nd} {fl : List Fl} (h : Right ns fl) {i : Nat} (hi : i < ns.length) (hk : v8 ns i = 1) : (o7 fl i).length = 0 ∧ (j3 fl i).length = 1 := by
  have := h.three hi
  unfold E1 at this
  simp only [hk] at this
  simp only [Int.reduceEq, reduceIte, Bool.or_eq_true, Bool.and_eq_true, beq_iff_eq, decide_eq_true_eq] at this
  omega
theorem Right.count {ns : List Nd} {fl : List Fl} (h : Right ns fl) {i : Nat} (hi : i < ns.length) :
    (v8 ns i = 1 → (rF fl i (v8 ns i)).length = 0) ∧ (v8 ns i = 5 ∨ v8 ns i = 7 → (rF fl i (v8 ns i)).length = (o7 fl i).length * (j3 fl i).length) ∧
    (v8 ns i ≠ 1 → v8 ns i ≠ 5 → v8 ns i ≠ 7 → (rF fl i (v8 ns i)).length = 1) := by
  refine ⟨fun hk => ?_, fun hk => ?_, fun k1 k5 k7 => ?_⟩
  · unfold rF; rw [if_pos hk]; rfl
  · rcases hk with hk | hk
    · unfold rF
      rw [if_neg (by omega), if_neg (by omega), if_neg (by omega), if_pos hk]
      rcases h.xor hi hk with ⟨a, b⟩ | ⟨a, b⟩
      · rw [if_pos (by omega), List.length_map, a, Nat.one_mul]
      · rw [if_neg (by omega), List.length_map, b, Nat.mul_one]
    · unfold rF
      rw [if_neg (by omega), if_pos hk, List.length_map, (h.event hi hk).1, Nat.one_mul]
  · unfold rF
    rw [if_neg k1, if_neg k7]
    split <;> rfl
def pP := And.intro T2 (And.intro T3 (And.intro T4 (And.intro T22 (And.intro T23 (And.intro T25 (And.intro T28 (And.intro T41 (And.intro T57 (And.intro T58 (And.intro T60 (And.intro T62 (And.intro T65 (And.intro T77 (And.intro T80 (And.intro rb rd)))))))))))))))
attribute [local irreducible] awp n9 k8 l8 o5 m9
variable {G : Nat → Option (List PV)}
structure StOk (S : List Int) : Prop where
  held : eW S
  queue : ∀ i x, 44 ≤ i → i < 48 → S[i]? = some x → 0 ≤ x ∧ x ≤ 3
def qAt (S : List Int) (a : Int) : Int := S.getD (44 + a.toNat) 0
def ndA (ns : List Nd) (c : Int) : Int := match ns[c.toNat]? with | some k => k.a | none => 0
def s7 (ns : List Nd) (fl : List Fl) (S : List Int) (node arg c : Int) (fr : List Int) : List Sp :=
  if ndA ns c < 4 then (if qAt S (ndA ns c) = 0 then [] else o8 S ⟨node, arg, 3, c, 0, S.set (44 + (ndA ns c).toNat) (qAt S (ndA ns c) - 1)⟩ fr (j3 fl c))
  else o8 S ⟨node, arg, 4, c, 0, S⟩ fr (j3 fl c)
theorem j8 {ns : List Nd} {fl : List Fl} {S : List Int} {lb n e bt : Nat} {z : Option (List PV)} : O8 ⟨.slice e, 1, bt, z⟩ (gmC ns fl S lb n) = some (.p (.sl (ns.map eN))) := rfl
theorem StOk.q {S : List Int} (h : StOk S) {k : Nat} (hk : k < 4) : S[44 + k]? = some (qAt S k) ∧ 0 ≤ qAt S k ∧ qAt S k ≤ 3 := by
  have hl := h.held.1
  have e : S[44 + k]? = some (qAt S k) := by
    unfold qAt
    rw [Int.toNat_natCast, List.getD_eq_getElem?_getD, List.getElem?_eq_getElem (by omega)]; rfl
  exact ⟨e, h.queue _ _ (by omega) (by omega) e⟩
theorem D7 {fl : List Fl} (hf : fl.length ≤ 40) (i : Int) : InF (j3 fl i) := by
  refine ⟨Nat.le_trans (pL fl i) (by omega), fun f hm => ?_⟩
  obtain ⟨j, _, h1, rfl, _⟩ := H5 hm
  omega
theorem M0 {fl : List Fl} (hf : fl.length ≤ 40) (i : Int) : InF (o7 fl i) := by
  refine ⟨Nat.le_trans (sW fl i) (by omega), fun f hm => ?_⟩
  obtain ⟨j, _, h1, rfl, _⟩ := H5 hm
  omega
theorem rG {S : List Int} {a : Nat} {q : Int} (hq : S[44 + a]? = some q) (x1 x2 x3 x4 x5 : AV) : (x1 :: x2 :: x3 :: x4 :: x5 :: S.map AV.i).drop (49 + a) = .p (.int .i64 q) :: (S.drop (44 + a + 1)).map AV.i := by
  rw [show 49 + a = (44 + a) + 1 + 1 + 1 + 1 + 1 by omega, List.drop_succ_cons, List.drop_succ_cons, List.drop_succ_cons, List.drop_succ_cons, List.drop_succ_cons, L8 hq]
theorem ul (S : List Int) (a : Nat) (v : Int) (x1 x2 x3 x4 x5 : AV) : (x1 :: x2 :: x3 :: x4 :: x5 :: S.map AV.i).set (49 + a) (.p (.int .i64 v)) = x1 :: x2 :: x3 :: x4 :: x5 :: (S.set (44 + a) v).map AV.i := by
  rw [show 49 + a = (44 + a) + 1 + 1 + 1 + 1 + 1 by omega, List.set_cons_succ, List.set_cons_succ, List.set_cons_succ, List.set_cons_succ, List.set_cons_succ, J2]
theorem yL {ns : List Nd} {fl : List Fl} {S : List Int} {lb n a : Nat} {q : Int} (hq : S[44 + a]? = some q) : (gmC ns fl S lb n).drop (46 + a) = .p (.int .i64 q) :: ((S.drop (44 + a + 1)).map AV.i ++ [.ref lb n 0 54 n]) := by
  rw [show 46 + a = 2 + (44 + a) by omega, V9 hq]
theorem ip {h : Heap} {b lb : Nat} {ns : List Nd} {fl : List Fl} {S : List Int} {l : List Sp} (ok : GmOk h b lb S l) (st : StOk S) (hf : fl.length ≤ 40) (node arg : Int) (Z : List Int) (hZ : Z.length = 49) (lk ln la : Int) (c : Nat) {k : Nd} (hc : ns[c]? = some k) (ha : 0 ≤ k.a ∧ k.a ≤ 4) (fr : List Int) (hfr : InF fr) :
    d5 Tryz.prog G 71 [.ptr b 0 0, .agg (.p (.int .i64 node) :: .p (.int .i64 arg) :: .p (.int .i64 lk) :: .p (.int .i64 ln) :: .p (.int .i64 la) :: Z.map AV.i), .i c, aI fr] (l7 h b lb ns fl S l) (fun r h' => r = .undef ∧ h' = l7 h b lb ns fl S (l ++ s7 ns fl S node arg c fr)) := by
  have hb := ok.hb
  have hl := ok.hl
  have hne := ok.ne
  have hS := ok.held.1
  have gl := w8 (ns := ns) (fl := fl) (lb := lb) (n := l.length) hS
  have t49 := w9 (ns := ns) (fl := fl) (lb := lb) (n := l.length) hS
  have c0 : (0 : Int) ≤ (c : Int) := by omega
  have hc' := H6 hc
  have htl := D4 hS
  have en : ndA ns c = k.a := by unfold ndA; rw [Int.toNat_natCast, hc]
  have tk54 : ∀ a b c d e : AV, (a :: b :: c :: d :: e :: S.map AV.i).take 54 = a :: b :: c :: d :: e :: S.map AV.i := fun a b c d e => List.take_of_length_le (by simp [hS])
  by_cases h4 : k.a = 4
  · have eg : s7 ns fl S node arg c fr = o8 S ⟨node, arg, 4, c, 0, S⟩ fr (j3 fl c) := by unfold s7; rw [en, if_neg (by omega)]
    rw [eg]
    refine i3 (rl := []) d7 Tryz.func71 rfl (rs := []) rfl Tryz.ntmps71 (by simp) ?_
    repeat' (first | ((first | apply b8 | apply s5); (try simp only [NB])) | ((repeat ((fail_if_success (refine hK _ ?_)); clear hK K)); refine hK _ ?_; clear hK K) | ((first | refine b9 fun K1 q8 => ?_ | refine v6 rfl rfl rfl fun K1 q8 => ?_ | refine b7 fun A B hA hB => ?_); simp only [S1, simprocAttr, pP, t49, c0, hc', htl, hZ, hS, j8, m6, tk54, h4, eN, PGB, r5 hb hne, m5 hl, m8 hb hne, k4 hl, gmB, spB, gl]; first | refine q8 _ ?_; clear q8 K1 | (refine hB ?_; clear hA hB A B) | (apply d4 E50; exact (dH ok ⟨node, arg, 4, c, 0, S⟩ hS fr (j3 fl c) hfr (D7 hf c) _); refine q8 _ ?_; clear q8 K1)) | ((first | refine v7 (v := ?_) rfl rfl rfl rfl (by decide) (fun R1 K1 q8 => ?_) ?_ | refine z7 (v := ?_) rfl rfl rfl (by decide) (fun K1 q8 => ?_) ?_); rotate_left; (focus (simp only [S1, simprocAttr, pP, t49, c0, hc', htl, hZ, hS, j8, m6, tk54, h4, eN, PGB, r5 hb hne, m5 hl, m8 hb hne, k4 hl, gmB, spB, gl]; first | (exact q8 _ _ _) | (apply j4 E47; exact (t8 _ fl (by omega) _ _); exact q8 _ _ _)))) | (refine s6 rfl rfl rfl ?_) | refine b6 fun K hK => ?_ | (refine r4 (es := []) [0, 1, 2, 3, 4, 5, 6, 7, 8, 9] 0 (fs := []) rfl (by kernel_rfl) (by kernel_rfl) ?_) | ((first | apply b5 | apply c9); try simp only [NB, simprocAttr]))
    all_goals simp only [S1, simprocAttr, ENB, A0, y5, i8, m7, l6] <;> first | exact d6 hl | exact ⟨d6 hl, rfl⟩ | exact ⟨d6 hl, rfl, rfl⟩
  · obtain ⟨a, hka⟩ := Int.eq_ofNat_of_zero_le ha.1
    have a4 : a < 4 := by omega
    have a0 : (0 : Int) ≤ (a : Int) := by omega
    have a4' : (a : Int) < 4 := by omega
    have a4d : decide ((a : Int) < 4) = true := decide_eq_true a4'
    obtain ⟨hq, q0, q3⟩ := st.q a4
    have gq := yL (ns := ns) (fl := fl) (lb := lb) (n := l.length) hq
    have cd := rG hq
    have cs := ul S a
    have e2 : qAt S k.a = qAt S a := by rw [hka]
    generalize hqv : qAt S (a : Int) = q at *
    by_cases hz : q = 0
    · have eg : s7 ns fl S node arg c fr = [] := by unfold s7; rw [en, if_pos (by omega), e2, if_pos hz]
      have hz' : (q == 0) = true := by simp [hz]
      rw [eg, List.append_nil]
      refine i3 (rl := []) d7 Tryz.func71 rfl (rs := []) rfl Tryz.ntmps71 (by simp) ?_
      repeat' (first | ((repeat ((fail_if_success (refine hK _ ?_)); clear hK K)); refine hK _ ?_; clear hK K) | ((first | refine b9 fun K1 q8 => ?_ | refine b7 fun A B hA hB => ?_); simp only [S1, simprocAttr, pP, t49, c0, hc', htl, hZ, hS, j8, m6, tk54, hka, a0, a4', a4d, gq, hz', eN, PGB, r5 hb hne, m5 hl, m8 hb hne, k4 hl, gmB, spB, gl]; first | refine q8 _ ?_; clear q8 K1 | (refine hA ?_; clear hA hB A B)) | refine b6 fun K hK => ?_ | ((first | apply b8 | apply b5 | apply d3); try simp only [NB, simprocAttr]))
      all_goals simp only [S1, simprocAttr, ENB, A0, y5, i8, m7, l6] <;> first | exact d6 hl | exact ⟨d6 hl, rfl⟩ | exact ⟨d6 hl, rfl, rfl⟩
    · have eg : s7 ns fl S node arg c fr = o8 S ⟨node, arg, 3, c, 0, S.set (44 + a) (q - 1)⟩ fr (j3 fl c) := by
        unfold s7; rw [en, if_pos (by omega), e2, if_neg hz, hka, Int.toNat_natCast]
      have hz' : (q == 0) = false := by simp [hz]
      have hw : IntKind.i64.wrap (q - 1) = q - 1 := IntWalk.i64_in _ (by omega)
      have hS2 : (S.set (44 + a) (q - 1)).length = 49 := by rw [List.length_set, hS]
      have tk2 : ∀ a1 b1 c1 d1 e1 : AV, (a1 :: b1 :: c1 :: d1 :: e1 :: (S.set (44 + a) (q - 1)).map AV.i).take 54 = a1 :: b1 :: c1 :: d1 :: e1 :: (S.set (44 + a) (q - 1)).map AV.i := fun _ _ _ _ _ => List.take_of_length_le (by simp [hS])
      have h54 : 49 + a + 1 ≤ 54 := by omega
      rw [eg]
      refine i3 (rl := []) d7 Tryz.func71 rfl (rs := []) rfl Tryz.ntmps71 (by simp) ?_
      repeat' (first | ((first | apply b8 | apply s5); (try simp only [NB])) | ((repeat ((fail_if_success (refine hK _ ?_)); clear hK K)); refine hK _ ?_; clear hK K) | ((first | refine b9 fun K1 q8 => ?_ | refine v6 rfl rfl rfl fun K1 q8 => ?_ | refine b7 fun A B hA hB => ?_); simp only [S1, simprocAttr, pP, t49, c0, hc', htl, hZ, hS, hS2, j8, m6, tk54, tk2, hka, a0, a4', a4d, gq, cd, cs, hz', hw, h54, eN, PGB, r5 hb hne, m5 hl, m8 hb hne, k4 hl, gmB, spB, gl]; first | refine q8 _ ?_; clear q8 K1 | ((first | refine hA ?_ | refine hB ?_); clear hA hB A B) | (apply d4 E50; exact (dH ok ⟨node, arg, 3, c, 0, S.set (44 + a) (q - 1)⟩ hS2 fr (j3 fl c) hfr (D7 hf c) _); refine q8 _ ?_; clear q8 K1)) | ((first | refine v7 (v := ?_) rfl rfl rfl rfl (by decide) (fun R1 K1 q8 => ?_) ?_ | refine z7 (v := ?_) rfl rfl rfl (by decide) (fun K1 q8 => ?_) ?_); rotate_left; (focus (simp only [S1, simprocAttr, pP, t49, c0, hc', htl, hZ, hS, hS2, j8, m6, tk54, tk2, hka, a0, a4', a4d, gq, cd, cs, hz', hw, h54, eN, PGB, r5 hb hne, m5 hl, m8 hb hne, k4 hl, gmB, spB, gl]; first | (exact q8 _ _ _) | (apply j4 E47; exact (t8 _ fl (by omega) _ _); exact q8 _ _ _)))) | (refine s6 rfl rfl rfl ?_) | refine b6 fun K hK => ?_ | (refine r4 (es := []) [0, 1, 2, 3, 4, 5, 6, 7, 8, 9] 0 (fs := []) rfl (by kernel_rfl) (by kernel_rfl) ?_) | ((first | apply b5 | apply c9); try simp only [NB, simprocAttr]))
      all_goals simp only [S1, simprocAttr, ENB, A0, y5, i8, m7, l6] <;> first | exact d6 hl | exact ⟨d6 hl, rfl⟩ | exact ⟨d6 hl, rfl, rfl⟩
end
section
def N2 := And.intro T2 (And.intro T3 (And.intro T4 (And.intro T31 (And.intro T58 (And.intro T75 (And.intro re nh))))))
attribute [local irreducible] awp n9 k8
variable {G : Nat → Option (List PV)}
def Num (n : Int) : Prop := -1099511627776 ≤ n ∧ n ≤ 1099511627776
theorem rH {n : Int} (hn : -9223372036854775807 ≤ n ∧ n ≤ 9223372036854775807) (h : Heap) : d5 Tryz.prog G 159 [.i n] h (fun r h' => r = .i (n.natAbs : Int) ∧ h' = h) := by
  have hw := IntWalk.i64_in (0 - n) (by omega)
  refine d5.mono (tW n h) ?_
  rintro r h' ⟨rfl, rfl⟩
  refine ⟨?_, rfl⟩
  rw [hw]
  refine congrArg AV.i ?_
  split <;> omega
theorem ce {n : Int} (hn : -9223372036854775807 ≤ n ∧ n ≤ 9223372036854775807) (h : Heap) : d5 Tryz.prog G 151 [.i n] h (fun r h' => r = .i (n.natAbs : Int) ∧ h' = h) := by
  have hw := IntWalk.i64_in (0 - n) (by omega)
  refine d5.mono (rg n h) ?_
  rintro r h' ⟨rfl, rfl⟩
  refine ⟨?_, rfl⟩
  rw [hw]
  refine congrArg AV.i ?_
  split <;> omega
def R5 (a b : Int) : Int × Int := if b ≠ 0 ∧ 1099511627776 / b.natAbs < a.natAbs then (0, 40) else (a * b, 0)
theorem kj {a b : Int} (hb : b ≠ 0) (h : ¬ (1099511627776 / b.natAbs < a.natAbs)) : Num (a * b) := by
  have h1 : a.natAbs ≤ 1099511627776 / b.natAbs := Nat.le_of_not_lt h
  have h2 : a.natAbs * b.natAbs ≤ 1099511627776 := by
    have := Nat.mul_le_mul_right b.natAbs h1
    exact Nat.le_trans this (Nat.div_mul_le_self _ _)
  have h3 : (a * b).natAbs ≤ 1099511627776 := by rw [Int.natAbs_mul]; exact h2
  unfold Num; omega
theorem td {b : Int} (hb : b ≠ 0) : IntKind.i64.wrap ((1099511627776 : Int).tdiv (b.natAbs : Int)) = ((1099511627776 / b.natAbs : Nat) : Int) := by
  have e : (1099511627776 : Int).tdiv (b.natAbs : Int) = ((1099511627776 / b.natAbs : Nat) : Int) := by
    rw [show (1099511627776 : Int) = ((1099511627776 : Nat) : Int) from rfl, ← Int.ofNat_tdiv]
  have h1 : 1099511627776 / b.natAbs ≤ 1099511627776 := Nat.div_le_self _ _
  rw [e]
  generalize 1099511627776 / b.natAbs = q at *
  rw [IntWalk.i64_in _ (by omega)]
theorem lp {a b : Int} (ha : Num a) (hb : Num b) (h : Heap) : d5 Tryz.prog G 154 [.i a, .i b] h (fun r h' => r = .tup [.i (R5 a b).1, .i (R5 a b).2] ∧ h' = h) := by
  unfold Num at ha hb
  by_cases hz : a = 0 ∨ b = 0
  · have f1 : (a == 0 || b == 0) = true := by rcases hz with e | e <;> simp [e]
    have e : R5 a b = (0, 0) := by
      unfold R5
      rcases hz with e | e
      · subst e; simp
      · subst e; simp
    rw [e]
    refine c8 (rl := []) d7 Tryz.func154 rfl (rs := [.tmp 4, .tmp 5]) rfl Tryz.ntmps154 (by simp) ?_
    repeat' (first | ((repeat ((fail_if_success (refine hK _ ?_)); clear hK K)); refine hK _ ?_; clear hK K) | ((first | refine b9 fun K1 q8 => ?_ | refine b7 fun A B hA hB => ?_); simp only [S1, simprocAttr, N2, f1]; first | refine q8 _ ?_; clear q8 K1 | (refine hA ?_; clear hA hB A B) | (refine l9 (v := ?_) (fun hg q9 => ?_) ?_; rotate_left; (focus (try ((try simp only [BN] at hg); simp only [S1, simprocAttr, N2, f1, hg] at q9 ⊢)); exact q9); refine q8 _ ?_; clear q8 K1)) | refine b6 fun K hK => ?_ | ((first | apply b8 | apply b5 | apply d3); try simp only [NB, simprocAttr]))
    simp only [S1, simprocAttr, ENB, N2]
  · have f0 : ¬ b = 0 := fun e => hz (.inr e)
    have f1 : (a == 0) = false := by simpa using fun e => hz (.inl e)
    have f2 : (b == 0) = false := by simpa using f0
    have f3 : ¬ ((b.natAbs : Int) = 0) := by omega
    have f4 := td f0
    refine c8 (rl := []) d7 Tryz.func154 rfl (rs := [.tmp 4, .tmp 5]) rfl Tryz.ntmps154 (by simp) ?_
    repeat' (first | ((repeat ((fail_if_success (refine hK _ ?_)); clear hK K)); refine hK _ ?_; clear hK K) | ((first | refine b9 fun K1 q8 => ?_ | refine b7 fun A B hA hB => ?_); simp only [S1, simprocAttr, N2, f1, f2, f3, f4]; first | refine q8 _ ?_; clear q8 K1 | (refine hB ?_; clear hA hB A B) | (apply d4 Bj; exact (rH (by omega) _); refine q8 _ ?_; clear q8 K1) | ((((refine ⟨fun hg => hA ?_, fun hg => hB ?_⟩ <;> clear hA hB A B)) <;> (try simp only [BN2] at hg) <;> (try simp only [hg, cndB])) <;> (try (refine q8 _ ?_; clear q8 K1)) <;> (try simp only [BN3] at hg))) | refine b6 fun K hK => ?_ | ((first | apply b8 | apply b5 | apply c9 | apply d3); try simp only [NB, simprocAttr]))
    · simp only [S1, simprocAttr, ENB, N2]
      have hq : 1099511627776 / b.natAbs < a.natAbs := by generalize 1099511627776 / b.natAbs = q at *; omega
      simp [R5, f0, hq]
    · simp only [S1, simprocAttr, ENB, N2]
      have hq : ¬ 1099511627776 / b.natAbs < a.natAbs := by generalize 1099511627776 / b.natAbs = q at *; omega
      have hn := kj f0 hq
      unfold Num at hn
      rw [IntWalk.i64_in _ (by omega)]
      simp [R5, f0, hq]
def x7 (op a b : Int) : Int × Bool × Int :=
  if op = 10 then (0, a == b, 0) else if op = 11 then (0, decide (a < b), 0) else if op = 12 then (0, a == b || decide (a < b), 0)
  else if op = 8 then (if b = 0 then (0, false, 41) else (a.tdiv b, false, 0))
  else if op = 9 then (if b = 0 then (0, false, 41) else (a.tmod b, false, 0))
  else if op = 7 then ((R5 a b).1, false, (R5 a b).2)
  else if op = 6 then (if 1099511627776 < (a - b).natAbs then (0, false, 40) else (a - b, false, 0))
  else (if 1099511627776 < (a + b).natAbs then (0, false, 40) else (a + b, false, 0))
theorem fa {a b : Int} (ha : Num a) : Num (a.tdiv b) := by
  have : (a.tdiv b).natAbs ≤ a.natAbs := Int.natAbs_tdiv_le_natAbs a b
  unfold Num at *; omega
theorem fb {a b : Int} (ha : Num a) : Num (a.tmod b) := by
  have : (a.tmod b).natAbs ≤ a.natAbs := by rw [Int.natAbs_tmod]; exact Nat.mod_le _ _
  unfold Num at *; omega
theorem fc {n : Int} : inM n = true ↔ ¬ 1099511627776 < n.natAbs := by unfold inM; simp; omega
theorem rI {a b : Int} (ha : Num a) (hb : Num b) (h : Heap) : d5 Tryz.prog G 148 [.i 5, .i a, .i b] h (fun r h' => r = .tup [.i (x7 5 a b).1, .i (x7 5 a b).2.2] ∧ h' = h) := by
  unfold Num at *
  have w1 := IntWalk.i64_in (a + b) (by omega)
  refine c8 (rl := []) d7 Tryz.func148 rfl (rs := [.tmp 6, .tmp 7]) rfl Tryz.ntmps148 (by simp) ?_
  repeat' (first | ((repeat ((fail_if_success (refine hK _ ?_)); clear hK K)); refine hK _ ?_; clear hK K) | ((first | refine b9 fun K1 q8 => ?_ | refine b7 fun A B hA hB => ?_); simp only [S1, simprocAttr, N2, w1]; first | refine q8 _ ?_; clear q8 K1 | (refine hA ?_; clear hA hB A B) | (apply d4 E99; exact (dD _ _); refine q8 _ ?_; clear q8 K1) | ((((refine ⟨fun hg => hA ?_, fun hg => hB ?_⟩ <;> clear hA hB A B)) <;> (try simp only [BN2] at hg) <;> (try simp only [hg, cndB])) <;> (try (refine q8 _ ?_; clear q8 K1)) <;> (try simp only [BN3] at hg))) | refine b6 fun K hK => ?_ | ((first | apply b8 | apply b5 | apply c7 | apply c9 | apply d3); try simp only [NB, simprocAttr]))
  all_goals simp only [S1, simprocAttr, ENB, N2]
  all_goals (try simp only [Bool.not_eq_true', Bool.not_eq_false'] at hg)
  all_goals (first
    | (have := fc.mp hg; simp [x7, this])
    | (have := Classical.byContradiction (fun e => Bool.false_ne_true (hg.symm.trans (fc.mpr e))); simp [x7, this]))
theorem rJ {a b : Int} (ha : Num a) (hb : Num b) (h : Heap) : d5 Tryz.prog G 148 [.i 6, .i a, .i b] h (fun r h' => r = .tup [.i (x7 6 a b).1, .i (x7 6 a b).2.2] ∧ h' = h) := by
  unfold Num at *
  have w1 := IntWalk.i64_in (a - b) (by omega)
  refine c8 (rl := []) d7 Tryz.func148 rfl (rs := [.tmp 6, .tmp 7]) rfl Tryz.ntmps148 (by simp) ?_
  repeat' (first | ((repeat ((fail_if_success (refine hK _ ?_)); clear hK K)); refine hK _ ?_; clear hK K) | ((first | refine b9 fun K1 q8 => ?_ | refine b7 fun A B hA hB => ?_); simp only [S1, simprocAttr, N2, w1]; first | refine q8 _ ?_; clear q8 K1 | ((first | refine hA ?_ | refine hB ?_); clear hA hB A B) | (apply d4 E99; exact (dD _ _); refine q8 _ ?_; clear q8 K1) | ((((refine ⟨fun hg => hA ?_, fun hg => hB ?_⟩ <;> clear hA hB A B)) <;> (try simp only [BN2] at hg) <;> (try simp only [hg, cndB])) <;> (try (refine q8 _ ?_; clear q8 K1)) <;> (try simp only [BN3] at hg))) | refine b6 fun K hK => ?_ | ((first | apply b8 | apply b5 | apply c7 | apply c9 | apply d3); try simp only [NB, simprocAttr]))
  all_goals simp only [S1, simprocAttr, ENB, N2]
  all_goals (try simp only [Bool.not_eq_true', Bool.not_eq_false'] at hg)
  all_goals (first
    | (have := fc.mp hg; simp [x7, this])
    | (have := Classical.byContradiction (fun e => Bool.false_ne_true (hg.symm.trans (fc.mpr e))); simp [x7, this]))
theorem rK {a b : Int} (ha : Num a) (hb : Num b) (h : Heap) : d5 Tryz.prog G 148 [.i 7, .i a, .i b] h (fun r h' => r = .tup [.i (x7 7 a b).1, .i (x7 7 a b).2.2] ∧ h' = h) := by
  unfold Num at *
  skip
  refine c8 (rl := []) d7 Tryz.func148 rfl (rs := [.tmp 6, .tmp 7]) rfl Tryz.ntmps148 (by simp) ?_
  repeat' (first | ((repeat ((fail_if_success (refine hK _ ?_)); clear hK K)); refine hK _ ?_; clear hK K) | ((first | refine b9 fun K1 q8 => ?_ | refine b7 fun A B hA hB => ?_); simp only [S1, simprocAttr, N2]; first | refine q8 _ ?_; clear q8 K1 | ((first | refine hA ?_ | refine hB ?_); clear hA hB A B) | (apply d4 Bh; exact (lp (by assumption) (by assumption) _); refine q8 _ ?_; clear q8 K1)) | refine b6 fun K hK => ?_ | ((first | apply b8 | apply b5 | apply c7 | apply d3); try simp only [NB, simprocAttr]))
  all_goals simp only [S1, simprocAttr, ENB, N2]
  all_goals simp [x7]
theorem rL {a b : Int} (ha : Num a) (hb : Num b) (hz : ¬ b = 0) (h : Heap) : d5 Tryz.prog G 148 [.i 8, .i a, .i b] h (fun r h' => r = .tup [.i (x7 8 a b).1, .i (x7 8 a b).2.2] ∧ h' = h) := by
  have hd := fa (b := b) ha
  unfold Num at *
  have f2 : (b == 0) = false := by simpa using hz
  have w1 := IntWalk.i64_in (a.tdiv b) (by omega)
  refine c8 (rl := []) d7 Tryz.func148 rfl (rs := [.tmp 6, .tmp 7]) rfl Tryz.ntmps148 (by simp) ?_
  repeat' (first | ((repeat ((fail_if_success (refine hK _ ?_)); clear hK K)); refine hK _ ?_; clear hK K) | ((first | refine b9 fun K1 q8 => ?_ | refine b7 fun A B hA hB => ?_); simp only [S1, simprocAttr, N2, w1, f2, hz]; first | refine q8 _ ?_; clear q8 K1 | ((first | refine hA ?_ | refine hB ?_); clear hA hB A B)) | refine b6 fun K hK => ?_ | ((first | apply b8 | apply b5 | apply c7 | apply c9 | apply d3); try simp only [NB, simprocAttr]))
  all_goals simp only [S1, simprocAttr, ENB, N2]
  all_goals simp [x7, hz]
theorem rM {a b : Int} (ha : Num a) (hb : Num b) (hz : ¬ b = 0) (h : Heap) : d5 Tryz.prog G 148 [.i 9, .i a, .i b] h (fun r h' => r = .tup [.i (x7 9 a b).1, .i (x7 9 a b).2.2] ∧ h' = h) := by
  have hd := fb (b := b) ha
  unfold Num at *
  have f2 : (b == 0) = false := by simpa using hz
  have w5 : (-9223372036854775808 ≤ a.tmod b) := by omega
  have w6 : (a.tmod b ≤ 9223372036854775807) := by omega
  refine c8 (rl := []) d7 Tryz.func148 rfl (rs := [.tmp 6, .tmp 7]) rfl Tryz.ntmps148 (by simp) ?_
  repeat' (first | ((repeat ((fail_if_success (refine hK _ ?_)); clear hK K)); refine hK _ ?_; clear hK K) | ((first | refine b9 fun K1 q8 => ?_ | refine b7 fun A B hA hB => ?_); simp only [S1, simprocAttr, N2, w5, w6, f2, hz]; first | refine q8 _ ?_; clear q8 K1 | (refine hB ?_; clear hA hB A B)) | refine b6 fun K hK => ?_ | ((first | apply b8 | apply b5 | apply c7 | apply c9 | apply d3); try simp only [NB, simprocAttr]))
  all_goals simp only [S1, simprocAttr, ENB, N2]
  all_goals simp [x7, hz]
theorem um {a : Int} (h : Heap) : d5 Tryz.prog G 148 [.i 8, .i a, .i 0] h (fun r h' => r = .tup [.i (x7 8 a 0).1, .i (x7 8 a 0).2.2] ∧ h' = h) := by
  refine c8 (rl := []) d7 Tryz.func148 rfl (rs := [.tmp 6, .tmp 7]) rfl Tryz.ntmps148 (by simp) ?_
  repeat' (first | ((repeat ((fail_if_success (refine hK _ ?_)); clear hK K)); refine hK _ ?_; clear hK K) | ((first | refine b9 fun K1 q8 => ?_ | refine b7 fun A B hA hB => ?_); simp only [S1, simprocAttr, N2]; first | refine q8 _ ?_; clear q8 K1 | ((first | refine hA ?_ | refine hB ?_); clear hA hB A B)) | refine b6 fun K hK => ?_ | ((first | apply b8 | apply b5 | apply c7 | apply d3); try simp only [NB, simprocAttr]))
  all_goals simp only [S1, simprocAttr, ENB, N2]
  all_goals simp [x7]
theorem un {a : Int} (h : Heap) : d5 Tryz.prog G 148 [.i 9, .i a, .i 0] h (fun r h' => r = .tup [.i (x7 9 a 0).1, .i (x7 9 a 0).2.2] ∧ h' = h) := by
  refine c8 (rl := []) d7 Tryz.func148 rfl (rs := [.tmp 6, .tmp 7]) rfl Tryz.ntmps148 (by simp) ?_
  repeat' (first | ((repeat ((fail_if_success (refine hK _ ?_)); clear hK K)); refine hK _ ?_; clear hK K) | ((first | refine b9 fun K1 q8 => ?_ | refine b7 fun A B hA hB => ?_); simp only [S1, simprocAttr, N2]; first | refine q8 _ ?_; clear q8 K1 | ((first | refine hA ?_ | refine hB ?_); clear hA hB A B)) | refine b6 fun K hK => ?_ | ((first | apply b8 | apply b5 | apply c7 | apply d3); try simp only [NB, simprocAttr]))
  all_goals simp only [S1, simprocAttr, ENB, N2]
  all_goals simp [x7]
theorem nP {op a b : Int} (h1 : 5 ≤ op) (h2 : op ≤ 9) (ha : Num a) (hb : Num b) (h : Heap) : d5 Tryz.prog G 148 [.i op, .i a, .i b] h (fun r h' => r = .tup [.i (x7 op a b).1, .i (x7 op a b).2.2] ∧ h' = h) := by
  rcases (by omega : op = 5 ∨ op = 6 ∨ op = 7 ∨ op = 8 ∨ op = 9) with rfl | rfl | rfl | rfl | rfl
  · exact rI ha hb h
  · exact rJ ha hb h
  · exact rK ha hb h
  · by_cases hz : b = 0
    · subst hz; exact um h
    · exact rL ha hb hz h
  · by_cases hz : b = 0
    · subst hz; exact un h
    · exact rM ha hb hz h
end
section
def H0 := And.intro T2 (And.intro T3 (And.intro T4 (And.intro T31 (And.intro T58 (And.intro T75 (And.intro re nh))))))
attribute [local irreducible] awp n9 k8
variable {G : Nat → Option (List PV)}
abbrev aV3 (x : Int × Bool × Int) : AV := .agg [.i x.1, .b x.2.1, .i x.2.2]
theorem xP {a b : Int} (h : Heap) : d5 Tryz.prog G 146 [.i 10, .i a, .i b] h (fun r h' => r = aV3 (x7 10 a b) ∧ h' = h) := by
  skip
  refine c8 (rl := []) d7 Tryz.func146 rfl (rs := [.cell 6 185]) rfl Tryz.ntmps146 (by simp) ?_
  repeat' (first | ((repeat ((fail_if_success (refine hK _ ?_)); clear hK K)); refine hK _ ?_; clear hK K) | ((first | refine b9 fun K1 q8 => ?_ | refine b7 fun A B hA hB => ?_); simp only [S1, simprocAttr, H0]; first | refine q8 _ ?_; clear q8 K1 | (refine hA ?_; clear hA hB A B) | (refine l9 (v := ?_) (fun hg q9 => ?_) ?_; rotate_left; (focus (try ((try simp only [BN] at hg); simp only [S1, simprocAttr, H0, hg] at q9 ⊢)); exact q9); refine q8 _ ?_; clear q8 K1)) | refine b6 fun K hK => ?_ | ((first | apply b8 | apply b5 | apply d3); try simp only [NB, simprocAttr]))
  all_goals simp only [S1, simprocAttr, ENB, H0]
  all_goals simp [x7]
theorem xQ {a b : Int} (h : Heap) : d5 Tryz.prog G 146 [.i 11, .i a, .i b] h (fun r h' => r = aV3 (x7 11 a b) ∧ h' = h) := by
  skip
  refine c8 (rl := []) d7 Tryz.func146 rfl (rs := [.cell 6 185]) rfl Tryz.ntmps146 (by simp) ?_
  repeat' (first | ((repeat ((fail_if_success (refine hK _ ?_)); clear hK K)); refine hK _ ?_; clear hK K) | ((first | refine b9 fun K1 q8 => ?_ | refine b7 fun A B hA hB => ?_); simp only [S1, simprocAttr, H0]; first | refine q8 _ ?_; clear q8 K1 | (refine hA ?_; clear hA hB A B) | (refine l9 (v := ?_) (fun hg q9 => ?_) ?_; rotate_left; (focus (try ((try simp only [BN] at hg); simp only [S1, simprocAttr, H0, hg] at q9 ⊢)); exact q9); refine q8 _ ?_; clear q8 K1)) | refine b6 fun K hK => ?_ | ((first | apply b8 | apply b5 | apply d3); try simp only [NB, simprocAttr]))
  all_goals simp only [S1, simprocAttr, ENB, H0]
  all_goals simp [x7]
theorem xR {a b : Int} (h : Heap) : d5 Tryz.prog G 146 [.i 12, .i a, .i b] h (fun r h' => r = aV3 (x7 12 a b) ∧ h' = h) := by
  skip
  refine c8 (rl := []) d7 Tryz.func146 rfl (rs := [.cell 6 185]) rfl Tryz.ntmps146 (by simp) ?_
  repeat' (first | ((repeat ((fail_if_success (refine hK _ ?_)); clear hK K)); refine hK _ ?_; clear hK K) | ((first | refine b9 fun K1 q8 => ?_ | refine b7 fun A B hA hB => ?_); simp only [S1, simprocAttr, H0]; first | refine q8 _ ?_; clear q8 K1 | (refine hA ?_; clear hA hB A B) | (refine l9 (v := ?_) (fun hg q9 => ?_) ?_; rotate_left; (focus (try ((try simp only [BN] at hg); simp only [S1, simprocAttr, H0, hg] at q9 ⊢)); exact q9); refine q8 _ ?_; clear q8 K1)) | refine b6 fun K hK => ?_ | ((first | apply b8 | apply b5 | apply d3); try simp only [NB, simprocAttr]))
  all_goals simp only [S1, simprocAttr, ENB, H0]
  all_goals simp [x7]
theorem zs {a : Int} (h : Heap) : d5 Tryz.prog G 146 [.i 8, .i a, .i 0] h (fun r h' => r = aV3 (x7 8 a 0) ∧ h' = h) := by
  skip
  refine c8 (rl := []) d7 Tryz.func146 rfl (rs := [.cell 6 185]) rfl Tryz.ntmps146 (by simp) ?_
  repeat' (first | ((repeat ((fail_if_success (refine hK _ ?_)); clear hK K)); refine hK _ ?_; clear hK K) | ((first | refine b9 fun K1 q8 => ?_ | refine b7 fun A B hA hB => ?_); simp only [S1, simprocAttr, H0]; first | refine q8 _ ?_; clear q8 K1 | ((first | refine hA ?_ | refine hB ?_); clear hA hB A B)) | refine b6 fun K hK => ?_ | ((first | apply b8 | apply b5 | apply c9 | apply d3); try simp only [NB, simprocAttr]))
  all_goals simp only [S1, simprocAttr, ENB, H0]
  all_goals simp [x7]
theorem zu {a : Int} (h : Heap) : d5 Tryz.prog G 146 [.i 9, .i a, .i 0] h (fun r h' => r = aV3 (x7 9 a 0) ∧ h' = h) := by
  skip
  refine c8 (rl := []) d7 Tryz.func146 rfl (rs := [.cell 6 185]) rfl Tryz.ntmps146 (by simp) ?_
  repeat' (first | ((repeat ((fail_if_success (refine hK _ ?_)); clear hK K)); refine hK _ ?_; clear hK K) | ((first | refine b9 fun K1 q8 => ?_ | refine b7 fun A B hA hB => ?_); simp only [S1, simprocAttr, H0]; first | refine q8 _ ?_; clear q8 K1 | ((first | refine hA ?_ | refine hB ?_); clear hA hB A B)) | refine b6 fun K hK => ?_ | ((first | apply b8 | apply b5 | apply c9 | apply d3); try simp only [NB, simprocAttr]))
  all_goals simp only [S1, simprocAttr, ENB, H0]
  all_goals simp [x7]
theorem xS {a b : Int} (ha : Num a) (hb : Num b) (hz : ¬ b = 0) (h : Heap) : d5 Tryz.prog G 146 [.i 8, .i a, .i b] h (fun r h' => r = aV3 (x7 8 a b) ∧ h' = h) := by
  have hd := fa (b := b) ha
  have hm := fb (b := b) ha
  unfold Num at *
  have f2 : (b == 0) = false := by simpa using hz
  have w1 := IntWalk.i64_in (a.tdiv b) (by omega)
  refine c8 (rl := []) d7 Tryz.func146 rfl (rs := [.cell 6 185]) rfl Tryz.ntmps146 (by simp) ?_
  repeat' (first | ((repeat ((fail_if_success (refine hK _ ?_)); clear hK K)); refine hK _ ?_; clear hK K) | ((first | refine b9 fun K1 q8 => ?_ | refine b7 fun A B hA hB => ?_); simp only [S1, simprocAttr, H0, w1, f2, hz]; first | refine q8 _ ?_; clear q8 K1 | ((first | refine hA ?_ | refine hB ?_); clear hA hB A B)) | refine b6 fun K hK => ?_ | ((first | apply b8 | apply b5 | apply c9 | apply d3); try simp only [NB, simprocAttr]))
  all_goals simp only [S1, simprocAttr, ENB, H0]
  all_goals simp [x7, hz]
theorem xT {a b : Int} (ha : Num a) (hb : Num b) (hz : ¬ b = 0) (h : Heap) : d5 Tryz.prog G 146 [.i 9, .i a, .i b] h (fun r h' => r = aV3 (x7 9 a b) ∧ h' = h) := by
  have hd := fa (b := b) ha
  have hm := fb (b := b) ha
  unfold Num at *
  have f2 : (b == 0) = false := by simpa using hz
  have w1 := IntWalk.i64_in (a.tdiv b) (by omega)
  have e : a.tdiv b * b = a - a.tmod b := by rw [Int.tmod_def, Int.mul_comm]; omega
  have w2 : IntKind.i64.wrap (a.tdiv b * b) = a - a.tmod b := by rw [e, IntWalk.i64_in _ (by omega)]
  have w3 : IntKind.i64.wrap (a - (a - a.tmod b)) = a.tmod b := by rw [IntWalk.i64_in _ (by omega)]; omega
  refine c8 (rl := []) d7 Tryz.func146 rfl (rs := [.cell 6 185]) rfl Tryz.ntmps146 (by simp) ?_
  repeat' (first | ((repeat ((fail_if_success (refine hK _ ?_)); clear hK K)); refine hK _ ?_; clear hK K) | ((first | refine b9 fun K1 q8 => ?_ | refine b7 fun A B hA hB => ?_); simp only [S1, simprocAttr, H0, w1, w2, w3, f2, hz]; first | refine q8 _ ?_; clear q8 K1 | ((first | refine hA ?_ | refine hB ?_); clear hA hB A B)) | refine b6 fun K hK => ?_ | ((first | apply b8 | apply b5 | apply c9 | apply d3); try simp only [NB, simprocAttr]))
  all_goals simp only [S1, simprocAttr, ENB, H0]
  all_goals simp [x7, hz]
theorem ww {a : Int} (h : Heap) : d5 Tryz.prog G 146 [.i 7, .i a, .i 0] h (fun r h' => r = aV3 (x7 7 a 0) ∧ h' = h) := by
  have w : IntKind.i64.wrap 0 = 0 := by rfl
  refine c8 (rl := []) d7 Tryz.func146 rfl (rs := [.cell 6 185]) rfl Tryz.ntmps146 (by simp) ?_
  repeat' (first | ((repeat ((fail_if_success (refine hK _ ?_)); clear hK K)); refine hK _ ?_; clear hK K) | ((first | refine b9 fun K1 q8 => ?_ | refine b7 fun A B hA hB => ?_); simp only [S1, simprocAttr, H0, w, Int.mul_zero]; first | refine q8 _ ?_; clear q8 K1 | ((first | refine hA ?_ | refine hB ?_); clear hA hB A B)) | refine b6 fun K hK => ?_ | ((first | apply b8 | apply b5 | apply c9 | apply d3); try simp only [NB, simprocAttr]))
  all_goals simp only [S1, simprocAttr, ENB, H0]
  all_goals simp [x7, R5]
theorem xU {a b : Int} (ha : Num a) (hb : Num b) (hz : ¬ b = 0) (h : Heap) : d5 Tryz.prog G 146 [.i 7, .i a, .i b] h (fun r h' => r = aV3 (x7 7 a b) ∧ h' = h) := by
  have hp := kj (a := a) hz
  unfold Num at *
  have f2 : (b == 0) = false := by simpa using hz
  have f2' : (b != 0) = true := by simpa using hz
  have f3 : ¬ ((b.natAbs : Int) = 0) := by omega
  have f4 := td hz
  refine c8 (rl := []) d7 Tryz.func146 rfl (rs := [.cell 6 185]) rfl Tryz.ntmps146 (by simp) ?_
  repeat' (first | ((repeat ((fail_if_success (refine hK _ ?_)); clear hK K)); refine hK _ ?_; clear hK K) | ((first | refine b9 fun K1 q8 => ?_ | refine b7 fun A B hA hB => ?_); simp only [S1, simprocAttr, H0, f2, f2', f3, f4, hz]; first | refine q8 _ ?_; clear q8 K1 | ((first | refine hA ?_ | refine hB ?_); clear hA hB A B) | (apply d4 zc; exact (ce (by omega) _); refine q8 _ ?_; clear q8 K1) | ((((refine ⟨fun hg => hA ?_, fun hg => hB ?_⟩ <;> clear hA hB A B)) <;> (try simp only [BN2] at hg) <;> (try simp only [hg, cndB])) <;> (try (refine q8 _ ?_; clear q8 K1)) <;> (try simp only [BN3] at hg))) | refine b6 fun K hK => ?_ | ((first | apply b8 | apply b5 | apply c9 | apply d3); try simp only [NB, simprocAttr]))
  all_goals simp only [S1, simprocAttr, ENB, H0]
  · have hq : 1099511627776 / b.natAbs < a.natAbs := by generalize 1099511627776 / b.natAbs = q at *; omega
    simp [x7, R5, hz, hq]
  · have hq : ¬ 1099511627776 / b.natAbs < a.natAbs := by generalize 1099511627776 / b.natAbs = q at *; omega
    have := hp hq
    rw [IntWalk.i64_in _ (by omega)]
    simp [x7, R5, hz, hq]
theorem xV {a b : Int} (ha : Num a) (hb : Num b) (h : Heap) : d5 Tryz.prog G 146 [.i 5, .i a, .i b] h (fun r h' => r = aV3 (x7 5 a b) ∧ h' = h) := by
  unfold Num at *
  have w1 := IntWalk.i64_in (a + b) (by omega)
  refine c8 (rl := []) d7 Tryz.func146 rfl (rs := [.cell 6 185]) rfl Tryz.ntmps146 (by simp) ?_
  repeat' (first | ((repeat ((fail_if_success (refine hK _ ?_)); clear hK K)); refine hK _ ?_; clear hK K) | ((first | refine b9 fun K1 q8 => ?_ | refine b7 fun A B hA hB => ?_); simp only [S1, simprocAttr, H0, w1]; first | refine q8 _ ?_; clear q8 K1 | (refine hB ?_; clear hA hB A B) | (apply d4 zc; exact (ce (by omega) _); refine q8 _ ?_; clear q8 K1) | ((((refine ⟨fun hg => hA ?_, fun hg => hB ?_⟩ <;> clear hA hB A B)) <;> (try simp only [BN2] at hg) <;> (try simp only [hg, cndB])) <;> (try (refine q8 _ ?_; clear q8 K1)) <;> (try simp only [BN3] at hg))) | refine b6 fun K hK => ?_ | ((first | apply b8 | apply b5 | apply c9 | apply d3); try simp only [NB, simprocAttr]))
  all_goals simp only [S1, simprocAttr, ENB, H0]
  · have hq : 1099511627776 < (a + b).natAbs := by omega
    simp [x7, hq]
  · have hq : ¬ 1099511627776 < (a + b).natAbs := by omega
    simp [x7, hq]
theorem xW {a b : Int} (ha : Num a) (hb : Num b) (h : Heap) : d5 Tryz.prog G 146 [.i 6, .i a, .i b] h (fun r h' => r = aV3 (x7 6 a b) ∧ h' = h) := by
  unfold Num at *
  have w1 := IntWalk.i64_in (a - b) (by omega)
  have w2 := IntWalk.i64_in (a + b) (by omega)
  refine c8 (rl := []) d7 Tryz.func146 rfl (rs := [.cell 6 185]) rfl Tryz.ntmps146 (by simp) ?_
  repeat' (first | ((repeat ((fail_if_success (refine hK _ ?_)); clear hK K)); refine hK _ ?_; clear hK K) | ((first | refine b9 fun K1 q8 => ?_ | refine b7 fun A B hA hB => ?_); simp only [S1, simprocAttr, H0, w1, w2]; first | refine q8 _ ?_; clear q8 K1 | ((first | refine hA ?_ | refine hB ?_); clear hA hB A B) | (apply d4 zc; exact (ce (by omega) _); refine q8 _ ?_; clear q8 K1) | ((((refine ⟨fun hg => hA ?_, fun hg => hB ?_⟩ <;> clear hA hB A B)) <;> (try simp only [BN2] at hg) <;> (try simp only [hg, cndB])) <;> (try (refine q8 _ ?_; clear q8 K1)) <;> (try simp only [BN3] at hg))) | refine b6 fun K hK => ?_ | ((first | apply b8 | apply b5 | apply c9 | apply d3); try simp only [NB, simprocAttr]))
  all_goals simp only [S1, simprocAttr, ENB, H0]
  · have hq : 1099511627776 < (a - b).natAbs := by omega
    simp [x7, hq]
  · have hq : ¬ 1099511627776 < (a - b).natAbs := by omega
    simp [x7, hq]
theorem uo {op a b : Int} (h1 : 5 ≤ op) (h2 : op ≤ 12) (ha : Num a) (hb : Num b) (h : Heap) : d5 Tryz.prog G 146 [.i op, .i a, .i b] h (fun r h' => r = aV3 (x7 op a b) ∧ h' = h) := by
  rcases (by omega : op = 5 ∨ op = 6 ∨ op = 7 ∨ op = 8 ∨ op = 9 ∨ op = 10 ∨ op = 11 ∨ op = 12) with rfl | rfl | rfl | rfl | rfl | rfl | rfl | rfl
  · exact xV ha hb h
  · exact xW ha hb h
  · by_cases hz : b = 0
    · subst hz; exact ww h
    · exact xU ha hb hz h
  · by_cases hz : b = 0
    · subst hz; exact zs h
    · exact xS ha hb hz h
  · by_cases hz : b = 0
    · subst hz; exact zu h
    · exact xT ha hb hz h
  · exact xP h
  · exact xQ h
  · exact xR h
end
section
attribute [local irreducible] awp n9 k8
variable {G : Nat → Option (List PV)}
inductive Good : Tm → Bool → Prop where
  | num (n : Int) (h1 : 0 ≤ n) (h2 : n ≤ 1099511627776) : Good (.mk 1 n []) false
  | var (n : Int) (h : n = 0 ∨ n = 1 ∨ n = 2 ∨ n = 3) : Good (.mk 2 n []) false
  | neg (a : Tm) (h : Good a false) : Good (.mk 3 0 [a]) false
  | not (a : Tm) (h : Good a true) : Good (.mk 4 0 [a]) true
  | bin (o : Int) (a b : Tm) (h1 : 5 ≤ o) (h2 : o ≤ 9) (ha : Good a false) (hb : Good b false) : Good (.mk o 0 [a, b]) false
  | cmp (o : Int) (a b : Tm) (h1 : 10 ≤ o) (h2 : o ≤ 12) (ha : Good a false) (hb : Good b false) : Good (.mk o 0 [a, b]) true
  | log (o : Int) (a b : Tm) (h : o = 13 ∨ o = 14) (ha : Good a true) (hb : Good b true) : Good (.mk o 0 [a, b]) true
theorem xX (t : Tm) : t.form = true → t.typed = true → Good t (y9 t.op) := by
  refine Tm.ind (p := fun t => t.form = true → t.typed = true → Good t (y9 t.op)) (fun t ih hf ht => ?_) t
  rw [Tm.form_eq, Bool.and_eq_true, List.all_eq_true] at hf
  rw [Tm.typed_eq, List.all_eq_true] at ht
  obtain ⟨h1, h2⟩ := hf
  cases t with
  | mk o n ks =>
    simp only [Tm.op, Tm.n, Tm.kids] at *
    simp only [A2, Bool.and_eq_true, decide_eq_true_eq] at h1
    obtain ⟨⟨⟨⟨⟨⟨g1, g2⟩, g3⟩, g4⟩, g5⟩, g6⟩, g7⟩ := h1
    have hk : ∀ k ∈ ks, y9 k.op = G3 o ∧ Good k (G3 o) := fun k hm => by
      have := ht k hm
      simp only [I9, Bool.and_eq_true, beq_iff_eq] at this
      exact ⟨this.1, this.1 ▸ ih k hm (h2 k hm) this.2⟩
    unfold bR at g3
    match ks, hk, g3 with
    | [], hk, g3 =>
      have : o = 1 ∨ o = 2 := by
        simp only [List.length_nil] at g3
        split at g3
        · omega
        · split at g3 <;> omega
      rcases this with rfl | rfl
      · exact Good.num n g4 (g5 rfl)
      · exact Good.var n (by have := g6 rfl; omega)
    | [a], hk, g3 =>
      have : o = 3 ∨ o = 4 := by
        simp only [List.length_cons, List.length_nil] at g3
        split at g3
        · omega
        · split at g3 <;> omega
      have ha := (hk a (by simp)).2
      have hn := g7 (by omega)
      subst hn
      rcases this with rfl | rfl
      · exact Good.neg a ha
      · exact Good.not a ha
    | [a, b], hk, g3 =>
      have h5 : 5 ≤ o := by
        simp only [List.length_cons, List.length_nil] at g3
        split at g3
        · omega
        · split at g3 <;> omega
      have ha := (hk a (by simp)).2
      have hb := (hk b (by simp)).2
      have hn := g7 (by omega)
      subst hn
      rcases (by omega : o ≤ 9 ∨ (10 ≤ o ∧ o ≤ 12) ∨ (o = 13 ∨ o = 14)) with e | e | e
      · have w : G3 o = false := by unfold G3; simp; omega
        have u : y9 o = false := by unfold y9; simp; omega
        rw [w] at ha hb; rw [u]
        exact Good.bin o a b h5 e ha hb
      · have w : G3 o = false := by unfold G3; simp; omega
        have u : y9 o = true := by unfold y9; simp; omega
        rw [w] at ha hb; rw [u]
        exact Good.cmp o a b e.1 e.2 ha hb
      · have w : G3 o = true := by unfold G3; simp; omega
        have u : y9 o = true := by unfold y9; simp; omega
        rw [w] at ha hb; rw [u]
        exact Good.log o a b e ha hb
    | a :: b :: c :: r, hk, g3 =>
      exfalso
      simp only [List.length_cons] at g3
      split at g3
      · omega
      · split at g3 <;> omega
def xY (v : Int → Int) (o n : Int) : List (Int × Bool × Int) → Int × Bool × Int
  | [] => if o = 1 then (n, false, 0) else (v n, false, 0)
  | [a] => if a.2.2 ≠ 0 then (0, false, a.2.2) else if o = 3 then (-a.1, false, 0) else (0, !a.2.1, 0)
  | a :: b :: _ => if a.2.2 ≠ 0 then (0, false, a.2.2) else if o = 13 then (if a.2.1 then b else a) else if o = 14 then (if a.2.1 then a else b)
    else if b.2.2 ≠ 0 then (0, false, b.2.2) else x7 o a.1 b.1
def ev (v : Int → Int) : Tm → Int × Bool × Int
  | .mk o n ks => xY v o n (ks.map (ev v))
theorem gp (v : Int → Int) (o n : Int) : ev v (.mk o n []) = if o = 1 then (n, false, 0) else (v n, false, 0) := by simp [ev, xY]
theorem gu (v : Int → Int) (o n : Int) (a : Tm) : ev v (.mk o n [a]) = if (ev v a).2.2 ≠ 0 then (0, false, (ev v a).2.2) else if o = 3 then (-(ev v a).1, false, 0) else (0, !(ev v a).2.1, 0) := by simp [ev, xY]
theorem aX (v : Int → Int) (o n : Int) (a b : Tm) : ev v (.mk o n [a, b]) = if (ev v a).2.2 ≠ 0 then (0, false, (ev v a).2.2) else if o = 13 then (if (ev v a).2.1 then ev v b else ev v a) else if o = 14 then (if (ev v a).2.1 then ev v a else ev v b)
    else if (ev v b).2.2 ≠ 0 then (0, false, (ev v b).2.2) else x7 o (ev v a).1 (ev v b).1 := by simp [ev, xY]
theorem uq {a b : Int} : Num (R5 a b).1 ∧ ((R5 a b).2 ≠ 0 → (R5 a b).1 = 0) ∧ ((R5 a b).2 = 0 ∨ (R5 a b).2 = 40) := by
  unfold R5
  split
  · exact ⟨⟨by decide, by decide⟩, fun _ => rfl, .inr rfl⟩
  · rename_i h
    refine ⟨?_, fun h => absurd rfl h, .inl rfl⟩
    by_cases hb : b = 0
    · subst hb; simp; exact ⟨by decide, by decide⟩
    · exact kj hb fun e => h ⟨hb, e⟩
theorem pQ {o a b : Int} (ha : Num a) : Num (x7 o a b).1 ∧ ((x7 o a b).2.2 ≠ 0 → (x7 o a b).1 = 0 ∧ (x7 o a b).2.1 = false) ∧ ((x7 o a b).2.2 = 0 ∨ (x7 o a b).2.2 = 40 ∨ (x7 o a b).2.2 = 41) := by
  have z : Num 0 := ⟨by decide, by decide⟩
  have hp := uq (a := a) (b := b)
  unfold x7
  repeat' split
  all_goals first
    | exact ⟨z, fun h => ⟨rfl, rfl⟩, .inr (.inl rfl)⟩
    | exact ⟨z, fun h => ⟨rfl, rfl⟩, .inr (.inr rfl)⟩
    | exact ⟨z, fun h => absurd rfl h, .inl rfl⟩
    | exact ⟨fa ha, fun h => absurd rfl h, .inl rfl⟩
    | exact ⟨fb ha, fun h => absurd rfl h, .inl rfl⟩
    | exact ⟨hp.1, fun h => ⟨hp.2.1 h, rfl⟩, by rcases hp.2.2 with e | e <;> simp [e]⟩
    | exact ⟨(by unfold Num; dsimp only; omega), fun h => absurd rfl h, .inl rfl⟩
theorem I2 {v : Int → Int} (hv : ∀ i, Num (v i)) {t : Tm} {k : Bool} (h : Good t k) : (k = false → Num (ev v t).1) ∧ ((ev v t).2.2 ≠ 0 → (ev v t).1 = 0 ∧ (ev v t).2.1 = false) ∧ ((ev v t).2.2 = 0 ∨ (ev v t).2.2 = 40 ∨ (ev v t).2.2 = 41) := by
  have z : Num 0 := ⟨by decide, by decide⟩
  induction h with
  | num n h1 h2 => rw [gp]; simp; unfold Num; omega
  | var n h => rw [gp, if_neg (by decide)]; exact ⟨fun _ => hv n, fun h => absurd rfl h, .inl rfl⟩
  | neg a h ih =>
    rw [gu]
    split
    · rename_i e; exact ⟨fun _ => z, fun _ => ⟨rfl, rfl⟩, ih.2.2⟩
    · have := ih.1 rfl
      rw [if_pos rfl]
      exact ⟨fun _ => (by unfold Num at *; simp only; omega), fun h => absurd rfl h, .inl rfl⟩
  | not a h ih =>
    rw [gu]
    split
    · exact ⟨fun _ => z, fun _ => ⟨rfl, rfl⟩, ih.2.2⟩
    · rw [if_neg (by decide)]; exact ⟨fun e => (by cases e), fun h => absurd rfl h, .inl rfl⟩
  | bin o a b h1 h2 ha hb iha ihb =>
    rw [aX]
    split
    · exact ⟨fun _ => z, fun _ => ⟨rfl, rfl⟩, iha.2.2⟩
    · rw [if_neg (by omega), if_neg (by omega)]
      split
      · exact ⟨fun _ => z, fun _ => ⟨rfl, rfl⟩, ihb.2.2⟩
      · have := pQ (o := o) (b := (ev v b).1) (iha.1 rfl)
        exact ⟨fun _ => this.1, this.2⟩
  | cmp o a b h1 h2 ha hb iha ihb =>
    rw [aX]
    split
    · exact ⟨fun _ => z, fun _ => ⟨rfl, rfl⟩, iha.2.2⟩
    · rw [if_neg (by omega), if_neg (by omega)]
      split
      · exact ⟨fun _ => z, fun _ => ⟨rfl, rfl⟩, ihb.2.2⟩
      · have := pQ (o := o) (b := (ev v b).1) (iha.1 rfl)
        exact ⟨fun e => (by cases e), this.2⟩
  | log o a b h ha hb iha ihb =>
    rw [aX]
    split
    · exact ⟨fun e => (by cases e), fun _ => ⟨rfl, rfl⟩, iha.2.2⟩
    · rcases h with rfl | rfl
      · rw [if_pos rfl]; split
        · exact ⟨fun e => (by cases e), ihb.2⟩
        · exact ⟨fun e => (by cases e), iha.2⟩
      · rw [if_neg (by decide), if_pos rfl]; split
        · exact ⟨fun e => (by cases e), iha.2⟩
        · exact ⟨fun e => (by cases e), ihb.2⟩
end
section
def ah := And.intro T2 (And.intro T3 (And.intro T4 (And.intro T31 (And.intro T58 (And.intro T73 (And.intro T75 (And.intro re nh)))))))
attribute [local irreducible] awp n9 k8
variable {G : Nat → Option (List PV)}
abbrev aV (v : Int → Int) : AV := .agg [.i (v 0), .i (v 1), .i (v 2), .i (v 3)]
abbrev aN (x : Int × Bool × Int) : AV := .tup [.i x.1, .i x.2.2]
abbrev aB (x : Int × Bool × Int) : AV := .tup [.b x.2.1, .i x.2.2]
theorem rN (v : Int → Int) (n : Int) (hn : n = 0 ∨ n = 1 ∨ n = 2 ∨ n = 3) (h : Heap) : d5 Tryz.prog G 140 [.agg [.i 2, .i n, .p (.sl [])], aV v] h (fun r h' => r = .tup [.i (v n), .i 0] ∧ h' = h) := by
  rcases hn with rfl | rfl | rfl | rfl
  all_goals
    refine c8 (rl := []) d7 Tryz.func140 rfl (rs := [.tmp 4, .tmp 5]) rfl Tryz.ntmps140 (by simp) ?_
    repeat' (first | ((repeat ((fail_if_success (refine hK _ ?_)); clear hK K)); refine hK _ ?_; clear hK K) | ((first | refine b9 fun K1 q8 => ?_ | refine b7 fun A B hA hB => ?_); simp only [S1, simprocAttr, ah]; first | refine q8 _ ?_; clear q8 K1 | ((first | refine hA ?_ | refine hB ?_); clear hA hB A B)) | refine b6 fun K hK => ?_ | ((first | apply b8 | apply b5 | apply c7 | apply d3); try simp only [NB, simprocAttr]))
    all_goals simp only [S1, simprocAttr, ENB, ah]
theorem rO (v : Int → Int) (n : Int) (h : Heap) : d5 Tryz.prog G 140 [.agg [.i 1, .i n, .p (.sl [])], aV v] h (fun r h' => r = .tup [.i n, .i 0] ∧ h' = h) := by
  refine c8 (rl := []) d7 Tryz.func140 rfl (rs := [.tmp 4, .tmp 5]) rfl Tryz.ntmps140 (by simp) ?_
  repeat' (first | ((repeat ((fail_if_success (refine hK _ ?_)); clear hK K)); refine hK _ ?_; clear hK K) | ((first | refine b9 fun K1 q8 => ?_ | refine b7 fun A B hA hB => ?_); simp only [S1, simprocAttr, ah]; first | refine q8 _ ?_; clear q8 K1 | (refine hA ?_; clear hA hB A B)) | refine b6 fun K hK => ?_ | ((first | apply b8 | apply b5 | apply c7 | apply d3); try simp only [NB, simprocAttr]))
  all_goals simp only [S1, simprocAttr, ENB, ah]
theorem rP (v : Int → Int) (a : Tm) {x : Int × Bool × Int} (hx : Num x.1) (ih : ∀ h : Heap, d5 Tryz.prog G 140 [aT a, aV v] h (fun r h' => r = aN x ∧ h' = h)) (h : Heap) :
    d5 Tryz.prog G 140 [.agg [.i 3, .i 0, .p (.sl [eT a])], aV v] h (fun r h' => r = .tup [.i (-x.1), .i x.2.2] ∧ h' = h) := by
  unfold Num at hx
  have hw := IntWalk.i64_in (-x.1) (by omega)
  have hz : (0 : Int) - x.1 = - x.1 := by omega
  refine c8 (rl := []) d7 Tryz.func140 rfl (rs := [.tmp 4, .tmp 5]) rfl Tryz.ntmps140 (by simp) ?_
  repeat' (first | ((repeat ((fail_if_success (refine hK _ ?_)); clear hK K)); refine hK _ ?_; clear hK K) | ((first | refine b9 fun K1 q8 => ?_ | refine j9 fun K1 q8 => ?_ | refine b7 fun A B hA hB => ?_); simp only [S1, simprocAttr, ah, q6, hw, hz]; first | refine q8 _ ?_; clear q8 K1 | ((first | refine hA ?_ | refine hB ?_); clear hA hB A B) | (apply j4 iW; exact (ih _); refine q8 _ ?_; clear q8 K1) | (refine l9 (v := ?_) (fun hg q9 => ?_) ?_; rotate_left; (focus (try ((try simp only [BN] at hg); simp only [S1, simprocAttr, ah, q6, hw, hz, hg] at q9 ⊢)); exact q9); refine q8 _ ?_; clear q8 K1)) | refine b6 fun K hK => ?_ | ((first | apply b8 | apply i5 | apply b5 | refine i6 ?_ | apply c7 | apply c9 | apply d3); try simp only [NB, simprocAttr]))
  all_goals simp only [S1, simprocAttr, ENB, ah]
theorem rQ (v : Int → Int) (o : Int) (h1 : 5 ≤ o) (h2 : o ≤ 9) (a b : Tm) {x y : Int × Bool × Int} (hx : Num x.1) (hy : Num y.1)
    (iha : ∀ h : Heap, d5 Tryz.prog G 140 [aT a, aV v] h (fun r h' => r = aN x ∧ h' = h))
    (ihb : ∀ h : Heap, d5 Tryz.prog G 140 [aT b, aV v] h (fun r h' => r = aN y ∧ h' = h)) (hx0 : x.2.2 ≠ 0 → x.1 = 0) (h : Heap) :
    d5 Tryz.prog G 140 [.agg [.i o, .i 0, .p (.sl [eT a, eT b])], aV v] h (fun r h' => r = aN (if x.2.2 ≠ 0 then (0, false, x.2.2) else if y.2.2 ≠ 0 then (0, false, y.2.2) else x7 o x.1 y.1) ∧ h' = h) := by
  have f1 : (o == 1) = false := by simp; omega
  have f2 : (o == 2) = false := by simp; omega
  have f3 : (o == 3) = false := by simp; omega
  have hz : IntKind.i64.wrap (0 - 0) = 0 := rfl
  have hz0 : IntKind.i64.wrap 0 = 0 := rfl
  by_cases e1 : x.2.2 = 0
  · have f4 : (x.2.2 != 0) = false := by simp [e1]
    by_cases e2 : y.2.2 = 0
    · have f5 : (y.2.2 != 0) = false := by simp [e2]
      refine c8 (rl := []) d7 Tryz.func140 rfl (rs := [.tmp 4, .tmp 5]) rfl Tryz.ntmps140 (by simp) ?_
      repeat' (first | ((repeat ((fail_if_success (refine hK _ ?_)); clear hK K)); refine hK _ ?_; clear hK K) | ((first | refine b9 fun K1 q8 => ?_ | refine j9 fun K1 q8 => ?_ | refine b7 fun A B hA hB => ?_); simp only [S1, simprocAttr, ah, q6, f1, f2, f3, f4, f5]; first | refine q8 _ ?_; clear q8 K1 | (refine hB ?_; clear hA hB A B) | (apply j4 iW; exact (iha _); refine q8 _ ?_; clear q8 K1) | (apply j4 iW; exact (ihb _); refine q8 _ ?_; clear q8 K1) | (apply d4 Bf; exact (nP h1 h2 hx hy _); refine q8 _ ?_; clear q8 K1)) | refine b6 fun K hK => ?_ | ((first | apply b8 | apply i5 | apply b5 | refine i6 ?_ | apply c7 | apply c9 | apply d3); try simp only [NB, simprocAttr]))
      all_goals simp only [S1, simprocAttr, ENB, ah]
      all_goals simp [e1, e2]
    · have f5 : (y.2.2 != 0) = true := by simp [e2]
      refine c8 (rl := []) d7 Tryz.func140 rfl (rs := [.tmp 4, .tmp 5]) rfl Tryz.ntmps140 (by simp) ?_
      repeat' (first | ((repeat ((fail_if_success (refine hK _ ?_)); clear hK K)); refine hK _ ?_; clear hK K) | ((first | refine b9 fun K1 q8 => ?_ | refine j9 fun K1 q8 => ?_ | refine b7 fun A B hA hB => ?_); simp only [S1, simprocAttr, ah, q6, f1, f2, f3, f4, f5]; first | refine q8 _ ?_; clear q8 K1 | ((first | refine hA ?_ | refine hB ?_); clear hA hB A B) | (apply j4 iW; exact (iha _); refine q8 _ ?_; clear q8 K1) | (apply j4 iW; exact (ihb _); refine q8 _ ?_; clear q8 K1)) | refine b6 fun K hK => ?_ | ((first | apply b8 | apply i5 | apply b5 | refine i6 ?_ | apply c7 | apply c9 | apply d3); try simp only [NB, simprocAttr]))
      all_goals simp only [S1, simprocAttr, ENB, ah]
      all_goals simp [e1, e2]
  · have f4 : (x.2.2 != 0) = true := by simp [e1]
    have f6 := hx0 e1
    refine c8 (rl := []) d7 Tryz.func140 rfl (rs := [.tmp 4, .tmp 5]) rfl Tryz.ntmps140 (by simp) ?_
    repeat' (first | ((repeat ((fail_if_success (refine hK _ ?_)); clear hK K)); refine hK _ ?_; clear hK K) | ((first | refine b9 fun K1 q8 => ?_ | refine j9 fun K1 q8 => ?_ | refine b7 fun A B hA hB => ?_); simp only [S1, simprocAttr, ah, q6, f1, f2, f3, f4, f6, hz, hz0]; first | refine q8 _ ?_; clear q8 K1 | ((first | refine hA ?_ | refine hB ?_); clear hA hB A B) | (apply j4 iW; exact (iha _); refine q8 _ ?_; clear q8 K1)) | refine b6 fun K hK => ?_ | ((first | apply b8 | apply i5 | apply b5 | refine i6 ?_ | apply c7 | apply c9 | apply d3); try simp only [NB, simprocAttr]))
    all_goals simp only [S1, simprocAttr, ENB, ah]
    all_goals simp [e1]
theorem aY {v : Int → Int} (hv : ∀ i, Num (v i)) {t : Tm} (ht : Good t false) : ∀ h : Heap, d5 Tryz.prog G 140 [aT t, aV v] h (fun r h' => r = aN (ev v t) ∧ h' = h) := by
  have key : ∀ {t k}, Good t k → k = false → ∀ h : Heap, d5 Tryz.prog G 140 [aT t, aV v] h (fun r h' => r = aN (ev v t) ∧ h' = h) := by
    intro t k hg
    induction hg with
    | num n h1 h2 => intro _ h; rw [gp]; exact rO v n h
    | var n hn => intro _ h; rw [gp, if_neg (by decide)]; exact rN v n hn h
    | neg a hg ih =>
      intro _ h
      have g := I2 hv hg
      refine d5.mono (rP v a (g.1 rfl) (ih rfl) h) ?_
      rintro r h' ⟨rfl, rfl⟩
      refine ⟨?_, rfl⟩
      rw [gu]
      split
      · rename_i e; rw [(g.2.1 e).1]; rfl
      · rename_i e; rw [if_pos rfl, Classical.not_not.mp e]
    | bin o a b h1 h2 ha hb iha ihb =>
      intro _ h
      have g := I2 hv ha
      refine d5.mono (rQ v o h1 h2 a b (g.1 rfl) ((I2 hv hb).1 rfl) (iha rfl) (ihb rfl) (fun e => (g.2.1 e).1) h) ?_
      rintro r h' ⟨rfl, rfl⟩
      refine ⟨?_, rfl⟩
      rw [aX, if_neg (show ¬ o = 13 by omega), if_neg (show ¬ o = 14 by omega)]
    | not => intro e; cases e
    | cmp => intro e; cases e
    | log => intro e; cases e
  exact key ht rfl
end
section
def y4 := And.intro T2 (And.intro T3 (And.intro T4 (And.intro T58 (And.intro T73 (And.intro T75 nh)))))
attribute [local irreducible] awp n9 k8 l8
variable {G : Nat → Option (List PV)}
theorem zw (v : Int → Int) (n : Int) (h : Heap) : d5 Tryz.prog G 130 [.agg [.i 1, .i n, .p (.sl [])], aV v] h (fun r h' => r = aV3 (n, false, 0) ∧ h' = h) := by
  refine c8 (rl := []) d7 Tryz.func130 rfl (rs := [.cell 4 185]) rfl Tryz.ntmps130 (by simp) ?_
  repeat' (first | ((repeat ((fail_if_success (refine hK _ ?_)); clear hK K)); refine hK _ ?_; clear hK K) | ((first | refine b9 fun K1 q8 => ?_ | refine b7 fun A B hA hB => ?_); simp only [S1, simprocAttr, y4]; first | refine q8 _ ?_; clear q8 K1 | (refine hA ?_; clear hA hB A B)) | refine b6 fun K hK => ?_ | ((first | apply b8 | apply b5 | apply d3); try simp only [NB, simprocAttr]))
  all_goals simp only [S1, simprocAttr, ENB, y4]
theorem zx (v : Int → Int) (n : Int) (hn : n = 0 ∨ n = 1 ∨ n = 2 ∨ n = 3) (h : Heap) : d5 Tryz.prog G 130 [.agg [.i 2, .i n, .p (.sl [])], aV v] h (fun r h' => r = aV3 (v n, false, 0) ∧ h' = h) := by
  rcases hn with rfl | rfl | rfl | rfl
  all_goals
    refine c8 (rl := []) d7 Tryz.func130 rfl (rs := [.cell 4 185]) rfl Tryz.ntmps130 (by simp) ?_
    repeat' (first | ((repeat ((fail_if_success (refine hK _ ?_)); clear hK K)); refine hK _ ?_; clear hK K) | ((first | refine b9 fun K1 q8 => ?_ | refine b7 fun A B hA hB => ?_); simp only [S1, simprocAttr, y4]; first | refine q8 _ ?_; clear q8 K1 | ((first | refine hA ?_ | refine hB ?_); clear hA hB A B)) | refine b6 fun K hK => ?_ | ((first | apply b8 | apply b5 | apply c9 | apply d3); try simp only [NB, simprocAttr]))
    all_goals simp only [S1, simprocAttr, ENB, y4]
theorem zy (v : Int → Int) (a : Tm) {x : Int × Bool × Int} (hx : Num x.1) (ih : ∀ h : Heap, d5 Tryz.prog G 130 [aT a, aV v] h (fun r h' => r = aV3 x ∧ h' = h)) (h : Heap) :
    d5 Tryz.prog G 130 [.agg [.i 3, .i 0, .p (.sl [eT a])], aV v] h (fun r h' => r = aV3 (if x.2.2 ≠ 0 then (0, false, x.2.2) else (-x.1, false, 0)) ∧ h' = h) := by
  unfold Num at hx
  have hw := IntWalk.i64_in (-x.1) (by omega)
  have hz : (0 : Int) - x.1 = - x.1 := by omega
  by_cases e1 : x.2.2 = 0
  · have f4 : (x.2.2 != 0) = false := by simp [e1]
    refine c8 (rl := []) d7 Tryz.func130 rfl (rs := [.cell 4 185]) rfl Tryz.ntmps130 (by simp) ?_
    repeat' (first | ((first | apply b8 | refine F0 ?_); (try simp only [NB])) | ((repeat ((fail_if_success (refine hK _ ?_)); clear hK K)); refine hK _ ?_; clear hK K) | ((first | refine b9 fun K1 q8 => ?_ | refine J8 rfl fun K1 q8 => ?_ | refine b7 fun A B hA hB => ?_); simp only [S1, simprocAttr, y4, q6, hw, hz, f4]; first | refine q8 _ ?_; clear q8 K1 | ((first | refine hA ?_ | refine hB ?_); clear hA hB A B)) | (refine N7 (v := ?_) rfl rfl (by decide) (fun L K1 q8 => ?_) ?_; rotate_left; (focus (simp only [S1, simprocAttr, y4, q6, hw, hz, f4]; first | (exact q8 _ _ _) | (apply j4 eC; exact (ih _); exact q8 _ _ _)))) | refine b6 fun K hK => ?_ | ((first | apply b5 | refine E8 (by kernel_rfl) ?_ | apply c7 | apply c9 | apply d3); try simp only [NB, simprocAttr]))
    all_goals simp only [S1, simprocAttr, ENB, y4]
    all_goals simp [e1]
  · have f4 : (x.2.2 != 0) = true := by simp [e1]
    refine c8 (rl := []) d7 Tryz.func130 rfl (rs := [.cell 4 185]) rfl Tryz.ntmps130 (by simp) ?_
    repeat' (first | ((first | apply b8 | refine F0 ?_); (try simp only [NB])) | ((repeat ((fail_if_success (refine hK _ ?_)); clear hK K)); refine hK _ ?_; clear hK K) | ((first | refine b9 fun K1 q8 => ?_ | refine J8 rfl fun K1 q8 => ?_ | refine b7 fun A B hA hB => ?_); simp only [S1, simprocAttr, y4, q6, hw, hz, f4]; first | refine q8 _ ?_; clear q8 K1 | ((first | refine hA ?_ | refine hB ?_); clear hA hB A B)) | (refine N7 (v := ?_) rfl rfl (by decide) (fun L K1 q8 => ?_) ?_; rotate_left; (focus (simp only [S1, simprocAttr, y4, q6, hw, hz, f4]; first | (exact q8 _ _ _) | (apply j4 eC; exact (ih _); exact q8 _ _ _)))) | refine b6 fun K hK => ?_ | ((first | apply b5 | refine E8 (by kernel_rfl) ?_ | apply c9 | apply d3); try simp only [NB, simprocAttr]))
    all_goals simp only [S1, simprocAttr, ENB, y4]
    all_goals simp [e1]
theorem zA (v : Int → Int) (a : Tm) {x : Int × Bool × Int} (ih : ∀ h : Heap, d5 Tryz.prog G 130 [aT a, aV v] h (fun r h' => r = aV3 x ∧ h' = h)) (h : Heap) :
    d5 Tryz.prog G 130 [.agg [.i 4, .i 0, .p (.sl [eT a])], aV v] h (fun r h' => r = aV3 (if x.2.2 ≠ 0 then (0, false, x.2.2) else (0, !x.2.1, 0)) ∧ h' = h) := by
  by_cases e1 : x.2.2 = 0
  · have f4 : (x.2.2 != 0) = false := by simp [e1]
    refine c8 (rl := []) d7 Tryz.func130 rfl (rs := [.cell 4 185]) rfl Tryz.ntmps130 (by simp) ?_
    repeat' (first | ((first | apply b8 | refine F0 ?_); (try simp only [NB])) | ((repeat ((fail_if_success (refine hK _ ?_)); clear hK K)); refine hK _ ?_; clear hK K) | ((first | refine b9 fun K1 q8 => ?_ | refine J8 rfl fun K1 q8 => ?_ | refine b7 fun A B hA hB => ?_); simp only [S1, simprocAttr, y4, q6, f4]; first | refine q8 _ ?_; clear q8 K1 | ((first | refine hA ?_ | refine hB ?_); clear hA hB A B)) | (refine N7 (v := ?_) rfl rfl (by decide) (fun L K1 q8 => ?_) ?_; rotate_left; (focus (simp only [S1, simprocAttr, y4, q6, f4]; first | (exact q8 _ _ _) | (apply j4 eC; exact (ih _); exact q8 _ _ _)))) | refine b6 fun K hK => ?_ | ((first | apply b5 | refine E8 (by kernel_rfl) ?_ | apply c7 | apply c9 | apply d3); try simp only [NB, simprocAttr]))
    all_goals simp only [S1, simprocAttr, ENB, y4]
    all_goals simp [e1]
  · have f4 : (x.2.2 != 0) = true := by simp [e1]
    refine c8 (rl := []) d7 Tryz.func130 rfl (rs := [.cell 4 185]) rfl Tryz.ntmps130 (by simp) ?_
    repeat' (first | ((first | apply b8 | refine F0 ?_); (try simp only [NB])) | ((repeat ((fail_if_success (refine hK _ ?_)); clear hK K)); refine hK _ ?_; clear hK K) | ((first | refine b9 fun K1 q8 => ?_ | refine J8 rfl fun K1 q8 => ?_ | refine b7 fun A B hA hB => ?_); simp only [S1, simprocAttr, y4, q6, f4]; first | refine q8 _ ?_; clear q8 K1 | ((first | refine hA ?_ | refine hB ?_); clear hA hB A B)) | (refine N7 (v := ?_) rfl rfl (by decide) (fun L K1 q8 => ?_) ?_; rotate_left; (focus (simp only [S1, simprocAttr, y4, q6, f4]; first | (exact q8 _ _ _) | (apply j4 eC; exact (ih _); exact q8 _ _ _)))) | refine b6 fun K hK => ?_ | ((first | apply b5 | refine E8 (by kernel_rfl) ?_ | apply c9 | apply d3); try simp only [NB, simprocAttr]))
    all_goals simp only [S1, simprocAttr, ENB, y4]
    all_goals simp [e1]
theorem zB (v : Int → Int) (o : Int) (ho : o = 13 ∨ o = 14) (a b : Tm) {x y : Int × Bool × Int}
    (iha : ∀ h : Heap, d5 Tryz.prog G 130 [aT a, aV v] h (fun r h' => r = aV3 x ∧ h' = h))
    (ihb : ∀ h : Heap, d5 Tryz.prog G 130 [aT b, aV v] h (fun r h' => r = aV3 y ∧ h' = h)) (h : Heap) :
    d5 Tryz.prog G 130 [.agg [.i o, .i 0, .p (.sl [eT a, eT b])], aV v] h (fun r h' => r = aV3 (if x.2.2 ≠ 0 then (0, false, x.2.2) else if o = 13 then (if x.2.1 then y else x) else (if x.2.1 then x else y)) ∧ h' = h) := by
  by_cases e1 : x.2.2 = 0
  · have f4 : (x.2.2 != 0) = false := by simp [e1]
    obtain ⟨x1, x2, x3⟩ := x
    dsimp only at *
    subst e1
    rcases ho with rfl | rfl
    all_goals
      cases x2
      all_goals
        refine c8 (rl := []) d7 Tryz.func130 rfl (rs := [.cell 4 185]) rfl Tryz.ntmps130 (by simp) ?_
        repeat' (first | ((first | apply b8 | refine F0 ?_); (try simp only [NB])) | ((repeat ((fail_if_success (refine hK _ ?_)); clear hK K)); refine hK _ ?_; clear hK K) | ((first | refine b9 fun K1 q8 => ?_ | refine J8 rfl fun K1 q8 => ?_ | refine b7 fun A B hA hB => ?_); simp only [S1, simprocAttr, y4, q6]; first | refine q8 _ ?_; clear q8 K1 | ((first | refine hA ?_ | refine hB ?_); clear hA hB A B)) | (refine N7 (v := ?_) rfl rfl (by decide) (fun L K1 q8 => ?_) ?_; rotate_left; (focus (simp only [S1, simprocAttr, y4, q6]; first | (exact q8 _ _ _) | (apply j4 eC; exact (iha _); exact q8 _ _ _) | (apply j4 eC; exact (ihb _); exact q8 _ _ _)))) | refine b6 fun K hK => ?_ | ((first | apply b5 | refine E8 (by kernel_rfl) ?_ | apply c7 | apply c9 | apply d3); try simp only [NB, simprocAttr]))
        all_goals simp only [S1, simprocAttr, ENB, y4]
        all_goals simp
  · have f4 : (x.2.2 != 0) = true := by simp [e1]
    rcases ho with rfl | rfl
    all_goals
      refine c8 (rl := []) d7 Tryz.func130 rfl (rs := [.cell 4 185]) rfl Tryz.ntmps130 (by simp) ?_
      repeat' (first | ((first | apply b8 | refine F0 ?_); (try simp only [NB])) | ((repeat ((fail_if_success (refine hK _ ?_)); clear hK K)); refine hK _ ?_; clear hK K) | ((first | refine b9 fun K1 q8 => ?_ | refine J8 rfl fun K1 q8 => ?_ | refine b7 fun A B hA hB => ?_); simp only [S1, simprocAttr, y4, q6, f4]; first | refine q8 _ ?_; clear q8 K1 | ((first | refine hA ?_ | refine hB ?_); clear hA hB A B)) | (refine N7 (v := ?_) rfl rfl (by decide) (fun L K1 q8 => ?_) ?_; rotate_left; (focus (simp only [S1, simprocAttr, y4, q6, f4]; first | (exact q8 _ _ _) | (apply j4 eC; exact (iha _); exact q8 _ _ _)))) | refine b6 fun K hK => ?_ | ((first | apply b5 | refine E8 (by kernel_rfl) ?_ | apply c9 | apply d3); try simp only [NB, simprocAttr]))
      all_goals simp only [S1, simprocAttr, ENB, y4]
      all_goals simp [e1]
theorem wx (v : Int → Int) (o : Int) (h1 : 5 ≤ o) (h2 : o ≤ 12) (a b : Tm) {x y : Int × Bool × Int} (hx : Num x.1) (hy : Num y.1)
    (iha : ∀ h : Heap, d5 Tryz.prog G 130 [aT a, aV v] h (fun r h' => r = aV3 x ∧ h' = h))
    (ihb : ∀ h : Heap, d5 Tryz.prog G 130 [aT b, aV v] h (fun r h' => r = aV3 y ∧ h' = h)) (h : Heap) :
    d5 Tryz.prog G 130 [.agg [.i o, .i 0, .p (.sl [eT a, eT b])], aV v] h (fun r h' => r = aV3 (if x.2.2 ≠ 0 then (0, false, x.2.2) else if y.2.2 ≠ 0 then (0, false, y.2.2) else x7 o x.1 y.1) ∧ h' = h) := by
  have f1 : (o == 1) = false := by simp; omega
  have f2 : (o == 2) = false := by simp; omega
  have f3 : (o == 3) = false := by simp; omega
  have f6 : (o == 4) = false := by simp; omega
  have f7 : (o == 13) = false := by simp; omega
  have f8 : (o == 14) = false := by simp; omega
  by_cases e1 : x.2.2 = 0
  · have f4 : (x.2.2 != 0) = false := by simp [e1]
    by_cases e2 : y.2.2 = 0
    · have f5 : (y.2.2 != 0) = false := by simp [e2]
      refine c8 (rl := []) d7 Tryz.func130 rfl (rs := [.cell 4 185]) rfl Tryz.ntmps130 (by simp) ?_
      repeat' (first | ((first | apply b8 | refine F0 ?_); (try simp only [NB])) | ((repeat ((fail_if_success (refine hK _ ?_)); clear hK K)); refine hK _ ?_; clear hK K) | ((first | refine b9 fun K1 q8 => ?_ | refine J8 rfl fun K1 q8 => ?_ | refine b7 fun A B hA hB => ?_); simp only [S1, simprocAttr, y4, q6, f1, f2, f3, f4, f5, f6, f7, f8]; first | refine q8 _ ?_; clear q8 K1 | (refine hB ?_; clear hA hB A B) | (apply d4 Bd; exact (uo h1 h2 hx hy _); refine q8 _ ?_; clear q8 K1)) | (refine N7 (v := ?_) rfl rfl (by decide) (fun L K1 q8 => ?_) ?_; rotate_left; (focus (simp only [S1, simprocAttr, y4, q6, f1, f2, f3, f4, f5, f6, f7, f8]; first | (exact q8 _ _ _) | (apply j4 eC; exact (iha _); exact q8 _ _ _) | (apply j4 eC; exact (ihb _); exact q8 _ _ _)))) | refine b6 fun K hK => ?_ | ((first | apply b5 | refine E8 (by kernel_rfl) ?_ | apply c7 | apply c9 | apply d3); try simp only [NB, simprocAttr]))
      all_goals simp only [S1, simprocAttr, ENB, y4]
      all_goals simp [e1, e2]
    · have f5 : (y.2.2 != 0) = true := by simp [e2]
      refine c8 (rl := []) d7 Tryz.func130 rfl (rs := [.cell 4 185]) rfl Tryz.ntmps130 (by simp) ?_
      repeat' (first | ((first | apply b8 | refine F0 ?_); (try simp only [NB])) | ((repeat ((fail_if_success (refine hK _ ?_)); clear hK K)); refine hK _ ?_; clear hK K) | ((first | refine b9 fun K1 q8 => ?_ | refine J8 rfl fun K1 q8 => ?_ | refine b7 fun A B hA hB => ?_); simp only [S1, simprocAttr, y4, q6, f1, f2, f3, f4, f5, f6, f7, f8]; first | refine q8 _ ?_; clear q8 K1 | ((first | refine hA ?_ | refine hB ?_); clear hA hB A B)) | (refine N7 (v := ?_) rfl rfl (by decide) (fun L K1 q8 => ?_) ?_; rotate_left; (focus (simp only [S1, simprocAttr, y4, q6, f1, f2, f3, f4, f5, f6, f7, f8]; first | (exact q8 _ _ _) | (apply j4 eC; exact (iha _); exact q8 _ _ _) | (apply j4 eC; exact (ihb _); exact q8 _ _ _)))) | refine b6 fun K hK => ?_ | ((first | apply b5 | refine E8 (by kernel_rfl) ?_ | apply c7 | apply c9 | apply d3); try simp only [NB, simprocAttr]))
      all_goals simp only [S1, simprocAttr, ENB, y4]
      all_goals simp [e1, e2]
  · have f4 : (x.2.2 != 0) = true := by simp [e1]
    refine c8 (rl := []) d7 Tryz.func130 rfl (rs := [.cell 4 185]) rfl Tryz.ntmps130 (by simp) ?_
    repeat' (first | ((first | apply b8 | refine F0 ?_); (try simp only [NB])) | ((repeat ((fail_if_success (refine hK _ ?_)); clear hK K)); refine hK _ ?_; clear hK K) | ((first | refine b9 fun K1 q8 => ?_ | refine J8 rfl fun K1 q8 => ?_ | refine b7 fun A B hA hB => ?_); simp only [S1, simprocAttr, y4, q6, f1, f2, f3, f4, f6, f7, f8]; first | refine q8 _ ?_; clear q8 K1 | ((first | refine hA ?_ | refine hB ?_); clear hA hB A B)) | (refine N7 (v := ?_) rfl rfl (by decide) (fun L K1 q8 => ?_) ?_; rotate_left; (focus (simp only [S1, simprocAttr, y4, q6, f1, f2, f3, f4, f6, f7, f8]; first | (exact q8 _ _ _) | (apply j4 eC; exact (iha _); exact q8 _ _ _)))) | refine b6 fun K hK => ?_ | ((first | apply b5 | refine E8 (by kernel_rfl) ?_ | apply c9 | apply d3); try simp only [NB, simprocAttr]))
    all_goals simp only [S1, simprocAttr, ENB, y4]
    all_goals simp [e1]
theorem pR {v : Int → Int} (hv : ∀ i, Num (v i)) {t : Tm} {k : Bool} (ht : Good t k) : ∀ h : Heap, d5 Tryz.prog G 130 [aT t, aV v] h (fun r h' => r = aV3 (ev v t) ∧ h' = h) := by
  induction ht with
  | num n h1 h2 => intro h; rw [gp]; exact zw v n h
  | var n hn => intro h; rw [gp, if_neg (by decide)]; exact zx v n hn h
  | neg a hg ih =>
    intro h
    refine d5.mono (zy v a ((I2 hv hg).1 rfl) ih h) ?_
    rintro r h' ⟨rfl, rfl⟩
    exact ⟨by rw [gu, if_pos (rfl : (3 : Int) = 3)], rfl⟩
  | not a hg ih =>
    intro h
    refine d5.mono (zA v a ih h) ?_
    rintro r h' ⟨rfl, rfl⟩
    exact ⟨by rw [gu, if_neg (by decide : ¬ (4 : Int) = 3)], rfl⟩
  | bin o a b h1 h2 ha hb iha ihb =>
    intro h
    refine d5.mono (wx v o h1 (by omega) a b ((I2 hv ha).1 rfl) ((I2 hv hb).1 rfl) iha ihb h) ?_
    rintro r h' ⟨rfl, rfl⟩
    exact ⟨by rw [aX, if_neg (show ¬ o = 13 by omega), if_neg (show ¬ o = 14 by omega)], rfl⟩
  | cmp o a b h1 h2 ha hb iha ihb =>
    intro h
    refine d5.mono (wx v o (by omega) h2 a b ((I2 hv ha).1 rfl) ((I2 hv hb).1 rfl) iha ihb h) ?_
    rintro r h' ⟨rfl, rfl⟩
    exact ⟨by rw [aX, if_neg (show ¬ o = 13 by omega), if_neg (show ¬ o = 14 by omega)], rfl⟩
  | log o a b ho ha hb iha ihb =>
    intro h
    refine d5.mono (zB v o ho a b iha ihb h) ?_
    rintro r h' ⟨rfl, rfl⟩
    refine ⟨?_, rfl⟩
    rw [aX]
    rcases ho with rfl | rfl
    · rfl
    · rfl
end
section
def cg := And.intro T2 (And.intro T3 (And.intro T4 (And.intro T31 (And.intro T58 (And.intro T73 (And.intro T75 (And.intro re nh)))))))
attribute [local irreducible] awp n9 k8
variable {G : Nat → Option (List PV)}
theorem ur (v : Int → Int) (a : Tm) {x : Int × Bool × Int} (ih : ∀ h : Heap, d5 Tryz.prog G 149 [aT a, aV v] h (fun r h' => r = aB x ∧ h' = h)) (h : Heap) :
    d5 Tryz.prog G 149 [.agg [.i 4, .i 0, .p (.sl [eT a])], aV v] h (fun r h' => r = .tup [.b (!x.2.1 && x.2.2 == 0), .i x.2.2] ∧ h' = h) := by
  refine c8 (rl := []) d7 Tryz.func149 rfl (rs := [.tmp 4, .tmp 5]) rfl Tryz.ntmps149 (by simp) ?_
  repeat' (first | ((repeat ((fail_if_success (refine hK _ ?_)); clear hK K)); refine hK _ ?_; clear hK K) | ((first | refine b9 fun K1 q8 => ?_ | refine j9 fun K1 q8 => ?_ | refine b7 fun A B hA hB => ?_); simp only [S1, simprocAttr, cg, q6]; first | refine q8 _ ?_; clear q8 K1 | (refine hA ?_; clear hA hB A B) | (apply j4 pe; exact (ih _); refine q8 _ ?_; clear q8 K1) | (refine l9 (v := ?_) (fun hg q9 => ?_) ?_; rotate_left; (focus (try ((try simp only [BN] at hg); simp only [S1, simprocAttr, cg, q6, hg] at q9 ⊢)); exact q9); refine q8 _ ?_; clear q8 K1)) | refine b6 fun K hK => ?_ | ((first | apply b8 | apply i5 | apply b5 | refine i6 ?_ | apply c7 | apply d3); try simp only [NB, simprocAttr]))
  all_goals simp only [S1, simprocAttr, ENB, cg]
  all_goals trace_state
theorem ut (v : Int → Int) (o : Int) (ho : o = 13 ∨ o = 14) (a b : Tm) {x y : Int × Bool × Int}
    (iha : ∀ h : Heap, d5 Tryz.prog G 149 [aT a, aV v] h (fun r h' => r = aB x ∧ h' = h))
    (ihb : ∀ h : Heap, d5 Tryz.prog G 149 [aT b, aV v] h (fun r h' => r = aB y ∧ h' = h)) (h : Heap) :
    d5 Tryz.prog G 149 [.agg [.i o, .i 0, .p (.sl [eT a, eT b])], aV v] h (fun r h' => r = aB (if x.2.2 ≠ 0 then x else if x.2.1 = (o == 14) then x else y) ∧ h' = h) := by
  rcases ho with rfl | rfl
  all_goals
    cases hx : x.2.1 with
    | true =>
      by_cases e1 : x.2.2 = 0
      · refine c8 (rl := []) d7 Tryz.func149 rfl (rs := [.tmp 4, .tmp 5]) rfl Tryz.ntmps149 (by simp) ?_
        repeat' (first | ((repeat ((fail_if_success (refine hK _ ?_)); clear hK K)); refine hK _ ?_; clear hK K) | ((first | refine b9 fun K1 q8 => ?_ | refine j9 fun K1 q8 => ?_ | refine b7 fun A B hA hB => ?_); simp only [S1, simprocAttr, cg, q6, e1, hx]; first | refine q8 _ ?_; clear q8 K1 | ((first | refine hA ?_ | refine hB ?_); clear hA hB A B) | (apply j4 pe; exact (iha _); refine q8 _ ?_; clear q8 K1) | (apply j4 pe; exact (ihb _); refine q8 _ ?_; clear q8 K1)) | refine b6 fun K hK => ?_ | ((first | apply b8 | apply i5 | apply b5 | refine i6 ?_ | apply c7 | apply c9 | apply d3); try simp only [NB, simprocAttr]))
        all_goals simp only [S1, simprocAttr, ENB, cg]
        all_goals simp [e1, hx]
      · have f4 : (x.2.2 != 0) = true := by simp [e1]
        refine c8 (rl := []) d7 Tryz.func149 rfl (rs := [.tmp 4, .tmp 5]) rfl Tryz.ntmps149 (by simp) ?_
        repeat' (first | ((repeat ((fail_if_success (refine hK _ ?_)); clear hK K)); refine hK _ ?_; clear hK K) | ((first | refine b9 fun K1 q8 => ?_ | refine j9 fun K1 q8 => ?_ | refine b7 fun A B hA hB => ?_); simp only [S1, simprocAttr, cg, q6, f4, hx]; first | refine q8 _ ?_; clear q8 K1 | ((first | refine hA ?_ | refine hB ?_); clear hA hB A B) | (apply j4 pe; exact (iha _); refine q8 _ ?_; clear q8 K1)) | refine b6 fun K hK => ?_ | ((first | apply b8 | apply i5 | apply b5 | refine i6 ?_ | apply c7 | apply c9 | apply d3); try simp only [NB, simprocAttr]))
        all_goals simp only [S1, simprocAttr, ENB, cg]
        all_goals simp [e1, hx]
    | false =>
      by_cases e1 : x.2.2 = 0
      · refine c8 (rl := []) d7 Tryz.func149 rfl (rs := [.tmp 4, .tmp 5]) rfl Tryz.ntmps149 (by simp) ?_
        repeat' (first | ((repeat ((fail_if_success (refine hK _ ?_)); clear hK K)); refine hK _ ?_; clear hK K) | ((first | refine b9 fun K1 q8 => ?_ | refine j9 fun K1 q8 => ?_ | refine b7 fun A B hA hB => ?_); simp only [S1, simprocAttr, cg, q6, e1, hx]; first | refine q8 _ ?_; clear q8 K1 | ((first | refine hA ?_ | refine hB ?_); clear hA hB A B) | (apply j4 pe; exact (iha _); refine q8 _ ?_; clear q8 K1) | (apply j4 pe; exact (ihb _); refine q8 _ ?_; clear q8 K1)) | refine b6 fun K hK => ?_ | ((first | apply b8 | apply i5 | apply b5 | refine i6 ?_ | apply c7 | apply c9 | apply d3); try simp only [NB, simprocAttr]))
        all_goals simp only [S1, simprocAttr, ENB, cg]
        all_goals simp [e1, hx]
      · have f4 : (x.2.2 != 0) = true := by simp [e1]
        refine c8 (rl := []) d7 Tryz.func149 rfl (rs := [.tmp 4, .tmp 5]) rfl Tryz.ntmps149 (by simp) ?_
        repeat' (first | ((repeat ((fail_if_success (refine hK _ ?_)); clear hK K)); refine hK _ ?_; clear hK K) | ((first | refine b9 fun K1 q8 => ?_ | refine j9 fun K1 q8 => ?_ | refine b7 fun A B hA hB => ?_); simp only [S1, simprocAttr, cg, q6, f4, hx]; first | refine q8 _ ?_; clear q8 K1 | ((first | refine hA ?_ | refine hB ?_); clear hA hB A B) | (apply j4 pe; exact (iha _); refine q8 _ ?_; clear q8 K1)) | refine b6 fun K hK => ?_ | ((first | apply b8 | apply i5 | apply b5 | refine i6 ?_ | apply c7 | apply c9 | apply d3); try simp only [NB, simprocAttr]))
        all_goals simp only [S1, simprocAttr, ENB, cg]
        all_goals simp [e1, hx]
end
section
def mi := And.intro T2 (And.intro T3 (And.intro T4 (And.intro T31 (And.intro T58 (And.intro T73 (And.intro T75 (And.intro re nh)))))))
attribute [local irreducible] awp n9 k8
variable {G : Nat → Option (List PV)}
theorem uu (v : Int → Int) (o : Int) (ho : o = 10 ∨ o = 11 ∨ o = 12) (a b : Tm) {x y : Int × Bool × Int}
    (iha : ∀ h : Heap, d5 Tryz.prog G 140 [aT a, aV v] h (fun r h' => r = aN x ∧ h' = h))
    (ihb : ∀ h : Heap, d5 Tryz.prog G 140 [aT b, aV v] h (fun r h' => r = aN y ∧ h' = h)) (h : Heap) :
    d5 Tryz.prog G 149 [.agg [.i o, .i 0, .p (.sl [eT a, eT b])], aV v] h (fun r h' => r = aB (if x.2.2 ≠ 0 then (0, false, x.2.2) else if y.2.2 ≠ 0 then (0, false, y.2.2) else x7 o x.1 y.1) ∧ h' = h) := by
  by_cases e1 : x.2.2 = 0
  · by_cases e2 : y.2.2 = 0
    · rcases ho with rfl | rfl | rfl
      all_goals
        refine c8 (rl := []) d7 Tryz.func149 rfl (rs := [.tmp 4, .tmp 5]) rfl Tryz.ntmps149 (by simp) ?_
        repeat' (first | ((repeat ((fail_if_success (refine hK _ ?_)); clear hK K)); refine hK _ ?_; clear hK K) | ((first | refine b9 fun K1 q8 => ?_ | refine j9 fun K1 q8 => ?_ | refine b7 fun A B hA hB => ?_); simp only [S1, simprocAttr, mi, q6, e1, e2]; first | refine q8 _ ?_; clear q8 K1 | ((first | refine hA ?_ | refine hB ?_); clear hA hB A B) | (apply j4 iW; exact (iha _); refine q8 _ ?_; clear q8 K1) | (apply j4 iW; exact (ihb _); refine q8 _ ?_; clear q8 K1)) | refine b6 fun K hK => ?_ | ((first | apply b8 | apply i5 | apply b5 | refine i6 ?_ | apply c7 | apply c9 | apply d3); try simp only [NB, simprocAttr]))
        all_goals simp only [S1, simprocAttr, ENB, mi]
        all_goals simp [e1, e2, x7]
        all_goals (rw [Bool.eq_iff_iff]; simp; omega)
    · have f5 : (y.2.2 != 0) = true := by simp [e2]
      rcases ho with rfl | rfl | rfl
      all_goals
        refine c8 (rl := []) d7 Tryz.func149 rfl (rs := [.tmp 4, .tmp 5]) rfl Tryz.ntmps149 (by simp) ?_
        repeat' (first | ((repeat ((fail_if_success (refine hK _ ?_)); clear hK K)); refine hK _ ?_; clear hK K) | ((first | refine b9 fun K1 q8 => ?_ | refine j9 fun K1 q8 => ?_ | refine b7 fun A B hA hB => ?_); simp only [S1, simprocAttr, mi, q6, e1, f5]; first | refine q8 _ ?_; clear q8 K1 | ((first | refine hA ?_ | refine hB ?_); clear hA hB A B) | (apply j4 iW; exact (iha _); refine q8 _ ?_; clear q8 K1) | (apply j4 iW; exact (ihb _); refine q8 _ ?_; clear q8 K1)) | refine b6 fun K hK => ?_ | ((first | apply b8 | apply i5 | apply b5 | refine i6 ?_ | apply c7 | apply c9 | apply d3); try simp only [NB, simprocAttr]))
        all_goals simp only [S1, simprocAttr, ENB, mi]
        all_goals simp [e1, e2]
  · have f4 : (x.2.2 != 0) = true := by simp [e1]
    rcases ho with rfl | rfl | rfl
    all_goals
      refine c8 (rl := []) d7 Tryz.func149 rfl (rs := [.tmp 4, .tmp 5]) rfl Tryz.ntmps149 (by simp) ?_
      repeat' (first | ((repeat ((fail_if_success (refine hK _ ?_)); clear hK K)); refine hK _ ?_; clear hK K) | ((first | refine b9 fun K1 q8 => ?_ | refine j9 fun K1 q8 => ?_ | refine b7 fun A B hA hB => ?_); simp only [S1, simprocAttr, mi, q6, f4]; first | refine q8 _ ?_; clear q8 K1 | ((first | refine hA ?_ | refine hB ?_); clear hA hB A B) | (apply j4 iW; exact (iha _); refine q8 _ ?_; clear q8 K1)) | refine b6 fun K hK => ?_ | ((first | apply b8 | apply i5 | apply b5 | refine i6 ?_ | apply c7 | apply c9 | apply d3); try simp only [NB, simprocAttr]))
      all_goals simp only [S1, simprocAttr, ENB, mi]
      all_goals simp [e1]
theorem pS {v : Int → Int} (hv : ∀ i, Num (v i)) {t : Tm} (ht : Good t true) : ∀ h : Heap, d5 Tryz.prog G 149 [aT t, aV v] h (fun r h' => r = aB (ev v t) ∧ h' = h) := by
  have key : ∀ {t k}, Good t k → k = true → ∀ h : Heap, d5 Tryz.prog G 149 [aT t, aV v] h (fun r h' => r = aB (ev v t) ∧ h' = h) := by
    intro t k hg
    induction hg with
    | num n h1 h2 => intro e; cases e
    | var n hn => intro e; cases e
    | neg a hg ih => intro e; cases e
    | bin o a b h1 h2 ha hb iha ihb => intro e; cases e
    | not a hg ih =>
      intro _ h
      have g := I2 hv hg
      refine d5.mono (ur v a (ih rfl) h) ?_
      rintro r h' ⟨rfl, rfl⟩
      refine ⟨?_, rfl⟩
      rw [gu]
      split
      · rename_i e; simp [e]
      · rename_i e; rw [if_neg (by decide), Classical.not_not.mp e]; simp
    | cmp o a b h1 h2 ha hb iha ihb =>
      intro _ h
      refine d5.mono (uu v o (by omega) a b (aY hv ha) (aY hv hb) h) ?_
      rintro r h' ⟨rfl, rfl⟩
      refine ⟨?_, rfl⟩
      rw [aX, if_neg (show ¬ o = 13 by omega), if_neg (show ¬ o = 14 by omega)]
    | log o a b ho ha hb iha ihb =>
      intro _ h
      have g := I2 hv ha
      refine d5.mono (ut v o ho a b (iha rfl) (ihb rfl) h) ?_
      rintro r h' ⟨rfl, rfl⟩
      refine ⟨?_, rfl⟩
      rw [aX]
      have g1 := g.2.1
      rcases hx : ev v a with ⟨x1, x2, x3⟩
      rw [hx] at g1
      simp only at g1 ⊢
      by_cases e : x3 = 0
      · subst e
        rcases ho with rfl | rfl <;> cases x2 <;> simp
      · rw [if_pos e, if_pos e, (g1 e).2]
  exact key ht rfl
end
section
def ko := And.intro T2 (And.intro T3 (And.intro T4 (And.intro T31 T58)))
attribute [local irreducible] awp n9 k8
variable {G : Nat → Option (List PV)}
def inV (v : Int → Int) : Bool := inM (v 0) && inM (v 1) && inM (v 2) && inM (v 3)
theorem cN0 : ((0 : Nat) : Int) = 0 := rfl
theorem cN1 : ((1 : Nat) : Int) = 1 := rfl
theorem cN2 : ((2 : Nat) : Int) = 2 := rfl
theorem cN3 : ((3 : Nat) : Int) = 3 := rfl
theorem cN4 : ((4 : Nat) : Int) = 4 := rfl
theorem wl1 : IntKind.i64.wrap 1 = 1 := rfl
theorem wl2 : IntKind.i64.wrap 2 = 2 := rfl
theorem wl3 : IntKind.i64.wrap 3 = 3 := rfl
theorem wl4 : IntKind.i64.wrap 4 = 4 := rfl
theorem wy {v : Int → Int} (h : ∀ j : Nat, j < 4 → inM (v j) = true) : inV v = true := by
  have h0 := h 0 (by omega)
  have h1 := h 1 (by omega)
  have h2 := h 2 (by omega)
  have h3 := h 3 (by omega)
  unfold inV
  simp only [cN0, cN1, cN2, cN3] at h0 h1 h2 h3
  simp [h0, h1, h2, h3]
theorem iq (v : Int → Int) (h : Heap) : d5 Tryz.prog G 73 [.agg [.i (v 0), .i (v 1), .i (v 2), .i (v 3)]] h (fun r h' => r = .b (inV v) ∧ h' = h) := by
  refine c8 (rl := []) d7 Tryz.func73 rfl (rs := [.tmp 2]) rfl Tryz.ntmps73 (by simp) ?_
  repeat' (first | ((repeat ((fail_if_success (refine hK _ ?_)); clear hK K)); refine hK _ ?_; clear hK K) | (refine b9 fun K1 q8 => ?_; simp only [S1, simprocAttr, ko]; refine q8 _ ?_; clear q8 K1) | refine b6 fun K hK => ?_ | ((first | apply b8 | apply b5 | apply c7); try simp only [NB, simprocAttr]))
  refine o9 4 13 (fun i => [(6, .i i), (5, .agg [.i (v 0), .i (v 1), .i (v 2), .i (v 3)])]) (fun i => []) (fun i => ∀ j : Nat, j < i → inM (v j) = true) ?_ (fun j hj => absurd hj (Nat.not_lt_zero _)) fun i hi hp K hK => ?_
  · (refine ⟨rfl, (by first | exact ⟨_, rfl⟩ | exact ⟨[], by simp⟩), ?_, ?_⟩ <;> simp only [S1, simprocAttr, KNB] <;> (try and_intros) <;> (try assumption) <;> (try trivial) <;> (try omega))
  have hw : IntKind.i64.wrap ((i : Int) + 1) = ((i + 1 : Nat) : Int) := by rw [IntWalk.i64_in _ (by omega)]; omega
  rcases (by omega : i = 0 ∨ i = 1 ∨ i = 2 ∨ i = 3 ∨ i = 4) with rfl | rfl | rfl | rfl | rfl
  all_goals
    repeat' (first | ((repeat ((fail_if_success (refine hK _ ?_)); clear hK K)); refine hK _ ?_; clear hK K) | ((first | refine b9 fun K1 q8 => ?_ | refine b7 fun A B hA hB => ?_); simp only [S1, simprocAttr, ko, cN0, cN1, cN2, cN3, cN4, Int.reduceAdd, wl1, wl2, wl3, wl4]; first | refine q8 _ ?_; clear q8 K1 | ((first | refine hA ?_ | refine hB ?_); clear hA hB A B) | (apply d4 E99; exact (dD _ _); refine q8 _ ?_; clear q8 K1) | ((((refine ⟨fun hg => hA ?_, fun hg => hB ?_⟩ <;> clear hA hB A B)) <;> (try simp only [BN2] at hg) <;> (try simp only [hg, cndB])) <;> (try (refine q8 _ ?_; clear q8 K1)) <;> (try simp only [BN3] at hg))) | refine b6 fun K hK => ?_ | ((first | apply b8 | apply b5 | apply c7 | apply f9 | apply c9 | apply d3); try simp only [NB, simprocAttr]))
    all_goals first
      | (refine ⟨by omega, fun j hj => ?_, ?_⟩
         · rcases Nat.lt_succ_iff_lt_or_eq.mp hj with e | rfl
           · exact hp j e
           · exact hg
         · (refine ⟨rfl, (by first | exact ⟨_, rfl⟩ | exact ⟨[], by simp⟩), ?_, ?_⟩ <;> simp only [S1, simprocAttr, KNB] <;> (try and_intros) <;> (try assumption) <;> (try trivial) <;> (try omega)))
      | (simp only [S1, simprocAttr, ENB, ko]
         first
           | (rw [wy hp]; done)
           | (simp [inV, hg]; done))
theorem ir (v : Int → Int) (h : Heap) : d5 Tryz.prog G 67 [.agg [.i (v 0), .i (v 1), .i (v 2), .i (v 3)]] h (fun r h' => r = .b (inV v) ∧ h' = h) := by
  refine c8 (rl := []) d7 Tryz.func67 rfl (rs := [.tmp 2]) rfl Tryz.ntmps67 (by simp) ?_
  repeat' (first | ((repeat ((fail_if_success (refine hK _ ?_)); clear hK K)); refine hK _ ?_; clear hK K) | (refine b9 fun K1 q8 => ?_; simp only [S1, simprocAttr, ko]; refine q8 _ ?_; clear q8 K1) | refine b6 fun K hK => ?_ | ((first | apply b8 | apply b5 | apply c7); try simp only [NB, simprocAttr]))
  refine o9 4 18 (fun i => [(3, .i i), (1, .ptr h.length 0 0)]) (fun i => [some ⟨0, [.i (v 0), .i (v 1), .i (v 2), .i (v 3)]⟩]) (fun i => ∀ j : Nat, j < i → inM (v j) = true) ?_ (fun j hj => absurd hj (Nat.not_lt_zero _)) fun i hi hp K hK => ?_
  · (refine ⟨rfl, (by first | exact ⟨_, rfl⟩ | exact ⟨[], by simp⟩), ?_, ?_⟩ <;> simp only [S1, simprocAttr, KNB] <;> (try and_intros) <;> (try assumption) <;> (try trivial) <;> (try omega))
  rcases (by omega : i = 0 ∨ i = 1 ∨ i = 2 ∨ i = 3 ∨ i = 4) with rfl | rfl | rfl | rfl | rfl
  all_goals
    repeat' (first | ((repeat ((fail_if_success (refine hK _ ?_)); clear hK K)); refine hK _ ?_; clear hK K) | ((first | refine b9 fun K1 q8 => ?_ | refine b7 fun A B hA hB => ?_); simp only [S1, simprocAttr, ko, cN0, cN1, cN2, cN3, cN4, Int.reduceAdd, wl1, wl2, wl3, wl4]; first | refine q8 _ ?_; clear q8 K1 | ((first | refine hA ?_ | refine hB ?_); clear hA hB A B) | (refine l9 (v := ?_) (fun hg q9 => ?_) ?_; rotate_left; (focus (try ((try simp only [BN] at hg); simp only [S1, simprocAttr, ko, cN0, cN1, cN2, cN3, cN4, Int.reduceAdd, wl1, wl2, wl3, wl4, hg] at q9 ⊢)); exact q9); refine q8 _ ?_; clear q8 K1) | ((((refine ⟨fun hg => hA ?_, fun hg => hB ?_⟩ <;> clear hA hB A B)) <;> (try simp only [BN2] at hg) <;> (try simp only [hg, cndB])) <;> (try (refine q8 _ ?_; clear q8 K1)) <;> (try simp only [BN3] at hg))) | refine b6 fun K hK => ?_ | ((first | apply b8 | apply b5 | apply c7 | apply f9 | apply c9 | apply d3); try simp only [NB, simprocAttr]))
    all_goals first
      | (refine ⟨by omega, fun j hj => ?_, ?_⟩
         · rcases Nat.lt_succ_iff_lt_or_eq.mp hj with e | rfl
           · exact hp j e
           · simp [inM] at hg ⊢; omega
         · (refine ⟨rfl, (by first | exact ⟨_, rfl⟩ | exact ⟨[], by simp⟩), ?_, ?_⟩ <;> simp only [S1, simprocAttr, KNB] <;> (try and_intros) <;> (try assumption) <;> (try trivial) <;> (try omega)))
      | (simp only [S1, simprocAttr, ENB, ko]
         first
           | (rw [wy hp]; done)
           | (simp [inV, inM] at hg ⊢; omega))
end
section
def ci := And.intro T2 (And.intro T3 (And.intro T4 (And.intro T31 (And.intro T58 (And.intro T73 (And.intro T75 (And.intro re nh)))))))
attribute [local irreducible] awp n9 k8
def U1 (t : Tm) (v : Int → Int) (k : Int) : Int := if (D2 t).2 ≠ 0 then (D2 t).2 else if (D2 t).1 ≠ k then 30 else if inV v then 0 else 1
theorem X9 {n : Nat} {t : Tm} (ht : Tm.Ok n t) (v : Int → Int) (k : Int) (h : Heap) : d5 Tryz.prog gW 139 [aT t, aV v, .i k] h (fun r h' => r = .i (U1 t v k) ∧ h' = h) := by
  refine c8 (rl := []) d7 Tryz.func139 rfl (rs := [.tmp 6]) rfl Tryz.ntmps139 (by simp) ?_
  repeat' (first | ((repeat ((fail_if_success (refine hK _ ?_)); clear hK K)); refine hK _ ?_; clear hK K) | ((first | refine b9 fun K1 q8 => ?_ | refine b7 fun A B hA hB => ?_); simp only [S1, simprocAttr, ci]; first | refine q8 _ ?_; clear q8 K1 | (apply d4 Ap; exact (hP ht _); refine q8 _ ?_; clear q8 K1) | (apply d4 E73; exact (iq v _); refine q8 _ ?_; clear q8 K1) | ((((refine ⟨fun hg => hA ?_, fun hg => hB ?_⟩ <;> clear hA hB A B)) <;> (try simp only [BN2] at hg) <;> (try simp only [hg, cndB])) <;> (try (refine q8 _ ?_; clear q8 K1)) <;> (try simp only [BN3] at hg))) | refine b6 fun K hK => ?_ | ((first | apply b8 | apply b5 | apply c7 | apply c9 | apply d3); try simp only [NB, simprocAttr]))
  all_goals simp only [S1, simprocAttr, ENB, ci]
  all_goals simp_all [U1]
theorem ai {t : Tm} {v : Int → Int} {k : Int} (h : U1 t v k = 0) : Good t (y9 t.op) ∧ inV v = true ∧ lg t.op = k := by
  unfold U1 at h
  by_cases h1 : (D2 t).2 = 0
  · rw [if_neg (by simpa using h1)] at h
    by_cases h2 : (D2 t).1 = k
    · rw [if_neg (by simpa using h2)] at h
      have hv : inV v = true := by
        cases hh : inV v with
        | true => rfl
        | false => rw [hh] at h; simp at h
      unfold D2 at h1 h2
      by_cases hw : R8 t = 0
      · rw [if_neg (by simpa using hw)] at h1 h2
        cases hty : t.typed with
        | true =>
          rw [hty] at h1 h2
          have hf : t.form = true := by
            unfold R8 at hw
            split at hw
            · cases hw
            · split at hw
              · assumption
              · cases hw
          exact ⟨xX t hf hty, hv, by simpa using h2⟩
        | false => rw [hty] at h1; simp at h1
      · rw [if_pos hw] at h1; exact absurd h1 hw
    · rw [if_pos h2] at h; cases h
  · rw [if_pos h1] at h; exact absurd h h1
def P9 (t : Tm) (v : Int → Int) : Int × Int := if U1 t v 1 ≠ 0 then (0, U1 t v 1) else ((ev v t).1, (ev v t).2.2)
def O5 (t : Tm) (v : Int → Int) : Bool × Int := if U1 t v 2 ≠ 0 then (false, U1 t v 2) else ((ev v t).2.1, (ev v t).2.2)
theorem nQ {n : Nat} {t : Tm} (ht : Tm.Ok n t) (v : Int → Int) (hv : inV v = true → ∀ i, Num (v i)) (h : Heap) : d5 Tryz.prog gW 111 [aT t, aV v] h (fun r h' => r = .tup [.i (P9 t v).1, .i (P9 t v).2] ∧ h' = h) := by
  by_cases e : U1 t v 1 = 0
  · obtain ⟨g1, g2, g3⟩ := ai e
    have g0 : y9 t.op = false := by
      cases hh : y9 t.op with
      | false => rfl
      | true => unfold lg at g3; rw [hh] at g3; simp at g3
    rw [g0] at g1
    have hg := I2 (hv g2) g1
    have e1 : (U1 t v 1 != 0) = false := by simp [e]
    refine c8 (rl := []) d7 Tryz.func111 rfl (rs := [.tmp 4, .tmp 5]) rfl Tryz.ntmps111 (by simp) ?_
    repeat' (first | ((repeat ((fail_if_success (refine hK _ ?_)); clear hK K)); refine hK _ ?_; clear hK K) | ((first | refine b9 fun K1 q8 => ?_ | refine b7 fun A B hA hB => ?_); simp only [S1, simprocAttr, ci, e1]; first | refine q8 _ ?_; clear q8 K1 | (refine hB ?_; clear hA hB A B) | (apply d4 xD; exact (X9 ht v 1 _); refine q8 _ ?_; clear q8 K1) | (apply d4 iW; exact (aY (hv g2) g1 _); refine q8 _ ?_; clear q8 K1) | ((((refine ⟨fun hg => hA ?_, fun hg => hB ?_⟩ <;> clear hA hB A B)) <;> (try simp only [BN2] at hg) <;> (try simp only [hg, cndB])) <;> (try (refine q8 _ ?_; clear q8 K1)) <;> (try simp only [BN3] at hg))) | refine b6 fun K hK => ?_ | ((first | apply b8 | apply b5 | apply c9 | apply d3); try simp only [NB, simprocAttr]))
    all_goals simp only [S1, simprocAttr, ENB, ci]
    all_goals simp_all [P9]
  · have e1 : (U1 t v 1 != 0) = true := by simp [e]
    refine c8 (rl := []) d7 Tryz.func111 rfl (rs := [.tmp 4, .tmp 5]) rfl Tryz.ntmps111 (by simp) ?_
    repeat' (first | ((repeat ((fail_if_success (refine hK _ ?_)); clear hK K)); refine hK _ ?_; clear hK K) | ((first | refine b9 fun K1 q8 => ?_ | refine b7 fun A B hA hB => ?_); simp only [S1, simprocAttr, ci, e1]; first | refine q8 _ ?_; clear q8 K1 | (refine hA ?_; clear hA hB A B) | (apply d4 xD; exact (X9 ht v 1 _); refine q8 _ ?_; clear q8 K1)) | refine b6 fun K hK => ?_ | ((first | apply b8 | apply b5 | apply d3); try simp only [NB, simprocAttr]))
    all_goals simp only [S1, simprocAttr, ENB, ci]
    all_goals simp_all [P9]
theorem pT {n : Nat} {t : Tm} (ht : Tm.Ok n t) (v : Int → Int) (hv : inV v = true → ∀ i, Num (v i)) (h : Heap) : d5 Tryz.prog gW 141 [aT t, aV v] h (fun r h' => r = .tup [.b (O5 t v).1, .i (O5 t v).2] ∧ h' = h) := by
  by_cases e : U1 t v 2 = 0
  · obtain ⟨g1, g2, g3⟩ := ai e
    have g0 : y9 t.op = true := by
      cases hh : y9 t.op with
      | true => rfl
      | false => unfold lg at g3; rw [hh] at g3; simp at g3
    rw [g0] at g1
    have hg := I2 (hv g2) g1
    have e1 : (U1 t v 2 != 0) = false := by simp [e]
    refine c8 (rl := []) d7 Tryz.func141 rfl (rs := [.tmp 4, .tmp 5]) rfl Tryz.ntmps141 (by simp) ?_
    repeat' (first | ((repeat ((fail_if_success (refine hK _ ?_)); clear hK K)); refine hK _ ?_; clear hK K) | ((first | refine b9 fun K1 q8 => ?_ | refine b7 fun A B hA hB => ?_); simp only [S1, simprocAttr, ci, e1]; first | refine q8 _ ?_; clear q8 K1 | (refine hB ?_; clear hA hB A B) | (apply d4 xD; exact (X9 ht v 2 _); refine q8 _ ?_; clear q8 K1) | (apply d4 pe; exact (pS (hv g2) g1 _); refine q8 _ ?_; clear q8 K1) | (refine l9 (v := ?_) (fun hg q9 => ?_) ?_; rotate_left; (focus (try ((try simp only [BN] at hg); simp only [S1, simprocAttr, ci, e1, hg] at q9 ⊢)); exact q9); refine q8 _ ?_; clear q8 K1)) | refine b6 fun K hK => ?_ | ((first | apply b8 | apply b5 | apply c9 | apply d3); try simp only [NB, simprocAttr]))
    all_goals simp only [S1, simprocAttr, ENB, ci]
    all_goals (by_cases hf : (ev v t).2.2 = 0 <;> simp_all [O5])
  · have e1 : (U1 t v 2 != 0) = true := by simp [e]
    refine c8 (rl := []) d7 Tryz.func141 rfl (rs := [.tmp 4, .tmp 5]) rfl Tryz.ntmps141 (by simp) ?_
    repeat' (first | ((repeat ((fail_if_success (refine hK _ ?_)); clear hK K)); refine hK _ ?_; clear hK K) | ((first | refine b9 fun K1 q8 => ?_ | refine b7 fun A B hA hB => ?_); simp only [S1, simprocAttr, ci, e1]; first | refine q8 _ ?_; clear q8 K1 | (refine hA ?_; clear hA hB A B) | (apply d4 xD; exact (X9 ht v 2 _); refine q8 _ ?_; clear q8 K1)) | refine b6 fun K hK => ?_ | ((first | apply b8 | apply b5 | apply d3); try simp only [NB, simprocAttr]))
    all_goals simp only [S1, simprocAttr, ENB, ci]
    all_goals simp_all [O5]
end
section
def L2 := And.intro T2 (And.intro T3 (And.intro T4 (And.intro T58 (And.intro T75 nh))))
attribute [local irreducible] awp n9 k8 l8 o5 m9
theorem Y0 {n : Nat} {t : Tm} (ht : Tm.Ok n t) (hn : n ≤ 200) (v : Int → Int) (k : Int) (h : Heap) : d5 Tryz.prog gW 129 [aT t, aV v, .i k] h (fun r h' => r = .i (U1 t v k) ∧ h' = h) := by
  by_cases e1 : (D2 t).2 = 0
  · have f1 : ((D2 t).2 != 0) = false := by simp [e1]
    by_cases e2 : (D2 t).1 = k
    · have f2 : ((D2 t).1 != k) = false := by simp [e2]
      refine c8 (rl := []) d7 Tryz.func129 rfl (rs := [.tmp 6]) rfl Tryz.ntmps129 (by simp) ?_
      repeat' (first | ((repeat ((fail_if_success (refine hK _ ?_)); clear hK K)); refine hK _ ?_; clear hK K) | ((first | refine b9 fun K1 q8 => ?_ | refine b7 fun A B hA hB => ?_); simp only [S1, simprocAttr, L2, f1, f2]; first | refine q8 _ ?_; clear q8 K1 | (refine hB ?_; clear hA hB A B) | (apply d4 E95; exact (T7 ht hn _); refine q8 _ ?_; clear q8 K1) | (apply d4 E67; exact (ir v _); refine q8 _ ?_; clear q8 K1) | ((((refine ⟨fun hg => hA ?_, fun hg => hB ?_⟩ <;> clear hA hB A B)) <;> (try simp only [BN2] at hg) <;> (try simp only [hg, cndB])) <;> (try (refine q8 _ ?_; clear q8 K1)) <;> (try simp only [BN3] at hg))) | refine b6 fun K hK => ?_ | ((first | apply b8 | apply b5 | apply c9 | apply d3); try simp only [NB, simprocAttr]))
      all_goals simp only [S1, simprocAttr, ENB, L2]
      all_goals simp_all [U1]
    · have f2 : ((D2 t).1 != k) = true := by simp [e2]
      refine c8 (rl := []) d7 Tryz.func129 rfl (rs := [.tmp 6]) rfl Tryz.ntmps129 (by simp) ?_
      repeat' (first | ((repeat ((fail_if_success (refine hK _ ?_)); clear hK K)); refine hK _ ?_; clear hK K) | ((first | refine b9 fun K1 q8 => ?_ | refine b7 fun A B hA hB => ?_); simp only [S1, simprocAttr, L2, f1, f2]; first | refine q8 _ ?_; clear q8 K1 | ((first | refine hA ?_ | refine hB ?_); clear hA hB A B) | (apply d4 E95; exact (T7 ht hn _); refine q8 _ ?_; clear q8 K1)) | refine b6 fun K hK => ?_ | ((first | apply b8 | apply b5 | apply c9 | apply d3); try simp only [NB, simprocAttr]))
      all_goals simp only [S1, simprocAttr, ENB, L2]
      all_goals simp_all [U1]
  · have f1 : ((D2 t).2 != 0) = true := by simp [e1]
    refine c8 (rl := []) d7 Tryz.func129 rfl (rs := [.tmp 6]) rfl Tryz.ntmps129 (by simp) ?_
    repeat' (first | ((repeat ((fail_if_success (refine hK _ ?_)); clear hK K)); refine hK _ ?_; clear hK K) | ((first | refine b9 fun K1 q8 => ?_ | refine b7 fun A B hA hB => ?_); simp only [S1, simprocAttr, L2, f1]; first | refine q8 _ ?_; clear q8 K1 | (refine hA ?_; clear hA hB A B) | (apply d4 E95; exact (T7 ht hn _); refine q8 _ ?_; clear q8 K1)) | refine b6 fun K hK => ?_ | ((first | apply b8 | apply b5 | apply d3); try simp only [NB, simprocAttr]))
    all_goals simp only [S1, simprocAttr, ENB, L2]
    all_goals simp_all [U1]
theorem lq {n : Nat} {t : Tm} (ht : Tm.Ok n t) (hn : n ≤ 200) (v : Int → Int) (hv : inV v = true → ∀ i, Num (v i)) (h : Heap) : d5 Tryz.prog gW 96 [aT t, aV v] h (fun r h' => r = .tup [.i (P9 t v).1, .i (P9 t v).2] ∧ h' = h) := by
  by_cases e : U1 t v 1 = 0
  · obtain ⟨g1, g2, g3⟩ := ai e
    have hA := fun h => Y0 ht hn v 1 h
    rw [e] at hA
    refine c8 (rl := []) d7 Tryz.func96 rfl (rs := [.tmp 4, .tmp 5]) rfl Tryz.ntmps96 (by simp) ?_
    repeat' (first | ((first | apply b8 | refine F0 ?_); (try simp only [NB])) | ((repeat ((fail_if_success (refine hK _ ?_)); clear hK K)); refine hK _ ?_; clear hK K) | ((first | refine b9 fun K1 q8 => ?_ | refine b7 fun A B hA hB => ?_); simp only [S1, simprocAttr, L2]; first | refine q8 _ ?_; clear q8 K1 | (refine hB ?_; clear hA hB A B) | (apply d4 xC; exact (hA _); refine q8 _ ?_; clear q8 K1) | (apply d4 eC; exact (pR (hv g2) g1 _); refine q8 _ ?_; clear q8 K1)) | (refine N7 (v := ?_) rfl rfl (by decide) (fun L K1 q8 => ?_) ?_; rotate_left; (focus (simp only [S1, simprocAttr, L2]; (exact q8 _ _ _)))) | refine b6 fun K hK => ?_ | ((first | apply b5 | refine E8 (by kernel_rfl) ?_ | apply c9 | apply d3); try simp only [NB, simprocAttr]))
    all_goals simp only [S1, simprocAttr, ENB, L2]
    all_goals simp [P9, e]
  · have f1 : (U1 t v 1 != 0) = true := by simp [e]
    refine c8 (rl := []) d7 Tryz.func96 rfl (rs := [.tmp 4, .tmp 5]) rfl Tryz.ntmps96 (by simp) ?_
    repeat' (first | ((repeat ((fail_if_success (refine hK _ ?_)); clear hK K)); refine hK _ ?_; clear hK K) | ((first | refine b9 fun K1 q8 => ?_ | refine b7 fun A B hA hB => ?_); simp only [S1, simprocAttr, L2, f1]; first | refine q8 _ ?_; clear q8 K1 | (refine hA ?_; clear hA hB A B) | (apply d4 xC; exact (Y0 ht hn v 1 _); refine q8 _ ?_; clear q8 K1)) | refine b6 fun K hK => ?_ | ((first | apply b8 | apply b5 | apply d3); try simp only [NB, simprocAttr]))
    all_goals simp only [S1, simprocAttr, ENB, L2]
    all_goals simp [P9, e]
theorem nR {n : Nat} {t : Tm} (ht : Tm.Ok n t) (hn : n ≤ 200) (v : Int → Int) (hv : inV v = true → ∀ i, Num (v i)) (h : Heap) : d5 Tryz.prog gW 131 [aT t, aV v] h (fun r h' => r = .tup [.b (O5 t v).1, .i (O5 t v).2] ∧ h' = h) := by
  by_cases e : U1 t v 2 = 0
  · obtain ⟨g1, g2, g3⟩ := ai e
    have hA := fun h => Y0 ht hn v 2 h
    rw [e] at hA
    refine c8 (rl := []) d7 Tryz.func131 rfl (rs := [.tmp 4, .tmp 5]) rfl Tryz.ntmps131 (by simp) ?_
    repeat' (first | ((first | apply b8 | refine F0 ?_); (try simp only [NB])) | ((repeat ((fail_if_success (refine hK _ ?_)); clear hK K)); refine hK _ ?_; clear hK K) | ((first | refine b9 fun K1 q8 => ?_ | refine b7 fun A B hA hB => ?_); simp only [S1, simprocAttr, L2]; first | refine q8 _ ?_; clear q8 K1 | (refine hB ?_; clear hA hB A B) | (apply d4 xC; exact (hA _); refine q8 _ ?_; clear q8 K1) | (apply d4 eC; exact (pR (hv g2) g1 _); refine q8 _ ?_; clear q8 K1)) | (refine N7 (v := ?_) rfl rfl (by decide) (fun L K1 q8 => ?_) ?_; rotate_left; (focus (simp only [S1, simprocAttr, L2]; (exact q8 _ _ _)))) | refine b6 fun K hK => ?_ | ((first | apply b5 | refine E8 (by kernel_rfl) ?_ | apply c9 | apply d3); try simp only [NB, simprocAttr]))
    all_goals simp only [S1, simprocAttr, ENB, L2]
    all_goals simp [O5, e]
  · have f1 : (U1 t v 2 != 0) = true := by simp [e]
    refine c8 (rl := []) d7 Tryz.func131 rfl (rs := [.tmp 4, .tmp 5]) rfl Tryz.ntmps131 (by simp) ?_
    repeat' (first | ((repeat ((fail_if_success (refine hK _ ?_)); clear hK K)); refine hK _ ?_; clear hK K) | ((first | refine b9 fun K1 q8 => ?_ | refine b7 fun A B hA hB => ?_); simp only [S1, simprocAttr, L2, f1]; first | refine q8 _ ?_; clear q8 K1 | (refine hA ?_; clear hA hB A B) | (apply d4 xC; exact (Y0 ht hn v 2 _); refine q8 _ ?_; clear q8 K1)) | refine b6 fun K hK => ?_ | ((first | apply b8 | apply b5 | apply d3); try simp only [NB, simprocAttr]))
    all_goals simp only [S1, simprocAttr, ENB, L2]
    all_goals simp [O5, e]
end
section
def aj := And.intro T2 (And.intro T3 (And.intro T4 (And.intro T23 (And.intro T25 (And.intro T41 (And.intro T58 (And.intro T73 (And.intro T75 (And.intro T80 zZ)))))))))
attribute [local irreducible] awp n9 k8 l8 o5 m9
def chF (fl : List Fl) (v : Int → Int) : List Int → Option (Int × Int)
  | [] => none
  | f :: r => match fl[f.toNat]? with
    | none => chF fl v r
    | some x => if x.els = true then chF fl v r else if (O5 x.cond v).2 ≠ 0 then some (0, (O5 x.cond v).2) else if (O5 x.cond v).1 = true then some (f, 0) else chF fl v r
def chE (fl : List Fl) : List Int → Int
  | [] => 0
  | f :: r => if B3 fl f = true then f else chE fl r
def r9 (fl : List Fl) (v : Int → Int) (outs : List Int) : Int × Int := (chF fl v outs).getD (chE fl outs, 0)
theorem pU {fl : List Fl} {v : Int → Int} {outs : List Int} {i : Nat} {f : Int} (h : outs[i]? = some f) : chF fl v (outs.drop i) = match fl[f.toNat]? with
    | none => chF fl v (outs.drop (i + 1))
    | some x => if x.els = true then chF fl v (outs.drop (i + 1)) else if (O5 x.cond v).2 ≠ 0 then some (0, (O5 x.cond v).2) else if (O5 x.cond v).1 = true then some (f, 0) else chF fl v (outs.drop (i + 1)) := by
  obtain ⟨hi, e⟩ := List.getElem?_eq_some_iff.mp h
  rw [List.drop_eq_getElem_cons hi, e]; rfl
theorem wz {fl : List Fl} {outs : List Int} {i : Nat} {f : Int} (h : outs[i]? = some f) : chE fl (outs.drop i) = if B3 fl f = true then f else chE fl (outs.drop (i + 1)) := by
  obtain ⟨hi, e⟩ := List.getElem?_eq_some_iff.mp h
  rw [List.drop_eq_getElem_cons hi, e]; rfl
theorem nS (ns : List Nd) (fl : List Fl) (ok : NetOk ns fl) (outs : List Int) (hlen : outs.length ≤ 100) (ho : ∀ x ∈ outs, ∃ i : Nat, x = (i : Int) ∧ i < fl.length) (v : Int → Int) (hv : inV v = true → ∀ i, Num (v i)) (h : Heap) :
    d5 Tryz.prog gW 98 [G4 ns fl, aI outs, aV v] h (fun r h' => r = .agg [.i (r9 fl v outs).1, .i (r9 fl v outs).2] ∧ h' = h) := by
  obtain ⟨m2, hm2, ht2⟩ := ok.tf
  refine c8 (rl := []) d7 Tryz.func98 rfl (rs := [.cell 6 165]) rfl Tryz.ntmps98 (by simp) ?_
  repeat' (first | ((repeat ((fail_if_success (refine hK _ ?_)); clear hK K)); refine hK _ ?_; clear hK K) | (refine b9 fun K1 q8 => ?_; simp only [S1, simprocAttr, aj, List.length_map]; refine q8 _ ?_; clear q8 K1) | refine b6 fun K hK => ?_ | ((first | apply b8 | apply b5 | apply c7); try simp only [NB, simprocAttr]))
  refine o9 outs.length 60 (fun i => [(15, .i i), (14, .i outs.length), (13, aI outs), (6, .ptr (h.length + 2) 0 0), (5, .ptr (h.length + 1) 0 0), (3, .ptr h.length 0 0), (1, aI outs)])
    (fun i => [some ⟨0, x6 ns fl⟩, some ⟨0, [.i (v 0), .i (v 1), .i (v 2), .i (v 3)]⟩, some ⟨0, [.i 0, .i 0]⟩]) (fun i => chF fl v outs = chF fl v (outs.drop i)) ?_ rfl fun i hi hp K hK => ?_
  · (refine ⟨rfl, (by first | exact ⟨_, rfl⟩ | exact ⟨[], by simp⟩), ?_, ?_⟩ <;> simp only [S1, simprocAttr, KNB] <;> (try and_intros) <;> (try assumption) <;> (try trivial) <;> (try omega))
  rcases Nat.lt_or_ge i outs.length with hlt | hge
  · obtain ⟨f, hf⟩ : ∃ f, outs[i]? = some f := ⟨_, List.getElem?_eq_getElem hlt⟩
    obtain ⟨j, rfl, hj⟩ := ho f (List.mem_of_getElem? hf)
    obtain ⟨x, hx⟩ : ∃ x, fl[j]? = some x := ⟨_, List.getElem?_eq_getElem hj⟩
    have hx' := T8 hx
    have j0 : (0 : Int) ≤ (j : Int) := by omega
    have ht := fun h => nR (ht2 x (List.mem_of_getElem? hx)) hm2 v hv h
    rw [pU hf, Int.toNat_natCast, hx] at hp
    simp only at hp
    cases he : x.els with
    | true =>
      rw [he, if_pos rfl] at hp
      repeat' (first | ((repeat ((fail_if_success (refine hK _ ?_)); clear hK K)); refine hK _ ?_; clear hK K) | ((first | refine b9 fun K1 q8 => ?_ | refine b7 fun A B hA hB => ?_); simp only [S1, simprocAttr, aj, I5 hf, R9 hlt, I0 (by omega) hlt, j0, hx', eF, he, List.length_map]; first | refine q8 _ ?_; clear q8 K1 | (refine hA ?_; clear hA hB A B)) | refine b6 fun K hK => ?_ | ((first | apply b8 | apply b5 | apply c7 | apply f9 | apply c9); try simp only [NB, simprocAttr]))
      all_goals exact ⟨hlt, hp, by (refine ⟨rfl, (by first | exact ⟨_, rfl⟩ | exact ⟨[], by simp⟩), ?_, ?_⟩ <;> simp only [S1, simprocAttr, KNB] <;> (try and_intros) <;> (try assumption) <;> (try trivial) <;> (try omega))⟩
    | false =>
      rw [he, if_neg (by decide)] at hp
      by_cases h0 : (O5 x.cond v).2 = 0
      · have h0' : ((O5 x.cond v).2 != 0) = false := by simp [h0]
        rw [if_neg (by simpa using h0)] at hp
        cases hb : (O5 x.cond v).1 with
        | true =>
          rw [hb, if_pos rfl] at hp
          have ec : r9 fl v outs = ((j : Int), 0) := by unfold r9; rw [hp]; rfl
          rw [ec]
          repeat' (first | ((repeat ((fail_if_success (refine hK _ ?_)); clear hK K)); refine hK _ ?_; clear hK K) | ((first | refine b9 fun K1 q8 => ?_ | refine j9 fun K1 q8 => ?_ | refine b7 fun A B hA hB => ?_); simp only [S1, simprocAttr, aj, I5 hf, R9 hlt, I0 (by omega) hlt, j0, hx', eF, he, h0', hb, List.length_map]; first | refine q8 _ ?_; clear q8 K1 | ((first | refine hA ?_ | refine hB ?_); clear hA hB A B) | (apply j4 yZ; exact (ht _); refine q8 _ ?_; clear q8 K1)) | refine b6 fun K hK => ?_ | ((first | apply b8 | apply i5 | apply b5 | refine i6 ?_ | apply c7 | apply c9 | apply d3); try simp only [NB, simprocAttr]))
          all_goals simp only [S1, simprocAttr, ENB, aj]
        | false =>
          rw [hb, if_neg (by decide)] at hp
          repeat' (first | ((repeat ((fail_if_success (refine hK _ ?_)); clear hK K)); refine hK _ ?_; clear hK K) | ((first | refine b9 fun K1 q8 => ?_ | refine j9 fun K1 q8 => ?_ | refine b7 fun A B hA hB => ?_); simp only [S1, simprocAttr, aj, I5 hf, R9 hlt, I0 (by omega) hlt, j0, hx', eF, he, h0', hb, List.length_map]; first | refine q8 _ ?_; clear q8 K1 | ((first | refine hA ?_ | refine hB ?_); clear hA hB A B) | (apply j4 yZ; exact (ht _); refine q8 _ ?_; clear q8 K1)) | refine b6 fun K hK => ?_ | ((first | apply b8 | apply i5 | apply b5 | refine i6 ?_ | apply c7 | apply c9); try simp only [NB, simprocAttr]))
          all_goals exact ⟨hlt, hp, by (refine ⟨rfl, (by first | exact ⟨_, rfl⟩ | exact ⟨[], by simp⟩), ?_, ?_⟩ <;> simp only [S1, simprocAttr, KNB] <;> (try and_intros) <;> (try assumption) <;> (try trivial) <;> (try omega))⟩
      · have h0' : ((O5 x.cond v).2 != 0) = true := by simp [h0]
        rw [if_pos h0] at hp
        have ec : r9 fl v outs = (0, (O5 x.cond v).2) := by unfold r9; rw [hp]; rfl
        rw [ec]
        repeat' (first | ((repeat ((fail_if_success (refine hK _ ?_)); clear hK K)); refine hK _ ?_; clear hK K) | ((first | refine b9 fun K1 q8 => ?_ | refine j9 fun K1 q8 => ?_ | refine b7 fun A B hA hB => ?_); simp only [S1, simprocAttr, aj, I5 hf, R9 hlt, I0 (by omega) hlt, j0, hx', eF, he, h0', List.length_map]; first | refine q8 _ ?_; clear q8 K1 | ((first | refine hA ?_ | refine hB ?_); clear hA hB A B) | (apply j4 yZ; exact (ht _); refine q8 _ ?_; clear q8 K1)) | refine b6 fun K hK => ?_ | ((first | apply b8 | apply i5 | apply b5 | refine i6 ?_ | apply c7 | apply c9 | apply d3); try simp only [NB, simprocAttr]))
        all_goals simp only [S1, simprocAttr, ENB, aj]
  obtain rfl : i = outs.length := by omega
  rw [List.drop_length] at hp
  have ec : r9 fl v outs = (chE fl outs, 0) := by unfold r9; rw [hp]; rfl
  repeat' (first | ((repeat ((fail_if_success (refine hK _ ?_)); clear hK K)); refine hK _ ?_; clear hK K) | ((first | refine b9 fun K1 q8 => ?_ | refine b7 fun A B hA hB => ?_); simp only [S1, simprocAttr, aj, I6, List.length_map]; first | refine q8 _ ?_; clear q8 K1 | (refine hB ?_; clear hA hB A B)) | refine b6 fun K hK => ?_ | ((first | apply b8 | apply b5 | apply c7 | apply f9); try simp only [NB, simprocAttr]))
  refine o9 outs.length 60 (fun i => [(46, .i i), (45, .i outs.length), (44, aI outs), (6, .ptr (h.length + 2) 0 0), (3, .ptr h.length 0 0)])
    (fun i => [some ⟨0, x6 ns fl⟩, some ⟨0, [.i (v 0), .i (v 1), .i (v 2), .i (v 3)]⟩, some ⟨0, [.i 0, .i 0]⟩]) (fun i => chE fl outs = chE fl (outs.drop i)) ?_ rfl fun i hi hp K hK => ?_
  · (refine ⟨rfl, (by first | exact ⟨_, rfl⟩ | exact ⟨[], by simp⟩), ?_, ?_⟩ <;> simp only [S1, simprocAttr, KNB] <;> (try and_intros) <;> (try assumption) <;> (try trivial) <;> (try omega))
  rcases Nat.lt_or_ge i outs.length with hlt | hge
  · obtain ⟨f, hf⟩ : ∃ f, outs[i]? = some f := ⟨_, List.getElem?_eq_getElem hlt⟩
    obtain ⟨j, rfl, hj⟩ := ho f (List.mem_of_getElem? hf)
    obtain ⟨x, hx⟩ : ∃ x, fl[j]? = some x := ⟨_, List.getElem?_eq_getElem hj⟩
    have hx' := T8 hx
    have j0 : (0 : Int) ≤ (j : Int) := by omega
    have hee : B3 fl (j : Int) = x.els := by unfold B3; rw [Int.toNat_natCast, hx]
    rw [wz hf, hee] at hp
    cases he : x.els with
    | true =>
      rw [he, if_pos rfl] at hp
      repeat' (first | ((repeat ((fail_if_success (refine hK _ ?_)); clear hK K)); refine hK _ ?_; clear hK K) | ((first | refine b9 fun K1 q8 => ?_ | refine b7 fun A B hA hB => ?_); simp only [S1, simprocAttr, aj, I5 hf, R9 hlt, I0 (by omega) hlt, j0, hx', eF, he, List.length_map]; first | refine q8 _ ?_; clear q8 K1 | (refine hA ?_; clear hA hB A B)) | refine b6 fun K hK => ?_ | ((first | apply b8 | apply b5 | apply c7 | apply c9 | apply d3); try simp only [NB, simprocAttr]))
      all_goals simp only [S1, simprocAttr, ENB, aj]
      all_goals rw [ec, hp]
    | false =>
      rw [he, if_neg (by decide)] at hp
      repeat' (first | ((repeat ((fail_if_success (refine hK _ ?_)); clear hK K)); refine hK _ ?_; clear hK K) | ((first | refine b9 fun K1 q8 => ?_ | refine b7 fun A B hA hB => ?_); simp only [S1, simprocAttr, aj, I5 hf, R9 hlt, I0 (by omega) hlt, j0, hx', eF, he, List.length_map]; first | refine q8 _ ?_; clear q8 K1 | ((first | refine hA ?_ | refine hB ?_); clear hA hB A B)) | refine b6 fun K hK => ?_ | ((first | apply b8 | apply b5 | apply c7 | apply c9); try simp only [NB, simprocAttr]))
      all_goals exact ⟨hlt, hp, by (refine ⟨rfl, (by first | exact ⟨_, rfl⟩ | exact ⟨[], by simp⟩), ?_, ?_⟩ <;> simp only [S1, simprocAttr, KNB] <;> (try and_intros) <;> (try assumption) <;> (try trivial) <;> (try omega))⟩
  obtain rfl : i = outs.length := by omega
  rw [List.drop_length] at hp
  repeat' (first | ((repeat ((fail_if_success (refine hK _ ?_)); clear hK K)); refine hK _ ?_; clear hK K) | ((first | refine b9 fun K1 q8 => ?_ | refine b7 fun A B hA hB => ?_); simp only [S1, simprocAttr, aj, I6]; first | refine q8 _ ?_; clear q8 K1 | (refine hB ?_; clear hA hB A B)) | refine b6 fun K hK => ?_ | ((first | apply b8 | apply b5 | apply f9 | apply d3); try simp only [NB, simprocAttr]))
  all_goals simp only [S1, simprocAttr, ENB, aj]
  all_goals rw [ec, hp]
  all_goals rfl
end
section
def cZ := And.intro T2 (And.intro T3 (And.intro T4 (And.intro T25 (And.intro T28 (And.intro T41 (And.intro T57 (And.intro T58 (And.intro T60 (And.intro T62 (And.intro T65 (And.intro rb (And.intro rd zZ))))))))))))
attribute [local irreducible] awp n9 k8 l8 o5 m9
theorem uv {S T : List Int} {f : Int} (h : S7 S f = some T) : T.length = S.length := by
  unfold S7 at h
  split at h
  · cases h
  · cases h; simp
theorem uw {S T : List Int} {f : Int} (h : W0 S f = some T) : T.length = S.length := by
  unfold W0 at h
  split at h
  · cases h
  · cases h; simp
theorem kp {step : List Int → Int → Option (List Int)} (hs : ∀ S T f, step S f = some T → T.length = S.length) : ∀ {l S T : List Int}, S2 step l S = some T → T.length = S.length
  | [], S, T, h => by cases h; rfl
  | f :: r, S, T, h => by
    unfold S2 at h
    rw [List.foldlM_cons] at h
    obtain ⟨U, h1, h2⟩ := Option.bind_eq_some_iff.mp h
    rw [kp hs (l := r) (S := U) h2, hs _ _ _ h1]
theorem y7 {S : List Int} {x : Sp} {fr to : List Int} (hS : S.length = 49) (hx : x.to.length = 49) : ∀ y ∈ o8 S x fr to, y.to.length = 49 := by
  intro y hy
  unfold o8 at hy
  split at hy
  · cases hy
  · rename_i T hT
    split at hy
    · cases hy
    · rename_i U hU
      rw [List.mem_singleton.mp hy]
      simp only
      rw [kp (fun _ _ _ => uw) hU, kp (fun _ _ _ => uv) hT]
      simp [B4, hS, hx]
theorem GmOk.app {h : Heap} {b lb : Nat} {S : List Int} {l l2 : List Sp} (ok : GmOk h b lb S l) (h2 : ∀ y ∈ l2, y.to.length = 49) (hf : l.length + l2.length ≤ 1000000) : GmOk h b lb S (l ++ l2) :=
  ⟨ok.hb, ok.hl, ok.ne, ok.held, fun x hx => (List.mem_append.mp hx).elim (ok.len x) (h2 x), by rw [List.length_append]; exact hf⟩
def vS (S : List Int) : Int → Int := fun i => if i = 0 then S.getD 40 0 else if i = 1 then S.getD 41 0 else if i = 2 then S.getD 42 0 else S.getD 43 0
theorem xZ (S : List Int) : vS S 0 = S.getD 40 0 := rfl
theorem ya (S : List Int) : vS S 1 = S.getD 41 0 := rfl
theorem yc (S : List Int) : vS S 2 = S.getD 42 0 := rfl
theorem yd (S : List Int) : vS S 3 = S.getD 43 0 := rfl
theorem nT {S : List Int} (h : inV (vS S) = true) : ∀ i, Num (vS S i) := by
  unfold inV at h
  rw [xZ, ya, yc, yd] at h
  simp only [inM, Bool.and_eq_true, decide_eq_true_eq] at h
  intro i
  unfold vS Num
  split
  · exact ⟨by omega, by omega⟩
  · split
    · exact ⟨by omega, by omega⟩
    · split <;> exact ⟨by omega, by omega⟩
theorem pV {S : List Int} (hS : S.length = 49) : ((S.drop 40).take 4).map AV.i = [.p (.int .i64 (vS S 0)), .p (.int .i64 (vS S 1)), .p (.int .i64 (vS S 2)), .p (.int .i64 (vS S 3))] := by
  rw [xZ, ya, yc, yd]
  have e : ∀ k, k < 49 → S[k]? = some (S.getD k 0) := fun k hk => by rw [List.getD_eq_getElem?_getD, List.getElem?_eq_getElem (by omega)]; rfl
  apply List.ext_getElem?
  intro i
  rw [List.getElem?_map, List.getElem?_take]
  match i with
  | 0 => rw [if_pos (by omega), List.getElem?_drop, e 40 (by omega)]; rfl
  | 1 => rw [if_pos (by omega), List.getElem?_drop, e 41 (by omega)]; rfl
  | 2 => rw [if_pos (by omega), List.getElem?_drop, e 42 (by omega)]; rfl
  | 3 => rw [if_pos (by omega), List.getElem?_drop, e 43 (by omega)]; rfl
  | k + 4 => rw [if_neg (by omega)]; rfl
theorem F1 {ns : List Nd} {fl : List Fl} {S : List Int} {lb n : Nat} (hS : S.length = 49) : ((gmC ns fl S lb n).drop 42).take 4 = [.p (.int .i64 (vS S 0)), .p (.int .i64 (vS S 1)), .p (.int .i64 (vS S 2)), .p (.int .i64 (vS S 3))] := by
  have := jX (ns := ns) (fl := fl) (lb := lb) (n := n) (S := S) 40 4 (by omega)
  rw [show 2 + 40 = 42 by rfl] at this
  rw [this, pV hS]
def Q0 (fl : List Fl) (S : List Int) (i : Int) (ins outs : List Int) : List Sp :=
  if outs.length = 1 then ins.flatMap fun f => o8 S ⟨i, f, 0, 0, 0, S⟩ [f] outs
  else if tk S (ins.headD 0) = 0 then []
  else if (r9 fl (vS S) outs).2 ≠ 0 then [w4 S i (r9 fl (vS S) outs).2]
  else o8 S ⟨i, (r9 fl (vS S) outs).1, 0, 0, 0, S⟩ ins [(r9 fl (vS S) outs).1]
theorem nU {fl : List Fl} {v : Int → Int} : ∀ {outs : List Int} {q : Int × Int}, chF fl v outs = some q → q.2 = 0 → q.1 ∈ outs
  | [], q, h, _ => by cases h
  | f :: r, q, h, h0 => by
    unfold chF at h
    split at h
    · exact List.mem_cons_of_mem _ (nU h h0)
    · split at h
      · exact List.mem_cons_of_mem _ (nU h h0)
      · split at h
        · cases h; contradiction
        · split at h
          · cases h; simp
          · exact List.mem_cons_of_mem _ (nU h h0)
theorem rR {fl : List Fl} : ∀ {outs : List Int}, (∃ f ∈ outs, B3 fl f = true) → chE fl outs ∈ outs
  | [], h => by obtain ⟨f, hf, _⟩ := h; cases hf
  | f :: r, h => by
    unfold chE
    split
    · simp
    · rename_i hn
      obtain ⟨g, hg, he⟩ := h
      rcases List.mem_cons.mp hg with rfl | hg
      · exact absurd he hn
      · exact List.mem_cons_of_mem _ (rR ⟨g, hg, he⟩)
theorem rS {fl : List Fl} {v : Int → Int} {outs : List Int} (he : ∃ f ∈ outs, B3 fl f = true) (h0 : (r9 fl v outs).2 = 0) : (r9 fl v outs).1 ∈ outs := by
  unfold r9 at *
  cases hq : chF fl v outs with
  | none => rw [hq] at h0; exact rR he
  | some q => rw [hq] at h0; exact nU hq h0
theorem ux {h : Heap} {b lb : Nat} {ns : List Nd} {fl : List Fl} (nk : NetOk ns fl) {S : List Int} {l : List Sp} (ok : GmOk h b lb S l) (few : l.length ≤ 900000) (hf : fl.length ≤ 40) (i : Int) (ins outs : List Int) (hi : InF ins) (ho : InF outs) (hof : ∀ x ∈ outs, ∃ i : Nat, x = (i : Int) ∧ i < fl.length)
    (hne0 : ins ≠ []) (hels : outs.length ≠ 1 → ∃ f ∈ outs, B3 fl f = true) :
    d5 Tryz.prog gW 70 [.ptr b 0 0, .i i, aI ins, aI outs] (l7 h b lb ns fl S l) (fun r h' => r = .undef ∧ h' = l7 h b lb ns fl S (l ++ Q0 fl S i ins outs)) := by
  have hb := ok.hb
  have hl := ok.hl
  have hne := ok.ne
  have hS := ok.held.1
  have gl := w8 (ns := ns) (fl := fl) (lb := lb) (n := l.length) hS
  have t49 := w9 (ns := ns) (fl := fl) (lb := lb) (n := l.length) hS
  have htl := D4 hS
  have hin0 : (0 : Int) ≤ 0 := Int.le_refl 0
  by_cases h1 : outs.length = 1
  · have h1' : ((outs.length : Int) == 1) = true := by simp [h1]
    let acc := fun j => (ins.take j).flatMap fun f => o8 S ⟨i, f, 0, 0, 0, S⟩ [f] outs
    have hal : ∀ j, (acc j).length ≤ j := by
      intro j
      induction j with
      | zero => simp [acc]
      | succ j ih =>
        rcases Nat.lt_or_ge j ins.length with hj | hj
        · have e : ins.take (j + 1) = ins.take j ++ [ins[j]] := by rw [List.take_add_one, List.getElem?_eq_getElem hj]; rfl
          simp only [acc] at ih ⊢
          rw [e, List.flatMap_append, List.length_append]
          have := B7 S ⟨i, ins[j], 0, 0, 0, S⟩ [ins[j]] outs
          simp only [List.flatMap_cons, List.flatMap_nil, List.append_nil]
          omega
        · have e : ins.take (j + 1) = ins.take j := by rw [List.take_of_length_le (by omega), List.take_of_length_le hj]
          simp only [acc] at ih ⊢
          rw [e]; omega
    have hto : ∀ j, ∀ y ∈ acc j, y.to.length = 49 := by
      intro j y hy
      obtain ⟨f, _, hy⟩ := List.mem_flatMap.mp hy
      exact y7 hS hS y hy
    have eg : Q0 fl S i ins outs = acc ins.length := by unfold Q0; rw [if_pos h1]; simp only [acc, List.take_length]
    rw [eg]
    have hil := hi.1
    refine i3 (rl := []) d7 Tryz.func70 rfl (rs := []) rfl Tryz.ntmps70 (by simp) ?_
    repeat' (first | ((repeat ((fail_if_success (refine hK _ ?_)); clear hK K)); refine hK _ ?_; clear hK K) | ((first | refine b9 fun K1 q8 => ?_ | refine b7 fun A B hA hB => ?_); simp only [S1, simprocAttr, cZ, h1', PGB, r5 hb hne, m5 hl, m8 hb hne, k4 hl, gmB, spB, gl]; first | refine q8 _ ?_; clear q8 K1 | (refine hA ?_; clear hA hB A B)) | refine b6 fun K hK => ?_ | ((first | apply b8 | apply b5 | apply c7); try simp only [NB, simprocAttr]))
    refine Q9 ins.length 76 (fun j => l7 h b lb ns fl S (l ++ acc j)) (fun j => [(16, .i j), (15, .i ins.length), (14, aI ins), (3, aI outs), (1, .i i), (0, .ptr b 0 0)]) (fun j => []) (fun j => True) (fun j => ⟨by rw [i8, i8], aU hl⟩) ?_ trivial fun j hj hp K hK => ?_
    · have e0 : acc 0 = [] := by simp [acc]
      simp only [e0, List.append_nil]
      refine ⟨rfl, ⟨[], by simp only [List.append_nil]⟩, ?_, trivial⟩
      simp only [S1, simprocAttr, KNB, i8] <;> (try and_intros) <;> (try assumption) <;> (try trivial) <;> (try omega)
    have okj : GmOk h b lb S (l ++ acc j) := ok.app (hto j) (by have := hal j; omega)
    have glj := w8 (ns := ns) (fl := fl) (lb := lb) (n := (l ++ acc j).length) hS
    have t49j := w9 (ns := ns) (fl := fl) (lb := lb) (n := (l ++ acc j).length) hS
    rcases Nat.lt_or_ge j ins.length with hlt | hge
    · obtain ⟨f, hfj⟩ : ∃ f, ins[j]? = some f := ⟨_, List.getElem?_eq_getElem hlt⟩
      have hf1 : InF [f] := ⟨by simp, fun g hg => by rw [List.mem_singleton.mp hg]; exact hi.2 f (List.mem_of_getElem? hfj)⟩
      have ea : acc (j + 1) = acc j ++ o8 S ⟨i, f, 0, 0, 0, S⟩ [f] outs := by
        simp only [acc]
        rw [List.take_add_one, hfj, List.flatMap_append]; simp
      have ea' : l ++ acc (j + 1) = (l ++ acc j) ++ o8 S ⟨i, f, 0, 0, 0, S⟩ [f] outs := by rw [ea, List.append_assoc]
      generalize hlj : l ++ acc j = lj at ea' okj glj t49j ⊢
      repeat' (first | ((repeat ((fail_if_success (refine hK _ ?_)); clear hK K)); refine hK _ ?_; clear hK K) | ((first | refine b9 fun K1 q8 => ?_ | refine b7 fun A B hA hB => ?_); simp only [S1, simprocAttr, cZ, I5 hfj, R9 hlt, I0 (by omega) hlt, t49j, glj, htl, hS, PGB, r5 hb hne, m5 hl, m8 hb hne, k4 hl, gmB, spB, gl]; first | refine q8 _ ?_; clear q8 K1 | (refine hA ?_; clear hA hB A B) | (apply d4 E50; exact (gf okj ⟨i, f, 0, 0, 0, S⟩ hS [f] outs hf1 ho); refine q8 _ ?_; clear q8 K1)) | refine b6 fun K hK => ?_ | ((first | apply b8 | apply b5 | apply c7 | apply c9); try simp only [NB, simprocAttr]))
      all_goals refine ⟨hlt, trivial, ?_⟩
      all_goals simp only [ea']
      all_goals refine ⟨rfl, ⟨[], by simp only [List.append_nil]⟩, ?_, trivial⟩
      all_goals simp only [S1, simprocAttr, KNB, i8] <;> (try and_intros) <;> (try assumption) <;> (try trivial) <;> (try omega)
    · obtain rfl : j = ins.length := by omega
      repeat' (first | ((repeat ((fail_if_success (refine hK _ ?_)); clear hK K)); refine hK _ ?_; clear hK K) | ((first | refine b9 fun K1 q8 => ?_ | refine b7 fun A B hA hB => ?_); simp only [S1, simprocAttr, cZ, I6]; first | refine q8 _ ?_; clear q8 K1 | (refine hB ?_; clear hA hB A B)) | refine b6 fun K hK => ?_ | ((first | apply b8 | apply b5 | apply f9 | apply d3); try simp only [NB, simprocAttr]))
      all_goals simp only [S1, simprocAttr, ENB, A0, y5, i8, m7, l6] <;> first | exact d6 hl | exact ⟨d6 hl, rfl⟩ | exact ⟨d6 hl, rfl, rfl⟩
  · have h1' : ((outs.length : Int) == 1) = false := by simp; omega
    obtain ⟨i0, hi0, hh⟩ : ∃ i0, ins[0]? = some i0 ∧ ins.headD 0 = i0 := by
      cases ins with
      | nil => exact absurd rfl hne0
      | cons a r => exact ⟨a, rfl, rfl⟩
    obtain ⟨f0, f40⟩ := hi.2 i0 (List.mem_of_getElem? hi0)
    obtain ⟨k, rfl⟩ := Int.eq_ofNat_of_zero_le f0
    have k40 : k < 40 := by omega
    obtain ⟨hv, v0, v3⟩ := ok.held.at k40
    have gk := V9 (ns := ns) (fl := fl) (lb := lb) (n := l.length) hv
    have gv := F1 (ns := ns) (fl := fl) (lb := lb) (n := l.length) hS
    by_cases hz : tk S (k : Int) = 0
    · have hz' : (tk S (k : Int) == 0) = true := by simp [hz]
      have eg : Q0 fl S i ins outs = [] := by unfold Q0; rw [if_neg h1, hh, if_pos hz]
      rw [eg, List.append_nil]
      refine i3 (rl := []) d7 Tryz.func70 rfl (rs := []) rfl Tryz.ntmps70 (by simp) ?_
      repeat' (first | ((repeat ((fail_if_success (refine hK _ ?_)); clear hK K)); refine hK _ ?_; clear hK K) | ((first | refine b9 fun K1 q8 => ?_ | refine j9 fun K1 q8 => ?_ | refine b7 fun A B hA hB => ?_); simp only [S1, simprocAttr, cZ, h1', f0, f40, gk, hz', I5 hi0, hin0, PGB, r5 hb hne, m5 hl, m8 hb hne, k4 hl, gmB, spB, gl]; first | refine q8 _ ?_; clear q8 K1 | ((first | refine hA ?_ | refine hB ?_); clear hA hB A B)) | refine b6 fun K hK => ?_ | ((first | apply b8 | apply i5 | apply b5 | refine i6 ?_ | apply c9 | apply d3); try simp only [NB, simprocAttr]))
      all_goals simp only [S1, simprocAttr, ENB, A0, y5, i8, m7, l6] <;> first | exact d6 hl | exact ⟨d6 hl, rfl⟩ | exact ⟨d6 hl, rfl, rfl⟩
    · have hz' : (tk S (k : Int) == 0) = false := by simp [hz]
      have ch := fun h => nS ns fl nk outs ho.1 hof (vS S) nT h
      by_cases h2 : (r9 fl (vS S) outs).2 = 0
      · have h2' : ((r9 fl (vS S) outs).2 != 0) = false := by simp [h2]
        have hin := ho.2 _ (rS (hels h1) h2)
        have eg : Q0 fl S i ins outs = o8 S ⟨i, (r9 fl (vS S) outs).1, 0, 0, 0, S⟩ ins [(r9 fl (vS S) outs).1] := by
          unfold Q0; rw [if_neg h1, hh, if_neg hz, if_neg (by simpa using h2)]
        rw [eg]
        have hf1 : InF [(r9 fl (vS S) outs).1] := ⟨by simp, fun g hg => by rw [List.mem_singleton.mp hg]; exact hin⟩
        generalize (r9 fl (vS S) outs).1 = cf at *
        refine i3 (rl := []) d7 Tryz.func70 rfl (rs := []) rfl Tryz.ntmps70 (by simp) ?_
        repeat' (first | ((first | apply b8 | apply i5 | apply s5); (try simp only [NB])) | ((repeat ((fail_if_success (refine hK _ ?_)); clear hK K)); refine hK _ ?_; clear hK K) | ((first | refine b9 fun K1 q8 => ?_ | refine j9 fun K1 q8 => ?_ | refine v6 rfl rfl rfl fun K1 q8 => ?_ | refine b7 fun A B hA hB => ?_); simp only [S1, simprocAttr, cZ, h1', h2', f0, f40, gk, gv, t49, htl, hS, hz', m6, I5 hi0, hin0, PGB, r5 hb hne, m5 hl, m8 hb hne, k4 hl, gmB, spB, gl]; first | refine q8 _ ?_; clear q8 K1 | (refine hB ?_; clear hA hB A B) | (apply d4 E50; exact (dH ok ⟨i, cf, 0, 0, 0, S⟩ hS ins [cf] hi hf1 _); refine q8 _ ?_; clear q8 K1)) | ((first | refine v7 (v := ?_) rfl rfl rfl rfl (by decide) (fun R1 K1 q8 => ?_) ?_ | refine z7 (v := ?_) rfl rfl rfl (by decide) (fun K1 q8 => ?_) ?_); rotate_left; (focus (simp only [S1, simprocAttr, cZ, h1', h2', f0, f40, gk, gv, t49, htl, hS, hz', m6, I5 hi0, hin0, PGB, r5 hb hne, m5 hl, m8 hb hne, k4 hl, gmB, spB, gl]; first | (exact q8 _ _ _) | (apply j4 E98; exact (ch _); exact q8 _ _ _)))) | (refine s6 rfl rfl rfl ?_) | ((refine A1 (z := ?_) 0 rfl rfl rfl rfl (by decide) rfl ?_ ?_); rotate_left; (focus (simp only [S1, simprocAttr, cZ, h1', h2', f0, f40, gk, gv, t49, htl, hS, hz', m6, I5 hi0, hin0, PGB, r5 hb hne, m5 hl, m8 hb hne, k4 hl, gmB, spB, gl, O9]; rfl))) | refine b6 fun K hK => ?_ | (refine r4 (es := []) [0, 1, 2, 3, 4, 5, 6, 7, 8, 9, 10, 11, 12] 1 (fs := []) rfl (by kernel_rfl) (by kernel_rfl) ?_) | (refine r4 (es := []) [0, 1, 2, 3, 4, 5, 6, 7, 8, 9, 10, 11, 12, 13] 0 (fs := []) rfl (by kernel_rfl) (by kernel_rfl) ?_) | ((first | apply b5 | refine i6 ?_ | apply c9); try simp only [NB, simprocAttr]))
        all_goals simp only [S1, simprocAttr, ENB, A0, y5, i8, m7, l6] <;> first | exact d6 hl | exact ⟨d6 hl, rfl⟩ | exact ⟨d6 hl, rfl, rfl⟩
      · have h2' : ((r9 fl (vS S) outs).2 != 0) = true := by simp [h2]
        have eg : Q0 fl S i ins outs = [w4 S i (r9 fl (vS S) outs).2] := by
          unfold Q0; rw [if_neg h1, hh, if_neg hz, if_pos h2]
        rw [eg]
        refine i3 (rl := []) d7 Tryz.func70 rfl (rs := []) rfl Tryz.ntmps70 (by simp) ?_
        repeat' (first | ((first | apply b8 | apply i5 | apply s5); (try simp only [NB])) | ((repeat ((fail_if_success (refine hK _ ?_)); clear hK K)); refine hK _ ?_; clear hK K) | ((first | refine b9 fun K1 q8 => ?_ | refine j9 fun K1 q8 => ?_ | refine v6 rfl rfl rfl fun K1 q8 => ?_ | refine b7 fun A B hA hB => ?_); simp only [S1, simprocAttr, cZ, h1', h2', f0, f40, gk, gv, t49, htl, hS, hz', m6, I5 hi0, hin0, PGB, r5 hb hne, m5 hl, m8 hb hne, k4 hl, gmB, spB, gl]; first | refine q8 _ ?_; clear q8 K1 | ((first | refine hA ?_ | refine hB ?_); clear hA hB A B) | (apply d4 E97; exact (pK ok i (r9 fl (vS S) outs).2 _); refine q8 _ ?_; clear q8 K1)) | ((first | refine v7 (v := ?_) rfl rfl rfl rfl (by decide) (fun R1 K1 q8 => ?_) ?_ | refine z7 (v := ?_) rfl rfl rfl (by decide) (fun K1 q8 => ?_) ?_); rotate_left; (focus (simp only [S1, simprocAttr, cZ, h1', h2', f0, f40, gk, gv, t49, htl, hS, hz', m6, I5 hi0, hin0, PGB, r5 hb hne, m5 hl, m8 hb hne, k4 hl, gmB, spB, gl]; first | (exact q8 _ _ _) | (apply j4 E98; exact (ch _); exact q8 _ _ _)))) | (refine s6 rfl rfl rfl ?_) | ((refine A1 (z := ?_) 0 rfl rfl rfl rfl (by decide) rfl ?_ ?_); rotate_left; (focus (simp only [S1, simprocAttr, cZ, h1', h2', f0, f40, gk, gv, t49, htl, hS, hz', m6, I5 hi0, hin0, PGB, r5 hb hne, m5 hl, m8 hb hne, k4 hl, gmB, spB, gl, O9]; rfl))) | refine b6 fun K hK => ?_ | (refine r4 (es := []) [0, 1, 2, 3, 4, 5, 6, 7, 8, 9, 10, 11, 12] 1 (fs := []) rfl (by kernel_rfl) (by kernel_rfl) ?_) | ((first | apply b5 | refine i6 ?_ | apply c9 | apply d3); try simp only [NB, simprocAttr]))
        all_goals simp only [S1, simprocAttr, ENB, A0, y5, i8, m7, l6] <;> first | exact d6 hl | exact ⟨d6 hl, rfl⟩ | exact ⟨d6 hl, rfl, rfl⟩
end
section
def mj := And.intro T2 (And.intro T3 (And.intro T4 (And.intro T22 (And.intro T23 (And.intro T25 (And.intro T28 (And.intro T41 (And.intro T57 (And.intro T58 (And.intro T60 (And.intro T62 (And.intro T65 (And.intro T75 (And.intro T77 (And.intro T80 (And.intro rb rd))))))))))))))))
attribute [local irreducible] awp n9 k8 l8 o5 m9
def P0 (S : List Int) (k : Nd) (i : Int) (ins outs : List Int) : List Sp :=
  if tk S (ins.headD 0) = 0 then []
  else if k.kind = 3 then o8 S ⟨i, 0, 1, i, 0, S.set (40 + k.a.toNat) 0⟩ ins outs ++ o8 S ⟨i, 1, 1, i, 1, S.set (40 + k.a.toNat) 1⟩ ins outs
  else if (P9 k.term (vS S)).2 ≠ 0 then [w4 S i (P9 k.term (vS S)).2]
  else o8 S ⟨i, 0, 2, i, 0, S.set (40 + k.a.toNat) (P9 k.term (vS S)).1⟩ ins outs
def Sj (S : List Int) (a j : Nat) : List Int := if j = 0 then S else S.set (40 + a) ((j : Int) - 1)
theorem zC (S : List Int) (a j : Nat) (v : Int) : (Sj S a j).set (40 + a) v = S.set (40 + a) v := by
  unfold Sj; split
  · rfl
  · rw [List.set_set]
theorem zD {S : List Int} {a j : Nat} : (Sj S a j).length = S.length := by unfold Sj; split <;> simp
theorem ye (S : List Int) (a j : Nat) : Sj S a (j + 1) = S.set (40 + a) (j : Int) := by
  unfold Sj; rw [if_neg (by omega)]; congr 1; omega
theorem kq {h : Heap} {b lb : Nat} {ns : List Nd} {fl : List Fl} (nk : NetOk ns fl) {S : List Int} {l : List Sp} (ok : GmOk h b lb S l) (few : l.length ≤ 900000) (c : Nat) {k : Nd} (hc : ns[c]? = some k) (ha : 0 ≤ k.a ∧ k.a < 4) (ins outs : List Int) (hi : InF ins) (ho : InF outs) (hne0 : ins ≠ []) :
    d5 Tryz.prog gW 69 [.ptr b 0 0, .i c, aI ins, aI outs] (l7 h b lb ns fl S l) (fun r h' => r = .undef ∧ h' = l7 h b lb ns fl S (l ++ P0 S k c ins outs)) := by
  have hb := ok.hb
  have hl := ok.hl
  have hne := ok.ne
  have hS := ok.held.1
  have gl := w8 (ns := ns) (fl := fl) (lb := lb) (n := l.length) hS
  have t49 := w9 (ns := ns) (fl := fl) (lb := lb) (n := l.length) hS
  have hin0 : (0 : Int) ≤ 0 := Int.le_refl 0
  have c0 : (0 : Int) ≤ (c : Int) := by omega
  have hc' := H6 hc
  obtain ⟨a, hka⟩ := Int.eq_ofNat_of_zero_le ha.1
  have a4 : a < 4 := by omega
  have a0 : (0 : Int) ≤ (a : Int) := by omega
  have a4' : (a : Int) < 4 := by omega
  have h49 : 40 + a + 1 ≤ 49 := by omega
  obtain ⟨i0, hi0, hh⟩ : ∃ i0, ins[0]? = some i0 ∧ ins.headD 0 = i0 := by
    cases ins with
    | nil => exact absurd rfl hne0
    | cons a r => exact ⟨a, rfl, rfl⟩
  obtain ⟨f0, f40⟩ := hi.2 i0 (List.mem_of_getElem? hi0)
  obtain ⟨m, rfl⟩ := Int.eq_ofNat_of_zero_le f0
  have k40 : m < 40 := by omega
  obtain ⟨hv, v0, v3⟩ := ok.held.at k40
  have gk := V9 (ns := ns) (fl := fl) (lb := lb) (n := l.length) hv
  have gv := F1 (ns := ns) (fl := fl) (lb := lb) (n := l.length) hS
  have hov := m3 (cs := S.map AV.i) (n := 49) (by rw [List.length_map, hS])
  have hS2 : ∀ v, (S.set (40 + a) v).length = 49 := fun v => by rw [List.length_set, hS]
  have htk : ∀ v, ((S.set (40 + a) v).map AV.i).take 49 = (S.set (40 + a) v).map AV.i := fun v => List.take_of_length_le (by rw [List.length_map, hS2]; exact Nat.le_refl _)
  have htl : ∀ v, _ := fun v => D4 (hS2 v)
  have hset := fun v => J2 S (40 + a) v
  by_cases hz : tk S (m : Int) = 0
  · have hz' : (tk S (m : Int) == 0) = true := by simp [hz]
    have eg : P0 S k c ins outs = [] := by unfold P0; rw [hh, if_pos hz]
    rw [eg, List.append_nil]
    refine i3 (rl := []) d7 Tryz.func69 rfl (rs := []) rfl Tryz.ntmps69 (by simp) ?_
    repeat' (first | ((repeat ((fail_if_success (refine hK _ ?_)); clear hK K)); refine hK _ ?_; clear hK K) | ((first | refine b9 fun K1 q8 => ?_ | refine j9 fun K1 q8 => ?_ | refine b7 fun A B hA hB => ?_); simp only [S1, simprocAttr, mj, f0, f40, gk, hz', c0, hc', eN, j8, I5 hi0, hin0, PGB, r5 hb hne, m5 hl, m8 hb hne, k4 hl, gmB, spB, gl]; first | refine q8 _ ?_; clear q8 K1 | (refine hA ?_; clear hA hB A B)) | refine b6 fun K hK => ?_ | ((first | apply b8 | apply i5 | apply b5 | refine i6 ?_ | apply d3); try simp only [NB, simprocAttr]))
    all_goals simp only [S1, simprocAttr, ENB, A0, y5, i8, m7, l6] <;> first | exact d6 hl | exact ⟨d6 hl, rfl⟩ | exact ⟨d6 hl, rfl, rfl⟩
  have hz' : (tk S (m : Int) == 0) = false := by simp [hz]
  by_cases h3 : k.kind = 3
  · have h3' : (k.kind == 3) = true := by simp [h3]
    have eg : P0 S k c ins outs = o8 S ⟨c, 0, 1, c, 0, S.set (40 + a) 0⟩ ins outs ++ o8 S ⟨c, 1, 1, c, 1, S.set (40 + a) 1⟩ ins outs := by
      unfold P0; rw [hh, if_neg hz, if_pos h3, hka, Int.toNat_natCast]
    rw [eg]
    let acc : Nat → List Sp := fun j => (if j = 0 then [] else o8 S ⟨c, 0, 1, c, 0, S.set (40 + a) 0⟩ ins outs) ++ (if j ≤ 1 then [] else o8 S ⟨c, 1, 1, c, 1, S.set (40 + a) 1⟩ ins outs)
    have hto : ∀ j, ∀ y ∈ acc j, y.to.length = 49 := by
      intro j y hy
      simp only [acc] at hy
      rcases List.mem_append.mp hy with hy | hy
      · split at hy
        · cases hy
        · exact y7 hS (hS2 _) y hy
      · split at hy
        · cases hy
        · exact y7 hS (hS2 _) y hy
    have hal : ∀ j, (acc j).length ≤ 2 := by
      intro j
      simp only [acc, List.length_append]
      have h1 := B7 S ⟨c, 0, 1, c, 0, S.set (40 + a) 0⟩ ins outs
      have h2 := B7 S ⟨c, 1, 1, c, 1, S.set (40 + a) 1⟩ ins outs
      split <;> split <;> simp <;> omega
    have e2 : acc 2 = o8 S ⟨c, 0, 1, c, 0, S.set (40 + a) 0⟩ ins outs ++ o8 S ⟨c, 1, 1, c, 1, S.set (40 + a) 1⟩ ins outs := by simp only [acc]; rfl
    rw [← e2]
    refine i3 (rl := []) d7 Tryz.func69 rfl (rs := []) rfl Tryz.ntmps69 (by simp) ?_
    repeat' (first | ((repeat ((fail_if_success (refine hK _ ?_)); clear hK K)); refine hK _ ?_; clear hK K) | ((first | refine b9 fun K1 q8 => ?_ | refine j9 fun K1 q8 => ?_ | refine b7 fun A B hA hB => ?_); simp only [S1, simprocAttr, mj, f0, f40, gk, hz', h3', hka, c0, hc', eN, t49, hov, hS, j8, I5 hi0, hin0, PGB, r5 hb hne, m5 hl, m8 hb hne, k4 hl, gmB, spB, gl]; first | refine q8 _ ?_; clear q8 K1 | ((first | refine hA ?_ | refine hB ?_); clear hA hB A B)) | refine b6 fun K hK => ?_ | ((first | apply b8 | apply i5 | apply b5 | refine i6 ?_ | apply c7 | apply c9); try simp only [NB, simprocAttr]))
    refine Q9 2 89 (fun j => l7 h b lb ns fl S (l ++ acc j)) (fun j => [(10, .i j), (9, .ptr (h.length + 1) 0 0), (8, .ptr h.length 0 0), (3, aI outs), (2, aI ins), (1, .i c), (0, .ptr b 0 0)])
      (fun j => [some ⟨0, [.i k.kind, .i a, .i k.term.op, .i k.term.n, .p (.sl (k.term.kids.map eT))]⟩, some ⟨0, (Sj S a j).map AV.i⟩]) (fun j => True) (fun j => ⟨by rw [i8, i8], aU hl⟩) ?_ trivial fun j hj hp K hK => ?_
    · have e0 : acc 0 = [] := by simp [acc]
      have s0 : Sj S a 0 = S := rfl
      simp only [e0, s0, List.append_nil]
      refine ⟨rfl, ⟨[], by simp only [List.append_nil]⟩, ?_, ?_⟩
      · simp only [S1, simprocAttr, KNB, i8] <;> (try and_intros) <;> (try assumption) <;> (try trivial) <;> (try omega)
      · exact ⟨⟨trivial, trivial, trivial, trivial, trivial, trivial⟩, g9 _ _, trivial⟩
    have okj : GmOk h b lb S (l ++ acc j) := ok.app (hto j) (by have := hal j; omega)
    have glj := w8 (ns := ns) (fl := fl) (lb := lb) (n := (l ++ acc j).length) hS
    rcases Nat.lt_or_ge j 2 with hlt | hge
    · have hlt' : decide ((j : Int) < 2) = true := decide_eq_true (by omega)
      have hnx : IntKind.i64.wrap ((j : Int) + 1) = ((j + 1 : Nat) : Int) := by rw [IntWalk.i64_in _ (by omega)]; omega
      have ea' : l ++ acc (j + 1) = (l ++ acc j) ++ o8 S ⟨c, j, 1, c, j, S.set (40 + a) j⟩ ins outs := by
        rw [List.append_assoc]
        congr 1
        match j, hlt with
        | 0, _ => simp [acc]
        | 1, _ => simp [acc]
      generalize hlj : l ++ acc j = lj at ea' okj glj ⊢
      have hsj := fun v => J2 (Sj S a j) (40 + a) v
      have hss := zC S a j
      have hsl : (Sj S a j).length = 49 := by rw [zD, hS]
      have hsn := ye S a j
      repeat' (first | ((repeat ((fail_if_success (refine hK _ ?_)); clear hK K)); refine hK _ ?_; clear hK K) | ((first | refine b9 fun K1 q8 => ?_ | refine b7 fun A B hA hB => ?_); simp only [S1, simprocAttr, mj, hlt', hnx, a0, a4', h49, hsj, hss, hsl, htk, htl, hS2, glj, PGB, r5 hb hne, m5 hl, m8 hb hne, k4 hl, gmB, spB, gl]; first | refine q8 _ ?_; clear q8 K1 | (refine hA ?_; clear hA hB A B) | (apply d4 E50; exact (dH okj ⟨c, j, 1, c, j, S.set (40 + a) j⟩ (hS2 _) ins outs hi ho _); refine q8 _ ?_; clear q8 K1)) | refine b6 fun K hK => ?_ | ((first | apply b8 | apply b5 | apply c7 | apply c9); try simp only [NB, simprocAttr]))
      all_goals refine ⟨hlt, trivial, ?_⟩
      all_goals simp only [ea', hsn]
      all_goals refine ⟨rfl, ⟨[], by simp only [List.append_nil]⟩, ?_, ?_⟩
      · simp only [S1, simprocAttr, KNB, i8] <;> (try and_intros) <;> (try assumption) <;> (try trivial) <;> (try omega)
      · exact ⟨⟨trivial, trivial, trivial, trivial, trivial, trivial⟩, g9 _ _, trivial⟩
    · obtain rfl : j = 2 := by omega
      repeat' (first | ((repeat ((fail_if_success (refine hK _ ?_)); clear hK K)); refine hK _ ?_; clear hK K) | ((first | refine b9 fun K1 q8 => ?_ | refine b7 fun A B hA hB => ?_); simp only [S1, simprocAttr, mj, (show decide (((2 : Nat) : Int) < 2) = false by decide)]; first | refine q8 _ ?_; clear q8 K1 | (refine hB ?_; clear hA hB A B)) | refine b6 fun K hK => ?_ | ((first | apply b8 | apply b5 | apply f9 | apply d3); try simp only [NB, simprocAttr]))
      all_goals simp only [S1, simprocAttr, ENB, A0, y5, i8, m7, l6] <;> first | exact d6 hl | exact ⟨d6 hl, rfl⟩ | exact ⟨d6 hl, rfl, rfl⟩
  have h3' : (k.kind == 3) = false := by simp [h3]
  obtain ⟨mm, hmm, ht⟩ := nk.tn
  have ch := fun h => lq (ht k (List.mem_of_getElem? hc)) hmm (vS S) nT h
  by_cases h2 : (P9 k.term (vS S)).2 = 0
  · have h2' : ((P9 k.term (vS S)).2 != 0) = false := by simp [h2]
    have eg : P0 S k c ins outs = o8 S ⟨c, 0, 2, c, 0, S.set (40 + a) (P9 k.term (vS S)).1⟩ ins outs := by
      unfold P0; rw [hh, if_neg hz, if_neg h3, if_neg (by simpa using h2), hka, Int.toNat_natCast]
    rw [eg]
    generalize (P9 k.term (vS S)).1 = w at *
    refine i3 (rl := []) d7 Tryz.func69 rfl (rs := []) rfl Tryz.ntmps69 (by simp) ?_
    repeat' (first | ((repeat ((fail_if_success (refine hK _ ?_)); clear hK K)); refine hK _ ?_; clear hK K) | ((first | refine b9 fun K1 q8 => ?_ | refine j9 fun K1 q8 => ?_ | refine b7 fun A B hA hB => ?_); simp only [S1, simprocAttr, mj, f0, f40, gk, gv, hz', h3', h2', hka, a0, a4', h49, c0, hc', eN, t49, hov, hset, htk, htl, hS, hS2, j8, I5 hi0, hin0, PGB, r5 hb hne, m5 hl, m8 hb hne, k4 hl, gmB, spB, gl]; first | refine q8 _ ?_; clear q8 K1 | (refine hB ?_; clear hA hB A B) | (apply j4 E96; exact (ch _); refine q8 _ ?_; clear q8 K1) | (apply d4 E50; exact (dH ok ⟨c, 0, 2, c, 0, S.set (40 + a) w⟩ (hS2 _) ins outs hi ho _); refine q8 _ ?_; clear q8 K1)) | refine b6 fun K hK => ?_ | ((first | apply b8 | apply i5 | apply b5 | refine i6 ?_ | apply c9); try simp only [NB, simprocAttr]))
    all_goals simp only [S1, simprocAttr, ENB, A0, y5, i8, m7, l6] <;> first | exact d6 hl | exact ⟨d6 hl, rfl⟩ | exact ⟨d6 hl, rfl, rfl⟩
  · have h2' : ((P9 k.term (vS S)).2 != 0) = true := by simp [h2]
    have eg : P0 S k c ins outs = [w4 S c (P9 k.term (vS S)).2] := by
      unfold P0; rw [hh, if_neg hz, if_neg h3, if_pos h2]
    rw [eg]
    refine i3 (rl := []) d7 Tryz.func69 rfl (rs := []) rfl Tryz.ntmps69 (by simp) ?_
    repeat' (first | ((repeat ((fail_if_success (refine hK _ ?_)); clear hK K)); refine hK _ ?_; clear hK K) | ((first | refine b9 fun K1 q8 => ?_ | refine j9 fun K1 q8 => ?_ | refine b7 fun A B hA hB => ?_); simp only [S1, simprocAttr, mj, f0, f40, gk, gv, hz', h3', h2', hka, c0, hc', eN, t49, hov, hS, j8, I5 hi0, hin0, PGB, r5 hb hne, m5 hl, m8 hb hne, k4 hl, gmB, spB, gl]; first | refine q8 _ ?_; clear q8 K1 | ((first | refine hA ?_ | refine hB ?_); clear hA hB A B) | (apply j4 E96; exact (ch _); refine q8 _ ?_; clear q8 K1) | (apply d4 E97; exact (pK ok c (P9 k.term (vS S)).2 _); refine q8 _ ?_; clear q8 K1)) | refine b6 fun K hK => ?_ | ((first | apply b8 | apply i5 | apply b5 | refine i6 ?_ | apply c9 | apply d3); try simp only [NB, simprocAttr]))
    all_goals simp only [S1, simprocAttr, ENB, A0, y5, i8, m7, l6] <;> first | exact d6 hl | exact ⟨d6 hl, rfl⟩ | exact ⟨d6 hl, rfl, rfl⟩
end
section
def cj := And.intro T2 (And.intro T3 (And.intro T4 (And.intro T22 (And.intro T23 (And.intro T25 (And.intro T28 (And.intro T41 (And.intro T57 (And.intro T58 (And.intro T60 (And.intro T62 (And.intro T65 (And.intro T75 (And.intro T77 (And.intro T80 (And.intro rb rd))))))))))))))))
attribute [local irreducible] awp n9 k8 l8 o5 m9
def fe (S : List Int) (i : Int) (ins : List Int) : List Sp :=
  if cN (S.take 40) = 1 then o8 S ⟨i, 0, 7, 0, 0, S.set 48 1⟩ ins [] else o8 S ⟨i, 0, 0, 0, 0, S⟩ ins []
def n8 (ns : List Nd) (fl : List Fl) (S : List Int) (i : Nat) (k : Nd) : List Sp :=
  if k.kind = 2 then fe S i (o7 fl i)
  else if k.kind = 3 ∨ k.kind = 4 then P0 S k i (o7 fl i) (j3 fl i)
  else if k.kind = 5 then Q0 fl S i (o7 fl i) (j3 fl i)
  else if k.kind = 6 then o8 S ⟨i, 0, 0, 0, 0, S⟩ (o7 fl i) (j3 fl i)
  else if k.kind = 7 then (j3 fl i).flatMap fun f => s7 ns fl S i f (X8 fl f) (o7 fl i)
  else if k.kind = 8 then s7 ns fl S i 0 i (o7 fl i)
  else []
theorem Right.kind {ns : List Nd} {fl : List Fl} (h : Right ns fl) {i : Nat} {k : Nd} (hc : ns[i]? = some k) : (1 ≤ k.kind ∧ k.kind ≤ 8) ∧ 0 ≤ k.a ∧ (k.kind = 3 ∨ k.kind = 4 → k.a < 4) ∧ k.a ≤ 4 := by
  have hi := (List.getElem?_eq_some_iff.mp hc).1
  have := h.b1 i hi
  unfold Z1 at this
  rw [hc] at this
  simp only [Bool.not_eq_false'] at this
  unfold bD at this
  split at this
  · simp only [Bool.and_eq_true, decide_eq_true_eq] at this; omega
  · simp only [Bool.and_eq_true, decide_eq_true_eq] at this
    have hm : cV k.kind ≤ 4 ∧ (k.kind = 3 → cV k.kind = 3) := by unfold cV; split <;> (try split) <;> omega
    omega
theorem Right.ins {ns : List Nd} {fl : List Fl} (h : Right ns fl) {i : Nat} {k : Nd} (hc : ns[i]? = some k) (h1 : k.kind ≠ 1) : o7 fl i ≠ [] := by
  have hi := (List.getElem?_eq_some_iff.mp hc).1
  have := h.three hi
  unfold E1 at this
  simp only [Q4 hc, if_neg h1] at this
  intro e
  rw [e] at this
  simp only [List.length_nil] at this
  repeat' split at this
  all_goals simp at this
theorem Right.els {ns : List Nd} {fl : List Fl} (h : Right ns fl) {i : Nat} {k : Nd} (hc : ns[i]? = some k) (h5 : k.kind = 5) (hn : (j3 fl i).length ≠ 1) : ∃ f ∈ j3 fl i, B3 fl f = true := by
  have hi := (List.getElem?_eq_some_iff.mp hc).1
  have := h.three hi
  unfold E1 at this
  simp only [Q4 hc, h5] at this
  simp only [Int.reduceEq, reduceIte, Bool.or_eq_true, Bool.and_eq_true, beq_iff_eq, decide_eq_true_eq] at this
  rcases this with h | h
  · have h2 := h.2
    unfold aM at h2
    rw [List.take_length] at h2
    obtain ⟨f, hf, he⟩ := List.countP_pos_iff.mp (by omega : 0 < (j3 fl i).countP (B3 fl))
    exact ⟨f, hf, he⟩
  · exact absurd h.2 hn
theorem ff {fl : List Fl} (i : Int) : ∀ x ∈ j3 fl i, ∃ i : Nat, x = (i : Int) ∧ i < fl.length := by
  intro x hx
  obtain ⟨j, f, h1, rfl, h2, _⟩ := H5 hx
  exact ⟨j, rfl, h1⟩
theorem pW (S : List Int) : R2 (S.map AV.i) = S.map AV.i := by
  rw [U6, List.map_map]; rfl
theorem dK (l : List Int) : H9 (l.map eI) = l.map eI := by
  rw [R0, List.map_map]; rfl
theorem te {h : Heap} {b lb : Nat} {ns : List Nd} {fl : List Fl} {S : List Int} {l : List Sp} (ok : GmOk h b lb S l) (x : Sp) (hx : x.to.length = 49) (fr : List Int) (hfr : InF fr) (L : Heap) :
    d5 Tryz.prog gW 50 [.ptr b 0 0, aSp x, aI fr, .p .nils] (l7 h b lb ns fl S l ++ L) (fun r h' => r = .undef ∧ h' = l7 h b lb ns fl S (l ++ o8 S x fr []) ++ L) := by
  have := dH (G := gW) (ns := ns) (fl := fl) ok x hx fr [] hfr ⟨by simp, by simp⟩ L
  refine d5.nrm ?_
  have hr := pW (cSp x)
  have hk := dK fr
  simp only [R2, bS, nrm, hr, hk]
  exact this
theorem wA {h : Heap} {b lb : Nat} {ns : List Nd} {fl : List Fl} {S : List Int} {l : List Sp} (ok : GmOk h b lb S l) (x : Sp) (hx : x.to.length = 49) (L : Heap) :
    d5 Tryz.prog gW 50 [.ptr b 0 0, aSp x, .p .nils, .p .nils] (l7 h b lb ns fl S l ++ L) (fun r h' => r = .undef ∧ h' = l7 h b lb ns fl S (l ++ o8 S x [] []) ++ L) := by
  have := dH (G := gW) (ns := ns) (fl := fl) ok x hx [] [] ⟨by simp, by simp⟩ ⟨by simp, by simp⟩ L
  refine d5.nrm ?_
  have hr := pW (cSp x)
  simp only [R2, bS, nrm, hr]
  exact this
theorem pX {h : Heap} {b lb : Nat} {ns : List Nd} {fl : List Fl} (nk : NetOk ns fl) (rt : Right ns fl) {S : List Int} {l : List Sp} (ok : GmOk h b lb S l) (st : StOk S) (few : l.length ≤ 900000) (c : Nat) {k : Nd} (hc : ns[c]? = some k) :
    d5 Tryz.prog gW 49 [.ptr b 0 0, .i c] (l7 h b lb ns fl S l) (fun r h' => r = .undef ∧ h' = l7 h b lb ns fl S (l ++ n8 ns fl S c k)) := by
  have hb := ok.hb
  have hl := ok.hl
  have hne := ok.ne
  have hS := ok.held.1
  have gl := w8 (ns := ns) (fl := fl) (lb := lb) (n := l.length) hS
  have t49 := w9 (ns := ns) (fl := fl) (lb := lb) (n := l.length) hS
  have c0 : (0 : Int) ≤ (c : Int) := by omega
  have hc' := H6 hc
  have hkd := rt.kind hc
  have hf := rt.f
  have hf' : fl.length ≤ 100 := by omega
  have ho := D7 hf c
  have hi := M0 hf c
  have htl := D4 hS
  have hov := m3 (cs := S.map AV.i) (n := 49) (by rw [List.length_map, hS])
  have hno : ∀ n : Int, k.kind = n → (k.kind == n) = true := fun n e => by simp [e]
  by_cases h34 : k.kind = 3 ∨ k.kind = 4
  · have eg : n8 ns fl S c k = P0 S k c (o7 fl c) (j3 fl c) := by unfold n8; rw [if_neg (by omega), if_pos h34]
    rw [eg]
    have e2 : (k.kind == 2) = false := by simp; omega
    have hin := rt.ins hc (by omega)
    rcases h34 with h3 | h4
    · have e3 : (k.kind == 3) = true := by simp [h3]
      refine i3 (rl := []) d7 Tryz.func49 rfl (rs := []) rfl Tryz.ntmps49 (by simp) ?_
      repeat' (first | ((repeat ((fail_if_success (refine hK _ ?_)); clear hK K)); refine hK _ ?_; clear hK K) | ((first | refine b9 fun K1 q8 => ?_ | refine b7 fun A B hA hB => ?_); simp only [S1, simprocAttr, cj, e2, e3, c0, hc', eN, j8, m6, PGB, r5 hb hne, m5 hl, m8 hb hne, k4 hl, gmB, spB, gl]; first | refine q8 _ ?_; clear q8 K1 | ((first | refine hA ?_ | refine hB ?_); clear hA hB A B) | (apply d4 E66; exact (D9 _ fl hf' _ _); refine q8 _ ?_; clear q8 K1) | (apply d4 E47; exact (t8 _ fl hf' _ _); refine q8 _ ?_; clear q8 K1) | (apply d4 E69; exact (kq nk ok few c hc ⟨hkd.2.1, hkd.2.2.1 (.inl h3)⟩ _ _ hi ho hin); refine q8 _ ?_; clear q8 K1)) | refine b6 fun K hK => ?_ | ((first | apply b8 | apply b5 | apply c7 | apply c9); try simp only [NB, simprocAttr]))
      all_goals simp only [S1, simprocAttr, ENB, A0, y5, i8, m7, l6] <;> first | exact d6 hl | exact ⟨d6 hl, rfl⟩ | exact ⟨d6 hl, rfl, rfl⟩
    · have e3 : (k.kind == 3) = false := by simp [h4]
      have e4 : (k.kind == 4) = true := by simp [h4]
      refine i3 (rl := []) d7 Tryz.func49 rfl (rs := []) rfl Tryz.ntmps49 (by simp) ?_
      repeat' (first | ((repeat ((fail_if_success (refine hK _ ?_)); clear hK K)); refine hK _ ?_; clear hK K) | ((first | refine b9 fun K1 q8 => ?_ | refine b7 fun A B hA hB => ?_); simp only [S1, simprocAttr, cj, e2, e3, e4, c0, hc', eN, j8, m6, PGB, r5 hb hne, m5 hl, m8 hb hne, k4 hl, gmB, spB, gl]; first | refine q8 _ ?_; clear q8 K1 | ((first | refine hA ?_ | refine hB ?_); clear hA hB A B) | (apply d4 E66; exact (D9 _ fl hf' _ _); refine q8 _ ?_; clear q8 K1) | (apply d4 E47; exact (t8 _ fl hf' _ _); refine q8 _ ?_; clear q8 K1) | (apply d4 E69; exact (kq nk ok few c hc ⟨hkd.2.1, hkd.2.2.1 (.inr h4)⟩ _ _ hi ho hin); refine q8 _ ?_; clear q8 K1)) | refine b6 fun K hK => ?_ | ((first | apply b8 | apply b5 | apply c7); try simp only [NB, simprocAttr]))
      all_goals simp only [S1, simprocAttr, ENB, A0, y5, i8, m7, l6] <;> first | exact d6 hl | exact ⟨d6 hl, rfl⟩ | exact ⟨d6 hl, rfl, rfl⟩
  have e3 : (k.kind == 3) = false := by simp; omega
  have e4 : (k.kind == 4) = false := by simp; omega
  by_cases h5 : k.kind = 5
  · have eg : n8 ns fl S c k = Q0 fl S c (o7 fl c) (j3 fl c) := by unfold n8; rw [if_neg (by omega), if_neg h34, if_pos h5]
    rw [eg]
    have e2 : (k.kind == 2) = false := by simp; omega
    have e5 : (k.kind == 5) = true := by simp; omega
    have hin := rt.ins hc (by omega)
    refine i3 (rl := []) d7 Tryz.func49 rfl (rs := []) rfl Tryz.ntmps49 (by simp) ?_
    repeat' (first | ((repeat ((fail_if_success (refine hK _ ?_)); clear hK K)); refine hK _ ?_; clear hK K) | ((first | refine b9 fun K1 q8 => ?_ | refine b7 fun A B hA hB => ?_); simp only [S1, simprocAttr, cj, e2, e3, e4, e5, c0, hc', eN, j8, m6, PGB, r5 hb hne, m5 hl, m8 hb hne, k4 hl, gmB, spB, gl]; first | refine q8 _ ?_; clear q8 K1 | ((first | refine hA ?_ | refine hB ?_); clear hA hB A B) | (apply d4 E66; exact (D9 _ fl hf' _ _); refine q8 _ ?_; clear q8 K1) | (apply d4 E47; exact (t8 _ fl hf' _ _); refine q8 _ ?_; clear q8 K1) | (apply d4 E70; exact (ux nk ok few hf c _ _ hi ho (ff c) hin (rt.els hc h5)); refine q8 _ ?_; clear q8 K1)) | refine b6 fun K hK => ?_ | ((first | apply b8 | apply b5 | apply c7); try simp only [NB, simprocAttr]))
    all_goals simp only [S1, simprocAttr, ENB, A0, y5, i8, m7, l6] <;> first | exact d6 hl | exact ⟨d6 hl, rfl⟩ | exact ⟨d6 hl, rfl, rfl⟩
  have e5 : (k.kind == 5) = false := by simp; omega
  by_cases h6 : k.kind = 6
  · have eg : n8 ns fl S c k = o8 S ⟨c, 0, 0, 0, 0, S⟩ (o7 fl c) (j3 fl c) := by unfold n8; rw [if_neg (by omega), if_neg h34, if_neg h5, if_pos h6]
    rw [eg]
    have e2 : (k.kind == 2) = false := by simp; omega
    have e6 : (k.kind == 6) = true := by simp; omega
    refine i3 (rl := []) d7 Tryz.func49 rfl (rs := []) rfl Tryz.ntmps49 (by simp) ?_
    repeat' (first | ((repeat ((fail_if_success (refine hK _ ?_)); clear hK K)); refine hK _ ?_; clear hK K) | ((first | refine b9 fun K1 q8 => ?_ | refine b7 fun A B hA hB => ?_); simp only [S1, simprocAttr, cj, e2, e3, e4, e5, e6, c0, hc', t49, htl, hS, eN, j8, m6, PGB, r5 hb hne, m5 hl, m8 hb hne, k4 hl, gmB, spB, gl]; first | refine q8 _ ?_; clear q8 K1 | ((first | refine hA ?_ | refine hB ?_); clear hA hB A B) | (apply d4 E66; exact (D9 _ fl hf' _ _); refine q8 _ ?_; clear q8 K1) | (apply d4 E47; exact (t8 _ fl hf' _ _); refine q8 _ ?_; clear q8 K1) | (apply d4 E50; exact (gf ok ⟨c, 0, 0, 0, 0, S⟩ hS _ _ hi ho); refine q8 _ ?_; clear q8 K1)) | refine b6 fun K hK => ?_ | ((first | apply b8 | apply b5 | apply c7); try simp only [NB, simprocAttr]))
    all_goals simp only [S1, simprocAttr, ENB, A0, y5, i8, m7, l6] <;> first | exact d6 hl | exact ⟨d6 hl, rfl⟩ | exact ⟨d6 hl, rfl, rfl⟩
  have e6 : (k.kind == 6) = false := by simp; omega
  by_cases h8 : k.kind = 8
  · have eg : n8 ns fl S c k = s7 ns fl S c 0 c (o7 fl c) := by unfold n8; rw [if_neg (by omega), if_neg h34, if_neg h5, if_neg h6, if_neg (by omega), if_pos h8]
    rw [eg]
    have e2 : (k.kind == 2) = false := by simp; omega
    have e7 : (k.kind == 7) = false := by simp; omega
    have e8 : (k.kind == 8) = true := by simp; omega
    refine i3 (rl := []) d7 Tryz.func49 rfl (rs := []) rfl Tryz.ntmps49 (by simp) ?_
    repeat' (first | ((repeat ((fail_if_success (refine hK _ ?_)); clear hK K)); refine hK _ ?_; clear hK K) | ((first | refine b9 fun K1 q8 => ?_ | refine b7 fun A B hA hB => ?_); simp only [S1, simprocAttr, cj, e2, e3, e4, e5, e6, e7, e8, c0, hc', eN, j8, m6, PGB, r5 hb hne, m5 hl, m8 hb hne, k4 hl, gmB, spB, gl]; first | refine q8 _ ?_; clear q8 K1 | ((first | refine hA ?_ | refine hB ?_); clear hA hB A B) | (apply d4 E66; exact (D9 _ fl hf' _ _); refine q8 _ ?_; clear q8 K1) | (apply d4 E47; exact (t8 _ fl hf' _ _); refine q8 _ ?_; clear q8 K1) | (apply d4 E71; exact (ip ok st hf c 0 (List.replicate 49 0) (by simp) 0 0 0 c hc ⟨hkd.2.1, hkd.2.2.2⟩ _ hi); refine q8 _ ?_; clear q8 K1)) | refine b6 fun K hK => ?_ | ((first | apply b8 | apply b5 | apply c7); try simp only [NB, simprocAttr]))
    all_goals simp only [S1, simprocAttr, ENB, A0, y5, i8, m7, l6] <;> first | exact d6 hl | exact ⟨d6 hl, rfl⟩ | exact ⟨d6 hl, rfl, rfl⟩
  have e8 : (k.kind == 8) = false := by simp; omega
  by_cases h7 : k.kind = 7
  · have eg : n8 ns fl S c k = (j3 fl c).flatMap fun f => s7 ns fl S c f (X8 fl f) (o7 fl c) := by unfold n8; rw [if_neg (by omega), if_neg h34, if_neg h5, if_neg h6, if_pos h7]
    have e2 : (k.kind == 2) = false := by simp; omega
    have e7 : (k.kind == 7) = true := by simp; omega
    let acc := fun j => ((j3 fl c).take j).flatMap fun f => s7 ns fl S c f (X8 fl f) (o7 fl c)
    have hcl : ∀ f d, (s7 ns fl S c f d (o7 fl c)).length ≤ 1 := by
      intro f d
      unfold s7
      split
      · split
        · simp
        · exact B7 _ _ _ _
      · exact B7 _ _ _ _
    have hal : ∀ j, (acc j).length ≤ j := by
      intro j
      induction j with
      | zero => simp [acc]
      | succ j ih =>
        rcases Nat.lt_or_ge j (j3 fl c).length with hj | hj
        · have e : (j3 fl c).take (j + 1) = (j3 fl c).take j ++ [(j3 fl c)[j]] := by rw [List.take_add_one, List.getElem?_eq_getElem hj]; rfl
          simp only [acc] at ih ⊢
          rw [e, List.flatMap_append, List.length_append]
          have := hcl (j3 fl c)[j] (X8 fl (j3 fl c)[j])
          simp only [List.flatMap_cons, List.flatMap_nil, List.append_nil]
          omega
        · have e : (j3 fl c).take (j + 1) = (j3 fl c).take j := by rw [List.take_of_length_le (by omega), List.take_of_length_le hj]
          simp only [acc] at ih ⊢
          rw [e]; omega
    have hto : ∀ j, ∀ y ∈ acc j, y.to.length = 49 := by
      intro j y hy
      obtain ⟨f, _, hy⟩ := List.mem_flatMap.mp hy
      unfold s7 at hy
      split at hy
      · split at hy
        · cases hy
        · exact y7 hS (by rw [List.length_set, hS]) y hy
      · exact y7 hS hS y hy
    have eg2 : n8 ns fl S c k = acc (j3 fl c).length := by rw [eg]; simp only [acc, List.take_length]
    rw [eg2]
    have hol := ho.1
    refine i3 (rl := []) d7 Tryz.func49 rfl (rs := []) rfl Tryz.ntmps49 (by simp) ?_
    repeat' (first | ((repeat ((fail_if_success (refine hK _ ?_)); clear hK K)); refine hK _ ?_; clear hK K) | ((first | refine b9 fun K1 q8 => ?_ | refine b7 fun A B hA hB => ?_); simp only [S1, simprocAttr, cj, e2, e3, e4, e5, e6, e7, c0, hc', eN, j8, m6, PGB, r5 hb hne, m5 hl, m8 hb hne, k4 hl, gmB, spB, gl]; first | refine q8 _ ?_; clear q8 K1 | ((first | refine hA ?_ | refine hB ?_); clear hA hB A B) | (apply d4 E66; exact (D9 _ fl hf' _ _); refine q8 _ ?_; clear q8 K1) | (apply d4 E47; exact (t8 _ fl hf' _ _); refine q8 _ ?_; clear q8 K1)) | refine b6 fun K hK => ?_ | ((first | apply b8 | apply b5 | apply c7); try simp only [NB, simprocAttr]))
    refine Q9 (j3 fl c).length 111 (fun j => l7 h b lb ns fl S (l ++ acc j)) (fun j => [(83, .i j), (82, .i (j3 fl c).length), (81, aI (j3 fl c)), (4, aI (o7 fl c)), (1, .i c), (0, .ptr b 0 0)]) (fun j => []) (fun j => True) (fun j => ⟨by rw [i8, i8], aU hl⟩) ?_ trivial fun j hj hp K hK => ?_
    · have e0 : acc 0 = [] := by simp [acc]
      simp only [e0, List.append_nil]
      refine ⟨rfl, ⟨[], by simp only [List.append_nil]⟩, ?_, trivial⟩
      simp only [S1, simprocAttr, KNB, i8] <;> (try and_intros) <;> (try assumption) <;> (try trivial) <;> (try omega)
    have okj : GmOk h b lb S (l ++ acc j) := ok.app (hto j) (by have := hal j; omega)
    have glj := w8 (ns := ns) (fl := fl) (lb := lb) (n := (l ++ acc j).length) hS
    rcases Nat.lt_or_ge j (j3 fl c).length with hlt | hge
    · obtain ⟨f, hfj⟩ : ∃ f, (j3 fl c)[j]? = some f := ⟨_, List.getElem?_eq_getElem hlt⟩
      obtain ⟨q, hfq, hq⟩ := ff c f (List.mem_of_getElem? hfj)
      subst hfq
      obtain ⟨x, hx⟩ : ∃ x, fl[q]? = some x := ⟨_, List.getElem?_eq_getElem hq⟩
      obtain ⟨⟨s0, s1⟩, d0, d1⟩ := rt.isIn x (List.mem_of_getElem? hx)
      obtain ⟨d, hd⟩ := Int.eq_ofNat_of_zero_le d0
      obtain ⟨k2, hk2⟩ : ∃ k2, ns[d]? = some k2 := ⟨_, List.getElem?_eq_getElem (by omega)⟩
      have hkd2 := rt.kind hk2
      have hx' := T8 hx
      have q0 : (0 : Int) ≤ (q : Int) := by omega
      have eds : X8 fl (q : Int) = (d : Int) := by unfold X8; rw [Int.toNat_natCast, hx]; exact hd
      have ea' : l ++ acc (j + 1) = (l ++ acc j) ++ s7 ns fl S c q d (o7 fl c) := by
        simp only [acc]
        rw [List.take_add_one, hfj, List.flatMap_append, List.append_assoc]
        simp [eds]
      generalize hlj : l ++ acc j = lj at ea' okj glj ⊢
      repeat' (first | ((repeat ((fail_if_success (refine hK _ ?_)); clear hK K)); refine hK _ ?_; clear hK K) | ((first | refine b9 fun K1 q8 => ?_ | refine b7 fun A B hA hB => ?_); simp only [S1, simprocAttr, cj, I5 hfj, R9 hlt, I0 (by omega) hlt, q0, hx', eF, hd, mc, glj, PGB, r5 hb hne, m5 hl, m8 hb hne, k4 hl, gmB, spB, gl]; first | refine q8 _ ?_; clear q8 K1 | (refine hA ?_; clear hA hB A B) | (apply d4 E71; exact (ip okj st hf c q (List.replicate 49 0) (by simp) 0 0 0 d hk2 ⟨hkd2.2.1, hkd2.2.2.2⟩ _ hi); refine q8 _ ?_; clear q8 K1)) | refine b6 fun K hK => ?_ | ((first | apply b8 | apply b5 | apply c7 | apply c9); try simp only [NB, simprocAttr]))
      all_goals refine ⟨hlt, trivial, ?_⟩
      all_goals simp only [ea']
      all_goals refine ⟨rfl, ⟨[], by simp only [List.append_nil]⟩, ?_, trivial⟩
      all_goals simp only [S1, simprocAttr, KNB, i8] <;> (try and_intros) <;> (try assumption) <;> (try trivial) <;> (try omega)
    · obtain rfl : j = (j3 fl c).length := by omega
      repeat' (first | ((repeat ((fail_if_success (refine hK _ ?_)); clear hK K)); refine hK _ ?_; clear hK K) | ((first | refine b9 fun K1 q8 => ?_ | refine b7 fun A B hA hB => ?_); simp only [S1, simprocAttr, cj, I6]; first | refine q8 _ ?_; clear q8 K1 | (refine hB ?_; clear hA hB A B)) | refine b6 fun K hK => ?_ | ((first | apply b8 | apply b5 | apply f9); try simp only [NB, simprocAttr]))
      all_goals simp only [S1, simprocAttr, ENB, A0, y5, i8, m7, l6] <;> first | exact d6 hl | exact ⟨d6 hl, rfl⟩ | exact ⟨d6 hl, rfl, rfl⟩
  have e7 : (k.kind == 7) = false := by simp; omega
  by_cases h2 : k.kind = 2
  · have e2 : (k.kind == 2) = true := by simp; omega
    have hset := J2 S 48 1
    have hS2 : (S.set 48 1).length = 49 := by rw [List.length_set, hS]
    have tk54 : ∀ a b c d e : AV, (a :: b :: c :: d :: e :: S.map AV.i).take 54 = a :: b :: c :: d :: e :: S.map AV.i := fun a b c d e => List.take_of_length_le (by simp [hS])
    have tk2 : ∀ a b c d e : AV, (a :: b :: c :: d :: e :: (S.set 48 1).map AV.i).take 54 = a :: b :: c :: d :: e :: (S.set 48 1).map AV.i := fun a b c d e => List.take_of_length_le (by simp [hS])
    by_cases hw : cN (S.take 40) = 1
    · have eg : n8 ns fl S c k = o8 S ⟨c, 0, 7, 0, 0, S.set 48 1⟩ (o7 fl c) [] := by unfold n8 fe; rw [if_pos h2, if_pos hw]
      have hw' : (cN (S.take 40) == 1) = true := by simp [hw]
      rw [eg]
      refine i3 (rl := []) d7 Tryz.func49 rfl (rs := []) rfl Tryz.ntmps49 (by simp) ?_
      repeat' (first | ((repeat ((fail_if_success (refine hK _ ?_)); clear hK K)); refine hK _ ?_; clear hK K) | ((first | refine b9 fun K1 q8 => ?_ | refine b7 fun A B hA hB => ?_); simp only [S1, simprocAttr, cj, e2, hw', c0, hc', eN, t49, htl, hset, hS2, tk2, hS, j8, m6, PGB, r5 hb hne, m5 hl, m8 hb hne, k4 hl, gmB, spB, gl]; first | refine q8 _ ?_; clear q8 K1 | (refine hA ?_; clear hA hB A B) | (apply d4 E66; exact (D9 _ fl hf' _ _); refine q8 _ ?_; clear q8 K1) | (apply d4 E47; exact (t8 _ fl hf' _ _); refine q8 _ ?_; clear q8 K1) | (apply d4 E68; exact (cY S hS _); refine q8 _ ?_; clear q8 K1) | (apply d4 E50; exact (te ok ⟨c, 0, 7, 0, 0, S.set 48 1⟩ hS2 _ hi _); refine q8 _ ?_; clear q8 K1)) | refine b6 fun K hK => ?_ | ((first | apply b8 | apply b5 | apply c7); try simp only [NB, simprocAttr]))
      all_goals simp only [S1, simprocAttr, ENB, A0, y5, i8, m7, l6] <;> first | exact d6 hl | exact ⟨d6 hl, rfl⟩ | exact ⟨d6 hl, rfl, rfl⟩
    · have eg : n8 ns fl S c k = o8 S ⟨c, 0, 0, 0, 0, S⟩ (o7 fl c) [] := by unfold n8 fe; rw [if_pos h2, if_neg hw]
      have hw' : (cN (S.take 40) == 1) = false := by simp [hw]
      rw [eg]
      refine i3 (rl := []) d7 Tryz.func49 rfl (rs := []) rfl Tryz.ntmps49 (by simp) ?_
      repeat' (first | ((repeat ((fail_if_success (refine hK _ ?_)); clear hK K)); refine hK _ ?_; clear hK K) | ((first | refine b9 fun K1 q8 => ?_ | refine b7 fun A B hA hB => ?_); simp only [S1, simprocAttr, cj, e2, hw', c0, hc', eN, t49, htl, tk54, hS, j8, m6, PGB, r5 hb hne, m5 hl, m8 hb hne, k4 hl, gmB, spB, gl]; first | refine q8 _ ?_; clear q8 K1 | ((first | refine hA ?_ | refine hB ?_); clear hA hB A B) | (apply d4 E66; exact (D9 _ fl hf' _ _); refine q8 _ ?_; clear q8 K1) | (apply d4 E47; exact (t8 _ fl hf' _ _); refine q8 _ ?_; clear q8 K1) | (apply d4 E68; exact (cY S hS _); refine q8 _ ?_; clear q8 K1) | (apply d4 E50; exact (te ok ⟨c, 0, 0, 0, 0, S⟩ hS _ hi _); refine q8 _ ?_; clear q8 K1)) | refine b6 fun K hK => ?_ | ((first | apply b8 | apply b5 | apply c7 | apply c9); try simp only [NB, simprocAttr]))
      all_goals simp only [S1, simprocAttr, ENB, A0, y5, i8, m7, l6] <;> first | exact d6 hl | exact ⟨d6 hl, rfl⟩ | exact ⟨d6 hl, rfl, rfl⟩
  · have eg : n8 ns fl S c k = [] := by unfold n8; rw [if_neg h2, if_neg h34, if_neg h5, if_neg h6, if_neg h7, if_neg h8]
    rw [eg, List.append_nil]
    have e2 : (k.kind == 2) = false := by simp; omega
    refine i3 (rl := []) d7 Tryz.func49 rfl (rs := []) rfl Tryz.ntmps49 (by simp) ?_
    repeat' (first | ((repeat ((fail_if_success (refine hK _ ?_)); clear hK K)); refine hK _ ?_; clear hK K) | ((first | refine b9 fun K1 q8 => ?_ | refine b7 fun A B hA hB => ?_); simp only [S1, simprocAttr, cj, e2, e3, e4, e5, e6, e7, e8, c0, hc', eN, j8, m6, PGB, r5 hb hne, m5 hl, m8 hb hne, k4 hl, gmB, spB, gl]; first | refine q8 _ ?_; clear q8 K1 | (refine hB ?_; clear hA hB A B) | (apply d4 E66; exact (D9 _ fl hf' _ _); refine q8 _ ?_; clear q8 K1) | (apply d4 E47; exact (t8 _ fl hf' _ _); refine q8 _ ?_; clear q8 K1)) | refine b6 fun K hK => ?_ | ((first | apply b8 | apply b5 | apply c7 | apply c9); try simp only [NB, simprocAttr]))
    all_goals simp only [S1, simprocAttr, ENB, A0, y5, i8, m7, l6] <;> first | exact d6 hl | exact ⟨d6 hl, rfl⟩ | exact ⟨d6 hl, rfl, rfl⟩
end
section
def H2 := And.intro T2 (And.intro T3 (And.intro T4 (And.intro T22 (And.intro T23 (And.intro T25 (And.intro T28 (And.intro T41 (And.intro T55 (And.intro T57 (And.intro T58 (And.intro T60 (And.intro T75 (And.intro T77 T80)))))))))))))
attribute [local irreducible] awp n9 k8 l8 o5 m9
def cO (n : Nat) (S : List Int) (i : Nat) : Bool := (decide (tk S i < 0) || decide (3 < tk S i)) || (decide ((n : Int) ≤ (i : Int)) && (tk S i != 0))
def gw (S : List Int) (i : Nat) : Bool := decide (qAt S i < 0) || decide (3 < qAt S i)
def mdS (S : List Int) : Int := S.getD 48 0
def okS (n : Nat) (S : List Int) : Bool := ((List.range 40).all (fun i => !cO n S i) && (List.range 4).all (fun i => !gw S i)) && (inV (vS S) && (decide (0 ≤ mdS S) && decide (mdS S ≤ 2)))
noncomputable def stC (ns : List Nd) (fl : List Fl) (S : List Int) : Int := if (D3 ns fl).1 ≠ 0 then 4 else if okS fl.length S = true then 0 else 1
theorem H7 {S : List Int} (hS : S.length = 49) {k : Nat} (hk : k < 49) : S[k]? = some (S.getD k 0) := by
  rw [List.getD_eq_getElem?_getD, List.getElem?_eq_getElem (by omega)]; rfl
theorem wB {S : List Int} (hS : S.length = 49) : ((S.map AV.i).drop 40).take 4 = [.p (.int .i64 (vS S 0)), .p (.int .i64 (vS S 1)), .p (.int .i64 (vS S 2)), .p (.int .i64 (vS S 3))] := by
  rw [← List.map_drop, ← List.map_take, pV hS]
theorem kr {ns : List Nd} {fl : List Fl} {S : List Int} (h0 : (D3 ns fl).1 = 0) {i : Nat} (hi : i < 40) (hb : cO fl.length S i = true) : stC ns fl S = 1 := by
  unfold stC
  rw [if_neg (by simpa using h0), if_neg]
  intro e
  unfold okS at e
  simp only [Bool.and_eq_true, List.all_eq_true, List.mem_range] at e
  have := e.1.1 i hi
  rw [hb] at this
  cases this
theorem pY {ns : List Nd} {fl : List Fl} {S : List Int} (h0 : (D3 ns fl).1 = 0) {i : Nat} (hi : i < 4) (hb : gw S i = true) : stC ns fl S = 1 := by
  unfold stC
  rw [if_neg (by simpa using h0), if_neg]
  intro e
  unfold okS at e
  simp only [Bool.and_eq_true, List.all_eq_true, List.mem_range] at e
  have := e.1.2 i hi
  rw [hb] at this
  cases this
theorem ku {p : Nat → Bool} {i : Nat} (h : ∀ j, j < i → p j = false) (hi : p i = false) : ∀ j, j < i + 1 → p j = false := by
  intro j hj
  rcases Nat.lt_or_ge j i with h1 | h1
  · exact h j h1
  · obtain rfl : j = i := by omega
    exact hi
theorem kv {ns : List Nd} {fl : List Fl} (nk : NetOk ns fl) {S : List Int} (hS : S.length = 49) (h : Heap) :
    d5 Tryz.prog gW 48 [G4 ns fl, aS S] h (fun r h' => r = .i (stC ns fl S) ∧ h' = h) := by
  have hne := J3 hS
  by_cases h0 : (D3 ns fl).1 = 0
  · have h0' : ((D3 ns fl).1 != 0) = false := by simp [h0]
    refine c8 (rl := []) d7 Tryz.func48 rfl (rs := [.tmp 4]) rfl Tryz.ntmps48 (by simp) ?_
    repeat' (first | ((repeat ((fail_if_success (refine hK _ ?_)); clear hK K)); refine hK _ ?_; clear hK K) | ((first | refine b9 fun K1 q8 => ?_ | refine b7 fun A B hA hB => ?_); simp only [S1, simprocAttr, H2, List.length_map, hS, hne, d9, h0']; first | refine q8 _ ?_; clear q8 K1 | (refine hB ?_; clear hA hB A B) | (apply d4 E22; exact (aP ns fl nk _); refine q8 _ ?_; clear q8 K1)) | refine b6 fun K hK => ?_ | ((first | apply b8 | apply b5 | apply c7 | apply c9); try simp only [NB, simprocAttr]))
    refine o9 40 71 (fun i => [(5, .i i), (3, .ptr (h.length + 1) 0 0), (2, .ptr h.length 0 0)]) (fun i => [some ⟨0, [.p (.sl (ns.map eN)), .p (.sl (fl.map eF))]⟩, some ⟨0, S.map AV.i⟩]) (fun i => ∀ j, j < i → cO fl.length S j = false) ?_ (fun j hj => absurd hj (Nat.not_lt_zero _)) fun i hi hp K hK => ?_
    · refine ⟨rfl, ⟨[], by simp only [List.append_nil]⟩, ?_, ⟨trivial, trivial, trivial⟩, g9 _ _, trivial⟩
      simp only [S1, simprocAttr, KNB] <;> (try and_intros) <;> (try assumption) <;> (try trivial) <;> (try omega)
    rcases Nat.lt_or_ge i 40 with hlt | hge
    · have i0 : (0 : Int) ≤ (i : Int) := by omega
      have i40 : (i : Int) < 40 := by omega
      have hx : S[i]? = some (tk S i) := H7 hS (by omega)
      have dr := L8 hx
      have ebt : cO fl.length S i = ((decide (tk S i < 0) || decide (3 < tk S i)) || (decide ((fl.length : Int) ≤ (i : Int)) && (tk S i != 0))) := rfl
      generalize tk S (i : Int) = v at *
      cases f1 : decide (v < 0) with
      | true =>
        have hbad : cO fl.length S i = true := by rw [ebt, f1]; rfl
        repeat' (first | ((repeat ((fail_if_success (refine hK _ ?_)); clear hK K)); refine hK _ ?_; clear hK K) | ((first | refine b9 fun K1 q8 => ?_ | refine b7 fun A B hA hB => ?_); simp only [S1, simprocAttr, H2, cX hlt rfl, i0, i40, dr, f1, hne, hS, d9, d8, e9, LNB]; first | refine q8 _ ?_; clear q8 K1 | (refine hA ?_; clear hA hB A B)) | refine b6 fun K hK => ?_ | ((first | apply b8 | apply b5 | apply c7 | apply c9 | apply d3); try simp only [NB, simprocAttr]))
        all_goals simp only [S1, simprocAttr, ENB, H2]
        all_goals rw [kr h0 hlt hbad]
      | false =>
      cases f2 : decide (3 < v) with
      | true =>
        have hbad : cO fl.length S i = true := by rw [ebt, f1, f2]; rfl
        repeat' (first | ((repeat ((fail_if_success (refine hK _ ?_)); clear hK K)); refine hK _ ?_; clear hK K) | ((first | refine b9 fun K1 q8 => ?_ | refine b7 fun A B hA hB => ?_); simp only [S1, simprocAttr, H2, cX hlt rfl, i0, i40, dr, f1, f2, hne, hS, d9, d8, e9, LNB]; first | refine q8 _ ?_; clear q8 K1 | (refine hA ?_; clear hA hB A B)) | refine b6 fun K hK => ?_ | ((first | apply b8 | apply b5 | apply c7 | apply c9 | apply d3); try simp only [NB, simprocAttr]))
        all_goals simp only [S1, simprocAttr, ENB, H2]
        all_goals rw [kr h0 hlt hbad]
      | false =>
      cases f3 : decide ((fl.length : Int) ≤ (i : Int)) with
      | false =>
        have hbad : cO fl.length S i = false := by rw [ebt, f1, f2, f3]; rfl
        repeat' (first | ((repeat ((fail_if_success (refine hK _ ?_)); clear hK K)); refine hK _ ?_; clear hK K) | ((first | refine b9 fun K1 q8 => ?_ | refine b7 fun A B hA hB => ?_); simp only [S1, simprocAttr, H2, cX hlt rfl, P7 (n := 40) (by omega) hlt, i0, i40, dr, f1, f2, f3, hne, hS, d9, d8, e9, LNB]; first | refine q8 _ ?_; clear q8 K1 | ((first | refine hA ?_ | refine hB ?_); clear hA hB A B)) | refine b6 fun K hK => ?_ | ((first | apply b8 | apply b5 | apply c7 | apply c9); try simp only [NB, simprocAttr]))
        all_goals refine ⟨hlt, ku hp hbad, ?_⟩
        all_goals refine ⟨rfl, ⟨[], by simp only [List.append_nil]⟩, ?_, ⟨trivial, trivial, trivial⟩, g9 _ _, trivial⟩
        all_goals simp only [S1, simprocAttr, KNB] <;> (try and_intros) <;> (try assumption) <;> (try trivial) <;> (try omega)
      | true =>
      cases f4 : (v != 0) with
      | true =>
        have hbad : cO fl.length S i = true := by rw [ebt, f1, f2, f3, f4]; rfl
        repeat' (first | ((repeat ((fail_if_success (refine hK _ ?_)); clear hK K)); refine hK _ ?_; clear hK K) | ((first | refine b9 fun K1 q8 => ?_ | refine b7 fun A B hA hB => ?_); simp only [S1, simprocAttr, H2, cX hlt rfl, i0, i40, dr, f1, f2, f3, f4, hne, hS, d9, d8, e9, LNB]; first | refine q8 _ ?_; clear q8 K1 | (refine hA ?_; clear hA hB A B)) | refine b6 fun K hK => ?_ | ((first | apply b8 | apply b5 | apply c7 | apply c9 | apply d3); try simp only [NB, simprocAttr]))
        all_goals simp only [S1, simprocAttr, ENB, H2]
        all_goals rw [kr h0 hlt hbad]
      | false =>
        have hbad : cO fl.length S i = false := by rw [ebt, f1, f2, f3, f4]; rfl
        repeat' (first | ((repeat ((fail_if_success (refine hK _ ?_)); clear hK K)); refine hK _ ?_; clear hK K) | ((first | refine b9 fun K1 q8 => ?_ | refine b7 fun A B hA hB => ?_); simp only [S1, simprocAttr, H2, cX hlt rfl, P7 (n := 40) (by omega) hlt, i0, i40, dr, f1, f2, f3, f4, hne, hS, d9, d8, e9, LNB]; first | refine q8 _ ?_; clear q8 K1 | ((first | refine hA ?_ | refine hB ?_); clear hA hB A B)) | refine b6 fun K hK => ?_ | ((first | apply b8 | apply b5 | apply c7 | apply c9); try simp only [NB, simprocAttr]))
        all_goals refine ⟨hlt, ku hp hbad, ?_⟩
        all_goals refine ⟨rfl, ⟨[], by simp only [List.append_nil]⟩, ?_, ⟨trivial, trivial, trivial⟩, g9 _ _, trivial⟩
        all_goals simp only [S1, simprocAttr, KNB] <;> (try and_intros) <;> (try assumption) <;> (try trivial) <;> (try omega)
    obtain rfl : i = 40 := by omega
    have hpT := hp
    repeat' (first | ((repeat ((fail_if_success (refine hK _ ?_)); clear hK K)); refine hK _ ?_; clear hK K) | ((first | refine b9 fun K1 q8 => ?_ | refine b7 fun A B hA hB => ?_); simp only [S1, simprocAttr, H2]; first | refine q8 _ ?_; clear q8 K1 | (refine hB ?_; clear hA hB A B)) | refine b6 fun K hK => ?_ | ((first | apply b8 | apply b5 | apply c7 | apply f9); try simp only [NB, simprocAttr]))
    refine o9 4 71 (fun i => [(6, .i i), (3, .ptr (h.length + 1) 0 0), (2, .ptr h.length 0 0)]) (fun i => [some ⟨0, [.p (.sl (ns.map eN)), .p (.sl (fl.map eF))]⟩, some ⟨0, S.map AV.i⟩]) (fun i => ∀ j, j < i → gw S j = false) ?_ (fun j hj => absurd hj (Nat.not_lt_zero _)) fun i hi hp K hK => ?_
    · refine ⟨rfl, ⟨[], by simp only [List.append_nil]⟩, ?_, ⟨trivial, trivial, trivial⟩, g9 _ _, trivial⟩
      simp only [S1, simprocAttr, KNB] <;> (try and_intros) <;> (try assumption) <;> (try trivial) <;> (try omega)
    rcases Nat.lt_or_ge i 4 with hlt | hge
    · have i0 : (0 : Int) ≤ (i : Int) := by omega
      have i4 : (i : Int) < 4 := by omega
      have hx : S[44 + i]? = some (qAt S i) := H7 hS (by omega)
      have dr := L8 hx
      have ebt : gw S i = (decide (qAt S i < 0) || decide (3 < qAt S i)) := rfl
      generalize qAt S (i : Int) = v at *
      cases f1 : decide (v < 0) with
      | true =>
        have hbad : gw S i = true := by rw [ebt, f1]; rfl
        repeat' (first | ((repeat ((fail_if_success (refine hK _ ?_)); clear hK K)); refine hK _ ?_; clear hK K) | ((first | refine b9 fun K1 q8 => ?_ | refine b7 fun A B hA hB => ?_); simp only [S1, simprocAttr, H2, cX hlt rfl, i0, i4, dr, f1, hne, hS, d9, d8, e9, LNB]; first | refine q8 _ ?_; clear q8 K1 | (refine hA ?_; clear hA hB A B)) | refine b6 fun K hK => ?_ | ((first | apply b8 | apply b5 | apply c7 | apply c9 | apply d3); try simp only [NB, simprocAttr]))
        all_goals simp only [S1, simprocAttr, ENB, H2]
        all_goals rw [pY h0 hlt hbad]
      | false =>
      cases f2 : decide (3 < v) with
      | true =>
        have hbad : gw S i = true := by rw [ebt, f1, f2]; rfl
        repeat' (first | ((repeat ((fail_if_success (refine hK _ ?_)); clear hK K)); refine hK _ ?_; clear hK K) | ((first | refine b9 fun K1 q8 => ?_ | refine b7 fun A B hA hB => ?_); simp only [S1, simprocAttr, H2, cX hlt rfl, i0, i4, dr, f1, f2, hne, hS, d9, d8, e9, LNB]; first | refine q8 _ ?_; clear q8 K1 | (refine hA ?_; clear hA hB A B)) | refine b6 fun K hK => ?_ | ((first | apply b8 | apply b5 | apply c7 | apply c9 | apply d3); try simp only [NB, simprocAttr]))
        all_goals simp only [S1, simprocAttr, ENB, H2]
        all_goals rw [pY h0 hlt hbad]
      | false =>
        have hbad : gw S i = false := by rw [ebt, f1, f2]; rfl
        repeat' (first | ((repeat ((fail_if_success (refine hK _ ?_)); clear hK K)); refine hK _ ?_; clear hK K) | ((first | refine b9 fun K1 q8 => ?_ | refine b7 fun A B hA hB => ?_); simp only [S1, simprocAttr, H2, cX hlt rfl, P7 (n := 4) (by omega) hlt, i0, i4, dr, f1, f2, hne, hS, d9, d8, e9, LNB]; first | refine q8 _ ?_; clear q8 K1 | ((first | refine hA ?_ | refine hB ?_); clear hA hB A B)) | refine b6 fun K hK => ?_ | ((first | apply b8 | apply b5 | apply c7 | apply c9); try simp only [NB, simprocAttr]))
        all_goals refine ⟨hlt, ku hp hbad, ?_⟩
        all_goals refine ⟨rfl, ⟨[], by simp only [List.append_nil]⟩, ?_, ⟨trivial, trivial, trivial⟩, g9 _ _, trivial⟩
        all_goals simp only [S1, simprocAttr, KNB] <;> (try and_intros) <;> (try assumption) <;> (try trivial) <;> (try omega)
    obtain rfl : i = 4 := by omega
    have ar := wB hS
    have dm := L8 (H7 hS (k := 48) (by omega))
    have hok : okS fl.length S = (inV (vS S) && (decide (0 ≤ mdS S) && decide (mdS S ≤ 2))) := by
      have a1 : (List.range 40).all (fun i => !cO fl.length S i) = true := by
        rw [List.all_eq_true]; intro j hj; rw [hpT j (List.mem_range.mp hj)]; rfl
      have a2 : (List.range 4).all (fun i => !gw S i) = true := by
        rw [List.all_eq_true]; intro j hj; rw [hp j (List.mem_range.mp hj)]; rfl
      unfold okS; rw [a1, a2]; rfl
    have hst : stC ns fl S = if (inV (vS S) && (decide (0 ≤ mdS S) && decide (mdS S ≤ 2))) = true then 0 else 1 := by
      unfold stC; rw [if_neg (by simpa using h0), hok]
    have emd : S.getD 48 0 = mdS S := rfl
    rw [emd] at dm
    have hf4 := fun h => ir (G := gW) (vS S) h
    generalize mdS S = v at *
    cases f1 : inV (vS S) with
    | false =>
      rw [f1] at hst hf4
      repeat' (first | ((repeat ((fail_if_success (refine hK _ ?_)); clear hK K)); refine hK _ ?_; clear hK K) | ((first | refine b9 fun K1 q8 => ?_ | refine b7 fun A B hA hB => ?_); simp only [S1, simprocAttr, H2, ar, dm, hne, hS, d9, d8, e9, LNB]; first | refine q8 _ ?_; clear q8 K1 | ((first | refine hA ?_ | refine hB ?_); clear hA hB A B) | (apply d4 E67; exact (hf4 _); refine q8 _ ?_; clear q8 K1)) | refine b6 fun K hK => ?_ | ((first | apply b8 | apply b5 | apply f9 | apply d3); try simp only [NB, simprocAttr]))
      all_goals simp only [S1, simprocAttr, ENB, H2]
      all_goals rw [hst]; rfl
    | true =>
    rw [f1] at hst hf4
    by_cases h1 : v < 0
    · have f2 : decide (v < 0) = true := decide_eq_true h1
      have f3 : decide (0 ≤ v) = false := decide_eq_false (by omega)
      rw [f3] at hst
      repeat' (first | ((repeat ((fail_if_success (refine hK _ ?_)); clear hK K)); refine hK _ ?_; clear hK K) | ((first | refine b9 fun K1 q8 => ?_ | refine b7 fun A B hA hB => ?_); simp only [S1, simprocAttr, H2, ar, dm, f2, hne, hS, d9, d8, e9, LNB]; first | refine q8 _ ?_; clear q8 K1 | ((first | refine hA ?_ | refine hB ?_); clear hA hB A B) | (apply d4 E67; exact (hf4 _); refine q8 _ ?_; clear q8 K1)) | refine b6 fun K hK => ?_ | ((first | apply b8 | apply b5 | apply f9 | apply d3); try simp only [NB, simprocAttr]))
      all_goals simp only [S1, simprocAttr, ENB, H2]
      all_goals rw [hst]; rfl
    · have f2 : decide (v < 0) = false := decide_eq_false h1
      have f3 : decide (0 ≤ v) = true := decide_eq_true (by omega)
      by_cases h2 : 2 < v
      · have f4 : decide (2 < v) = true := decide_eq_true h2
        have f5 : decide (v ≤ 2) = false := decide_eq_false (by omega)
        rw [f3, f5] at hst
        repeat' (first | ((repeat ((fail_if_success (refine hK _ ?_)); clear hK K)); refine hK _ ?_; clear hK K) | ((first | refine b9 fun K1 q8 => ?_ | refine b7 fun A B hA hB => ?_); simp only [S1, simprocAttr, H2, ar, dm, f2, f4, hne, hS, d9, d8, e9, LNB]; first | refine q8 _ ?_; clear q8 K1 | ((first | refine hA ?_ | refine hB ?_); clear hA hB A B) | (apply d4 E67; exact (hf4 _); refine q8 _ ?_; clear q8 K1)) | refine b6 fun K hK => ?_ | ((first | apply b8 | apply b5 | apply f9 | apply d3); try simp only [NB, simprocAttr]))
        all_goals simp only [S1, simprocAttr, ENB, H2]
        all_goals rw [hst]; rfl
      · have f4 : decide (2 < v) = false := decide_eq_false h2
        have f5 : decide (v ≤ 2) = true := decide_eq_true (by omega)
        rw [f3, f5] at hst
        repeat' (first | ((repeat ((fail_if_success (refine hK _ ?_)); clear hK K)); refine hK _ ?_; clear hK K) | ((first | refine b9 fun K1 q8 => ?_ | refine b7 fun A B hA hB => ?_); simp only [S1, simprocAttr, H2, ar, dm, f2, f4, hne, hS, d9, d8, e9, LNB]; first | refine q8 _ ?_; clear q8 K1 | (refine hB ?_; clear hA hB A B) | (apply d4 E67; exact (hf4 _); refine q8 _ ?_; clear q8 K1)) | refine b6 fun K hK => ?_ | ((first | apply b8 | apply b5 | apply f9 | apply c9 | apply d3); try simp only [NB, simprocAttr]))
        all_goals simp only [S1, simprocAttr, ENB, H2]
        all_goals rw [hst]; rfl
  · have h0' : ((D3 ns fl).1 != 0) = true := by simp [h0]
    have hst : stC ns fl S = 4 := by unfold stC; rw [if_pos h0]
    refine c8 (rl := []) d7 Tryz.func48 rfl (rs := [.tmp 4]) rfl Tryz.ntmps48 (by simp) ?_
    repeat' (first | ((repeat ((fail_if_success (refine hK _ ?_)); clear hK K)); refine hK _ ?_; clear hK K) | ((first | refine b9 fun K1 q8 => ?_ | refine b7 fun A B hA hB => ?_); simp only [S1, simprocAttr, H2, List.length_map, hS, hne, d9, h0']; first | refine q8 _ ?_; clear q8 K1 | (refine hA ?_; clear hA hB A B) | (apply d4 E22; exact (aP ns fl nk _); refine q8 _ ?_; clear q8 K1)) | refine b6 fun K hK => ?_ | ((first | apply b8 | apply b5 | apply d3); try simp only [NB, simprocAttr]))
    all_goals simp only [S1, simprocAttr, ENB, H2]
    all_goals rw [hst]
end
section
attribute [local irreducible] awp n9 k8 l8 o5 m9
def w7 (ns : List Nd) (fl : List Fl) (S : List Int) : Nat → List Sp
  | 0 => []
  | j + 1 => w7 ns fl S j ++ (match ns[j]? with | some k => n8 ns fl S j k | none => [])
def cF (ns : List Nd) (m : Int) : Bool := ns.any fun k => k.kind == 8 && k.a == m
def K6 (ns : List Nd) (S : List Int) (m : Nat) : List Sp :=
  if cF ns m = true ∧ qAt S m < 3 then o8 S ⟨-1, m, 5, 0, m, S.set (44 + m) (qAt S m + 1)⟩ [] [] else []
def p8 (ns : List Nd) (S : List Int) : Nat → List Sp
  | 0 => []
  | m + 1 => p8 ns S m ++ K6 ns S m
noncomputable def p9 (ns : List Nd) (fl : List Fl) (S : List Int) : List Sp :=
  if stC ns fl S ≠ 0 ∨ mdS S ≠ 0 then [] else w7 ns fl S ns.length ++ p8 ns S 4
theorem Y1 (h : Heap) (A B X Y : Option Blk) (L : Heap) (ns : List Nd) (fl : List Fl) (S : List Int) (l : List Sp) : l7 (h ++ [A, B, X, Y]) (h.length + 2) (h.length + 3) ns fl S l ++ L = h ++ (A :: B :: gmB ns fl S (h.length + 3) l :: spB l :: L) := by
  unfold l7
  simp only [T6, List.set_cons_succ, List.set_cons_zero, List.append_assoc, List.cons_append, List.nil_append]
theorem uy (ns : List Nd) (fl : List Fl) (S : List Int) (hf : fl.length ≤ 40) (i : Nat) (k : Nd) : (n8 ns fl S i k).length ≤ 100 := by
  have hcl : ∀ f d fr, (s7 ns fl S i f d fr).length ≤ 1 := by
    intro f d fr
    unfold s7
    split
    · split
      · simp
      · exact B7 _ _ _ _
    · exact B7 _ _ _ _
  have fm : ∀ (l : List Int) (g : Int → List Sp), (∀ x, (g x).length ≤ 1) → (l.flatMap g).length ≤ l.length := by
    intro l g hg
    induction l with
    | nil => simp
    | cons x r ih => rw [List.flatMap_cons, List.length_append, List.length_cons]; have := hg x; omega
  have hi := sW fl i
  have ho := pL fl i
  have hm := fun x fr to => B7 S x fr to
  unfold n8
  split
  · unfold fe; split <;> exact Nat.le_trans (hm _ _ _) (by omega)
  · split
    · unfold P0
      repeat' split
      · simp
      · rw [List.length_append]
        have := hm ⟨i, 0, 1, i, 0, S.set (40 + k.a.toNat) 0⟩ (o7 fl i) (j3 fl i)
        have := hm ⟨i, 1, 1, i, 1, S.set (40 + k.a.toNat) 1⟩ (o7 fl i) (j3 fl i)
        omega
      · simp
      · exact Nat.le_trans (hm _ _ _) (by omega)
    · split
      · unfold Q0
        split
        · exact Nat.le_trans (fm _ _ fun x => hm _ _ _) (by omega)
        · repeat' split
          · simp
          · simp
          · exact Nat.le_trans (hm _ _ _) (by omega)
      · split
        · exact Nat.le_trans (hm _ _ _) (by omega)
        · split
          · exact Nat.le_trans (fm _ _ fun x => hcl _ _ _) (by omega)
          · split
            · exact Nat.le_trans (hcl _ _ _) (by omega)
            · simp
theorem wC {ns : List Nd} {fl : List Fl} {S : List Int} (hS : S.length = 49) (i : Nat) (k : Nd) : ∀ y ∈ n8 ns fl S i k, y.to.length = 49 := by
  have hcl : ∀ f d fr, ∀ y ∈ s7 ns fl S i f d fr, y.to.length = 49 := by
    intro f d fr y hy
    unfold s7 at hy
    split at hy
    · split at hy
      · cases hy
      · exact y7 hS (by rw [List.length_set, hS]) y hy
    · exact y7 hS hS y hy
  have hst : ∀ (a : Nat) (v : Int), (S.set a v).length = 49 := fun a v => by rw [List.length_set, hS]
  have hfa : ∀ e, ∀ y ∈ [w4 S i e], y.to.length = 49 := by
    intro e y hy
    rw [List.mem_singleton.mp hy]; exact hst _ _
  intro y hy
  unfold n8 at hy
  split at hy
  · unfold fe at hy
    split at hy
    · exact y7 hS (hst _ _) y hy
    · exact y7 hS hS y hy
  · split at hy
    · unfold P0 at hy
      split at hy
      · cases hy
      · split at hy
        · rcases List.mem_append.mp hy with hy | hy <;> exact y7 hS (hst _ _) y hy
        · split at hy
          · exact hfa _ y hy
          · exact y7 hS (hst _ _) y hy
    · split at hy
      · unfold Q0 at hy
        split at hy
        · obtain ⟨f, _, hy⟩ := List.mem_flatMap.mp hy
          exact y7 hS hS y hy
        · split at hy
          · cases hy
          · split at hy
            · exact hfa _ y hy
            · exact y7 hS hS y hy
      · split at hy
        · exact y7 hS hS y hy
        · split at hy
          · obtain ⟨f, _, hy⟩ := List.mem_flatMap.mp hy
            exact hcl _ _ _ y hy
          · split at hy
            · exact hcl _ _ _ y hy
            · cases hy
theorem aZ (ns : List Nd) (fl : List Fl) (S : List Int) (hf : fl.length ≤ 40) : ∀ j, (w7 ns fl S j).length ≤ 100 * j
  | 0 => by simp [w7]
  | j + 1 => by
    have := aZ ns fl S hf j
    rw [w7, List.length_append]
    split
    · rename_i k _
      have := uy ns fl S hf j k
      omega
    · simp only [List.length_nil]; omega
theorem U8 {ns : List Nd} {fl : List Fl} {S : List Int} (hS : S.length = 49) : ∀ j, ∀ y ∈ w7 ns fl S j, y.to.length = 49
  | 0, y, hy => by simp [w7] at hy
  | j + 1, y, hy => by
    rw [w7] at hy
    rcases List.mem_append.mp hy with hy | hy
    · exact U8 hS j y hy
    · split at hy
      · exact wC hS j _ y hy
      · cases hy
theorem ba (ns : List Nd) (S : List Int) : ∀ m, (p8 ns S m).length ≤ m
  | 0 => by simp [p8]
  | m + 1 => by
    have := ba ns S m
    rw [p8, List.length_append]
    unfold K6
    split
    · have := B7 S ⟨-1, m, 5, 0, m, S.set (44 + m) (qAt S m + 1)⟩ [] []
      omega
    · simp only [List.length_nil]; omega
theorem cG {ns : List Nd} {S : List Int} (hS : S.length = 49) : ∀ m, ∀ y ∈ p8 ns S m, y.to.length = 49
  | 0, y, hy => by simp [p8] at hy
  | m + 1, y, hy => by
    rw [p8] at hy
    rcases List.mem_append.mp hy with hy | hy
    · exact cG hS m y hy
    · unfold K6 at hy
      split at hy
      · exact y7 hS (by rw [List.length_set, hS]) y hy
      · cases hy
theorem wD {n : Nat} {S : List Int} (hS : S.length = 49) (h : okS n S = true) : StOk S := by
  unfold okS at h
  simp only [Bool.and_eq_true, List.all_eq_true, List.mem_range, Bool.not_eq_true'] at h
  refine ⟨⟨hS, fun i x hi hx => ?_⟩, fun i x h44 h48 hx => ?_⟩
  · have := h.1.1 i hi
    unfold cO at this
    simp only [Bool.or_eq_false_iff, decide_eq_false_iff_not] at this
    have e := H7 hS (k := i) (by omega)
    rw [hx] at e
    have e2 : tk S (i : Int) = x := (Option.some.inj e).symm
    omega
  · have := h.1.2 (i - 44) (by omega)
    unfold gw at this
    simp only [Bool.or_eq_false_iff, decide_eq_false_iff_not] at this
    have e := H7 hS (k := i) (by omega)
    rw [hx] at e
    have e2 : qAt S ((i - 44 : Nat) : Int) = x := by unfold qAt; rw [Int.toNat_natCast, show 44 + (i - 44) = i by omega]; exact (Option.some.inj e).symm
    omega
theorem zE (r : Sp) : ∀ x ∈ eSp r, x ≠ .nils := by
  intro x hx
  obtain ⟨n, _, rfl⟩ := List.mem_map.mp hx
  exact fun e => by cases e
theorem fg {ns : List Nd} {fl : List Fl} {S : List Int} (h : stC ns fl S = 0) : (D3 ns fl).1 = 0 ∧ okS fl.length S = true := by
  unfold stC at h
  split at h
  · cases h
  · rename_i h0
    split at h
    · rename_i h1; exact ⟨by simpa using h0, h1⟩
    · cases h
end
end Go.Proofs.YtbbmfemplmelhaaGreatDoor.AM
