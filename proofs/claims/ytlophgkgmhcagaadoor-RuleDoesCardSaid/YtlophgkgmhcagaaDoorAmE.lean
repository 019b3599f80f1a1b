/- The abstract machine, part E: operations are sound, the second half. -/
import Derived.Test.YtlophgkgmhcagaaDoorAmD
set_option linter.unusedVariables false
set_option linter.unusedSimpArgs false
namespace Go.Proofs.YtlophgkgmhcagaaDoor.AM
open Go

theorem getElem?_lt {α : Type} {l : List α} {i : Nat} {x : α} (h : l[i]? = some x) : i < l.length := by
  rcases Nat.lt_or_ge i l.length with h' | h'
  · exact h'
  · rw [List.getElem?_eq_none h'] at h; cases h

theorem flat_get {α : Type} {sz : Nat} : ∀ (rows : List (List α)), (∀ row ∈ rows, row.length = sz) → ∀ i j, j < sz → (rows.flatMap id)[i * sz + j]? = get2 rows i j
  | [], _, i, j, _ => by simp [get2]
  | row :: rest, hr, i, j, hj => by
    have h0 : row.length = sz := hr row (by simp)
    simp only [List.flatMap_cons, id]
    cases i with
    | zero => rw [List.getElem?_append_left (by simp; omega)]; simp [get2]
    | succ i =>
      rw [List.getElem?_append_right (by rw [h0, Nat.succ_mul]; omega), h0, show (i + 1) * sz + j - sz = i * sz + j by rw [Nat.succ_mul]; omega]
      rw [flat_get rest (fun r hr' => hr r (by simp [hr'])) i j hj]
      simp [get2]

theorem flat_length {α : Type} {sz : Nat} : ∀ (rows : List (List α)), (∀ row ∈ rows, row.length = sz) → (rows.flatMap id).length = rows.length * sz
  | [], _ => by simp
  | row :: rest, hr => by
    have h0 : row.length = sz := hr row (by simp)
    simp only [List.flatMap_cons, id, List.length_append, List.length_cons]
    rw [flat_length rest (fun r hr' => hr r (by simp [hr'])), h0, Nat.succ_mul]; omega

theorem chunk_length {α : Type} (sz : Nat) : ∀ (n : Nat) (l : List α), (chunk sz n l).length = n
  | 0, l => rfl
  | n + 1, l => by simp [chunk, chunk_length sz n]

theorem chunk_rows {α : Type} (sz : Nat) : ∀ (n : Nat) (l : List α), l.length = n * sz → ∀ row ∈ chunk sz n l, row.length = sz
  | 0, l, _ => by simp [chunk]
  | n + 1, l, h => by
    intro row hr
    rw [Nat.succ_mul] at h
    simp only [chunk, List.mem_cons] at hr
    rcases hr with rfl | hr
    · rw [List.length_take]; omega
    · exact chunk_rows sz n (l.drop sz) (by simp; omega) row hr

theorem chunk_get {α : Type} (sz : Nat) : ∀ (n : Nat) (l : List α) (i j : Nat) (x : α), get2 (chunk sz n l) i j = some x → j < sz ∧ i < n ∧ l[i * sz + j]? = some x
  | 0, l, i, j, x, h => by simp [chunk, get2] at h
  | n + 1, l, i, j, x, h => by
    cases i with
    | zero =>
      simp only [chunk, get2, List.getElem?_cons_zero, Option.bind_some] at h
      rw [List.getElem?_take] at h
      split at h
      · rename_i hj; exact ⟨hj, by omega, by simpa using h⟩
      · cases h
    | succ i =>
      simp only [chunk, get2, List.getElem?_cons_succ] at h
      obtain ⟨h1, h2, h3⟩ := chunk_get sz n (l.drop sz) i j x h
      rw [List.getElem?_drop] at h3
      exact ⟨h1, by omega, by rw [Nat.succ_mul, show i * sz + sz + j = sz + (i * sz + j) by omega]; exact h3⟩

section
variable {P : Program} {G : Nat → Option (List PV)} {ι ι' : Nat → Nat × Nat} {h h' : Heap} {w w' : World}

theorem own_lt (hS : SimH P G ι h w) {k : Nat} (hk : own ι h k) : k < w.heap.size := by
  obtain ⟨b, bk, h1, h2, h3⟩ := hk
  obtain ⟨c, ty, hc, _⟩ := hS.hr.blk b bk h1 h2
  rw [← h3]; exact lt_of_heap hc

/-- Cells that nobody owns read as a slice. -/
theorem prel_chunk {o : Nat → Prop} (l : List PV) (sz n c blk off : Nat) (hl : l.length = n * sz) (hc : n ≤ c) (hn : n ≤ 9223372036854775807) (ho : ¬ o blk) (hb : blk < w.heap.size)
    (hv : ∀ (j : Nat) x, l[j]? = some x → ∃ v, w.cell? ⟨blk, off + j, none⟩ = some v ∧ PRel w o x v) :
    PRel w o (.sl (chunk sz n l)) (.slice (some ⟨blk, off, none⟩) n c) := by
  have hf : ∀ q : Nat × Nat, ∃ v, ∀ x, get2 (chunk sz n l) q.1 q.2 = some x → w.cell? ⟨blk, off + (q.1 * sz + q.2), none⟩ = some v ∧ PRel w o x v := by
    intro q
    cases hq : get2 (chunk sz n l) q.1 q.2 with
    | none => exact ⟨undef, fun x hx => by cases hx⟩
    | some x =>
      obtain ⟨_, _, h3⟩ := chunk_get sz n l q.1 q.2 x hq
      obtain ⟨v, hv1, hv2⟩ := hv _ x h3
      exact ⟨v, fun y hy => by cases hy; exact ⟨hv1, hv2⟩⟩
  obtain ⟨f, hf⟩ := Classical.axiomOfChoice hf
  have := PRel.sl (w := w) (own := o) (chunk sz n l) blk off c sz (fun i j => f (i, j)) (by rw [chunk_length]; exact hc) (by rw [chunk_length]; exact hn) ho hb (chunk_rows sz n l hl) (fun i j x hx => (hf (i, j) x hx).1) (fun i j x hx => (hf (i, j) x hx).2)
  rwa [chunk_length] at this

theorem pvs_map : ∀ {cs : List AV} {l : List PV}, pvs cs = some l → cs = l.map .p
  | [], l, h => by cases h; rfl
  | .p x :: r, l, h => by
    simp only [pvs, Option.map_eq_some_iff] at h
    obtain ⟨l', h1, rfl⟩ := h
    simp [pvs_map h1]
  | .agg _ :: _, l, h => by cases h
  | .ref .. :: _, l, h => by cases h
  | .ptr .. :: _, l, h => by cases h
  | .pin _ :: _, l, h => by cases h
  | .fn .. :: _, l, h => by cases h
  | .tup _ :: _, l, h => by cases h

theorem VRel.pv {x : PV} {v : Value} (hx : VRel ι h w (.p x) v) : PRel w (own ι h) x v := by cases hx; assumption

theorem fold_over : ∀ (l : List Value) (off k : Nat) (cells : Array Value), ((l.zipIdx k).foldl (fun cs (q : Value × Nat) => cs.setIfInBounds (off + q.2) q.1) cells).toList = over cells.toList (off + k) l
  | [], off, k, cells => rfl
  | v :: r, off, k, cells => by
    simp only [List.zipIdx_cons, List.foldl_cons, over]
    rw [fold_over r off (k + 1)]
    simp [Nat.add_assoc]

theorem over_rel {R : AV → Value → Prop} {c cs : List AV} {d vs : List Value} {off : Nat} (hl : c.length = d.length) (hl2 : cs.length = vs.length) (hle : off + cs.length ≤ c.length)
    (h1 : ∀ (i : Nat) x v, c[i]? = some x → d[i]? = some v → R x v) (h2 : ∀ (i : Nat) x v, cs[i]? = some x → vs[i]? = some v → R x v) :
    ∀ (i : Nat) x v, (over c off cs)[i]? = some x → (over d off vs)[i]? = some v → R x v := by
  intro i x v hx hv
  rw [over_get cs c off i hle] at hx
  rw [over_get vs d off i (by omega)] at hv
  rw [hl2] at hx
  split at hx
  · rename_i hq; simp only [hq, if_true] at hv; exact h1 i x v hx hv
  · rename_i hq
    simp only [hq, if_false] at hv
    split at hx
    · rename_i hq2; simp only [hq2, if_true] at hv; exact h2 _ x v hx hv
    · rename_i hq2; simp only [hq2, if_false] at hv; exact h1 i x v hx hv

theorem fill_sound {ρ : Operand → Value} {ρA : Operand → Option AV} (hρ : ∀ x a, ρA x = some a → VRel ι h w a (ρ x)) (pl : Nat → Option (Nat × Nat)) :
    ∀ (parts : List (Nat × Operand)) (c r : List AV) (d : Array Value), c.length = d.size → (∀ (i : Nat) x v, c[i]? = some x → d[i]? = some v → VRel ι h w x v) →
      fillA pl c (parts.map fun q => (q.1, ρA q.2)) = some r →
      ∃ d', Instr.fill pl d (parts.map fun q => (q.1, ρ q.2)) = some d' ∧ r.length = d'.size ∧ r.length = c.length ∧ ∀ (i : Nat) x v, r[i]? = some x → d'[i]? = some v → VRel ι h w x v
  | [], c, r, d, hl, hr, hf => by
    simp [fillA] at hf
    subst hf
    exact ⟨d, rfl, hl, rfl, hr⟩
  | (i, x) :: rest, c, r, d, hl, hr, hf => by
    simp only [List.map_cons, fillA] at hf
    split at hf
    · rename_i off size cs h1 h2
      split at hf
      · rename_i hcond
        obtain ⟨a, ha, hca⟩ := Option.bind_eq_some_iff.mp h2
        obtain ⟨q1, q2, q3⟩ := cellsA_rel (hρ x a ha) hca
        have hlen : (over c off cs).length = ((ρ x).cells.zipIdx.foldl (fun cs (q : Value × Nat) => cs.setIfInBounds (off + q.2) q.1) d).size := by
          have := congrArg List.length (fold_over (ρ x).cells.toList off 0 d)
          simp only [over_length] at this
          rw [over_length, hl, ← Array.foldl_toList, Array.toList_zipIdx]
          simpa using this.symm
        have hgl : ∀ j : Nat, ((ρ x).cells.zipIdx.foldl (fun cs (q : Value × Nat) => cs.setIfInBounds (off + q.2) q.1) d)[j]? = (over d.toList off (ρ x).cells.toList)[j]? := by
          intro j
          have := fold_over (ρ x).cells.toList off 0 d
          rw [Nat.add_zero] at this
          rw [← this, ← Array.foldl_toList, Array.toList_zipIdx]
          simp
        obtain ⟨d', e1, e2, e3, e4⟩ := fill_sound hρ pl rest (over c off cs) r _ hlen (fun j y u hy hu => by
          rw [hgl] at hu
          exact over_rel (R := VRel ι h w) (by simpa using hl) (by simpa using q1) hcond.2 (fun i x v hx hv => hr i x v hx (by simpa using hv)) (fun i x v hx hv => q3 i x v hx (by simpa using hv)) j y u hy hu) hf
        refine ⟨d', ?_, e2, by rw [e3, over_length], e4⟩
        simp only [List.map_cons, Instr.fill, h1]
        rw [if_neg]
        · exact e1
        · simp only [Bool.or_eq_true, decide_eq_true_eq, not_or]
          exact ⟨by simp; omega, by omega⟩
      · cases hf
    · cases hf

end
end Go.Proofs.YtlophgkgmhcagaaDoor.AM
