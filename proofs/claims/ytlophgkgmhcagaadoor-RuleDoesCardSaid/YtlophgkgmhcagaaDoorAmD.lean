/- The abstract machine, part D: operations are sound, the first half. -/
import Derived.Test.YtlophgkgmhcagaaDoorAmC
set_option linter.unusedVariables false
namespace Go.Proofs.YtlophgkgmhcagaaDoor.AM
open Go

theorem tinfo_some {P : Program} {t : Nat} {i : TI} (ht : tinfo P t = some i) :
    ∃ inf d, P.info? t = some inf ∧ P.underlying t = some d ∧ kindOf P d = i.k ∧ inf.size = i.size ∧ inf.bytes = i.bytes ∧ i.zero = inf.zero.bind fun v => constPVs v.cells.toList := by
  unfold tinfo at ht
  split at ht
  · rename_i inf d h1 h2
    cases ht
    exact ⟨inf, d, h1, h2, rfl, rfl, rfl, rfl⟩
  · cases ht

theorem kind_slice {P : Program} {d : TypeDesc} {e : Nat} (hk : kindOf P d = .slice e) : d = .slice e := by cases d <;> simp [kindOf] at hk; rw [hk]
theorem kind_array {P : Program} {d : TypeDesc} {n e : Nat} (hk : kindOf P d = .array n e) : d = .array n e := by cases d <;> simp [kindOf] at hk; rw [hk.1, hk.2]
theorem kind_int {P : Program} {d : TypeDesc} {k : IntKind} (hk : kindOf P d = .int k) : d = .int k := by cases d <;> simp [kindOf] at hk; rw [hk]
theorem kind_bool {P : Program} {d : TypeDesc} (hk : kindOf P d = .bool) : d = .bool := by cases d <;> simp [kindOf] at hk; rfl
theorem kind_str {P : Program} {d : TypeDesc} (hk : kindOf P d = .str) : d = .string := by cases d <;> simp [kindOf] at hk; rfl
theorem kind_ptr {P : Program} {d : TypeDesc} (hk : kindOf P d = .ptr) : ∃ e, d = .pointer e := by cases d <;> simp [kindOf] at hk; exact ⟨_, rfl⟩
theorem kind_func {P : Program} {d : TypeDesc} (hk : kindOf P d = .func) : ∃ a b c, d = .func a b c := by cases d <;> simp [kindOf] at hk; exact ⟨_, _, _, rfl⟩
theorem kind_struct {P : Program} {d : TypeDesc} {fs} (hk : kindOf P d = .struct fs) : ∃ F : Array Field, d = .struct F ∧ fs = F.toList.map fun f => (f.offset, P.cellsOf f.type, f.type) := by
  cases d <;> simp [kindOf] at hk; exact ⟨_, rfl, hk.symm⟩

theorem run_isAgg {P : Program} {t : Nat} {i : TI} (ht : tinfo P t = some i) (w : World) : (isAgg t).run P w = .ok i.isAgg w := by
  obtain ⟨inf, d, h1, h2, h3, _⟩ := tinfo_some ht
  unfold isAgg
  rw [Sem.run_bind, run_underlying h2 w]
  unfold TI.isAgg
  rw [← h3]
  cases d <;> simp [kindOf]

theorem run_sizeOf' {P : Program} {t : Nat} {i : TI} (ht : tinfo P t = some i) (w : World) : (sizeOf t).run P w = .ok i.size w := by
  obtain ⟨inf, d, h1, h2, h3, h4, _⟩ := tinfo_some ht
  simp [sizeOf, typeInfo, h1, h4]

theorem cellsOf_eq {P : Program} {t : Nat} {i : TI} (ht : tinfo P t = some i) : P.cellsOf t = i.size := by
  obtain ⟨inf, d, h1, h2, h3, h4, _⟩ := tinfo_some ht
  simp [Program.cellsOf, h1, h4]

section
variable {P : Program} {G : Nat → Option (List PV)} {ι ι' : Nat → Nat × Nat} {h h' : Heap} {w w' : World}

def Place (ι : Nat → Nat × Nat) (h : Heap) (w : World) (cells : List AV) (blk off : Nat) : Prop :=
  ∀ (j : Nat) x, cells[j]? = some x → ∃ v, w.cell? ⟨blk, off + j, none⟩ = some v ∧ VRel ι h w x v

theorem Place.drop {cells : List AV} {blk off : Nat} (hp : Place ι h w cells blk off) (k : Nat) : Place ι h w (cells.drop k) blk (off + k) := by
  intro j x hx
  rw [List.getElem?_drop] at hx
  obtain ⟨v, h1, h2⟩ := hp _ _ hx
  exact ⟨v, by rw [show off + k + j = off + (k + j) by omega]; exact h1, h2⟩

theorem blkAt_some {b g : Nat} {cells : List AV} (hb : blkAt h b g = some cells) : h[b]? = some (some ⟨g, cells⟩) := by
  unfold blkAt at hb
  split at hb
  · rename_i bk hq
    split at hb
    · rename_i hg
      cases hb
      rw [hq, ← hg]
    · cases hb
  · cases hb

theorem blkAt_live {b g : Nat} {cells : List AV} (hb : blkAt h b g = some cells) : liveAt h b g := ⟨_, blkAt_some hb, rfl⟩
theorem blkAt_isSome {b g : Nat} (hb : (blkAt h b g).isSome = true) : liveAt h b g := by
  cases hq : blkAt h b g with
  | none => simp [hq] at hb
  | some c => exact blkAt_live hq

theorem place_of_blk (hS : SimH P G ι h w) {b g : Nat} {cells : List AV} (hb : blkAt h b g = some cells) : Place ι h w cells (ι b).1 (ι b).2 := by
  intro j x hx
  have hne : cells ≠ [] := by intro e; subst e; simp at hx
  obtain ⟨c, ty, hc, hl, hv⟩ := hS.hr.blk b _ (blkAt_some hb) hne
  obtain ⟨v, h1, h2⟩ := hv j x hx
  exact ⟨v, by simp [World.cell?, hc, h1], h2⟩

theorem place_of_pin {cells : List PV} {blk off : Nat} (hp : PinRel w (own ι h) cells blk off) : Place ι h w (cells.map .p) blk off := by
  intro j x hx
  simp only [List.getElem?_map, Option.map_eq_some_iff] at hx
  obtain ⟨y, hy, rfl⟩ := hx
  obtain ⟨v, h1, h2⟩ := hp.2.2 j y hy
  exact ⟨v, h1, .p _ _ h2⟩

theorem loadVar_place {t : Nat} {i : TI} (ht : tinfo P t = some i) {cells : List AV} {blk off : Nat} (hp : Place ι h w cells blk off) {r : AV} (hr : takeA i cells = some r) :
    ∃ v, (loadVar t ⟨blk, off, none⟩).run P w = .ok v w ∧ VRel ι h w r v := by
  unfold takeA at hr
  unfold loadVar
  simp only [Sem.run_bind, run_isAgg ht, Result.andThen_ok]
  split at hr
  · rename_i hagg
    split at hr
    · rename_i hle
      cases hr
      have hf : ∀ j, ∃ v, j < i.size → w.cell? ⟨blk, off + j, none⟩ = some v ∧ ∀ x, cells[j]? = some x → VRel ι h w x v := by
        intro j
        by_cases hj : j < i.size
        · have hjl : j < cells.length := by omega
          obtain ⟨v, h1, h2⟩ := hp j cells[j] (List.getElem?_eq_getElem hjl)
          exact ⟨v, fun _ => ⟨h1, fun x hx => by rw [List.getElem?_eq_getElem hjl] at hx; rw [← Option.some.inj hx]; exact h2⟩⟩
        · exact ⟨undef, fun h => absurd h hj⟩
      obtain ⟨f, hf⟩ := Classical.axiomOfChoice hf
      have hl := run_loadCells (P := P) w ⟨blk, off, none⟩ i.size f (fun j hj => by rw [Addr.add_lit]; exact (hf j hj).1)
      refine ⟨.agg ((List.range i.size).map f).toArray, ?_, .agg _ _ (by simp; omega) fun j x v hx hv => ?_⟩
      · simp [hagg, Sem.run_bind, run_sizeOf' ht, hl]
      · simp only [List.getElem?_toArray, List.getElem?_map, Option.map_eq_some_iff] at hv
        obtain ⟨k, hk, rfl⟩ := hv
        have hj : j < i.size := by
          rcases Nat.lt_or_ge j i.size with h | h
          · exact h
          · rw [List.getElem?_eq_none (by simpa using h)] at hk; cases hk
        have hkj : k = j := by rw [List.getElem?_range hj] at hk; exact (Option.some.inj hk).symm
        subst hkj
        rw [List.getElem?_take, if_pos hj] at hx
        exact (hf k hj).2 x hx
    · cases hr
  · rename_i hagg
    split at hr
    · rename_i x rest
      cases hr
      obtain ⟨v, h1, h2⟩ := hp 0 r rfl
      refine ⟨v, ?_, h2⟩
      simp only [Nat.add_zero] at h1
      simp [hagg, h1]
    · cases hr

theorem over_get {α : Type} : ∀ (l c : List α) (k j : Nat), k + l.length ≤ c.length → (over c k l)[j]? = if j < k then c[j]? else if j < k + l.length then l[j - k]? else c[j]?
  | [], c, k, j, hl => by simp only [over, List.length_nil, Nat.add_zero]; split <;> simp_all
  | v :: r, c, k, j, hl => by
    simp only [over]
    rw [over_get r (c.set k v) (k + 1) j (by simp at hl ⊢; omega)]
    simp only [List.length_cons] at hl ⊢
    by_cases h1 : j < k
    · have : k ≠ j := by omega
      simp [h1, show j < k + 1 by omega, List.getElem?_set_ne this]
    · by_cases h2 : j = k
      · subst h2
        simp [show j < c.length by omega]
      · have : k ≠ j := by omega
        simp only [h1, if_false, show ¬ j < k + 1 by omega, show k + 1 + r.length = k + (r.length + 1) by omega]
        split
        · rw [show j - k = (j - (k + 1)) + 1 by omega]; rfl
        · exact List.getElem?_set_ne this

theorem over_length {α : Type} : ∀ (l c : List α) (k : Nat), (over c k l).length = c.length
  | [], c, k => rfl
  | v :: r, c, k => by simp only [over]; rw [over_length r]; simp

theorem splice_get {α : Type} (c vs : List α) (k j : Nat) (hl : k + vs.length ≤ c.length) :
    (c.take k ++ vs ++ c.drop (k + vs.length))[j]? = if j < k then c[j]? else if j < k + vs.length then vs[j - k]? else c[j]? := by
  by_cases h1 : j < k
  · rw [List.append_assoc, List.getElem?_append_left (by simp; omega)]
    simp [h1]
  · by_cases h2 : j < k + vs.length
    · rw [List.append_assoc, List.getElem?_append_right (by simp; omega), List.getElem?_append_left (by simp; omega)]
      simp [h1, h2, show min k c.length = k by omega]
    · rw [List.getElem?_append_right (by simp; omega)]
      simp only [h1, h2, if_false, List.length_append, List.length_take, List.getElem?_drop]
      congr 1
      omega

/-- Storing cells into a block of ours. -/
theorem store_sound (hS : SimH P G ι h w) {b g off : Nat} {cells cs : List AV} (hb : blkAt h b g = some cells) (hle : off + cs.length ≤ cells.length) (hne : cells ≠ [])
    {vs : List Value} (hl : cs.length = vs.length) (h1 : ∀ v ∈ vs, v.oneCell' = true) (hv : ∀ (i : Nat) x v, cs[i]? = some x → vs[i]? = some v → VRel ι h w x v) :
    ∃ w', (storeCells ⟨(ι b).1, (ι b).2 + off, none⟩ vs).run P w = .ok () w' ∧ SimH P G ι (h.set b (some ⟨g, over cells off cs⟩)) w' ∧ Evo h.length ι h w ι (h.set b (some ⟨g, over cells off cs⟩)) w' := by
  have hq := blkAt_some hb
  obtain ⟨c, ty, hc, hlc, hcv⟩ := hS.hr.blk b _ hq hne
  have hblt : b < h.length := by
    rcases Nat.lt_or_ge b h.length with h | h
    · exact h
    · simp [List.getElem?_eq_none h] at hq
  have hlc' : (ι b).2 + cells.length ≤ c.size := hlc
  have hrun := run_storeCells_at P (ι b).1 ((ι b).2 + off) ty vs 0 c w hc (by omega) h1
  simp only [Nat.add_zero] at hrun
  refine ⟨_, hrun, ?_⟩
  have hnew : (w.setRow (ι b).1 (c.toList.take ((ι b).2 + off) ++ vs ++ c.toList.drop ((ι b).2 + off + vs.length)).toArray).heap[(ι b).1]? = some (.cells _ ty (0, 0)) := setRow_heap w _ c _ ty _ hc
  refine hS.upd (h' := h.set b (some ⟨g, over cells off cs⟩)) b ⟨g, over cells off cs⟩ (ι b).1 (ι b).2 _ ty (.inr ⟨hblt, ⟨_, hq, Nat.le_refl _⟩, rfl⟩) (fun i => by split <;> simp_all)
    (.inr ⟨_, hq, hne, rfl, fun cs2 ty2 fr2 hx => ?_⟩) ?_ hnew ?_ ?_ (by simp) (fun k hk hkk => setRow_other w _ k _ hkk) (fun bk _ _ => rfl) rfl rfl rfl
  · rw [hc] at hx
    injection hx with hx
    injection hx with hx _ _
    subst hx
    simp
    omega
  · intro e
    have := congrArg List.length e
    rw [over_length] at this
    exact hne (List.eq_nil_of_length_eq_zero (by simpa using this))
  · simp only [over_length, List.size_toArray, List.length_append, List.length_take, List.length_drop, Array.length_toList]
    omega
  · intro j x hx
    simp only [over_get cs cells off j hle] at hx
    simp only [List.getElem?_toArray]
    rw [splice_get c.toList vs ((ι b).2 + off) _ (by simp; omega)]
    by_cases j1 : j < off
    · simp only [j1, if_true] at hx
      simp only [show (ι b).2 + j < (ι b).2 + off by omega, if_true]
      obtain ⟨v, p1, p2⟩ := hcv j x hx
      exact ⟨v, by simpa using p1, p2⟩
    · by_cases j2 : j < off + cs.length
      · simp only [j1, if_false, j2, if_true] at hx
        simp only [show ¬ (ι b).2 + j < (ι b).2 + off by omega, if_false, show (ι b).2 + j < (ι b).2 + off + vs.length by omega, if_true, show (ι b).2 + j - ((ι b).2 + off) = j - off by omega]
        have : j - off < vs.length := by omega
        exact ⟨vs[j - off], by simp, hv _ x _ hx (by simp)⟩
      · simp only [j1, if_false, j2] at hx
        simp only [show ¬ (ι b).2 + j < (ι b).2 + off by omega, if_false, show ¬ (ι b).2 + j < (ι b).2 + off + vs.length by omega]
        obtain ⟨v, p1, p2⟩ := hcv j x hx
        exact ⟨v, by simpa using p1, p2⟩

/-- A new block. -/
theorem alloc_sound (hS : SimH P G ι h w) (cs : List AV) (hne : cs ≠ []) (c : Array Value) (ty : TypeId) (hl : cs.length ≤ c.size)
    (hv : ∀ (i : Nat) x v, cs[i]? = some x → c[i]? = some v → VRel ι h w x v) :
    let ι' := fun i => if i = h.length then (w.heap.size, 0) else ι i
    SimH P G ι' (h ++ [some ⟨0, cs⟩]) (w.alloc (.cells c ty)) ∧ Evo h.length ι h w ι' (h ++ [some ⟨0, cs⟩]) (w.alloc (.cells c ty)) := by
  refine hS.upd h.length ⟨0, cs⟩ w.heap.size 0 c ty (.inl ⟨rfl, rfl⟩) (fun i => rfl) (.inl (Nat.le_refl _)) hne (heap_alloc_new w _) (by simpa using hl) (fun j x hx => ?_) (by simp) (fun k hk _ => by first | exact heap_alloc_old _ _ hk | exact heap_alloc_old _ _ _ hk) (fun bk hq _ => by simp at hq) rfl rfl rfl
  have hj : j < cs.length := by
    rcases Nat.lt_or_ge j cs.length with h | h
    · exact h
    · simp [List.getElem?_eq_none h] at hx
  have hj' : j < c.size := by omega
  exact ⟨c[j], by simp [hj'], hv j x _ hx (by simp [hj'])⟩

end
end Go.Proofs.YtlophgkgmhcagaaDoor.AM
