/- The abstract machine, part H: append; and all operations that are no calls. -/
import Derived.Test.YtlophgkgmhcagaaDoorAmG
set_option linter.unusedVariables false
set_option linter.unusedSimpArgs false
namespace Go.Proofs.YtlophgkgmhcagaaDoor.AM
open Go

section
variable {P : Program} {G : Nat → Option (List PV)} {ι ι' : Nat → Nat × Nat} {h h' : Heap} {w w' : World}

theorem place_list {cells : List AV} {blk off : Nat} (hp : Place ι h w cells blk off) :
    ∃ news : List Value, news.length = cells.length ∧ (∀ (j : Nat) u, news[j]? = some u → w.cell? ((⟨blk, off, none⟩ : Addr).add j) = some u) ∧
      ∀ (j : Nat) x u, cells[j]? = some x → news[j]? = some u → VRel ι h w x u := by
  have hf : ∀ j : Nat, ∃ v, ∀ x, cells[j]? = some x → w.cell? ⟨blk, off + j, none⟩ = some v ∧ VRel ι h w x v := by
    intro j
    cases hq : cells[j]? with
    | none => exact ⟨undef, fun x hx => by cases hx⟩
    | some x =>
      obtain ⟨v, h1, h2⟩ := hp j x hq
      exact ⟨v, fun y hy => by cases hy; exact ⟨h1, h2⟩⟩
  obtain ⟨f, hf⟩ := Classical.axiomOfChoice hf
  have hget : ∀ (j : Nat) u, ((List.range cells.length).map f)[j]? = some u → j < cells.length ∧ u = f j := by
    intro j u hu
    have hj : j < cells.length := by have := getElem?_lt hu; simpa using this
    simp [hj] at hu
    exact ⟨hj, hu.symm⟩
  refine ⟨(List.range cells.length).map f, by simp, fun j u hu => ?_, fun j x u hx hu => ?_⟩
  · obtain ⟨hj, rfl⟩ := hget j u hu
    rw [Addr.add_lit]
    exact (hf j cells[j] (by simp)).1
  · obtain ⟨hj, rfl⟩ := hget j u hu
    exact (hf j x hx).2

theorem src_sound (hS : SimH P G ι h w) {sz k : Nat} {y : AV} {u : Value} {cs : List AV} (hy : VRel ι h w y u) (hk : lenA y = some k) (hcs : srcCells h sz y = some cs) (hsz : sz ≠ 0) :
    cs.length = k * sz ∧ (∀ x ∈ cs, x.scalar = true) ∧ ((k = 0 ∧ ∃ A c, u = .slice A 0 c) ∨ ∃ blk off c, u = .slice (some ⟨blk, off, none⟩) k c ∧ Place ι h w cs blk off) := by
  unfold srcCells at hcs
  split at hcs
  · rename_i rows
    simp [lenA] at hk
    subst hk
    split at hcs
    case isFalse => cases hcs
    rename_i hall
    have hall' : ∀ row ∈ rows, row.length = sz := by simpa using hall
    cases hcs
    obtain ⟨A, c, rfl, hn, hcase⟩ := hy.sl_inv
    refine ⟨by rw [List.length_map, flat_length rows hall'], fun x hx => by
      simp only [List.mem_map] at hx; obtain ⟨y, _, rfl⟩ := hx; rfl, ?_⟩
    rcases hcase with rfl | ⟨blk, off, sz', hc, rfl, ho, hb, hs, hcell⟩
    · exact .inl ⟨rfl, A, c, rfl⟩
    · refine .inr ⟨blk, off, c, rfl, fun j x hx => ?_⟩
      simp only [List.getElem?_map, Option.map_eq_some_iff] at hx
      obtain ⟨y, hy', rfl⟩ := hx
      have hj := getElem?_lt hy'
      rw [flat_length rows hall'] at hj
      have hpos : 0 < rows.length := by
        rcases Nat.eq_zero_or_pos rows.length with h | h
        · rw [h] at hj; omega
        · exact h
      have hss : sz' = sz := by rw [← hs _ (List.getElem_mem hpos), hall' _ (List.getElem_mem hpos)]
      subst hss
      have hdm : j / sz' * sz' + j % sz' = j := by rw [Nat.mul_comm]; exact Nat.div_add_mod j sz'
      have hm : j % sz' < sz' := Nat.mod_lt _ (by omega)
      have := flat_get rows hall' (j / sz') (j % sz') hm
      rw [hdm, hy'] at this
      obtain ⟨v, hv1, hv2⟩ := hcell _ _ y this.symm
      rw [hdm] at hv1
      exact ⟨v, hv1, .p _ _ hv2⟩
  · simp [lenA] at hk; subst hk; cases hcs
    have := hy.nils_inv; subst this
    exact ⟨by simp, by simp, .inl ⟨rfl, none, 0, rfl⟩⟩
  · rename_i b g off sz' len
    simp [lenA] at hk; subst hk
    split at hcs
    case isFalse => cases hcs
    rename_i he
    subst he
    obtain ⟨cells, hb, hcs⟩ := Option.bind_eq_some_iff.mp hcs
    split at hcs
    case isFalse => cases hcs
    rename_i hle
    obtain ⟨hle, hall⟩ := hle
    cases hcs
    obtain ⟨A, c, rfl, hn, hcase⟩ := hy.ref_inv (blkAt_live hb)
    refine ⟨by rw [List.length_take, List.length_drop]; omega, by simpa using hall, ?_⟩
    rcases hcase with ⟨rfl, rfl⟩ | ⟨rfl, _⟩
    · exact .inl ⟨rfl, A, 0, rfl⟩
    · refine .inr ⟨_, _, c, rfl, fun j x hx => ?_⟩
      rw [List.getElem?_take] at hx
      split at hx
      · exact ((place_of_blk hS hb).drop off) j x hx
      · cases hx
  · cases hcs

theorem zero_facts {e : Nat} {ie : TI} (he : tinfo P e = some ie) (hz : ie.zero.map List.length = some ie.size) : ∃ (inf : TypeInfo) (z : Value), P.info? e = some inf ∧ inf.zero = some z ∧ z.cells.size = ie.size ∧ inf.size = ie.size ∧ inf.bytes = ie.bytes := by
  obtain ⟨inf, d, h1, h2, h3, h4, h5, h6⟩ := tinfo_some he
  obtain ⟨l, hl, hl2⟩ := Option.map_eq_some_iff.mp hz
  rw [h6] at hl
  obtain ⟨z, hz1, hz2⟩ := Option.bind_eq_some_iff.mp hl
  have := (constPVs_rel (w := default) (o := fun _ => False) hz2).1
  exact ⟨inf, z, h1, hz1, by simp at this; omega, h4, h5⟩

theorem SimH.drew (hS : SimH P G ι h w) : SimH P G ι h w.drew ∧ Evo h.length ι h w ι h w.drew := hS.garbage (Nat.le_refl _) (fun _ _ => rfl) rfl rfl rfl

/-- A grown row. -/
theorem grown_sound (hS : SimH P G ι h w) (b : Nat) (bk' : Blk) (e : Nat) {olds : List AV} {vals : List Value} (sz n cap : Nat) (z : Value) (hz : z.cells.size = sz) (hsz : sz ≠ 0) (hn0 : n ≠ 0) (hn : n ≤ maxCount)
    (hb : (h' = h ++ [some bk'] ∧ b = h.length) ∨ (b < h.length ∧ (∃ bk : Blk, h[b]? = some (some bk) ∧ bk.g ≤ bk'.g) ∧ h' = h.set b (some bk')))
    (hg : ∀ bk : Blk, h[b]? = some (some bk) → bk.g ≠ bk'.g) (hl : vals.length = n * sz) (hcl : bk'.cells.length = vals.length) (hcap : n ≤ cap)
    (hv : ∀ (j : Nat) x v, bk'.cells[j]? = some x → vals[j]? = some v → VRel ι h w x v) (arr : Array Value) (harr : arr = (vals.toArray ++ Builtin.zeroCells z.cells (cap - n))) :
    let ι' := fun i => if i = b then (w.heap.size, 0) else ι i
    SimH P G ι' h' (w.drew.alloc (.cells arr e)) ∧ VRel ι' h' (w.drew.alloc (.cells arr e)) (.ref b bk'.g 0 sz n) (.slice (some ⟨w.heap.size, 0, none⟩) n cap) ∧ Evo h.length ι h w ι' h' (w.drew.alloc (.cells arr e)) := by
  intro ι'
  obtain ⟨hS', he0⟩ := hS.drew
  have hne : bk'.cells ≠ [] := by
    intro e0
    rw [e0, hl] at hcl
    have : 0 < n * sz := Nat.mul_pos (by omega) (by omega)
    simp only [List.length_nil] at hcl
    omega
  have hasz : arr.size = cap * sz := by
    rw [harr, Array.size_append, size_zeroCells, hz]
    simp only [List.size_toArray, hl, ← Nat.add_mul]
    congr 1; omega
  have hnew : (w.drew.alloc (.cells arr e)).heap[w.heap.size]? = some (.cells arr e (0, 0)) := heap_alloc_new w.drew _
  have hle : bk'.cells.length ≤ arr.size := by rw [hasz, hcl, hl]; exact Nat.mul_le_mul_right _ hcap
  obtain ⟨q1, q2⟩ := hS'.upd (h' := h') (ι' := ι') (w' := w.drew.alloc (.cells arr e)) b bk' w.heap.size 0 arr e hb (fun i => rfl) (.inl (Nat.le_refl _)) hne hnew (by simpa using hle)
    (fun j x hx => by
      have hj : j < vals.length := by have := getElem?_lt hx; omega
      refine ⟨vals[j], ?_, (hv j x _ hx (by simp)).evo he0⟩
      rw [harr, Nat.zero_add, Array.getElem?_append_left (by simpa using hj)]
      simp [hj])
    (by simp) (fun k hk _ => by first | exact heap_alloc_old _ _ hk | exact heap_alloc_old _ _ _ hk) (fun bk hq hgg => absurd hgg (hg bk hq)) rfl rfl rfl
  refine ⟨q1, ?_, he0.trans q2 (Nat.le_refl _)⟩
  have hb' : h'[b]? = some (some bk') := by
    rcases hb with ⟨rfl, rfl⟩ | ⟨hlt, _, rfl⟩
    · simp
    · simp [hlt]
  have hlive : liveAt h' b bk'.g := ⟨bk', hb', rfl⟩
  refine .ref _ _ _ _ _ _ _ (by unfold maxCount at hn; omega) (live_g hlive).1 (live_g hlive).2 fun _ => .inr ⟨by simp [ι'], hcap, ⟨bk', hb', hne⟩, arr, e, _, by simpa [ι'] using hnew, by simp [ι', hasz]⟩

theorem append_sound (hS : SimH P G ι h w) {t : Nat} (ty : Nat) {x y r : AV} {v u : Value} (hx : VRel ι h w x v) (hy : VRel ι h w y u) (hr : appendA P h t x y = some (r, h')) :
    ∃ q w' ι', (Builtin.append_ #[t, t] ty #[v, u]).run P w = .ok q w' ∧ SimH P G ι' h' w' ∧ VRel ι' h' w' r q ∧ Evo h.length ι h w ι' h' w' := by
  unfold appendA at hr
  split at hr
  case h_2 => cases hr
  rename_i e _ _ _ ht
  obtain ⟨inf0, d0, t1, t2, t3, _⟩ := tinfo_some ht
  have := kind_slice t3; subst this
  split at hr
  case h_2 => cases hr
  rename_i ie k he hk
  split at hr
  · cases hr
  rename_i hcond
  have hsz : ie.size ≠ 0 := fun h => hcond (.inl h)
  have hby : ie.bytes ≤ 1048576 := Nat.le_of_not_gt fun h => hcond (.inr (.inl h))
  have hzl : ie.zero.map List.length = some ie.size := Classical.byContradiction fun h => hcond (.inr (.inr h))
  clear hcond
  split at hr
  · cases hr
  rename_i cs hcs
  obtain ⟨inf, z, f1, f2, f3, f4, f5⟩ := zero_facts he hzl
  obtain ⟨s1, s2, s3⟩ := src_sound hS hy hk hcs hsz
  have hbytes : ∀ n, n ≤ maxCount → n * inf.bytes ≤ 140737488355328 := by
    intro n hn
    calc n * inf.bytes ≤ 16777216 * 1048576 := Nat.mul_le_mul hn (by omega)
      _ ≤ 140737488355328 := by decide
  split at hr
  · -- nil
    have := hx.nils_inv; subst this
    split at hr
    · rename_i hk0
      subst hk0
      cases hr
      have hu : ∃ A c, u = .slice A 0 c := by
        rcases s3 with ⟨_, A, c, rfl⟩ | ⟨blk, off, c, rfl, _⟩
        · exact ⟨A, c, rfl⟩
        · exact ⟨_, c, rfl⟩
      obtain ⟨A, c, rfl⟩ := hu
      refine ⟨.slice none 0 0, w, ι, ?_, hS, .p _ _ .nils, .refl (Nat.le_refl _)⟩
      cases A <;> simp [Builtin.append_, run_underlying t2, sizeOf, typeInfo, f1, Builtin.lenOf, Builtin.firstCells, loadCells, loadCellsFrom]
    · rename_i hk0
      split at hr
      case isFalse => cases hr
      rename_i hkm
      cases hr
      rcases s3 with ⟨h0, _⟩ | ⟨blk, off, c, rfl, hp⟩
      · exact absurd h0 hk0
      obtain ⟨news, n1, n2, n3⟩ := place_list hp
      have hb := hbytes k hkm
      have hrun := run_append_nil (P := P) w t ty e inf z t2 f1 f2 ⟨blk, off, none⟩ k c news (by rw [n1, s1, f4]) n2 (by omega) (by unfold maxCount at hkm; omega) (by omega)
      obtain ⟨g1, g2, g3⟩ := grown_sound (h' := h ++ [some ⟨0, cs⟩]) hS h.length ⟨0, cs⟩ e (olds := []) (vals := news) ie.size k (grownCap w k 0 e) z f3 hsz hk0 hkm (.inl ⟨rfl, rfl⟩) (fun bk hq => by simp at hq) (by rw [n1, s1]) n1.symm (grownCap_ge w k 0 e) n3 _ rfl
      exact ⟨_, _, _, hrun, g1, g2, g3⟩
  · -- a block of ours
    rename_i b g off sz len
    obtain ⟨cells, hb, hr⟩ := Option.bind_eq_some_iff.mp hr
    split at hr
    case isFalse => cases hr
    rename_i hc
    obtain ⟨c1, c2, c3, c4⟩ := hc
    subst c1
    cases hr
    have hlv := blkAt_live hb
    have hblt := (live_g hlv).1
    have hq := blkAt_some hb
    obtain ⟨A, cap, rfl, hn, hcase⟩ := hx.ref_inv hlv
    rcases s3 with ⟨h0, _⟩ | ⟨blk, offy, cy, rfl, hp⟩
    · exact absurd h0 c4
    obtain ⟨news, n1, n2, n3⟩ := place_list hp
    have hbb := hbytes (len + k) c3
    have hkp : 0 < k := Nat.pos_of_ne_zero c4
    have hlk : 0 < len + k := by omega
    have hlk0 : len + k ≠ 0 := by omega
    have h64 : ((len + k : Nat) : Int) ≤ 9223372036854775807 := by unfold maxCount at c3; omega
    have h64k : (k : Int) ≤ 9223372036854775807 := by unfold maxCount at c3; omega
    have hdl : (cells.drop off).length = len * ie.size := by rw [List.length_drop]; omega
    have hks : 0 < k * ie.size := Nat.mul_pos hkp (Nat.pos_of_ne_zero hsz)
    have hkb : k * inf.bytes ≤ 281474976710656 := by have := hbytes k (by omega); omega
    have hnc : cells.drop off ++ cs ≠ [] := by
      intro e0
      have := congrArg List.length e0
      rw [List.length_append, s1] at this
      simp only [List.length_nil] at this
      omega
    have hbcase : ((h.set b (some ⟨g + 1, cells.drop off ++ cs⟩)) = h ++ [some ⟨g + 1, cells.drop off ++ cs⟩] ∧ b = h.length) ∨ (b < h.length ∧ (∃ bk : Blk, h[b]? = some (some bk) ∧ bk.g ≤ (⟨g + 1, cells.drop off ++ cs⟩ : Blk).g) ∧ (h.set b (some ⟨g + 1, cells.drop off ++ cs⟩)) = h.set b (some ⟨g + 1, cells.drop off ++ cs⟩)) :=
      .inr ⟨hblt, ⟨_, hq, Nat.le_succ g⟩, rfl⟩
    have hgne : ∀ bk : Blk, h[b]? = some (some bk) → bk.g ≠ (⟨g + 1, cells.drop off ++ cs⟩ : Blk).g := by
      intro bk hq2; rw [hq] at hq2; cases hq2; exact Nat.ne_of_lt (Nat.lt_succ_self g)
    have hgrow : cap < len + k → ∀ olds : List Value, olds.length = len * ie.size → (∀ (j : Nat) x v, (cells.drop off)[j]? = some x → olds[j]? = some v → VRel ι h w x v) →
        (Builtin.append_ #[t, t] ty #[.slice A len cap, .slice (some ⟨blk, offy, none⟩) k cy]).run P w = .ok (.slice (some ⟨w.heap.size, 0, none⟩) (len + k) (grownCap w (len + k) cap e))
          (w.drew.alloc (.cells (olds.toArray ++ news.toArray ++ Builtin.zeroCells z.cells (grownCap w (len + k) cap e - (len + k))) e)) →
        ∃ q w' ι', (Builtin.append_ #[t, t] ty #[.slice A len cap, .slice (some ⟨blk, offy, none⟩) k cy]).run P w = .ok q w' ∧ SimH P G ι' (h.set b (some ⟨g + 1, cells.drop off ++ cs⟩)) w' ∧ VRel ι' (h.set b (some ⟨g + 1, cells.drop off ++ cs⟩)) w' (.ref b (g + 1) 0 ie.size (len + k)) q ∧
          Evo h.length ι h w ι' (h.set b (some ⟨g + 1, cells.drop off ++ cs⟩)) w' := by
      intro hlt olds ho1 ho2 hrun
      obtain ⟨g1, g2, g3⟩ := grown_sound (h' := h.set b (some ⟨g + 1, cells.drop off ++ cs⟩)) hS b ⟨g + 1, cells.drop off ++ cs⟩ e (olds := []) (vals := olds ++ news) ie.size (len + k) (grownCap w (len + k) cap e) z f3 hsz hlk0 c3 hbcase hgne
        (by rw [List.length_append, ho1, n1, s1, Nat.add_mul]) (by rw [List.length_append, List.length_append, ho1, n1, hdl]) (grownCap_ge w (len + k) cap e)
        (fun j x v hx hv => by
          by_cases hj : j < len * ie.size
          · rw [List.getElem?_append_left (by omega)] at hx hv
            exact ho2 j x v hx hv
          · rw [List.getElem?_append_right (by omega)] at hx hv
            rw [hdl] at hx; rw [ho1] at hv
            exact n3 _ x v hx hv) (olds.toArray ++ news.toArray ++ Builtin.zeroCells z.cells (grownCap w (len + k) cap e - (len + k))) (by simp)
      exact ⟨_, _, _, hrun, g1, g2, g3⟩
    rcases hcase with ⟨rfl, rfl⟩ | ⟨rfl, hlc, ⟨bk0, hq0, hne0⟩, ccs, cty, cfr, hcc, hcap⟩
    · refine hgrow hlk [] (by simp) (fun j x v _ hv => by simp at hv) ?_
      cases A with
      | none =>
        have hrun := run_append_nil (P := P) w t ty e inf z t2 f1 f2 ⟨blk, offy, none⟩ k cy news (by rw [n1, s1, f4]) n2 hkp h64k hkb
        simpa using hrun
      | some A =>
        have hrun := run_append_grow (P := P) w t ty e inf z t2 f1 f2 A 0 0 [] (by simp) (fun j v hv => by simp at hv) ⟨blk, offy, none⟩ k cy news (by rw [n1, s1, f4]) n2 hlk h64 (growslice_fits hlk hbb)
        simpa using hrun
    · rw [hq] at hq0; cases hq0
      have hne : cells ≠ [] := hne0
      obtain ⟨c0, ty0, hc0, hl0, hv0⟩ := hS.hr.blk b _ hq hne
      rw [hc0] at hcc; injection hcc with hcc; injection hcc with hcc _ _; subst hcc
      have hl0' : (ι b).2 + cells.length ≤ c0.size := hl0
      by_cases hroom : len + k ≤ cap
      · -- in place
        have hnl : news.length = k * ie.size := by rw [n1, s1]
        have hmul : (len + k) * ie.size ≤ cap * ie.size := Nat.mul_le_mul_right _ hroom
        have hfit : (ι b).2 + off + len * ie.size + news.length ≤ c0.size := by
          rw [hnl]
          have : (len + k) * ie.size = len * ie.size + k * ie.size := Nat.add_mul ..
          omega
        have h1 : ∀ v ∈ news, v.oneCell' = true := oneCells n1.symm s2 n3
        have hst := run_storeCells_at P (ι b).1 ((ι b).2 + off + len * ie.size) ty0 news 0 c0 w hc0 (by omega) h1
        simp only [Nat.add_zero] at hst
        have hf := run_firstCells_some (P := P) w inf.size k ⟨blk, offy, none⟩ k cy news (by rw [n1, s1, f4]) n2
        have hrun : (Builtin.append_ #[t, t] ty #[.slice (some ⟨(ι b).1, (ι b).2 + off, none⟩) len cap, .slice (some ⟨blk, offy, none⟩) k cy]).run P w =
            .ok (.slice (some ⟨(ι b).1, (ι b).2 + off, none⟩) (len + k) cap) (w.setRow (ι b).1 (c0.toList.take ((ι b).2 + off + len * ie.size) ++ news ++ c0.toList.drop ((ι b).2 + off + len * ie.size + news.length)).toArray) := by
          rw [← f4] at hst ⊢
          simp [Builtin.append_, run_underlying t2, sizeOf, typeInfo, f1, Builtin.lenOf, hroom, hf, Addr.add_lit, hst]
        have hnew := setRow_heap w (ι b).1 c0 (c0.toList.take ((ι b).2 + off + len * ie.size) ++ news ++ c0.toList.drop ((ι b).2 + off + len * ie.size + news.length)).toArray ty0 _ hc0
        have hasz : (c0.toList.take ((ι b).2 + off + len * ie.size) ++ news ++ c0.toList.drop ((ι b).2 + off + len * ie.size + news.length)).toArray.size = c0.size := by
          simp only [List.size_toArray, List.length_append, List.length_take, List.length_drop, Array.length_toList]; omega
        clear hgrow
        obtain ⟨u1, u2⟩ := hS.upd (h' := h.set b (some ⟨g + 1, cells.drop off ++ cs⟩)) (ι' := fun i => if i = b then ((ι b).1, (ι b).2 + off) else ι i) (w' := w.setRow (ι b).1 (c0.toList.take ((ι b).2 + off + len * ie.size) ++ news ++ c0.toList.drop ((ι b).2 + off + len * ie.size + news.length)).toArray) b ⟨g + 1, cells.drop off ++ cs⟩ (ι b).1 ((ι b).2 + off) _ ty0 hbcase (fun i => rfl)
          (.inr ⟨_, hq, hne, rfl, fun cs2 ty2 fr2 hx => by rw [hc0] at hx; injection hx with hx; injection hx with hx _ _; subst hx; exact hasz⟩)
          hnc
          hnew (by rw [hasz, List.length_append, hdl, ← n1]; omega)
          (fun j x hx => by
            simp only [List.getElem?_toArray]
            rw [splice_get c0.toList news _ _ (by simpa using hfit)]
            by_cases hj : j < len * ie.size
            · rw [List.getElem?_append_left (by omega), List.getElem?_drop] at hx
              obtain ⟨v, p1, p2⟩ := hv0 _ x hx
              exact ⟨v, by rw [if_pos (by omega)]; rw [show (ι b).2 + off + j = (ι b).2 + (off + j) by omega]; simpa using p1, p2⟩
            · rw [List.getElem?_append_right (by omega), hdl] at hx
              have hjl := getElem?_lt hx
              have hjn : j - len * ie.size < news.length := by omega
              refine ⟨news[j - len * ie.size], ?_, n3 _ x _ hx (by simp)⟩
              rw [if_neg (by omega), if_pos (by omega), show (ι b).2 + off + j - ((ι b).2 + off + len * ie.size) = j - len * ie.size by omega]
              simp)
          (by simp) (fun k hk hkk => setRow_other w _ k _ hkk) (fun bk hq2 hgg => absurd hgg (hgne bk hq2)) rfl rfl rfl
        have hlive : liveAt (h.set b (some ⟨g + 1, cells.drop off ++ cs⟩)) b (g + 1) := ⟨⟨g + 1, cells.drop off ++ cs⟩, by simp [hblt], rfl⟩
        refine ⟨_, _, _, hrun, u1, .ref _ _ _ _ _ _ _ (by unfold maxCount at c3; clear hbcase hgne; omega) (live_g hlive).1 (live_g hlive).2 fun _ => .inr ⟨by simp, hroom, ⟨⟨g + 1, cells.drop off ++ cs⟩, by simp [hblt], hnc⟩, _, _, _, (by show _ = _; simp only [if_true]; exact hnew), ?_⟩, u2⟩
        rw [hasz]; simp; omega
      · obtain ⟨olds, o1, o2, o3⟩ := place_list ((place_of_blk hS hb).drop off)
        have hgt : cap < len + k := Nat.lt_of_not_le hroom
        refine hgrow hgt olds (by rw [o1, hdl]) o3 ?_
        exact run_append_grow (P := P) w t ty e inf z t2 f1 f2 ⟨(ι b).1, (ι b).2 + off, none⟩ len cap olds (by rw [o1, hdl, f4]) o2 ⟨blk, offy, none⟩ k cy news (by rw [n1, s1, f4]) n2 hgt h64 (growslice_fits hgt hbb)
  · cases hr

end
end Go.Proofs.YtlophgkgmhcagaaDoor.AM
