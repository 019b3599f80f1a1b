/- The abstract machine, part F: each operation is sound. -/
import Derived.Test.YtlophgkgmhcagaaDoorAmE
import Derived.ChangeKeysEq
set_option linter.unusedVariables false
set_option linter.unusedSimpArgs false
namespace Go.Proofs.YtlophgkgmhcagaaDoor.AM
open Go

section
variable {P : Program} {G : Nat → Option (List PV)} {ι ι' : Nat → Nat × Nat} {h h' : Heap} {w w' : World}

def Sound (P : Program) (G : Nat → Option (List PV)) (ι : Nat → Nat × Nat) (h : Heap) (w : World) (m : Sem Next) (r : AV) (h' : Heap) : Prop :=
  ∃ v w' ι', (m.run P w = .ok (.value v) w' ∨ (m.run P w = .ok .skip w' ∧ v = undef)) ∧ SimH P G ι' h' w' ∧ VRel ι' h' w' r v ∧ Evo h.length ι h w ι' h' w'

theorem Sound.pure (hS : SimH P G ι h w) {m : Sem Next} {r : AV} {v : Value} (hm : m.run P w = .ok (.value v) w) (hr : VRel ι h w r v) : Sound P G ι h w m r h :=
  ⟨v, w, ι, .inl hm, hS, hr, .refl (Nat.le_refl _)⟩

theorem undef_rel : VRel ι h w .undef undef := .tup _ _ rfl fun i x v hx _ => by simp at hx

theorem ints_range {k : IntKind} (n : Int) : InRange k (k.wrap n) := by
  unfold InRange IntKind.wrap IntKind.min IntKind.max IntKind.signed IntKind.bits
  cases k <;> simp <;> (try split) <;> omega

theorem VRel.int_inv {k : IntKind} {n : Int} {v : Value} (hx : VRel ι h w (.p (.int k n)) v) : v = .int k n ∧ InRange k n := by
  cases hx with
  | p _ _ hx => cases hx; exact ⟨rfl, by assumption⟩

theorem VRel.bool_inv {b : Bool} {v : Value} (hx : VRel ι h w (.p (.bool b)) v) : v = .bool b := by
  cases hx with
  | p _ _ hx => cases hx; rfl

theorem VRel.nilp_inv {v : Value} (hx : VRel ι h w (.p .nilp) v) : v = .pointer none := by
  cases hx with
  | p _ _ hx => cases hx; rfl

theorem VRel.nilf_inv {v : Value} (hx : VRel ι h w (.p .nilf) v) : v = .nilFunc := by
  cases hx with
  | p _ _ hx => cases hx; rfl

theorem VRel.nils_inv {v : Value} (hx : VRel ι h w (.p .nils) v) : v = .slice none 0 0 := by
  cases hx with
  | p _ _ hx => cases hx; rfl

theorem VRel.b {b : Bool} : VRel ι h w (.b b) (.bool b) := .p _ _ (.bool b)
theorem VRel.int (k : IntKind) (n : Int) (hn : InRange k n) : VRel ι h w (.p (.int k n)) (.int k n) := .p _ _ (.int k n hn)

theorem VRel.ptr_inv {b g off : Nat} {v : Value} (hx : VRel ι h w (.ptr b g off) v) (hl : liveAt h b g) : v = .pointer (some ⟨(ι b).1, (ι b).2 + off, none⟩) ∧ b < h.length := by
  cases hx with
  | ptr _ _ _ A hb hg hv => rw [hv hl]; exact ⟨rfl, hb⟩

theorem VRel.pin_inv {cells : List PV} {v : Value} (hx : VRel ι h w (.pin cells) v) : ∃ blk off, v = .pointer (some ⟨blk, off, none⟩) ∧ PinRel w (own ι h) cells blk off := by
  cases hx with
  | pin _ blk off hv => exact ⟨blk, off, rfl, hv⟩

theorem live_g {b g : Nat} (hl : liveAt h b g) : b < h.length ∧ ∀ bk : Blk, h[b]? = some (some bk) → g ≤ bk.g := by
  obtain ⟨bk, hq, e⟩ := hl
  refine ⟨getElem?_lt hq, fun bk2 hq2 => ?_⟩
  rw [hq] at hq2
  cases hq2
  omega

theorem ptr_rel {b g : Nat} (hl : liveAt h b g) (off : Nat) : VRel ι h w (.ptr b g off) (.pointer (some ⟨(ι b).1, (ι b).2 + off, none⟩)) :=
  .ptr b g off _ (live_g hl).1 (live_g hl).2 fun _ => rfl

/-! ### What a variable is loaded from, and stored to -/

theorem load_sound (hS : SimH P G ι h w) {t : Nat} {x r : AV} {v : Value} (hx : VRel ι h w x v) (hr : loadA P h t x = some r) : ∃ u, (Instr.loadAt t v).run P w = .ok u w ∧ VRel ι h w r u := by
  unfold loadA at hr
  split at hr
  · rename_i i b g off ht
    obtain ⟨cells, hb, hr⟩ := Option.bind_eq_some_iff.mp hr
    obtain ⟨rfl, _⟩ := hx.ptr_inv (blkAt_live hb)
    obtain ⟨u, h1, h2⟩ := loadVar_place (P := P) ht ((place_of_blk hS hb).drop off) hr
    exact ⟨u, by simpa [Instr.loadAt, Instr.sureAddr] using h1, h2⟩
  · rename_i i cells ht
    obtain ⟨blk, off, rfl, hp⟩ := hx.pin_inv
    obtain ⟨u, h1, h2⟩ := loadVar_place (P := P) ht (place_of_pin hp) hr
    exact ⟨u, by simpa [Instr.loadAt, Instr.sureAddr] using h1, h2⟩
  · cases hr

theorem arr_list {vs : Array Value} {cs : List AV} (hv : ∀ (i : Nat) y u, cs[i]? = some y → vs[i]? = some u → VRel ι h w y u) : ∀ (i : Nat) y u, cs[i]? = some y → vs.toList[i]? = some u → VRel ι h w y u :=
  fun i y u hy hu => hv i y u hy (by simpa using hu)

theorem oneCells {cs : List AV} {vs : List Value} (hl : cs.length = vs.length) (hs : ∀ y ∈ cs, y.scalar = true) (hv : ∀ (i : Nat) y u, cs[i]? = some y → vs[i]? = some u → VRel ι h w y u) : ∀ v ∈ vs, v.oneCell' = true := by
  intro v hm
  obtain ⟨i, hi, rfl⟩ := List.getElem_of_mem hm
  have hi' : i < cs.length := by omega
  exact (hv i cs[i] vs[i] (by simp) (by simp)).oneCell (hs _ (List.getElem_mem hi'))

theorem store_op_sound (hS : SimH P G ι h w) {t : Nat} {a x : AV} {va vx : Value} (ha : VRel ι h w a va) (hx : VRel ι h w x vx) (hr : storeA P h t a x = some h') :
    ∃ w', (Instr.storeAt t va vx).run P w = .ok () w' ∧ SimH P G ι h' w' ∧ Evo h.length ι h w ι h' w' := by
  unfold storeA at hr
  split at hr
  · rename_i i b g off cs ht hcs
    obtain ⟨cells, hb, hr⟩ := Option.bind_eq_some_iff.mp hr
    split at hr
    · rename_i hcond
      cases hr
      obtain ⟨rfl, _⟩ := ha.ptr_inv (blkAt_live hb)
      obtain ⟨q1, q2, q3⟩ := cellsA_rel hx hcs
      have hsz : vx.cells.size = i.size := by omega
      by_cases hne : cells = []
      · subst hne
        have hz : cs = [] := by cases cs with | nil => rfl | cons => simp at hcond
        subst hz
        simp at q1
        have hvs : vx.cells.toList = [] := by rw [Array.eq_empty_of_size_eq_zero q1.symm]
        refine ⟨w, ?_, ?_, ?_⟩
        · simp [Instr.storeAt, Instr.sureAddr, storeVar, Sem.run_bind, run_sizeOf' ht, hsz, hvs, storeCells]
        · simp only [over]
          have : h.set b (some ⟨g, []⟩) = h := by
            apply List.ext_getElem?
            intro k
            by_cases hk : b = k
            · subst hk; rw [blkAt_some hb]; simp [(live_g (blkAt_live hb)).1]
            · rw [List.getElem?_set_ne hk]
          rw [this]; exact hS
        · simp only [over]
          have : h.set b (some ⟨g, []⟩) = h := by
            apply List.ext_getElem?
            intro k
            by_cases hk : b = k
            · subst hk; rw [blkAt_some hb]; simp [(live_g (blkAt_live hb)).1]
            · rw [List.getElem?_set_ne hk]
          rw [this]; exact .refl (Nat.le_refl _)
      · obtain ⟨w', e1, e2, e3⟩ := store_sound hS hb hcond.2 hne (vs := vx.cells.toList) (by simpa using q1) (oneCells (by simpa using q1) q2 (arr_list q3)) (arr_list q3)
        refine ⟨w', ?_, e2, e3⟩
        simp [Instr.storeAt, Instr.sureAddr, storeVar, Sem.run_bind, run_sizeOf' ht, hsz, e1]
    · cases hr
  · cases hr

theorem fieldAddr_sound {t f : Nat} {x r : AV} {v : Value} (hS : SimH P G ι h w) (hx : VRel ι h w x v) (hr : fieldAddrA P h t x f = some r) :
    ∃ u, (Instr.fieldAt t v f).run P w = .ok u w ∧ VRel ι h w r u := by
  unfold fieldAddrA at hr
  split at hr
  · rename_i fs _ _ _ ht
    obtain ⟨inf, d, h1, h2, h3, h4, h5, h6⟩ := tinfo_some ht
    obtain ⟨F, rfl, rfl⟩ := kind_struct h3
    split at hr
    · rename_i o s ft hf
      split at hr
      · cases hr
      · rename_i hs0
        simp only [List.getElem?_map, Option.map_eq_some_iff] at hf
        obtain ⟨fd, hfd, he⟩ := hf
        simp only [Prod.mk.injEq] at he
        obtain ⟨rfl, rfl, rfl⟩ := he
        have hfd' : F[f]? = some fd := by simpa using hfd
        have hsz : (sizeOf fd.type).run P w = .ok (P.cellsOf fd.type) w := by
          have hs0' := hs0
          unfold Program.cellsOf at hs0' ⊢
          cases hq : P.info? fd.type with
          | none => rw [hq] at hs0'; simp at hs0'
          | some i => simp [sizeOf, typeInfo, hq]
        split at hr
        · rename_i b g off
          split at hr
          case isFalse => cases hr
          rename_i hlv
          cases hr
          have hl := blkAt_isSome hlv
          obtain ⟨rfl, _⟩ := hx.ptr_inv hl
          refine ⟨_, ?_, ptr_rel hl _⟩
          simp [Instr.fieldAt, Sem.run_bind, run_underlying h2, hfd', Instr.sureAddr, fieldPlace, hsz, hs0, Addr.add_lit, Nat.add_assoc]
        · rename_i cells
          cases hr
          obtain ⟨blk, off, rfl, hp⟩ := hx.pin_inv
          refine ⟨.pointer (some ⟨blk, off + fd.offset, none⟩), ?_, .pin _ _ _ ⟨hp.1, hp.2.1, fun j x hx => ?_⟩⟩
          · simp [Instr.fieldAt, Sem.run_bind, run_underlying h2, hfd', Instr.sureAddr, fieldPlace, hsz, hs0, Addr.add_lit]
          · rw [List.getElem?_drop] at hx
            rw [Nat.add_assoc]
            exact hp.2.2 _ x hx
        · cases hr
    · cases hr
  · cases hr

theorem run_sizeA {P : Program} {e : Nat} (h0 : sizeA P e ≠ 0) (w : World) : (sizeOf e).run P w = .ok (sizeA P e) w := by
  unfold sizeA at h0 ⊢
  cases hq : tinfo P e with
  | none => rw [hq] at h0; simp at h0
  | some i => exact run_sizeOf' hq w

theorem VRel.sl_inv {rows : List (List PV)} {v : Value} (hx : VRel ι h w (.p (.sl rows)) v) : ∃ A c, v = .slice A rows.length c ∧ rows.length ≤ 9223372036854775807 ∧
    (rows = [] ∨ ∃ blk off sz, rows.length ≤ c ∧ A = some ⟨blk, off, none⟩ ∧ ¬ own ι h blk ∧ blk < w.heap.size ∧ (∀ row ∈ rows, row.length = sz) ∧
      ∀ i j x, get2 rows i j = some x → ∃ u, w.cell? ⟨blk, off + (i * sz + j), none⟩ = some u ∧ PRel w (own ι h) x u) := by
  cases hx with
  | p _ _ hx =>
    cases hx with
    | slz A c => exact ⟨A, c, rfl, by simp, .inl rfl⟩
    | sl _ blk off c sz f hc hn ho hb hsz hcell hrec =>
      exact ⟨_, c, rfl, hn, .inr ⟨blk, off, sz, hc, rfl, ho, hb, hsz, fun i j x hx => ⟨_, hcell i j x hx, hrec i j x hx⟩⟩⟩

theorem VRel.ref_inv {b g off sz len : Nat} {v : Value} (hx : VRel ι h w (.ref b g off sz len) v) (hl : liveAt h b g) : ∃ A c, v = .slice A len c ∧ len ≤ 9223372036854775807 ∧
    ((len = 0 ∧ c = 0) ∨ (A = some ⟨(ι b).1, (ι b).2 + off, none⟩ ∧ len ≤ c ∧ (∃ bk : Blk, h[b]? = some (some bk) ∧ bk.cells ≠ []) ∧
      ∃ cs ty fr, w.heap[(ι b).1]? = some (.cells cs ty fr) ∧ (ι b).2 + off + c * sz ≤ cs.size)) := by
  cases hx with
  | ref _ _ _ _ _ A c hn hb hg hv => exact ⟨A, c, rfl, hn, hv hl⟩

theorem indexAddr_sound (hS : SimH P G ι h w) {t : Nat} {x ix r : AV} {v vi : Value} (hx : VRel ι h w x v) (hi : VRel ι h w ix vi) (hr : indexAddrA P h t x ix = some r) :
    ∃ u, (Instr.indexAt t v vi).run P w = .ok u w ∧ VRel ι h w r u := by
  unfold indexAddrA at hr
  split at hr
  · rename_i n e _ _ _ k i ht
    obtain ⟨rfl, _⟩ := hi.int_inv
    obtain ⟨inf, d, h1, h2, h3, h4, h5, h6⟩ := tinfo_some ht
    have hd := kind_array h3
    subst hd
    split at hr
    case isFalse => cases hr
    rename_i hin
    split at hr
    · rename_i b g off
      split at hr
      case isFalse => cases hr
      rename_i hlv
      cases hr
      have hl := blkAt_isSome hlv
      obtain ⟨rfl, _⟩ := hx.ptr_inv hl
      refine ⟨_, ?_, ptr_rel hl _⟩
      simp [Instr.indexAt, asIntOf, Sem.run_bind, run_underlying h2, Instr.sureAddr, hin.1, hin.2.1, run_sizeA hin.2.2, Addr.add_lit, Nat.add_assoc]
    · rename_i cells
      cases hr
      obtain ⟨blk, off, rfl, hp⟩ := hx.pin_inv
      refine ⟨.pointer (some ⟨blk, off + i.toNat * sizeA P e, none⟩), ?_, .pin _ _ _ ⟨hp.1, hp.2.1, fun j x hx => ?_⟩⟩
      · simp [Instr.indexAt, asIntOf, Sem.run_bind, run_underlying h2, Instr.sureAddr, hin.1, hin.2.1, run_sizeA hin.2.2, Addr.add_lit, Nat.add_assoc]
      · rw [List.getElem?_drop] at hx
        rw [Nat.add_assoc]
        exact hp.2.2 _ x hx
    · cases hr
  · rename_i e _ _ _ k i ht
    obtain ⟨rfl, _⟩ := hi.int_inv
    obtain ⟨inf, d, h1, h2, h3, h4, h5, h6⟩ := tinfo_some ht
    have hd := kind_slice h3
    subst hd
    split at hr
    · rename_i rows
      split at hr
      case isFalse => cases hr
      rename_i hi0
      split at hr
      · rename_i row hrow
        split at hr
        case isFalse => cases hr
        rename_i hsz
        cases hr
        obtain ⟨A, c, rfl, _, hcase⟩ := hx.sl_inv
        rcases hcase with rfl | ⟨blk, off, sz, hc, rfl, ho, hb, hs, hcell⟩
        · simp at hrow
        · have hlt := getElem?_lt hrow
          have hrsz : sz = sizeA P e := by rw [← hsz.1]; exact (hs row (List.mem_of_getElem? hrow)).symm
          subst hrsz
          refine ⟨.pointer (some ⟨blk, off + i.toNat * sizeA P e, none⟩), ?_, .pin _ _ _ ⟨ho, hb, fun j x hx => ?_⟩⟩
          · have hi1 : i < (rows.length : Int) := by omega
            simp [Instr.indexAt, asIntOf, Sem.run_bind, run_underlying h2, Instr.sureAddr, hi0, hi1, run_sizeA hsz.2, Addr.add_lit, Nat.add_assoc]
          · obtain ⟨u, hu1, hu2⟩ := hcell i.toNat j x (by simp [get2, hrow, hx])
            exact ⟨u, by rw [Nat.add_assoc]; exact hu1, hu2⟩
      · cases hr
    · rename_i b g off sz len
      split at hr
      case isFalse => cases hr
      rename_i hc
      obtain ⟨c1, c2, c3, c4, c5⟩ := hc
      cases hr
      obtain ⟨A, c, rfl, _, hcase⟩ := hx.ref_inv (blkAt_isSome c5)
      rcases hcase with ⟨hz, _⟩ | ⟨rfl, _⟩
      · omega
      · refine ⟨_, ?_, ptr_rel (blkAt_isSome c5) _⟩
        have hi1 : i < (len : Int) := by omega
        subst c3
        simp [Instr.indexAt, asIntOf, Sem.run_bind, run_underlying h2, Instr.sureAddr, c1, hi1, run_sizeA c4, Addr.add_lit, Nat.add_assoc]
    · cases hr
  · cases hr

/-- A part of a value. -/
theorem part_sound {t : Nat} {i : TI} (ht : tinfo P t = some i) {cells : List AV} {vs : Array Value} (hl : cells.length = vs.size)
    (hv : ∀ (j : Nat) x v, cells[j]? = some x → vs[j]? = some v → VRel ι h w x v) {o : Nat} {r : AV} (hr : takeA i (cells.drop o) = some r) :
    ∃ v, (part t vs o).run P w = .ok v w ∧ VRel ι h w r v := by
  unfold takeA at hr
  unfold part
  simp only [Sem.run_bind, run_isAgg ht, Result.andThen_ok]
  split at hr
  · rename_i hagg
    split at hr
    · rename_i hle
      cases hr
      refine ⟨_, by simp [hagg, Sem.run_bind, run_sizeOf' ht]; rfl, .agg _ _ ?_ fun j x v hx hv' => ?_⟩
      · simp at hle ⊢; omega
      · rw [List.getElem?_take] at hx
        split at hx
        · rename_i hj
          rw [List.getElem?_drop] at hx
          refine hv _ x v hx ?_
          rw [Array.getElem?_extract] at hv'
          split at hv'
          · exact hv'
          · cases hv'
        · cases hx
    · cases hr
  · rename_i hagg
    split at hr
    · rename_i x rest hd
      cases hr
      have hx : cells[o]? = some r := by
        have := congrArg (·[0]?) hd
        simpa [List.getElem?_drop] using this
      have ho : o < vs.size := by have := getElem?_lt hx; omega
      refine ⟨vs[o], by simp [hagg, ho], hv o r _ hx (by simp [ho])⟩
    · cases hr

theorem VRel.agg_inv {cells : List AV} {v : Value} (hx : VRel ι h w (.agg cells) v) : ∃ vs, v = .agg vs ∧ cells.length = vs.size ∧ ∀ (i : Nat) x v, cells[i]? = some x → vs[i]? = some v → VRel ι h w x v := by
  cases hx with
  | agg _ vs hl hv => exact ⟨vs, rfl, hl, hv⟩

theorem index_sound {t : Nat} {x ix r : AV} {v vi : Value} (hx : VRel ι h w x v) (hi : VRel ι h w ix vi) (hr : indexA P t x ix = some r) :
    ∃ u, (Instr.index t v vi).run P w = .ok u w ∧ VRel ι h w r u := by
  unfold indexA at hr
  split at hr
  · rename_i n e _ _ _ cells k i ht
    obtain ⟨rfl, _⟩ := hi.int_inv
    obtain ⟨inf, d, h1, h2, h3, h4, h5, h6⟩ := tinfo_some ht
    have hd := kind_array h3
    subst hd
    split at hr
    case isFalse => cases hr
    rename_i hin
    obtain ⟨ie, he, hr⟩ := Option.bind_eq_some_iff.mp hr
    obtain ⟨vs, rfl, hl, hv⟩ := hx.agg_inv
    obtain ⟨u, p1, p2⟩ := part_sound (P := P) he hl hv hr
    exact ⟨u, by simp [Instr.index, asIntOf, Sem.run_bind, run_underlying h2, hin, run_sizeOf' he, p1], p2⟩
  · cases hr

theorem field_sound {t f : Nat} {x r : AV} {v : Value} (hx : VRel ι h w x v) (hr : fieldA P t x f = some r) :
    ∃ u, (Instr.field t v f).run P w = .ok u w ∧ VRel ι h w r u := by
  unfold fieldA at hr
  split at hr
  · rename_i fs _ _ _ cells ht
    obtain ⟨inf, d, h1, h2, h3, h4, h5, h6⟩ := tinfo_some ht
    obtain ⟨F, rfl, rfl⟩ := kind_struct h3
    split at hr
    · rename_i o s ft hf
      simp only [List.getElem?_map, Option.map_eq_some_iff] at hf
      obtain ⟨fd, hfd, he⟩ := hf
      simp only [Prod.mk.injEq] at he
      obtain ⟨rfl, rfl, rfl⟩ := he
      have hfd' : F[f]? = some fd := by simpa using hfd
      obtain ⟨ie, he, hr⟩ := Option.bind_eq_some_iff.mp hr
      obtain ⟨vs, rfl, hl, hv⟩ := hx.agg_inv
      obtain ⟨u, p1, p2⟩ := part_sound (P := P) he hl hv hr
      exact ⟨u, by simp [Instr.field, Sem.run_bind, run_underlying h2, hfd', asAgg, p1], p2⟩
    · cases hr
  · cases hr

theorem eqIn_bool {t : Nat} (h2 : P.underlying t = some .bool) (a b : Bool) (w : World) : (Op.equal t (.bool a) (.bool b)).run P w = .ok (a == b) w :=
  run_equalIn_bool' w 9999 t a b h2

theorem eqIn_ptr1 (d : Nat) {t e : Nat} (h2 : P.underlying t = some (.pointer e)) (w : World) : (Op.equalIn (d + 1) t (.pointer none) (.pointer none)).run P w = .ok true w := by
  simp [Op.equalIn, Sem.run_bind, run_underlying h2]
theorem eqIn_ptr {t e : Nat} (h2 : P.underlying t = some (.pointer e)) (w : World) : (Op.equal t (.pointer none) (.pointer none)).run P w = .ok true w := eqIn_ptr1 9999 h2 w

theorem eqIn_func1 (d : Nat) {t : Nat} {a b c} (h2 : P.underlying t = some (.func a b c)) (w : World) : (Op.equalIn (d + 1) t .nilFunc .nilFunc).run P w = .ok true w := by
  simp [Op.equalIn, Sem.run_bind, run_underlying h2]
theorem eqIn_func {t : Nat} {a b c} (h2 : P.underlying t = some (.func a b c)) (w : World) : (Op.equal t .nilFunc .nilFunc).run P w = .ok true w := eqIn_func1 9999 h2 w

theorem eqIn_fn1 (d : Nat) {t : Nat} {a b c} (h2 : P.underlying t = some (.func a b c)) (f : Fn) (x y : Array Value) (w : World) : (Op.equalIn (d + 1) t (.func f x y) .nilFunc).run P w = .ok false w := by
  simp [Op.equalIn, Sem.run_bind, run_underlying h2]
theorem eqIn_fn {t : Nat} {a b c} (h2 : P.underlying t = some (.func a b c)) (f : Fn) (x y : Array Value) (w : World) : (Op.equal t (.func f x y) .nilFunc).run P w = .ok false w := eqIn_fn1 9999 h2 f x y w

theorem eqCells_sound {e : Nat} {isInt : Bool} {d : Nat} (hc : P.cellsOf e = 1) (he : if isInt then ∃ k, P.underlying e = some (.int k) else P.underlying e = some .bool) {X Y : Array Value} :
    ∀ (xs ys : List AV) (s : Nat) (b : Bool), eqCells isInt xs ys = some b → (∀ (j : Nat) x, xs[j]? = some x → ∃ v, X[s + j]? = some v ∧ VRel ι h w x v) → (∀ (j : Nat) x, ys[j]? = some x → ∃ v, Y[s + j]? = some v ∧ VRel ι h w x v) →
      (Op.eqItems (d + 1) e (P.cellsOf e) X Y (List.range' s xs.length)).run P w = .ok b w := by
  have hp : P.plainKey e = true := by
    cases isInt with
    | true => obtain ⟨k, hk⟩ := he; simp [Program.plainKey, hk]
    | false => simp at he; simp [Program.plainKey, he]
  intro xs
  induction xs with
  | nil =>
    intro ys s b hb _ _
    cases ys with
    | nil => cases isInt <;> (simp [eqCells] at hb; subst hb; simp [Op.eqItems])
    | cons y r => cases isInt <;> simp [eqCells] at hb
  | cons x r ih =>
    intro ys s b hb hx hy
    have nx : ∀ (j : Nat) z, r[j]? = some z → ∃ v, X[s + 1 + j]? = some v ∧ VRel ι h w z v := fun j z hz => by
      have := hx (j + 1) z (by simpa using hz)
      rwa [show s + (j + 1) = s + 1 + j by omega] at this
    obtain ⟨v, hv, hxv⟩ := hx 0 x rfl
    simp only [Nat.add_zero] at hv
    simp only [List.length_cons, List.range'_succ, Op.eqItems, hc, Nat.mul_one] at *
    unfold eqCells at hb
    split at hb
    · rename_i h2; simp at h2
    · rename_i k a r1 k' b' r' h1
      cases h1
      have ny : ∀ (j : Nat) z, r'[j]? = some z → ∃ v, Y[s + 1 + j]? = some v ∧ VRel ι h w z v := fun j z hz => by
        have := hy (j + 1) z (by simpa using hz)
        rwa [show s + (j + 1) = s + 1 + j by omega] at this
      obtain ⟨u, hu, hyu⟩ := hy 0 _ rfl
      simp only [Nat.add_zero] at hu
      split at hb
      · rename_i hk
        subst hk
        obtain ⟨c, hc', rfl⟩ := Option.map_eq_some_iff.mp hb
        obtain ⟨rfl, _⟩ := hxv.int_inv
        obtain ⟨rfl, _⟩ := hyu.int_inv
        obtain ⟨k2, hk2⟩ := he
        have q := ih r' (s + 1) c hc' nx ny
        have p3 : (Op.equalIn (d + 1) e (.int k a) (.int k b')).run P w = .ok (a == b') w := run_equalIn_int w d e k k2 a b' hk2
        simp only [Sem.run_bind, run_part_plain w hp hv, run_part_plain w hp hu, p3, Result.andThen_ok]
        cases hab : (a == b') <;> simp [q]
      · cases hb
    · rename_i a r1 b' r' h1
      cases h1
      have ny : ∀ (j : Nat) z, r'[j]? = some z → ∃ v, Y[s + 1 + j]? = some v ∧ VRel ι h w z v := fun j z hz => by
        have := hy (j + 1) z (by simpa using hz)
        rwa [show s + (j + 1) = s + 1 + j by omega] at this
      obtain ⟨u, hu, hyu⟩ := hy 0 _ rfl
      simp only [Nat.add_zero] at hu
      obtain ⟨c, hc', rfl⟩ := Option.map_eq_some_iff.mp hb
      have e1 := hxv.bool_inv
      have e2 := hyu.bool_inv
      subst e1; subst e2
      have q := ih r' (s + 1) c hc' nx ny
      have p3 : (Op.equalIn (d + 1) e (.bool a) (.bool b')).run P w = .ok (a == b') w := run_equalIn_bool' w d e a b' (by simpa using he)
      simp only [Sem.run_bind, run_part_plain w hp hv, run_part_plain w hp hu, p3, Result.andThen_ok]
      cases hab : (a == b') <;> simp [q]
    · cases hb

theorem eqAgg_sound {t : Nat} {xs ys : List AV} {vs us : Array Value} {b : Bool} (hx : VRel ι h w (.agg xs) (.agg vs)) (hy : VRel ι h w (.agg ys) (.agg us)) (hb : eqA P t (.agg xs) (.agg ys) = some b) :
    P.eqGuardType P.depth t = false ∧ (Op.equal t (.agg vs) (.agg us)).run P w = .ok b w := by
  unfold eqA at hb
  simp only at hb
  split at hb
  · rename_i n e _ _ _ ht
    obtain ⟨inf, d, h1, h2, h3, h4, _⟩ := tinfo_some ht
    have := kind_array h3; subst this
    split at hb
    · rename_i hn
      refine ⟨hn.2, ?_⟩
      obtain ⟨vs', e1, l1, v1⟩ := hx.agg_inv
      cases e1
      obtain ⟨us', e2, l2, v2⟩ := hy.agg_inv
      cases e2
      have gx : ∀ (j : Nat) x, xs[j]? = some x → ∃ v, vs[0 + j]? = some v ∧ VRel ι h w x v := fun j x hx => by
        have hj : j < vs.size := by have := getElem?_lt hx; omega
        exact ⟨vs[j], by rw [Nat.zero_add]; exact Array.getElem?_eq_getElem hj, v1 j x _ hx (Array.getElem?_eq_getElem hj)⟩
      have gy : ∀ (j : Nat) x, ys[j]? = some x → ∃ v, us[0 + j]? = some v ∧ VRel ι h w x v := fun j x hx => by
        have hj : j < us.size := by have := getElem?_lt hx; omega
        exact ⟨us[j], by rw [Nat.zero_add]; exact Array.getElem?_eq_getElem hj, v2 j x _ hx (Array.getElem?_eq_getElem hj)⟩
      split at hb
      · rename_i k _ _ hte
        obtain ⟨ie, de, g1, g2, g3, g4, _⟩ := tinfo_some hte
        have := kind_int g3; subst this
        have hc : P.cellsOf e = 1 := by simp [Program.cellsOf, g1, g4]
        have q := eqCells_sound (P := P) (isInt := true) (d := 9998) hc ⟨k, g2⟩ xs ys 0 b hb gx gy
        have := run_equalIn_array (P := P) w 9999 vs us h2 g1
        rw [← hn.1, ← List.range_eq_range'] at q
        exact this.trans q
      · rename_i _ _ hte
        obtain ⟨ie, de, g1, g2, g3, g4, _⟩ := tinfo_some hte
        have := kind_bool g3; subst this
        have hc : P.cellsOf e = 1 := by simp [Program.cellsOf, g1, g4]
        have q := eqCells_sound (P := P) (isInt := false) (d := 9998) hc g2 xs ys 0 b hb gx gy
        have := run_equalIn_array (P := P) w 9999 vs us h2 g1
        rw [← hn.1, ← List.range_eq_range'] at q
        exact this.trans q
      · cases hb
    · cases hb
  · cases hb

theorem bin_sound {op : BinOp} {t : Nat} {x y r : AV} {v u : Value} (hx : VRel ι h w x v) (hy : VRel ι h w y u) (hr : binA P op t x y = some r) (X Y : Operand) :
    ∃ q, (do eqGuard op t X Y v u; binOp op t v u : Sem Value).run P w = .ok q w ∧ VRel ι h w r q := by
  unfold binA at hr
  split at hr
  · rename_i r' h1
    cases hr
    unfold opBin at h1
    split at h1
    · rename_i k a k' b
      obtain ⟨rfl, ha⟩ := hx.int_inv
      obtain ⟨rfl, hb⟩ := hy.int_inv
      split at h1
      case isFalse => cases h1
      rename_i hk
      subst hk
      have hg : (eqGuard op t X Y (.int k a) (.int k b)).run P w = .ok () w := by
        unfold eqGuard; split <;> rfl
      simp only [Sem.run_bind, hg, Result.andThen_ok]
      split at h1
      · cases h1; exact ⟨.int k (k.wrap (a + b)), by simp [binOp, Op.intArith], .int _ _ (ints_range _)⟩
      · cases h1; exact ⟨.int k (k.wrap (a - b)), by simp [binOp, Op.intArith], .int _ _ (ints_range _)⟩
      · cases h1; exact ⟨.int k (k.wrap (a * b)), by simp [binOp, Op.intArith], .int _ _ (ints_range _)⟩
      · split at h1
        · cases h1
        · rename_i hz; cases h1; exact ⟨.int k (k.wrap (a.tdiv b)), by simp [binOp, Op.intDiv, hz], .int _ _ (ints_range _)⟩
      · split at h1
        · cases h1
        · rename_i hz
          split at h1
          · rename_i hr; cases h1; exact ⟨.int k (a.tmod b), by simp [binOp, Op.intDiv, hz], .int _ _ (by simpa [inR, InRange] using hr)⟩
          · cases h1
      · obtain ⟨c, hc, rfl⟩ := Option.map_eq_some_iff.mp h1
        unfold cmpInt at hc
        split at hc
        · cases hc; exact ⟨.bool (a == b), by simp [binOp, Op.intCmp], .b⟩
        · cases hc; exact ⟨.bool (a != b), by simp [binOp, Op.intCmp], .b⟩
        · cases hc; exact ⟨.bool (decide (a < b)), by simp [binOp, Op.intCmp], .b⟩
        · cases hc; exact ⟨.bool (decide (a ≤ b)), by simp [binOp, Op.intCmp], .b⟩
        · cases hc; exact ⟨.bool (decide (b < a)), by simp [binOp, Op.intCmp], .b⟩
        · cases hc; exact ⟨.bool (decide (b ≤ a)), by simp [binOp, Op.intCmp], .b⟩
        · cases hc
    · cases h1
  · have hE : ∀ b, eqA P t x y = some b → (op = .eql ∨ op = .neq) → (eqGuard op t X Y v u).run P w = .ok () w ∧ (Op.equal t v u).run P w = .ok b w ∧ (∀ k n, v ≠ .int k n) ∧ (∀ s, v ≠ .string s) ∧ (∀ k n, v ≠ .float k n) ∧ (∀ k n m, v ≠ .complex k n m) := by
      intro b hb hop
      unfold eqA at hb
      split at hb
      · have e1 := hx.bool_inv; have e2 := hy.bool_inv; subst e1; subst e2
        split at hb
        · rename_i ht
          cases hb
          obtain ⟨inf, d, h1, h2, h3, _⟩ := tinfo_some ht
          have := kind_bool h3; subst this
          refine ⟨by unfold eqGuard; rcases hop with rfl | rfl <;> rfl, eqIn_bool h2 _ _ _, by simp, by simp, by simp, by simp⟩
        · cases hb
      · have e1 := hx.nilp_inv; have e2 := hy.nilp_inv; subst e1; subst e2
        split at hb
        · rename_i ht
          cases hb
          obtain ⟨inf, d, h1, h2, h3, _⟩ := tinfo_some ht
          obtain ⟨e, this⟩ := kind_ptr h3; subst this
          refine ⟨by unfold eqGuard; rcases hop with rfl | rfl <;> rfl, eqIn_ptr h2 _, by simp, by simp, by simp, by simp⟩
        · cases hb
      · have e1 := hx.nilf_inv; have e2 := hy.nilf_inv; subst e1; subst e2
        split at hb
        · rename_i ht
          cases hb
          obtain ⟨inf, d, h1, h2, h3, _⟩ := tinfo_some ht
          obtain ⟨_, _, _, this⟩ := kind_func h3; subst this
          refine ⟨by unfold eqGuard; rcases hop with rfl | rfl <;> rfl, eqIn_func h2 _, by simp, by simp, by simp, by simp⟩
        · cases hb
      · have e2 := hy.nilf_inv; subst e2
        cases hx with
        | fn f cells vs hl hv =>
          split at hb
          · rename_i ht
            cases hb
            obtain ⟨inf, d, h1, h2, h3, _⟩ := tinfo_some ht
            obtain ⟨_, _, _, this⟩ := kind_func h3; subst this
            refine ⟨by unfold eqGuard; rcases hop with rfl | rfl <;> rfl, eqIn_fn h2 _ _ _ _, by simp, by simp, by simp, by simp⟩
          · cases hb
      · obtain ⟨vs, rfl, _⟩ := hx.agg_inv
        obtain ⟨us, rfl, _⟩ := hy.agg_inv
        obtain ⟨q1, q2⟩ := eqAgg_sound (P := P) hx hy (b := b) (by unfold eqA; exact hb)
        refine ⟨?_, q2, by simp, by simp, by simp, by simp⟩
        unfold eqGuard
        rcases hop with rfl | rfl <;> simp [Sem.run_bind, run_program, q1]
      · cases hb
    split at hr
    · obtain ⟨b, hb, rfl⟩ := Option.map_eq_some_iff.mp hr
      obtain ⟨g1, g2, n1, n2, n3, n4⟩ := hE b hb (.inl rfl)
      refine ⟨.bool b, ?_, .b⟩
      simp only [Sem.run_bind, g1, Result.andThen_ok]
      have : binOp .eql t v u = (do Pure.pure (.bool (← Op.equal t v u)) : Sem Value) := by
        cases v <;> first | exact absurd rfl (n1 _ _) | exact absurd rfl (n2 _) | exact absurd rfl (n3 _ _) | exact absurd rfl (n4 _ _ _) | rfl
      rw [this]; simp [Sem.run_bind, g2]
    · obtain ⟨b, hb, rfl⟩ := Option.map_eq_some_iff.mp hr
      obtain ⟨g1, g2, n1, n2, n3, n4⟩ := hE b hb (.inr rfl)
      refine ⟨.bool (!b), ?_, .b⟩
      simp only [Sem.run_bind, g1, Result.andThen_ok]
      have : binOp .neq t v u = (do Pure.pure (.bool (!(← Op.equal t v u))) : Sem Value) := by
        cases v <;> first | exact absurd rfl (n1 _ _) | exact absurd rfl (n2 _) | exact absurd rfl (n3 _ _) | exact absurd rfl (n4 _ _ _) | rfl
      rw [this]; simp [Sem.run_bind, g2]
    · cases hr

end
end Go.Proofs.YtlophgkgmhcagaaDoor.AM
