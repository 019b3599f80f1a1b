/- The abstract machine, part G: the other operations, and all of them. -/
import Derived.Test.YtlophgkgmhcagaaDoorAmF
set_option linter.unusedVariables false
set_option linter.unusedSimpArgs false
namespace Go.Proofs.YtlophgkgmhcagaaDoor.AM
open Go

section
variable {P : Program} {G : Nat → Option (List PV)} {ι ι' : Nat → Nat × Nat} {h h' : Heap} {w w' : World}

theorem bound_sound {ρ : Operand → Value} {ρA : Operand → Option AV} (hρ : ∀ x a, ρA x = some a → VRel ι h w a (ρ x)) {x : Option Operand} {d n : Nat} (hb : boundA (x.map ρA) d = some n) :
    (x = none ∧ n = d) ∨ ∃ k i, x.map ρ = some (.int k i) ∧ 0 ≤ i ∧ i.toNat = n := by
  cases x with
  | none => simp [boundA] at hb; exact .inl ⟨rfl, hb.symm⟩
  | some X =>
    simp only [Option.map_some, boundA] at hb
    split at hb
    · cases ‹some (ρA X) = none›
    · rename_i k i heq
      have he : ρA X = some (.p (.int k i)) := Option.some.inj heq
      split at hb
      · rename_i h0
        obtain ⟨e, _⟩ := (hρ X _ he).int_inv
        exact .inr ⟨k, i, by simp [e], h0, Option.some.inj hb⟩
      · cases hb
    · cases hb

theorem run_bounds (sl : Bool) (len cap : Nat) {ρ : Operand → Value} {ρA : Operand → Option AV} (hρ : ∀ x a, ρA x = some a → VRel ι h w a (ρ x)) {lo hi : Option Operand} {l m : Nat}
    (h1 : boundA (lo.map ρA) 0 = some l) (h2 : boundA (hi.map ρA) len = some m) (hlm : l ≤ m) (hm : m ≤ cap) :
    (Instr.sliceBounds sl len cap (lo.map ρ) (hi.map ρ) none).run P w = .ok (l, m, cap) w := by
  have key : ∀ (k : IntKind) (i : Int) (y : Nat) (code : BoundsCode), 0 ≤ i → i ≤ y → (Instr.sliceBound (.int k i) y code).run P w = .ok i.toNat w := fun k i y code h0 h1 => run_sliceBound w k i y code h0 h1
  rcases bound_sound hρ h1 with ⟨rfl, rfl⟩ | ⟨k, i, e1, i0, rfl⟩ <;> rcases bound_sound hρ h2 with ⟨rfl, rfl⟩ | ⟨k', i', e2, i0', rfl⟩
  · simp [Instr.sliceBounds]
  · simp only [Instr.sliceBounds, e2, Option.map_none, Sem.run_bind, Sem.run_pure, Result.andThen_ok, key k' i' cap _ i0' (by omega)]
  · simp only [Instr.sliceBounds, e1, Option.map_none, Sem.run_bind, Sem.run_pure, Result.andThen_ok, key k i m _ i0 (by omega)]
  · simp only [Instr.sliceBounds, e1, e2, Sem.run_bind, Sem.run_pure, Result.andThen_ok, key k' i' cap _ i0' (by omega), key k i i'.toNat _ i0 (by omega)]

theorem mem_take_drop {α : Type} {l : List α} {a b : Nat} {x : α} (hx : x ∈ (l.drop a).take b) : x ∈ l := List.mem_of_mem_drop (List.mem_of_mem_take hx)

theorem slice_sound (hS : SimH P G ι h w) {ρ : Operand → Value} {ρA : Operand → Option AV} (hρ : ∀ x a, ρA x = some a → VRel ι h w a (ρ x)) {t : Nat} {x r : AV} {v : Value} {lo hi : Option Operand}
    (hx : VRel ι h w x v) (hr : sliceA P h t x (lo.map ρA) (hi.map ρA) = some r) :
    ∃ u, (Instr.sliceAt t v (lo.map ρ) (hi.map ρ) none).run P w = .ok u w ∧ VRel ι h w r u := by
  unfold sliceA at hr
  split at hr
  · rename_i n e _ _ _ ht
    obtain ⟨inf, d, h1, h2, h3, h4, h5, h6⟩ := tinfo_some ht
    have hd := kind_array h3
    subst hd
    split at hr
    · rename_i b g off l m hl hm
      obtain ⟨cells, hb, hr⟩ := Option.bind_eq_some_iff.mp hr
      split at hr
      case isFalse => cases hr
      rename_i hc
      obtain ⟨c1, c2, c3, c4, c5, c6⟩ := hc
      cases hr
      obtain ⟨rfl, hbl⟩ := hx.ptr_inv (blkAt_live hb)
      have hne : cells ≠ [] := by
        intro hz0; subst hz0
        have : 0 < n * sizeA P e := Nat.mul_pos (by omega) (by omega)
        simp only [List.length_nil] at c6
        omega
      obtain ⟨c, ty, hcc, hcl, _⟩ := hS.hr.blk b _ (blkAt_some hb) hne
      have hcl' : (ι b).2 + cells.length ≤ c.size := hcl
      refine ⟨.slice (some ⟨(ι b).1, (ι b).2 + (off + l * sizeA P e), none⟩) (m - l) (n - l), ?_, .ref _ _ _ _ _ _ _ (by omega) hbl (live_g (blkAt_live hb)).2 fun _ => .inr ⟨rfl, by omega, ⟨_, blkAt_some hb, hne⟩, c, ty, _, hcc, ?_⟩⟩
      · have hbd := run_bounds (P := P) false n n hρ hl hm c1 c2
        have hne' : n ≠ l := by omega
        simp only [Instr.sliceAt, Sem.run_bind, run_underlying h2, Result.andThen_ok, Instr.sureAddr, Sem.run_pure, hbd, run_sizeA c5, hne', if_false, Addr.add_lit, Nat.add_assoc]
      · have : (n - l) * sizeA P e + l * sizeA P e = n * sizeA P e := by rw [← Nat.add_mul]; congr 1; omega
        omega
    · cases hr
  · rename_i e _ _ _ ht
    obtain ⟨inf, d, h1, h2, h3, h4, h5, h6⟩ := tinfo_some ht
    have hd := kind_slice h3
    subst hd
    split at hr
    · rename_i rows
      split at hr
      · rename_i l m hl hm
        split at hr
        case isFalse => cases hr
        rename_i hc
        obtain ⟨c1, c2, c3, c4⟩ := hc
        cases hr
        obtain ⟨A, c, rfl, hn, hcase⟩ := hx.sl_inv
        have hall : ∀ row ∈ rows, row.length = sizeA P e := by simpa using c4
        have hlen : ((rows.drop l).take (m - l)).length = m - l := by simp; omega
        by_cases hz : m - l = 0
        · have he : (rows.drop l).take (m - l) = [] := List.eq_nil_of_length_eq_zero (by omega)
          rcases hcase with rfl | ⟨blk, off, sz, hcc, rfl, ho, hb, hs, hcell⟩
          · simp at c2
            have : l = 0 := by omega
            subst this; subst c2
            have hbd := run_bounds (P := P) true 0 c hρ hl (by simpa using hm) (Nat.le_refl _) (Nat.zero_le _)
            refine ⟨.slice (if c = 0 then A else A.map (·.add (0 * sizeA P e))) 0 c, ?_, .p _ _ (by simp; exact .slz _ _)⟩
            simp [Instr.sliceAt, Instr.slice, Sem.run_bind, run_underlying h2, hbd, run_sizeA c3]
          · have hbd := run_bounds (P := P) true rows.length c hρ hl hm c1 (by omega)
            rw [he]
            refine ⟨.slice (if c = l then some ⟨blk, off, none⟩ else (some (⟨blk, off, none⟩ : Addr)).map (·.add (l * sizeA P e))) 0 (c - l), ?_, .p _ _ (.slz _ _)⟩
            simp [Instr.sliceAt, Instr.slice, Sem.run_bind, run_underlying h2, hbd, run_sizeA c3, hz]
        · rcases hcase with rfl | ⟨blk, off, sz, hcc, rfl, ho, hb, hs, hcell⟩
          · simp at c2; omega
          · have hbd := run_bounds (P := P) true rows.length c hρ hl hm c1 (by omega)
            have hsz : sz = sizeA P e := by
              have : 0 < rows.length := by omega
              have hm0 : rows[0] ∈ rows := List.getElem_mem this
              rw [← hs _ hm0, hall _ hm0]
            subst hsz
            have hne' : c ≠ l := by omega
            refine ⟨.slice (some ⟨blk, off + l * sizeA P e, none⟩) (m - l) (c - l), ?_, .p _ _ ?_⟩
            · simp only [Instr.sliceAt, Instr.slice, Sem.run_bind, run_underlying h2, Result.andThen_ok, hbd, run_sizeA c3, hne', if_false, Option.map_some, Addr.add_lit, Sem.run_pure]
            · have hf : ∀ q : Nat × Nat, ∃ v, ∀ x, get2 ((rows.drop l).take (m - l)) q.1 q.2 = some x → w.cell? ⟨blk, off + l * sizeA P e + (q.1 * sizeA P e + q.2), none⟩ = some v ∧ PRel w (own ι h) x v := by
                intro q
                cases hq : get2 ((rows.drop l).take (m - l)) q.1 q.2 with
                | none => exact ⟨undef, fun x hx => by cases hx⟩
                | some x =>
                  have hq' : get2 rows (l + q.1) q.2 = some x := by
                    unfold get2 at hq ⊢
                    rw [List.getElem?_take] at hq
                    split at hq
                    · rwa [List.getElem?_drop] at hq
                    · cases hq
                  obtain ⟨v, hv1, hv2⟩ := hcell _ _ x hq'
                  exact ⟨v, fun y hy => by cases hy; exact ⟨by rw [Nat.add_mul] at hv1; rw [show off + l * sizeA P e + (q.1 * sizeA P e + q.2) = off + (l * sizeA P e + q.1 * sizeA P e + q.2) by omega]; exact hv1, hv2⟩⟩
              obtain ⟨f, hf⟩ := Classical.axiomOfChoice hf
              have := PRel.sl (w := w) (own := own ι h) ((rows.drop l).take (m - l)) blk (off + l * sizeA P e) (c - l) (sizeA P e) (fun i j => f (i, j)) (by rw [hlen]; omega) (by rw [hlen]; omega) ho hb
                (fun row hr => hall row (mem_take_drop hr)) (fun i j x hx => (hf (i, j) x hx).1) (fun i j x hx => (hf (i, j) x hx).2)
              rwa [hlen] at this
      · cases hr
    · split at hr
      · rename_i l m hl hm
        split at hr
        case isFalse => cases hr
        rename_i hc
        obtain ⟨rfl, rfl, c3⟩ := hc
        cases hr
        have := hx.nils_inv
        subst this
        have hbd := run_bounds (P := P) true 0 0 hρ hl hm (Nat.le_refl _) (Nat.le_refl _)
        refine ⟨.slice none 0 0, ?_, .p _ _ .nils⟩
        simp [Instr.sliceAt, Instr.slice, Sem.run_bind, run_underlying h2, hbd, run_sizeA c3]
      · cases hr
    · rename_i b g off sz len
      split at hr
      · rename_i l m hl hm
        split at hr
        case isFalse => cases hr
        rename_i hc
        obtain ⟨c1, c2, c3, c4, c5⟩ := hc
        cases hr
        have hlv := blkAt_isSome c5
        obtain ⟨A, c, rfl, hn, hcase⟩ := hx.ref_inv hlv
        subst c3
        rcases hcase with ⟨rfl, rfl⟩ | ⟨rfl, hlc, hbk, cs, ty, fr, hcs, hcap⟩
        · have : m = 0 := by omega
          subst this
          have : l = 0 := by omega
          subst this
          have hbd := run_bounds (P := P) true 0 0 hρ hl hm (Nat.le_refl _) (Nat.le_refl _)
          refine ⟨.slice A 0 0, ?_, .ref _ _ _ _ _ _ _ (by omega) (live_g hlv).1 (live_g hlv).2 fun _ => .inl ⟨rfl, rfl⟩⟩
          simp [Instr.sliceAt, Instr.slice, Sem.run_bind, run_underlying h2, hbd, run_sizeA c4]
        · have hbd := run_bounds (P := P) true len c hρ hl hm c1 (by omega)
          by_cases he : c = l
          · refine ⟨.slice (some ⟨(ι b).1, (ι b).2 + off, none⟩) (m - l) (c - l), ?_, .ref _ _ _ _ _ _ _ (by omega) (live_g hlv).1 (live_g hlv).2 fun _ => .inl ⟨by omega, by omega⟩⟩
            subst he
            simp [Instr.sliceAt, Instr.slice, Sem.run_bind, run_underlying h2, hbd, run_sizeA c4]
          · refine ⟨.slice (some ⟨(ι b).1, (ι b).2 + (off + l * sizeA P e), none⟩) (m - l) (c - l), ?_, .ref _ _ _ _ _ _ _ (by omega) (live_g hlv).1 (live_g hlv).2 fun _ => .inr ⟨rfl, by omega, hbk, cs, ty, fr, hcs, ?_⟩⟩
            · simp only [Instr.sliceAt, Instr.slice, Sem.run_bind, run_underlying h2, Result.andThen_ok, hbd, run_sizeA c4, he, if_false, Option.map_some, Addr.add_lit, Sem.run_pure, Nat.add_assoc]
            · have : (c - l) * sizeA P e + l * sizeA P e = c * sizeA P e := by rw [← Nat.add_mul]; congr 1; omega
              omega
      · cases hr
    · cases hr
  · cases hr

theorem len_sound {x : AV} {v : Value} {n : Nat} (hx : VRel ι h w x v) (hn : lenA x = some n) : Builtin.lenOf v = Pure.pure n ∧ n ≤ 9223372036854775807 ∧ ((∃ A c, v = .slice A n c) ∨ ∃ s, v = .string s ∧ s.size = n) := by
  unfold lenA at hn
  split at hn
  · obtain ⟨A, c, rfl, h1, _⟩ := hx.sl_inv; cases hn; exact ⟨rfl, h1, .inl ⟨_, _, rfl⟩⟩
  · have := hx.nils_inv; subst this; cases hn; exact ⟨rfl, by omega, .inl ⟨_, _, rfl⟩⟩
  · cases hx with
    | p _ _ hx => cases hx; cases hn; exact ⟨rfl, by omega, .inr ⟨_, rfl, rfl⟩⟩
  · cases hx with
    | ref _ _ _ _ _ A c h1 _ _ _ => cases hn; exact ⟨rfl, h1, .inl ⟨_, _, rfl⟩⟩
  · cases hn

theorem inr64 {n : Nat} (hn : n ≤ 9223372036854775807) : InRange .i64 n := by
  unfold InRange IntKind.min IntKind.max IntKind.signed IntKind.bits; simp; omega

end
end Go.Proofs.YtlophgkgmhcagaaDoor.AM
