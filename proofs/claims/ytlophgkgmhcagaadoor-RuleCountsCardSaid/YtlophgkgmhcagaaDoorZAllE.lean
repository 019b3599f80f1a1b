/- Proved here, in parts, for one law: Contract of the bound of what is gone through: a term is not larger. Contract of the bound of what is gone through: a process is not larger. The abstract machine, part N: what a row's arguments read as; laws. The abstract machine, part O: a law is a function that always answers true. The abstract machine, part S: what typed cells are, told by the facts of their types. What the listed variable gives; processes as arguments. The abstract machine, part X: ground runs: an evaluator of abstract states, and that what it says is so. The law of all rules of a process. Conditions: none. -/
import Derived.Test.YtlophgkgmhcagaaDoorZAllD
import Derived.ProofKit
import Derived.LaidMore
import Derived.OpenShut
import Derived.Stop.Joined
import Derived.Test.YtlophgkgmhcagaaDoorRows

section
set_option linter.unusedVariables false
set_option linter.unusedSimpArgs false
set_option maxRecDepth 4000
set_option maxHeartbeats 4000000
namespace Go.Proofs.YtlophgkgmhcagaaDoor.AM
open Go Go.Proofs
attribute [local irreducible] awp aops aqops
variable {G : Nat → Option (List PV)}

mutual
def lgT : Tm → Int → Int → Bool × Int
  | .mk _ _ ks, d, n => if n - 1 < 0 ∨ 40 < d ∨ 50 < (ks.length : Int) then (true, n - 1) else lgS ks (d + 1) (n - 1)
def lgS : List Tm → Int → Int → Bool × Int
  | [], _, n => (false, n)
  | k :: r, d, n => if (lgT k d n).1 = true then lgT k d n else lgS r d (lgT k d n).2
end

theorem lgT_eq (t : Tm) (d n : Int) : lgT t d n = if n - 1 < 0 ∨ 40 < d ∨ 50 < (t.kids.length : Int) then (true, n - 1) else lgS t.kids (d + 1) (n - 1) := by
  cases t; rw [lgT]; rfl

theorem lgS_app : ∀ (a b : List Tm) (d n : Int), lgS (a ++ b) d n = if (lgS a d n).1 = true then lgS a d n else lgS b d (lgS a d n).2
  | [], b, d, n => by simp [lgS]
  | k :: r, b, d, n => by
    simp only [List.cons_append, lgS]
    by_cases h : (lgT k d n).1 = true
    · simp [h]
    · simp only [h, if_false]
      exact lgS_app r b d _

theorem lgS_take {l : List Tm} {i : Nat} {k : Tm} (hk : l[i]? = some k) {d n : Int} (hp : (lgS (l.take i) d n).1 = false) :
    lgS (l.take (i + 1)) d n = lgT k d (lgS (l.take i) d n).2 := by
  rw [List.take_add_one, hk, lgS_app]
  simp only [hp, Bool.false_eq_true, if_false, Option.toList_some, lgS]
  split
  · rfl
  · rename_i h
    have : (lgT k d (lgS (List.take i l) d n).2).1 = false := by simpa using h
    rw [Prod.ext_iff]; exact ⟨this.symm, rfl⟩

theorem lgS_stop {l : List Tm} {i : Nat} {k : Tm} (hk : l[i]? = some k) {d n : Int} (hp : (lgS (l.take i) d n).1 = false) (ht : (lgT k d (lgS (l.take i) d n).2).1 = true) :
    lgS l d n = lgT k d (lgS (l.take i) d n).2 := by
  have h := lgS_take hk hp
  conv => lhs; rw [← List.take_append_drop (i + 1) l]
  rw [lgS_app, h, if_pos ht]

/-- What is left of the room. -/
theorem lg_room : ∀ t : Tm, ∀ d n : Int, 0 ≤ n → -1 ≤ (lgT t d n).2 ∧ (lgT t d n).2 ≤ n ∧ ((lgT t d n).1 = false → 0 ≤ (lgT t d n).2) := by
  intro t
  refine Tm.ind (p := fun t => ∀ d n : Int, 0 ≤ n → -1 ≤ (lgT t d n).2 ∧ (lgT t d n).2 ≤ n ∧ ((lgT t d n).1 = false → 0 ≤ (lgT t d n).2)) (fun t ih => ?_) t
  have hs : ∀ l : List Tm, (∀ k ∈ l, k ∈ t.kids) → ∀ d n : Int, 0 ≤ n → -1 ≤ (lgS l d n).2 ∧ (lgS l d n).2 ≤ n ∧ ((lgS l d n).1 = false → 0 ≤ (lgS l d n).2) := by
    intro l
    induction l with
    | nil => intro _ d n hn; simp [lgS]; omega
    | cons k r ihr =>
      intro hm d n hn
      have h1 := ih k (hm k (by simp)) d n hn
      simp only [lgS]
      split
      · exact h1
      · rename_i h
        have h2 := h1.2.2 (by simpa using h)
        have h3 := ihr (fun x hx => hm x (by simp [hx])) d _ h2
        exact ⟨by omega, by omega, h3.2.2⟩
  intro d n hn
  rw [lgT_eq]
  split
  · simp; omega
  · rename_i h
    have := hs t.kids (fun _ h => h) (d + 1) (n - 1) (by omega)
    exact ⟨by omega, by omega, this.2.2⟩

theorem lgS_room {l : List Tm} {d n : Int} (hn : 0 ≤ n) : -1 ≤ (lgS l d n).2 ∧ (lgS l d n).2 ≤ n ∧ ((lgS l d n).1 = false → 0 ≤ (lgS l d n).2) := by
  induction l generalizing n with
  | nil => simp [lgS]; omega
  | cons k r ih =>
    have h1 := lg_room k d n hn
    simp only [lgS]
    split
    · exact h1
    · rename_i h
      have h2 := h1.2.2 (by simpa using h)
      have h3 := ih h2
      exact ⟨by omega, by omega, h3.2.2⟩

/-- What is not larger. -/
theorem lg_ok : ∀ t : Tm, ∀ d n : Int, (lgT t d n).1 = false → 1 ≤ d → Tm.Ok (41 - d).toNat t := by
  intro t
  refine Tm.ind (p := fun t => ∀ d n : Int, (lgT t d n).1 = false → 1 ≤ d → Tm.Ok (41 - d).toNat t) (fun t ih => ?_) t
  intro d n hf hd
  rw [lgT_eq] at hf
  split at hf
  · cases hf
  · rename_i h
    have hs : ∀ l : List Tm, ∀ d n : Int, (lgS l d n).1 = false → ∀ k ∈ l, ∃ m, (lgT k d m).1 = false := by
      intro l
      induction l with
      | nil => intro d n _ k hk; simp at hk
      | cons x r ihr =>
        intro d n hf k hk
        simp only [lgS] at hf
        split at hf
        · rename_i h2; rw [h2] at hf; cases hf
        · rename_i h2
          rcases List.mem_cons.mp hk with rfl | hk
          · exact ⟨n, by simpa using h2⟩
          · exact ihr _ _ hf k hk
    have e : (41 - d).toNat = (41 - (d + 1)).toNat + 1 := by omega
    rw [e]
    refine .mk _ t (by omega) fun k hk => ?_
    obtain ⟨m, hm⟩ := hs _ _ _ hf k hk
    exact ih k hk _ _ hm (by omega)

/-- A heap whose block b was changed. -/
def withB (h : Heap) (b : Nat) (c : Option Blk) : Heap := h.set b c

section
variable {h : Heap} {b : Nat} {c c' : Option Blk}
theorem wb_self (hb : h[b]? = some c) : withB h b c = h := by
  apply List.ext_getElem?
  intro i
  unfold withB
  rw [List.getElem?_set]
  split
  · rename_i e; subst e; split
    · exact hb.symm
    · rename_i hn; rw [List.getElem?_eq_none (by omega)] at hb; cases hb
  · rfl
theorem wb_len : (withB h b c).length = h.length := by unfold withB; rw [List.length_set]
theorem wb_at (hb : b < h.length) : (withB h b c)[b]? = some c := by unfold withB; rw [List.getElem?_set]; simp [hb]
theorem wb_get (hb : b < h.length) (L : Heap) : (withB h b c ++ L)[b]? = some c := by rw [List.getElem?_append_left (by rw [wb_len]; exact hb), wb_at hb]
theorem wb_put : (withB h b c).set b c' = withB h b c' := by unfold withB; rw [List.set_set]
theorem wb_set (hb : b < h.length) (L : Heap) : (withB h b c ++ L).set b c' = withB h b c' ++ L := by rw [List.set_append_left _ _ (by rw [wb_len]; exact hb), wb_put]
theorem wb_get0 (L : Heap) : (withB h b c ++ L)[h.length]? = L[0]? := by rw [List.getElem?_append_right (by rw [wb_len]; omega), wb_len]; congr 1; omega
theorem wb_geti (L : Heap) (i : Nat) : (withB h b c ++ L)[h.length + i]? = L[i]? := by rw [List.getElem?_append_right (by rw [wb_len]; omega), wb_len]; congr 1; omega
theorem wb_set0 (L : Heap) (x : Option Blk) : (withB h b c ++ L).set h.length x = withB h b c ++ L.set 0 x := by rw [List.set_append_right _ _ (by rw [wb_len]; omega), wb_len]; congr 2; omega
theorem wb_seti (L : Heap) (i : Nat) (x : Option Blk) : (withB h b c ++ L).set (h.length + i) x = withB h b c ++ L.set i x := by rw [List.set_append_right _ _ (by rw [wb_len]; omega), wb_len]; congr 2; omega
theorem wb_take (L : Heap) : (withB h b c ++ L).take h.length = withB h b c := by
  have := wb_len (h := h) (b := b) (c := c)
  rw [← this, List.take_left']; rfl
theorem wb_app (L : Heap) (hb : b < h.length) : withB (withB h b c ++ L) b c' = withB h b c' ++ L := by
  show (withB h b c ++ L).set b c' = _
  exact wb_set hb L
theorem wb_keep {c0 : Option Blk} {g : Nat} {n : Int} : ∀ (i : Nat) (bk : Blk), (withB h b (some ⟨g, [.i n]⟩))[i]? = some (some bk) → (withB h b c0)[i]? = some (some bk) ∨ avlts (withB h b c0).length bk.cells := by
  intro i bk hi
  unfold withB at hi ⊢
  rw [List.getElem?_set] at hi ⊢
  split at hi
  · rename_i e
    split at hi
    · cases hi; exact .inr (by simp [avlts, avlt])
    · cases hi
  · rename_i e; rw [if_neg e]; exact .inl hi
theorem wb_keep' {c0 : Option Blk} {g : Nat} {n : Int} (i : Nat) (bk : Blk) (hi : (withB h b (some ⟨g, [.i n]⟩))[i]? = some (some bk)) : (withB h b c0)[i]? = some (some bk) ∨ ∀ x, x ∈ bk.cells → AVlt h.length x :=
  (wb_keep i bk hi).imp id fun hx => by rw [wb_len] at hx; exact avlts_lt _ hx
theorem wb_wb : withB (withB h b c) b c' = withB h b c' := wb_put
theorem wb_take0 : (withB h b c).take h.length = withB h b c := by
  rw [← wb_len (h := h) (b := b) (c := c), List.take_length]
end

abbrev rB (g : Nat) (n : Int) : Option Blk := some ⟨g, [.i n]⟩

theorem deepL_calls (t : Tm) : ∀ (d n : Int) (b g : Nat) (h : Heap), 0 ≤ n → n ≤ 3000 → 1 ≤ d → d ≤ 41 → h[b]? = some (rB g n) →
    ACalls Tryd.prog G 22 [aT t, .ptr b g 0, .i d] h (fun r h' => r = .b (lgT t d n).1 ∧ h' = withB h b (rB g (lgT t d n).2)) := by
  refine Tm.ind (p := fun t => ∀ (d n : Int) (b g : Nat) (h : Heap), 0 ≤ n → n ≤ 3000 → 1 ≤ d → d ≤ 41 → h[b]? = some (rB g n) →
    ACalls Tryd.prog G 22 [aT t, .ptr b g 0, .i d] h (fun r h' => r = .b (lgT t d n).1 ∧ h' = withB h b (rB g (lgT t d n).2))) (fun t ih => ?_) t
  intro d n b g h hn hn2 hd hd2 hb
  have hlt : b < h.length := (List.getElem?_eq_some_iff.mp hb).1
  have hself := wb_self hb
  have hw : IntKind.i64.wrap (n - 1) = n - 1 := IntWalk.i64_in _ (by omega)
  rw [lgT_eq]
  refine acalls_heap (rl := []) mixed Tryd.func22 rfl (rs := [.tmp 6]) rfl Tryd.ntmps22 (by simp) ?_
  rw [← hself]
  by_cases hbig : n - 1 < 0 ∨ 40 < d ∨ 50 < (t.kids.length : Int)
  · rw [if_pos hbig]
    have f1 : ((decide (n - 1 < 0) || decide (40 < d)) || decide (50 < (t.kids.length : Int))) = true := by
      simp; omega
    repeat' (first | ((first | refine aops_nil ?_ | refine aqops_nil ?_); (try simp only [NB])) | ((repeat ((fail_if_success (refine hK _ ?_)); clear hK K)); refine hK _ ?_; clear hK K) | ((first | refine aops_k fun K1 hK1 => ?_ | refine aqops_k fun K1 hK1 => ?_ | refine awp_cond_k fun A B hA hB => ?_); simp only [S1, simprocAttr, T2, T3, T4, T51, T53, T71, T73, f1, hw, List.length_map, wb_get hlt, wb_at hlt, wb_put, wb_set hlt, wb_get0, wb_geti, wb_len]; first | (refine hK1 _ ?_; clear hK1 K1) | ((first | refine hA ?_ | refine hB ?_); clear hA hB A B) | (refine join_x (v := ?_) (fun hg hk9 => ?_) ?_; rotate_left; (focus (try ((try simp only [BN] at hg); simp only [S1, simprocAttr, T2, T3, T4, T51, T53, T71, T73, f1, hw, List.length_map, wb_get hlt, wb_at hlt, wb_put, wb_set hlt, wb_get0, wb_geti, wb_len, hg] at hk9 ⊢)); first | exact hk9); (refine hK1 _ ?_; clear hK1 K1)) | (((first | (refine ⟨fun hg => hA ?_, fun hg => hB ?_⟩ <;> clear hA hB A B) | refine ⟨fun hg => ?_, fun hg => ?_⟩) <;> (try simp only [BN2] at hg) <;> (try simp only [hg, cond_true, cond_false])) <;> (try (refine hK1 _ ?_; clear hK1 K1)) <;> (try simp only [BN3] at hg))) | (refine awp_seq_k fun K hK => ?_) | ((first | refine awp_region ?_ | refine awp_draw (by kernel_rfl) ?_ | refine awp_block ?_ | refine awp_exit ?_ | refine awp_skip ?_ | refine awp_ret ?_); (try simp only [NB, simprocAttr])))
    all_goals simp only [EndH, FinH, resA, resL, resA1, lastV, lastA, lastAs, pur, purs, wb_len, wb_take, wb_take0, wb_wb, S1, simprocAttr, T2, T3, T4, T51, T53, T71, T73, Nat.le_add_right, Nat.le_refl]
    all_goals first | exact wb_keep' | exact ⟨wb_keep', rfl⟩ | exact ⟨wb_keep', rfl, rfl⟩
  · rw [if_neg hbig]
    have f1 : ((decide (n - 1 < 0) || decide (40 < d)) || decide (50 < (t.kids.length : Int))) = false := by
      simp; omega
    have hkl : t.kids.length ≤ 100 := by omega
    have hm0 : 0 ≤ n - 1 := by omega
    have hd3 : IntKind.i64.wrap (d + 1) = d + 1 := IntWalk.i64_in _ (by omega)
    let m := fun i => (lgS (t.kids.take i) (d + 1) (n - 1)).2
    refine awp_seq_k fun K hK => ?_
    repeat' (first | ((first | refine aops_nil ?_ | refine aqops_nil ?_); (try simp only [NB])) | ((repeat ((fail_if_success (refine hK _ ?_)); clear hK K)); refine hK _ ?_; clear hK K) | ((first | refine aops_k fun K1 hK1 => ?_ | refine aqops_k fun K1 hK1 => ?_ | refine awp_cond_k fun A B hA hB => ?_); simp only [S1, simprocAttr, T2, T3, T4, T51, T53, T71, T73, f1, hw, List.length_map, wb_get hlt, wb_at hlt, wb_put, wb_set hlt, wb_get0, wb_geti, wb_len]; first | (refine hK1 _ ?_; clear hK1 K1) | ((first | refine hA ?_ | refine hB ?_); clear hA hB A B) | (refine join_x (v := ?_) (fun hg hk9 => ?_) ?_; rotate_left; (focus (try ((try simp only [BN] at hg); simp only [S1, simprocAttr, T2, T3, T4, T51, T53, T71, T73, f1, hw, List.length_map, wb_get hlt, wb_at hlt, wb_put, wb_set hlt, wb_get0, wb_geti, wb_len, hg] at hk9 ⊢)); first | exact hk9); (refine hK1 _ ?_; clear hK1 K1)) | (((first | (refine ⟨fun hg => hA ?_, fun hg => hB ?_⟩ <;> clear hA hB A B) | refine ⟨fun hg => ?_, fun hg => ?_⟩) <;> (try simp only [BN2] at hg) <;> (try simp only [hg, cond_true, cond_false])) <;> (try (refine hK1 _ ?_; clear hK1 K1)) <;> (try simp only [BN3] at hg))) | (refine awp_seq_k fun K hK => ?_) | ((first | refine awp_region ?_ | refine awp_draw (by kernel_rfl) ?_ | refine awp_block ?_ | refine awp_exit ?_ | refine awp_skip ?_ | refine awp_ret ?_); (try simp only [NB, simprocAttr])))
    refine awp_forH t.kids.length 45 (fun i => withB h b (rB g (m i))) (fun i => [(35, .i i), (34, .i t.kids.length), (33, .p (.sl (t.kids.map eT))), (1, .ptr b g 0), (2, .i d)]) (fun i => []) (fun i => (lgS (t.kids.take i) (d + 1) (n - 1)).1 = false)
      (fun i => ⟨by rw [wb_len, wb_len], wb_keep⟩) ?_ (by simp [lgS]) fun i hi hp K hK => ?_
    · have e0 : m 0 = n - 1 := by simp [m, lgS]
      simp only [e0]
      refine ⟨rfl, ⟨_, rfl⟩, ?_, ?_⟩
      · simp [keeps, avlt, upd_get, wb_len]; omega
      · simp [blksLt]
    rcases Nat.lt_or_ge i t.kids.length with hlti | hge
    · obtain ⟨k, hx⟩ : ∃ k, t.kids[i]? = some k := ⟨_, List.getElem?_eq_getElem hlti⟩
      have hmem := List.mem_of_getElem? hx
      have hmi : 0 ≤ m i ∧ m i ≤ n - 1 := by
        have := lgS_room (l := t.kids.take i) (d := d + 1) hm0
        exact ⟨this.2.2 hp, this.2.1⟩
      have hr : ∀ L : Heap, ACalls Tryd.prog G 22 [aT k, .ptr b g 0, .i (d + 1)] (withB h b (rB g (m i)) ++ L) (fun r h' => r = .b (lgT k (d + 1) (m i)).1 ∧ h' = withB h b (rB g (lgT k (d + 1) (m i)).2) ++ L) := fun L => by
        have := ih k hmem (d + 1) (m i) b g (withB h b (rB g (m i)) ++ L) hmi.1 (by omega) (by omega) (by omega) (wb_get hlt L)
        rwa [wb_app L hlt] at this
      cases hb1 : (lgT k (d + 1) (m i)).1 with
      | false =>
        rw [hb1] at hr
        have hs := lgS_take hx hp
        repeat' (first | ((first | refine aops_nil ?_ | refine aqops_nil ?_); (try simp only [NB])) | ((repeat ((fail_if_success (refine hK _ ?_)); clear hK K)); refine hK _ ?_; clear hK K) | ((first | refine aops_k fun K1 hK1 => ?_ | refine aqops_k fun K1 hK1 => ?_ | refine awp_cond_k fun A B hA hB => ?_); simp only [S1, simprocAttr, T2, T3, T4, T51, T53, T71, T73, row_of hx, idx_hit hlti, idx_next hkl hlti, eT_eq, hd3, List.length_map, wb_get hlt, wb_at hlt, wb_put, wb_set hlt, wb_get0, wb_geti, wb_len, wb_set0, wb_seti]; first | (refine hK1 _ ?_; clear hK1 K1) | ((first | refine hA ?_ | refine hB ?_); clear hA hB A B) | ((first | apply call_a E22 | apply call_q E22); exact (hr _); (refine hK1 _ ?_; clear hK1 K1)) | (refine join_x (v := ?_) (fun hg hk9 => ?_) ?_; rotate_left; (focus (try ((try simp only [BN] at hg); simp only [S1, simprocAttr, T2, T3, T4, T51, T53, T71, T73, row_of hx, idx_hit hlti, idx_next hkl hlti, eT_eq, hd3, List.length_map, wb_get hlt, wb_at hlt, wb_put, wb_set hlt, wb_get0, wb_geti, wb_len, wb_set0, wb_seti, hg] at hk9 ⊢)); first | exact hk9 | ((first | apply call_a E22 | apply call_q E22); exact (hr _); exact hk9)); (refine hK1 _ ?_; clear hK1 K1)) | (((first | (refine ⟨fun hg => hA ?_, fun hg => hB ?_⟩ <;> clear hA hB A B) | refine ⟨fun hg => ?_, fun hg => ?_⟩) <;> (try simp only [BN2] at hg) <;> (try simp only [hg, cond_true, cond_false])) <;> (try (refine hK1 _ ?_; clear hK1 K1)) <;> (try simp only [BN3] at hg))) | (refine awp_seq_k fun K hK => ?_) | ((first | refine awp_region ?_ | refine awp_draw (by kernel_rfl) ?_ | refine awp_block ?_ | refine awp_exit ?_ | refine awp_skip ?_ | refine awp_ret ?_); (try simp only [NB, simprocAttr])))
        refine ⟨hlti, by rw [hs]; exact hb1, ?_⟩
        have em : m (i + 1) = (lgT k (d + 1) (m i)).2 := by simp only [m, hs]
        rw [em]
        refine ⟨rfl, ⟨_, rfl⟩, ?_, ?_⟩
        · simp [keeps, avlt, upd_get, frL, wb_len]; omega
        · simp [blksLt]
      | true =>
        rw [hb1] at hr
        have hs := lgS_stop hx hp hb1
        repeat' (first | ((first | refine aops_nil ?_ | refine aqops_nil ?_); (try simp only [NB])) | ((repeat ((fail_if_success (refine hK _ ?_)); clear hK K)); refine hK _ ?_; clear hK K) | ((first | refine aops_k fun K1 hK1 => ?_ | refine aqops_k fun K1 hK1 => ?_ | refine awp_cond_k fun A B hA hB => ?_); simp only [S1, simprocAttr, T2, T3, T4, T51, T53, T71, T73, row_of hx, idx_hit hlti, idx_next hkl hlti, eT_eq, hd3, List.length_map, wb_get hlt, wb_at hlt, wb_put, wb_set hlt, wb_get0, wb_geti, wb_len, wb_set0, wb_seti]; first | (refine hK1 _ ?_; clear hK1 K1) | ((first | refine hA ?_ | refine hB ?_); clear hA hB A B) | ((first | apply call_a E22 | apply call_q E22); exact (hr _); (refine hK1 _ ?_; clear hK1 K1)) | (refine join_x (v := ?_) (fun hg hk9 => ?_) ?_; rotate_left; (focus (try ((try simp only [BN] at hg); simp only [S1, simprocAttr, T2, T3, T4, T51, T53, T71, T73, row_of hx, idx_hit hlti, idx_next hkl hlti, eT_eq, hd3, List.length_map, wb_get hlt, wb_at hlt, wb_put, wb_set hlt, wb_get0, wb_geti, wb_len, wb_set0, wb_seti, hg] at hk9 ⊢)); first | exact hk9 | ((first | apply call_a E22 | apply call_q E22); exact (hr _); exact hk9)); (refine hK1 _ ?_; clear hK1 K1)) | (((first | (refine ⟨fun hg => hA ?_, fun hg => hB ?_⟩ <;> clear hA hB A B) | refine ⟨fun hg => ?_, fun hg => ?_⟩) <;> (try simp only [BN2] at hg) <;> (try simp only [hg, cond_true, cond_false])) <;> (try (refine hK1 _ ?_; clear hK1 K1)) <;> (try simp only [BN3] at hg))) | (refine awp_seq_k fun K hK => ?_) | ((first | refine awp_region ?_ | refine awp_draw (by kernel_rfl) ?_ | refine awp_block ?_ | refine awp_exit ?_ | refine awp_skip ?_ | refine awp_ret ?_); (try simp only [NB, simprocAttr])))
        rw [hs, hb1]
        simp only [EndH, FinH, resA, resL, resA1, lastV, lastA, lastAs, pur, purs, wb_len, wb_take, wb_take0, wb_wb, S1, simprocAttr, T2, T3, T4, T51, T53, T71, T73, Nat.le_add_right, Nat.le_refl]
        first | exact wb_keep' | exact ⟨wb_keep', rfl⟩ | exact ⟨wb_keep', rfl, rfl⟩
    · obtain rfl : i = t.kids.length := by omega
      repeat' (first | ((first | refine aops_nil ?_ | refine aqops_nil ?_); (try simp only [NB])) | ((repeat ((fail_if_success (refine hK _ ?_)); clear hK K)); refine hK _ ?_; clear hK K) | ((first | refine aops_k fun K1 hK1 => ?_ | refine aqops_k fun K1 hK1 => ?_ | refine awp_cond_k fun A B hA hB => ?_); simp only [S1, simprocAttr, T2, T3, T4, T51, T53, T71, T73, idx_end]; first | (refine hK1 _ ?_; clear hK1 K1) | ((first | refine hA ?_ | refine hB ?_); clear hA hB A B) | (refine join_x (v := ?_) (fun hg hk9 => ?_) ?_; rotate_left; (focus (try ((try simp only [BN] at hg); simp only [S1, simprocAttr, T2, T3, T4, T51, T53, T71, T73, idx_end, hg] at hk9 ⊢)); first | exact hk9); (refine hK1 _ ?_; clear hK1 K1)) | (((first | (refine ⟨fun hg => hA ?_, fun hg => hB ?_⟩ <;> clear hA hB A B) | refine ⟨fun hg => ?_, fun hg => ?_⟩) <;> (try simp only [BN2] at hg) <;> (try simp only [hg, cond_true, cond_false])) <;> (try (refine hK1 _ ?_; clear hK1 K1)) <;> (try simp only [BN3] at hg))) | (refine awp_seq_k fun K hK => ?_) | ((first | refine awp_region ?_ | refine awp_draw (by kernel_rfl) ?_ | refine awp_block ?_ | refine awp_exit ?_ | refine awp_skip ?_ | refine awp_ret ?_); (try simp only [NB, simprocAttr])))
      have e : t.kids.take t.kids.length = t.kids := List.take_length
      rw [e] at hp
      have em : m t.kids.length = (lgS t.kids (d + 1) (n - 1)).2 := by simp only [m, e]
      rw [em, hp]
      simp only [EndH, FinH, resA, resL, resA1, lastV, lastA, lastAs, pur, purs, wb_len, wb_take, wb_take0, wb_wb, S1, simprocAttr, T2, T3, T4, T51, T53, T71, T73, Nat.le_add_right, Nat.le_refl]
      first | exact wb_keep' | exact ⟨wb_keep', rfl⟩ | exact ⟨wb_keep', rfl, rfl⟩
end Go.Proofs.YtlophgkgmhcagaaDoor.AM
end

section
set_option linter.unusedVariables false
set_option linter.unusedSimpArgs false
set_option maxRecDepth 4000
set_option maxHeartbeats 4000000
namespace Go.Proofs.YtlophgkgmhcagaaDoor.AM
open Go Go.Proofs
attribute [local irreducible] awp aops aqops aeops arun arunT
variable {G : Nat → Option (List PV)}

/-- All terms of a process. -/
def termsN (ns : List Nd) (fl : List Fl) : List Tm := ns.map (·.term) ++ fl.map (·.cond)
def largeN (ns : List Nd) (fl : List Fl) : Bool := (decide (30 < (ns.length : Int)) || decide (50 < (fl.length : Int))) || (lgS (termsN ns fl) 1 1500).1

theorem lgS_all {l : List Tm} : ∀ {d n : Int}, 1 ≤ d → (lgS l d n).1 = false → ∀ k ∈ l, Tm.Ok (41 - d).toNat k := by
  induction l with
  | nil => intro d n _ _ k hk; simp at hk
  | cons x r ih =>
    intro d n hd hf k hk
    simp only [lgS] at hf
    split at hf
    · rename_i h2; rw [h2] at hf; cases hf
    · rename_i h2
      rcases List.mem_cons.mp hk with rfl | hk
      · exact lg_ok _ _ _ (by simpa using h2) hd
      · exact ih hd hf k hk

theorem large_ok {ns : List Nd} {fl : List Fl} (h : largeN ns fl = false) : NetOk ns fl := by
  unfold largeN at h
  simp only [Bool.or_eq_false_iff, decide_eq_false_iff_not] at h
  obtain ⟨⟨h1, h2⟩, h3⟩ := h
  have ha := lgS_all (by omega) h3
  refine ⟨by omega, by omega, ⟨40, by omega, fun k hk => ha _ ?_⟩, ⟨40, by omega, fun k hk => ha _ ?_⟩⟩
  · unfold termsN; exact List.mem_append_left _ (List.mem_map.mpr ⟨k, hk, rfl⟩)
  · unfold termsN; exact List.mem_append_right _ (List.mem_map.mpr ⟨k, hk, rfl⟩)

theorem deepL_at (k : Tm) (n : Int) (hn : 0 ≤ n) (hn2 : n ≤ 3000) (h : Heap) (A : Option Blk) (L : Heap) :
    ACalls Tryd.prog G 22 [aT k, .ptr (h.length + 1) 0 0, .i 1] (h ++ (A :: some ⟨0, [.i n]⟩ :: L)) (fun r h' => r = .b (lgT k 1 n).1 ∧ h' = h ++ (A :: some ⟨0, [.i (lgT k 1 n).2]⟩ :: L)) := by
  have := deepL_calls (G := G) k 1 n (h.length + 1) 0 (h ++ (A :: some ⟨0, [.i n]⟩ :: L)) hn hn2 (by omega) (by omega) (by simp [get_app])
  simpa only [withB, set_app, List.set_cons_succ, List.set_cons_zero] using this

theorem large_calls (ns : List Nd) (fl : List Fl) (h : Heap) : ACalls Tryd.prog G 7 [aNet ns fl] h (fun r h' => r = .b (largeN ns fl) ∧ h' = h) := by
  cases hsz : (decide (30 < (ns.length : Int)) || decide (50 < (fl.length : Int))) with
  | true =>
    have e : largeN ns fl = true := by unfold largeN; rw [hsz]; rfl
    rw [e]
    refine acalls_pure (rl := []) mixed Tryd.func7 rfl (rs := [.tmp 2]) rfl Tryd.ntmps7 (by simp) ?_
    repeat' (first | ((first | refine aops_nil ?_ | refine aqops_nil ?_); (try simp only [NB])) | ((repeat ((fail_if_success (refine hK _ ?_)); clear hK K)); refine hK _ ?_; clear hK K) | ((first | refine aops_k fun K1 hK1 => ?_ | refine aqops_k fun K1 hK1 => ?_ | refine awp_cond_k fun A B hA hB => ?_); simp only [S1, simprocAttr, T2, T3, T4, T22, T23, T25, T51, T53, T55, T58, T71, T73, List.length_map, hsz]; first | (refine hK1 _ ?_; clear hK1 K1) | ((first | refine hA ?_ | refine hB ?_); clear hA hB A B) | (refine join_x (v := ?_) (fun hg hk9 => ?_) ?_; rotate_left; (focus (try ((try simp only [BN] at hg); simp only [S1, simprocAttr, T2, T3, T4, T22, T23, T25, T51, T53, T55, T58, T71, T73, List.length_map, hsz, hg] at hk9 ⊢)); first | exact hk9); (refine hK1 _ ?_; clear hK1 K1)) | (((first | (refine ⟨fun hg => hA ?_, fun hg => hB ?_⟩ <;> clear hA hB A B) | refine ⟨fun hg => ?_, fun hg => ?_⟩) <;> (try simp only [BN2] at hg) <;> (try simp only [hg, cond_true, cond_false])) <;> (try (refine hK1 _ ?_; clear hK1 K1)) <;> (try simp only [BN3] at hg))) | (refine awp_seq_k fun K hK => ?_) | ((first | refine awp_region ?_ | refine awp_draw (by kernel_rfl) ?_ | refine awp_block ?_ | refine awp_exit ?_ | refine awp_skip ?_ | refine awp_ret ?_); (try simp only [NB, simprocAttr])))
    all_goals simp only [EndP, FinP, resA, resL, resA1, lastV, lastA, lastAs, pur, purs, take_app, List.take_length, S1, simprocAttr, T2, T3, T4, T22, T23, T25, T51, T53, T55, T58, T71, T73, Nat.le_add_right, Nat.le_refl]
  | false =>
    have e : largeN ns fl = (lgS (termsN ns fl) 1 1500).1 := by unfold largeN; rw [hsz]; rfl
    have hn : ns.length ≤ 100 := by simp at hsz; omega
    have hl : fl.length ≤ 100 := by simp at hsz; omega
    rw [e]
    let m := fun j => (lgS ((ns.map (·.term)).take j) 1 1500)
    let m2 := fun j => (lgS (ns.map (·.term) ++ (fl.map (·.cond)).take j) 1 1500)
    refine acalls_pure (rl := []) mixed Tryd.func7 rfl (rs := [.tmp 2]) rfl Tryd.ntmps7 (by simp) ?_
    repeat' (first | ((first | refine aops_nil ?_ | refine aqops_nil ?_); (try simp only [NB])) | ((repeat ((fail_if_success (refine hK _ ?_)); clear hK K)); refine hK _ ?_; clear hK K) | ((first | refine aops_k fun K1 hK1 => ?_ | refine aqops_k fun K1 hK1 => ?_ | refine awp_cond_k fun A B hA hB => ?_); simp only [S1, simprocAttr, T2, T3, T4, T22, T23, T25, T51, T53, T55, T58, T71, T73, List.length_map, hsz]; first | (refine hK1 _ ?_; clear hK1 K1) | ((first | refine hA ?_ | refine hB ?_); clear hA hB A B) | (refine join_x (v := ?_) (fun hg hk9 => ?_) ?_; rotate_left; (focus (try ((try simp only [BN] at hg); simp only [S1, simprocAttr, T2, T3, T4, T22, T23, T25, T51, T53, T55, T58, T71, T73, List.length_map, hsz, hg] at hk9 ⊢)); first | exact hk9); (refine hK1 _ ?_; clear hK1 K1)) | (((first | (refine ⟨fun hg => hA ?_, fun hg => hB ?_⟩ <;> clear hA hB A B) | refine ⟨fun hg => ?_, fun hg => ?_⟩) <;> (try simp only [BN2] at hg) <;> (try simp only [hg, cond_true, cond_false])) <;> (try (refine hK1 _ ?_; clear hK1 K1)) <;> (try simp only [BN3] at hg))) | (refine awp_seq_k fun K hK => ?_) | ((first | refine awp_region ?_ | refine awp_draw (by kernel_rfl) ?_ | refine awp_block ?_ | refine awp_exit ?_ | refine awp_skip ?_ | refine awp_ret ?_); (try simp only [NB, simprocAttr])))
    refine awp_for ns.length 44 (fun j => [(23, .i j), (22, .i ns.length), (21, .p (.sl (ns.map eN))), (3, .ptr (h.length + 1) 0 0), (1, .ptr h.length 0 0)])
      (fun j => [some ⟨0, cNet ns fl⟩, some ⟨0, [.i (m j).2]⟩]) (fun j => (m j).1 = false) ?_ (by simp [m, lgS]) fun j hj hp K hK => ?_
    · have e0 : (m 0).2 = 1500 := by simp [m, lgS]
      simp only [e0]
      (refine ⟨rfl, (by first | exact ⟨_, rfl⟩ | exact ⟨[], by simp⟩), ?_, ?_⟩ <;> simp only [keeps, avlt, avlts, blksLt, frL, upd_get, S1, simprocAttr, List.length_map, Int.natCast_zero, AV.p.injEq, PV.int.injEq, PV.bool.injEq, PV.sl.injEq] <;> (try and_intros) <;> (try assumption) <;> (try trivial) <;> (try omega))
    rcases Nat.lt_or_ge j ns.length with hlt | hge
    · obtain ⟨k, hx⟩ : ∃ k, ns[j]? = some k := ⟨_, List.getElem?_eq_getElem hlt⟩
      have hx2 : (ns.map (·.term))[j]? = some k.term := by simp [hx]
      have hr := lgS_room (l := (ns.map (·.term)).take j) (d := 1) (n := 1500) (by omega)
      have hd := fun A L => deepL_at (G := G) k.term (m j).2 (hr.2.2 hp) (by have := hr.2.1; show (lgS _ _ _).2 ≤ 3000; omega) h A L
      cases hq : (lgT k.term 1 (m j).2).1 with
      | false =>
        have hs := lgS_take hx2 hp
        rw [hq] at hd
        repeat' (first | ((first | refine aops_nil ?_ | refine aqops_nil ?_); (try simp only [NB])) | ((repeat ((fail_if_success (refine hK _ ?_)); clear hK K)); refine hK _ ?_; clear hK K) | ((first | refine aops_k fun K1 hK1 => ?_ | refine aqops_k fun K1 hK1 => ?_ | refine awp_cond_k fun A B hA hB => ?_); simp only [S1, simprocAttr, T2, T3, T4, T22, T23, T25, T51, T53, T55, T58, T71, T73, rowN hx, hitN hlt, nextN hn hlt, eN, List.length_map]; first | (refine hK1 _ ?_; clear hK1 K1) | ((first | refine hA ?_ | refine hB ?_); clear hA hB A B) | ((first | apply call_a E22 | apply call_q E22); exact (hd _ _); (refine hK1 _ ?_; clear hK1 K1)) | (refine join_x (v := ?_) (fun hg hk9 => ?_) ?_; rotate_left; (focus (try ((try simp only [BN] at hg); simp only [S1, simprocAttr, T2, T3, T4, T22, T23, T25, T51, T53, T55, T58, T71, T73, rowN hx, hitN hlt, nextN hn hlt, eN, List.length_map, hg] at hk9 ⊢)); first | exact hk9 | ((first | apply call_a E22 | apply call_q E22); exact (hd _ _); exact hk9)); (refine hK1 _ ?_; clear hK1 K1)) | (((first | (refine ⟨fun hg => hA ?_, fun hg => hB ?_⟩ <;> clear hA hB A B) | refine ⟨fun hg => ?_, fun hg => ?_⟩) <;> (try simp only [BN2] at hg) <;> (try simp only [hg, cond_true, cond_false])) <;> (try (refine hK1 _ ?_; clear hK1 K1)) <;> (try simp only [BN3] at hg))) | (refine awp_seq_k fun K hK => ?_) | ((first | refine awp_region ?_ | refine awp_draw (by kernel_rfl) ?_ | refine awp_block ?_ | refine awp_exit ?_ | refine awp_skip ?_ | refine awp_ret ?_); (try simp only [NB, simprocAttr])))
        refine ⟨hlt, by show (lgS _ _ _).1 = false; rw [hs]; exact hq, ?_⟩
        have em : m (j + 1) = lgT k.term 1 (m j).2 := hs
        rw [em]
        (refine ⟨rfl, (by first | exact ⟨_, rfl⟩ | exact ⟨[], by simp⟩), ?_, ?_⟩ <;> simp only [keeps, avlt, avlts, blksLt, frL, upd_get, S1, simprocAttr, List.length_map, Int.natCast_zero, AV.p.injEq, PV.int.injEq, PV.bool.injEq, PV.sl.injEq] <;> (try and_intros) <;> (try assumption) <;> (try trivial) <;> (try omega))
      | true =>
        have hs : (lgS (termsN ns fl) 1 1500).1 = true := by
          unfold termsN
          rw [lgS_app, lgS_stop hx2 hp hq, if_pos hq]; exact hq
        rw [hq] at hd
        repeat' (first | ((first | refine aops_nil ?_ | refine aqops_nil ?_); (try simp only [NB])) | ((repeat ((fail_if_success (refine hK _ ?_)); clear hK K)); refine hK _ ?_; clear hK K) | ((first | refine aops_k fun K1 hK1 => ?_ | refine aqops_k fun K1 hK1 => ?_ | refine awp_cond_k fun A B hA hB => ?_); simp only [S1, simprocAttr, T2, T3, T4, T22, T23, T25, T51, T53, T55, T58, T71, T73, rowN hx, hitN hlt, nextN hn hlt, eN, List.length_map]; first | (refine hK1 _ ?_; clear hK1 K1) | ((first | refine hA ?_ | refine hB ?_); clear hA hB A B) | ((first | apply call_a E22 | apply call_q E22); exact (hd _ _); (refine hK1 _ ?_; clear hK1 K1)) | (refine join_x (v := ?_) (fun hg hk9 => ?_) ?_; rotate_left; (focus (try ((try simp only [BN] at hg); simp only [S1, simprocAttr, T2, T3, T4, T22, T23, T25, T51, T53, T55, T58, T71, T73, rowN hx, hitN hlt, nextN hn hlt, eN, List.length_map, hg] at hk9 ⊢)); first | exact hk9 | ((first | apply call_a E22 | apply call_q E22); exact (hd _ _); exact hk9)); (refine hK1 _ ?_; clear hK1 K1)) | (((first | (refine ⟨fun hg => hA ?_, fun hg => hB ?_⟩ <;> clear hA hB A B) | refine ⟨fun hg => ?_, fun hg => ?_⟩) <;> (try simp only [BN2] at hg) <;> (try simp only [hg, cond_true, cond_false])) <;> (try (refine hK1 _ ?_; clear hK1 K1)) <;> (try simp only [BN3] at hg))) | (refine awp_seq_k fun K hK => ?_) | ((first | refine awp_region ?_ | refine awp_draw (by kernel_rfl) ?_ | refine awp_block ?_ | refine awp_exit ?_ | refine awp_skip ?_ | refine awp_ret ?_); (try simp only [NB, simprocAttr])))
        all_goals simp only [EndP, FinP, resA, resL, resA1, lastV, lastA, lastAs, pur, purs, take_app, List.take_length, S1, simprocAttr, T2, T3, T4, T22, T23, T25, T51, T53, T55, T58, T71, T73, Nat.le_add_right, Nat.le_refl]
        all_goals rw [hs]
    obtain rfl : j = ns.length := by omega
    have ef : (ns.map (·.term)).take ns.length = ns.map (·.term) := List.take_of_length_le (by simp)
    have hp0 : (lgS (ns.map (·.term)) 1 1500).1 = false := by have := hp; simp only [m, ef] at this; exact this
    have m0 : m2 0 = m ns.length := by simp only [m, m2, ef, List.take_zero, List.append_nil]
    repeat' (first | ((first | refine aops_nil ?_ | refine aqops_nil ?_); (try simp only [NB])) | ((repeat ((fail_if_success (refine hK _ ?_)); clear hK K)); refine hK _ ?_; clear hK K) | ((first | refine aops_k fun K1 hK1 => ?_ | refine aqops_k fun K1 hK1 => ?_ | refine awp_cond_k fun A B hA hB => ?_); simp only [S1, simprocAttr, T2, T3, T4, T22, T23, T25, T51, T53, T55, T58, T71, T73, endN, List.length_map]; first | (refine hK1 _ ?_; clear hK1 K1) | ((first | refine hA ?_ | refine hB ?_); clear hA hB A B) | (refine join_x (v := ?_) (fun hg hk9 => ?_) ?_; rotate_left; (focus (try ((try simp only [BN] at hg); simp only [S1, simprocAttr, T2, T3, T4, T22, T23, T25, T51, T53, T55, T58, T71, T73, endN, List.length_map, hg] at hk9 ⊢)); first | exact hk9); (refine hK1 _ ?_; clear hK1 K1)) | (((first | (refine ⟨fun hg => hA ?_, fun hg => hB ?_⟩ <;> clear hA hB A B) | refine ⟨fun hg => ?_, fun hg => ?_⟩) <;> (try simp only [BN2] at hg) <;> (try simp only [hg, cond_true, cond_false])) <;> (try (refine hK1 _ ?_; clear hK1 K1)) <;> (try simp only [BN3] at hg))) | (refine awp_seq_k fun K hK => ?_) | ((first | refine awp_region ?_ | refine awp_draw (by kernel_rfl) ?_ | refine awp_block ?_ | refine awp_exit ?_ | refine awp_skip ?_ | refine awp_ret ?_); (try simp only [NB, simprocAttr])))
    refine awp_for fl.length 44 (fun j => [(35, .i j), (34, .i fl.length), (33, .p (.sl (fl.map eF))), (3, .ptr (h.length + 1) 0 0), (1, .ptr h.length 0 0)])
      (fun j => [some ⟨0, cNet ns fl⟩, some ⟨0, [.i (m2 j).2]⟩]) (fun j => (m2 j).1 = false) ?_ (by rw [m0]; exact hp) fun j hj hp K hK => ?_
    · simp only [m0]
      (refine ⟨rfl, (by first | exact ⟨_, rfl⟩ | exact ⟨[], by simp⟩), ?_, ?_⟩ <;> simp only [keeps, avlt, avlts, blksLt, frL, upd_get, S1, simprocAttr, List.length_map, Int.natCast_zero, AV.p.injEq, PV.int.injEq, PV.bool.injEq, PV.sl.injEq] <;> (try and_intros) <;> (try assumption) <;> (try trivial) <;> (try omega))
    rcases Nat.lt_or_ge j fl.length with hlt | hge
    · obtain ⟨k, hx⟩ : ∃ k, fl[j]? = some k := ⟨_, List.getElem?_eq_getElem hlt⟩
      have hx2 : (termsN ns fl)[ns.length + j]? = some k.cond := by
        unfold termsN
        rw [List.getElem?_append_right (by simp)]
        simp [hx]
      have et : ∀ i, i ≤ fl.length → (termsN ns fl).take (ns.length + i) = ns.map (·.term) ++ (fl.map (·.cond)).take i := by
        intro i hi
        unfold termsN
        have : ns.length = (ns.map (·.term)).length := by simp
        rw [this, List.take_length_add_append]
      have hp' : (lgS ((termsN ns fl).take (ns.length + j)) 1 1500).1 = false := by rw [et j hj]; exact hp
      have em2 : (lgS ((termsN ns fl).take (ns.length + j)) 1 1500) = m2 j := by rw [et j hj]
      have hr := lgS_room (l := ns.map (·.term) ++ (fl.map (·.cond)).take j) (d := 1) (n := 1500) (by omega)
      have hd := fun A L => deepL_at (G := G) k.cond (m2 j).2 (hr.2.2 hp) (by have := hr.2.1; show (lgS _ _ _).2 ≤ 3000; omega) h A L
      cases hq : (lgT k.cond 1 (m2 j).2).1 with
      | false =>
        have hs := lgS_take hx2 hp'
        rw [em2] at hs
        have em : m2 (j + 1) = lgT k.cond 1 (m2 j).2 := by
          rw [← hs, Nat.add_assoc, et (j + 1) hlt]
        rw [hq] at hd
        repeat' (first | ((first | refine aops_nil ?_ | refine aqops_nil ?_); (try simp only [NB])) | ((repeat ((fail_if_success (refine hK _ ?_)); clear hK K)); refine hK _ ?_; clear hK K) | ((first | refine aops_k fun K1 hK1 => ?_ | refine aqops_k fun K1 hK1 => ?_ | refine awp_cond_k fun A B hA hB => ?_); simp only [S1, simprocAttr, T2, T3, T4, T22, T23, T25, T51, T53, T55, T58, T71, T73, rowF hx, hitF hlt, nextF hl hlt, eF, List.length_map]; first | (refine hK1 _ ?_; clear hK1 K1) | ((first | refine hA ?_ | refine hB ?_); clear hA hB A B) | ((first | apply call_a E22 | apply call_q E22); exact (hd _ _); (refine hK1 _ ?_; clear hK1 K1)) | (refine join_x (v := ?_) (fun hg hk9 => ?_) ?_; rotate_left; (focus (try ((try simp only [BN] at hg); simp only [S1, simprocAttr, T2, T3, T4, T22, T23, T25, T51, T53, T55, T58, T71, T73, rowF hx, hitF hlt, nextF hl hlt, eF, List.length_map, hg] at hk9 ⊢)); first | exact hk9 | ((first | apply call_a E22 | apply call_q E22); exact (hd _ _); exact hk9)); (refine hK1 _ ?_; clear hK1 K1)) | (((first | (refine ⟨fun hg => hA ?_, fun hg => hB ?_⟩ <;> clear hA hB A B) | refine ⟨fun hg => ?_, fun hg => ?_⟩) <;> (try simp only [BN2] at hg) <;> (try simp only [hg, cond_true, cond_false])) <;> (try (refine hK1 _ ?_; clear hK1 K1)) <;> (try simp only [BN3] at hg))) | (refine awp_seq_k fun K hK => ?_) | ((first | refine awp_region ?_ | refine awp_draw (by kernel_rfl) ?_ | refine awp_block ?_ | refine awp_exit ?_ | refine awp_skip ?_ | refine awp_ret ?_); (try simp only [NB, simprocAttr])))
        refine ⟨hlt, by rw [em]; exact hq, ?_⟩
        rw [em]
        (refine ⟨rfl, (by first | exact ⟨_, rfl⟩ | exact ⟨[], by simp⟩), ?_, ?_⟩ <;> simp only [keeps, avlt, avlts, blksLt, frL, upd_get, S1, simprocAttr, List.length_map, Int.natCast_zero, AV.p.injEq, PV.int.injEq, PV.bool.injEq, PV.sl.injEq] <;> (try and_intros) <;> (try assumption) <;> (try trivial) <;> (try omega))
      | true =>
        have hs : (lgS (termsN ns fl) 1 1500).1 = true := by
          rw [lgS_stop hx2 hp' (by rw [em2]; exact hq), em2]; exact hq
        rw [hq] at hd
        repeat' (first | ((first | refine aops_nil ?_ | refine aqops_nil ?_); (try simp only [NB])) | ((repeat ((fail_if_success (refine hK _ ?_)); clear hK K)); refine hK _ ?_; clear hK K) | ((first | refine aops_k fun K1 hK1 => ?_ | refine aqops_k fun K1 hK1 => ?_ | refine awp_cond_k fun A B hA hB => ?_); simp only [S1, simprocAttr, T2, T3, T4, T22, T23, T25, T51, T53, T55, T58, T71, T73, rowF hx, hitF hlt, nextF hl hlt, eF, List.length_map]; first | (refine hK1 _ ?_; clear hK1 K1) | ((first | refine hA ?_ | refine hB ?_); clear hA hB A B) | ((first | apply call_a E22 | apply call_q E22); exact (hd _ _); (refine hK1 _ ?_; clear hK1 K1)) | (refine join_x (v := ?_) (fun hg hk9 => ?_) ?_; rotate_left; (focus (try ((try simp only [BN] at hg); simp only [S1, simprocAttr, T2, T3, T4, T22, T23, T25, T51, T53, T55, T58, T71, T73, rowF hx, hitF hlt, nextF hl hlt, eF, List.length_map, hg] at hk9 ⊢)); first | exact hk9 | ((first | apply call_a E22 | apply call_q E22); exact (hd _ _); exact hk9)); (refine hK1 _ ?_; clear hK1 K1)) | (((first | (refine ⟨fun hg => hA ?_, fun hg => hB ?_⟩ <;> clear hA hB A B) | refine ⟨fun hg => ?_, fun hg => ?_⟩) <;> (try simp only [BN2] at hg) <;> (try simp only [hg, cond_true, cond_false])) <;> (try (refine hK1 _ ?_; clear hK1 K1)) <;> (try simp only [BN3] at hg))) | (refine awp_seq_k fun K hK => ?_) | ((first | refine awp_region ?_ | refine awp_draw (by kernel_rfl) ?_ | refine awp_block ?_ | refine awp_exit ?_ | refine awp_skip ?_ | refine awp_ret ?_); (try simp only [NB, simprocAttr])))
        all_goals simp only [EndP, FinP, resA, resL, resA1, lastV, lastA, lastAs, pur, purs, take_app, List.take_length, S1, simprocAttr, T2, T3, T4, T22, T23, T25, T51, T53, T55, T58, T71, T73, Nat.le_add_right, Nat.le_refl]
        all_goals rw [hs]
    obtain rfl : j = fl.length := by omega
    have ef2 : (fl.map (·.cond)).take fl.length = fl.map (·.cond) := List.take_of_length_le (by simp)
    have hs : (lgS (termsN ns fl) 1 1500).1 = false := by have := hp; simp only [m2, ef2] at this; exact this
    repeat' (first | ((first | refine aops_nil ?_ | refine aqops_nil ?_); (try simp only [NB])) | ((repeat ((fail_if_success (refine hK _ ?_)); clear hK K)); refine hK _ ?_; clear hK K) | ((first | refine aops_k fun K1 hK1 => ?_ | refine aqops_k fun K1 hK1 => ?_ | refine awp_cond_k fun A B hA hB => ?_); simp only [S1, simprocAttr, T2, T3, T4, T22, T23, T25, T51, T53, T55, T58, T71, T73, endF]; first | (refine hK1 _ ?_; clear hK1 K1) | ((first | refine hA ?_ | refine hB ?_); clear hA hB A B) | (refine join_x (v := ?_) (fun hg hk9 => ?_) ?_; rotate_left; (focus (try ((try simp only [BN] at hg); simp only [S1, simprocAttr, T2, T3, T4, T22, T23, T25, T51, T53, T55, T58, T71, T73, endF, hg] at hk9 ⊢)); first | exact hk9); (refine hK1 _ ?_; clear hK1 K1)) | (((first | (refine ⟨fun hg => hA ?_, fun hg => hB ?_⟩ <;> clear hA hB A B) | refine ⟨fun hg => ?_, fun hg => ?_⟩) <;> (try simp only [BN2] at hg) <;> (try simp only [hg, cond_true, cond_false])) <;> (try (refine hK1 _ ?_; clear hK1 K1)) <;> (try simp only [BN3] at hg))) | (refine awp_seq_k fun K hK => ?_) | ((first | refine awp_region ?_ | refine awp_draw (by kernel_rfl) ?_ | refine awp_block ?_ | refine awp_exit ?_ | refine awp_skip ?_ | refine awp_ret ?_); (try simp only [NB, simprocAttr])))
    all_goals simp only [EndP, FinP, resA, resL, resA1, lastV, lastA, lastAs, pur, purs, take_app, List.take_length, S1, simprocAttr, T2, T3, T4, T22, T23, T25, T51, T53, T55, T58, T71, T73, Nat.le_add_right, Nat.le_refl]
    all_goals rw [hs]
end Go.Proofs.YtlophgkgmhcagaaDoor.AM
end

section
set_option linter.unusedVariables false
set_option linter.unusedSimpArgs false
namespace Go.Proofs.YtlophgkgmhcagaaDoor.AM
open Go Go.ChangeShapes Go.WideShapes Go.RowKit

mutual
/-- The cells of a datum. -/
def cellsD {H : Type} : DataW H → List PV
  | .lit (.bool b) => [.bool b]
  | .lit (.int k n) => [.int k n]
  | .lit (.string l) => [.str ⟨l.toArray⟩]
  | .lit _ => []
  | .nil => [.sl []]
  | .slice elems _ => [.sl (rowsD elems)]
  | .agg parts => partsD parts
  | .ptr _ => []
  | .iface _ _ => []
  | .map _ => []
  | .held _ => []
def rowsD {H : Type} : List (DataW H) → List (List PV)
  | [] => []
  | d :: r => cellsD d :: rowsD r
def partsD {H : Type} : List (DataW H) → List PV
  | [] => []
  | d :: r => cellsD d ++ partsD r
end

/-- Types that are read as plain data, and lie in a row. -/
def plainT (P : Program) (S : List Nat) (t : Nat) : Bool :=
  match P.underlying t with
  | some .bool | some (.int _) | some .string => P.cellsOf t == 1
  | some (.slice e) => S.contains e && decide (0 < P.cellsOf e) && P.cellsOf t == 1
  | some (.array n e) => S.contains e && P.cellsOf t == n * P.cellsOf e
  | some (.struct fs) => fs.toList.all (fun f => S.contains f.type) &&
      (fs.toList.foldl (fun (acc : Option Nat) f => acc.bind fun o => if f.offset == o then some (o + P.cellsOf f.type) else none) (some 0) == some (P.cellsOf t))
  | _ => false

def plainB (P : Program) (S : List Nat) : Bool := S.all (plainT P S)

/-- Typed cells. -/
def Ty (P : Program) : Nat → Nat → List PV → Prop
  | 0, _, _ => False
  | fuel + 1, t, xs =>
    match P.underlying t with
    | some .bool => ∃ b, xs = [.bool b]
    | some (.int k) => ∃ n, InRange k n ∧ xs = [.int k n]
    | some .string => ∃ s, xs = [.str s]
    | some (.slice e) => ∃ rows, xs = [.sl rows] ∧ ∀ row ∈ rows, Ty P fuel e row
    | some (.array n e) => ∃ rows : List (List PV), rows.length = n ∧ xs = rows.flatMap id ∧ ∀ row ∈ rows, Ty P fuel e row
    | some (.struct fs) => ∃ rows : List (List PV), rows.length = fs.size ∧ xs = rows.flatMap id ∧ ∀ (i : Nat) f row, fs[i]? = some f → rows[i]? = some row → Ty P fuel f.type row
    | _ => False

def LR (w : World) (xs : List PV) (cs : List Value) : Prop := xs.length = cs.length ∧ ∀ (i : Nat) x v, xs[i]? = some x → cs[i]? = some v → PRel w (fun _ => False) x v

section
variable {P : Program} {w : World} {H : Type} {enc : TypeId × Value → H} {spare : Nat → Bool} {held : Bool}

theorem mapM_some' {α β : Type} {f : α → Option β} : ∀ {l : List α} {r : List β}, l.mapM f = some r → r.length = l.length ∧ ∀ (i : Nat) x y, l[i]? = some x → r[i]? = some y → f x = some y
  | [], r, h => by simp at h; subst h; simp
  | a :: l, r, h => by
    simp only [List.mapM_cons] at h
    cases ha : f a with
    | none => simp [ha] at h
    | some b =>
      cases hl : l.mapM f with
      | none => simp [ha, hl] at h
      | some bs =>
        simp [ha, hl] at h
        subst h
        obtain ⟨l1, l2⟩ := mapM_some' hl
        refine ⟨by simp [l1], fun i x y hx hy => ?_⟩
        cases i with
        | zero => simp at hx hy; rw [← hx, ← hy]; exact ha
        | succ i => simp at hx hy; exact l2 i x y hx hy

theorem LR.append {xs ys : List PV} {cs ds : List Value} (h1 : LR w xs cs) (h2 : LR w ys ds) : LR w (xs ++ ys) (cs ++ ds) := by
  refine ⟨by simp [h1.1, h2.1], fun i x v hx hv => ?_⟩
  by_cases hi : i < xs.length
  · rw [List.getElem?_append_left hi] at hx
    rw [List.getElem?_append_left (by rw [← h1.1]; exact hi)] at hv
    exact h1.2 i x v hx hv
  · rw [List.getElem?_append_right (by omega)] at hx
    rw [List.getElem?_append_right (by rw [← h1.1]; omega), ← h1.1] at hv
    exact h2.2 _ x v hx hv

theorem rowsD_get (ds : List (DataW H)) : ∀ i : Nat, (rowsD ds)[i]? = (ds[i]?).map cellsD := by
  induction ds with
  | nil => intro i; simp [rowsD]
  | cons d r ih => intro i; cases i with
    | zero => simp [rowsD]
    | succ i => simp [rowsD, ih]

theorem rowsD_length (ds : List (DataW H)) : (rowsD ds).length = ds.length := by
  induction ds with
  | nil => rfl
  | cons d r ih => simp [rowsD, ih]

theorem partsD_eq (ds : List (DataW H)) : partsD ds = (rowsD ds).flatMap id := by
  induction ds with
  | nil => rfl
  | cons d r ih => simp [partsD, rowsD, ih]

/-- Rows that lie behind each other. -/
theorem LR.rows : ∀ (rows : List (List PV)) (sizes : List Nat) (cs : List Value), rows.length = sizes.length → cs.length = sizes.foldl (· + ·) 0 →
    (∀ (i : Nat) row n, rows[i]? = some row → sizes[i]? = some n → LR w row ((cs.drop ((sizes.take i).foldl (· + ·) 0)).take n)) → LR w (rows.flatMap id) cs := by
  have hf : ∀ (l : List Nat) (a : Nat), l.foldl (· + ·) a = a + l.foldl (· + ·) 0 := by
    intro l
    induction l with
    | nil => intro a; rfl
    | cons x r ih => intro a; simp only [List.foldl_cons]; rw [ih, ih (0 + x)]; omega
  intro rows
  induction rows with
  | nil =>
    intro sizes cs hl hc _
    cases sizes with
    | nil => simp at hc; subst hc; exact ⟨rfl, fun i x v hx => by simp at hx⟩
    | cons => simp at hl
  | cons row rest ih =>
    intro sizes cs hl hc h
    cases sizes with
    | nil => simp at hl
    | cons n ns =>
      simp only [List.foldl_cons] at hc
      rw [hf] at hc
      have h0 := h 0 row n rfl rfl
      simp at h0
      have hrest : LR w (rest.flatMap id) (cs.drop n) := by
        refine ih ns (cs.drop n) (by simpa using hl) (by simp; omega) fun i r m hr hm => ?_
        have := h (i + 1) r m (by simpa using hr) (by simpa using hm)
        simp only [List.take_succ_cons, List.foldl_cons] at this
        rw [hf] at this
        rw [List.drop_drop]
        simpa using this
      have := h0.append hrest
      simpa using this

theorem cells?_some {a : Addr} {n : Nat} {cs : List Value} (h : w.cells? 0 a n = some cs) : cs.length = n ∧ ∀ (i : Nat) v, cs[i]? = some v → w.cell? (a.add i) = some v := by
  unfold World.cells? at h
  simp only [Nat.zero_le, if_true] at h
  obtain ⟨l1, l2⟩ := mapM_some' h
  refine ⟨by simpa using l1, fun i v hv => ?_⟩
  have hi : i < n := by have := getElem?_lt hv; simp at l1; omega
  exact l2 i i v (by simp [hi]) hv

theorem trodPV {S : List Nat} (hS : plainB P S = true) : ∀ (fuel t : Nat) (cs : List Value) (x : DataW H × List MemPlace), t ∈ S → DataW.trod enc P w 0 spare held fuel t cs = some x →
    LR w (cellsD x.1) cs ∧ Ty P fuel t (cellsD x.1) ∧ cs.length = P.cellsOf t := by
  have hpl : ∀ t ∈ S, plainT P S t = true := by simpa [plainB] using hS
  intro fuel
  induction fuel with
  | zero => intro t cs x _ h; simp [DataW.trod] at h
  | succ fuel ih =>
    intro t cs x ht h
    have hp := hpl t ht
    unfold plainT at hp
    unfold Ty
    have one : ∀ (y : PV) (v : Value), PRel w (fun _ => False) y v → LR w [y] [v] := by
      intro y v hy
      refine ⟨rfl, fun i x v hx hv => ?_⟩
      cases i with
      | zero => simp at hx hv; rw [← hx, ← hv]; exact hy
      | succ i => simp at hx
    cases hu : P.underlying t with
    | none => rw [hu] at hp; simp at hp
    | some d =>
      rw [hu] at hp
      cases d with
      | bool =>
        simp only [beq_iff_eq] at hp
        obtain ⟨b, rfl, rfl⟩ := DataW.trod_bool hu h
        exact ⟨one _ _ (.bool b), ⟨b, rfl⟩, hp.symm⟩
      | int k =>
        simp only [beq_iff_eq] at hp
        obtain ⟨n, rfl, rfl, hw⟩ := DataW.trod_int hu h
        have hr : InRange k n := by
          simp only [Lit.wf] at hw
          unfold InRange
          simpa using hw
        exact ⟨one _ _ (.int _ _ hr), ⟨n, hr, rfl⟩, hp.symm⟩
      | string =>
        simp only [beq_iff_eq] at hp
        obtain ⟨s, rfl, rfl, hs⟩ := DataW.trod_string hu h
        have hm : s.size ≤ 9223372036854775807 := by unfold maxLen at hs; omega
        have e : (⟨s.data.toList.toArray⟩ : ByteArray) = s := by simp
        refine ⟨?_, ⟨_, rfl⟩, hp.symm⟩
        simp only [cellsD, e]
        exact one _ _ (.str s hm)
      | slice e =>
        simp only [Bool.and_eq_true, beq_iff_eq, decide_eq_true_eq, List.contains_iff_mem] at hp
        obtain ⟨⟨he, hpos⟩, h1⟩ := hp
        rcases DataW.trod_slice hu h with ⟨rfl, rfl⟩ | ⟨a, len, cap, elems, rest, m, hm, rfl, rfl, _, hlc, hcm, m1, m2, _⟩
        · exact ⟨one _ _ (.slz _ _), ⟨[], rfl, by simp⟩, h1.symm⟩
        · have : m = fuel := by omega
          subst this
          have hrow : ∀ (i : Nat) y, elems[i]? = some y → ∃ rc, w.cells? 0 (a.add (i * P.cellsOf e)) (P.cellsOf e) = some rc ∧ LR w (cellsD y.1) rc ∧ Ty P m e (cellsD y.1) := by
            intro i y hy
            have hi : i < len := by have := getElem?_lt hy; omega
            have := m2 i hi
            rw [hy] at this
            obtain ⟨rc, hrc, ht'⟩ := Option.bind_eq_some_iff.mp this
            obtain ⟨q1, q2, _⟩ := ih e rc y he ht'
            exact ⟨rc, hrc, q1, q2⟩
          have hrg : ∀ i : Nat, (rowsD (elems.map (·.1)))[i]? = (elems[i]?).map fun y => cellsD y.1 := by
            intro i; rw [rowsD_get]; simp
            cases elems[i]? <;> rfl
          have hrl : (rowsD (elems.map (·.1))).length = len := by rw [rowsD_length]; simp [m1]
          have hmem : ∀ row ∈ rowsD (elems.map (·.1)), ∃ (i : Nat) (y : DataW H × List MemPlace), elems[i]? = some y ∧ cellsD y.1 = row := by
            intro row hr
            obtain ⟨i, hi, rfl⟩ := List.getElem_of_mem hr
            have h1 : (rowsD (elems.map (·.1)))[i]? = some ((rowsD (elems.map (·.1)))[i]) := List.getElem?_eq_getElem hi
            rw [hrg] at h1
            obtain ⟨y, hy, hye⟩ := Option.map_eq_some_iff.mp h1
            exact ⟨i, y, hy, hye⟩
          have hcd : cellsD (DataW.slice (elems.map (·.1)) (rest.map (·.1))) = [.sl (rowsD (elems.map (fun y : DataW H × List MemPlace => y.1)))] := by simp only [cellsD]
          show LR w (cellsD (DataW.slice (elems.map (·.1)) (rest.map (·.1)))) _ ∧ (∃ rows, cellsD (DataW.slice (elems.map (·.1)) (rest.map (·.1))) = [.sl rows] ∧ ∀ row ∈ rows, Ty P m e row) ∧ _
          rw [hcd]
          refine ⟨one (.sl (rowsD (elems.map (fun y : DataW H × List MemPlace => y.1)))) _ ?_, ⟨_, rfl, fun row hr => ?_⟩, h1.symm⟩
          · by_cases hz : len = 0
            · have : rowsD (elems.map (·.1)) = [] := List.eq_nil_of_length_eq_zero (by omega)
              rw [this, hz]
              exact .slz _ _
            · obtain ⟨y0, hy0⟩ : ∃ y, elems[0]? = some y := ⟨elems[0]'(by omega), by simp⟩
              obtain ⟨rc0, hrc0, _, _⟩ := hrow 0 y0 hy0
              obtain ⟨c1, c2⟩ := cells?_some hrc0
              have hc0 : w.cell? a = some (rc0[0]'(by omega)) := by
                have := c2 0 (rc0[0]'(by omega)) (by simp)
                simpa [Addr.add] using this
              have hspot : a.spot = none := by
                unfold World.cell? at hc0
                split at hc0
                · split at hc0
                  · cases hc0
                  · rename_i hs; simpa using hs
                · cases hc0
              obtain ⟨blk, off, sp⟩ := a
              simp only at hspot
              subst hspot
              have hb := block_lt_of_cell hc0
              have hf : ∀ q : Nat × Nat, ∃ v, ∀ x, get2 (rowsD (elems.map (·.1))) q.1 q.2 = some x → w.cell? ⟨blk, off + (q.1 * P.cellsOf e + q.2), none⟩ = some v ∧ PRel w (fun _ => False) x v := by
                intro q
                cases hq : get2 (rowsD (elems.map (·.1))) q.1 q.2 with
                | none => exact ⟨undef, fun x hx => by cases hx⟩
                | some x =>
                  unfold get2 at hq
                  obtain ⟨row, hr1, hr2⟩ := Option.bind_eq_some_iff.mp hq
                  rw [hrg] at hr1
                  obtain ⟨y, hy, rfl⟩ := Option.map_eq_some_iff.mp hr1
                  obtain ⟨rc, hrc, ⟨l1, l2⟩, _⟩ := hrow q.1 y hy
                  obtain ⟨d1, d2⟩ := cells?_some hrc
                  have hj : q.2 < rc.length := by have := getElem?_lt hr2; omega
                  refine ⟨rc[q.2], fun x' hx' => ?_⟩
                  cases hx'
                  refine ⟨?_, l2 q.2 x rc[q.2] hr2 (by simp)⟩
                  have := d2 q.2 rc[q.2] (by simp)
                  rw [Addr.add_lit, Addr.add_lit] at this
                  rw [← Nat.add_assoc]
                  exact this
              obtain ⟨f, hf⟩ := Classical.axiomOfChoice hf
              have := PRel.sl (w := w) (own := fun _ => False) (rowsD (elems.map (·.1))) blk off cap (P.cellsOf e) (fun i j => f (i, j)) (by omega) (by unfold maxLen at hcm; omega) (fun h => h) hb
                (fun row hr => by
                  obtain ⟨i, y, hy, hye⟩ := hmem row hr
                  obtain ⟨rc, hrc, ⟨l1, _⟩, _⟩ := hrow i y hy
                  rw [← hye, l1, (cells?_some hrc).1])
                (fun i j x hx => (hf (i, j) x hx).1) (fun i j x hx => (hf (i, j) x hx).2)
              rwa [hrl] at this
          · obtain ⟨i, y, hy, hye⟩ := hmem row hr
            obtain ⟨rc, hrc, _, q⟩ := hrow i y hy
            rw [← hye]; exact q
      | array n e =>
        simp only [Bool.and_eq_true, beq_iff_eq, List.contains_iff_mem] at hp
        obtain ⟨he, hc⟩ := hp
        obtain ⟨xs, m, hm, rfl, hlen, m1, m2⟩ := DataW.trod_array hu h
        have : m = fuel := by omega
        subst this
        have hrg : ∀ i : Nat, (rowsD (xs.map (·.1)))[i]? = (xs[i]?).map fun y => cellsD y.1 := by
          intro i; rw [rowsD_get]; simp
          cases xs[i]? <;> rfl
        have hrl : (rowsD (xs.map (·.1))).length = n := by rw [rowsD_length]; simp [m1]
        have hrow : ∀ (i : Nat) y, xs[i]? = some y → LR w (cellsD y.1) ((cs.drop (i * P.cellsOf e)).take (P.cellsOf e)) ∧ Ty P m e (cellsD y.1) := by
          intro i y hy
          have hi : i < n := by have := getElem?_lt hy; omega
          obtain ⟨q1, q2, _⟩ := ih e _ y he ((m2 i hi).trans hy)
          exact ⟨q1, q2⟩
        refine ⟨?_, ⟨rowsD (xs.map (·.1)), hrl, by simp only [cellsD, partsD_eq], fun row hr => ?_⟩, hlen⟩
        · simp only [cellsD, partsD_eq]
          have hsum : ∀ m : Nat, (List.replicate m (P.cellsOf e)).foldl (· + ·) 0 = m * P.cellsOf e := by
            intro m
            have hf : ∀ (l : List Nat) (a : Nat), l.foldl (· + ·) a = a + l.foldl (· + ·) 0 := by
              intro l
              induction l with
              | nil => intro a; rfl
              | cons x r ih => intro a; simp only [List.foldl_cons]; rw [ih, ih (0 + x)]; omega
            induction m with
            | zero => simp
            | succ m ih => rw [List.replicate_succ, List.foldl_cons, hf, ih, Nat.succ_mul]; omega
          refine LR.rows _ (List.replicate n (P.cellsOf e)) cs (by simp [hrl]) (by rw [hsum, hlen, hc]) fun i row k hr hk => ?_
          rw [hrg] at hr
          obtain ⟨y, hy, rfl⟩ := Option.map_eq_some_iff.mp hr
          have hi : i < n := by have := getElem?_lt hy; omega
          rw [List.getElem?_replicate, if_pos hi] at hk
          cases hk
          rw [List.take_replicate, show min i n = i by omega, hsum]
          exact (hrow i y hy).1
        · obtain ⟨i, hi, rfl⟩ := List.getElem_of_mem hr
          have h1 : (rowsD (xs.map (·.1)))[i]? = some ((rowsD (xs.map (·.1)))[i]) := List.getElem?_eq_getElem hi
          rw [hrg] at h1
          obtain ⟨y, hy, hye⟩ := Option.map_eq_some_iff.mp h1
          rw [← hye]; exact (hrow i y hy).2
      | struct fs =>
        rw [Bool.and_eq_true, List.all_eq_true, beq_iff_eq] at hp
        obtain ⟨hfs0, hoff⟩ := hp
        have hfs : ∀ f ∈ fs.toList, f.type ∈ S := fun f hf => by simpa using hfs0 f hf
        obtain ⟨xs, m, hm, rfl, hlen, m1, m2⟩ := DataW.trod_struct hu h
        have : m = fuel := by omega
        subst this
        have hrg : ∀ i : Nat, (rowsD (xs.map (·.1)))[i]? = (xs[i]?).map fun y => cellsD y.1 := by
          intro i; rw [rowsD_get]; simp
          cases xs[i]? <;> rfl
        have hrl : (rowsD (xs.map (·.1))).length = fs.toList.length := by rw [rowsD_length]; simp [m1]
        have hrow : ∀ (i : Nat) y f, xs[i]? = some y → fs.toList[i]? = some f → LR w (cellsD y.1) ((cs.drop f.offset).take (P.cellsOf f.type)) ∧ Ty P m f.type (cellsD y.1) := by
          intro i y f hy hf
          obtain ⟨q1, q2, _⟩ := ih f.type _ y (hfs f (List.mem_of_getElem? hf)) ((m2 i f (by simpa using hf)).trans hy)
          exact ⟨q1, q2⟩
        -- the offsets are sums
        have hgen : ∀ (l : List Field) (o tot : Nat), l.foldl (fun (acc : Option Nat) f => acc.bind fun o => if f.offset == o then some (o + P.cellsOf f.type) else none) (some o) = some tot →
            tot = o + (l.map fun f => P.cellsOf f.type).foldl (· + ·) 0 ∧ ∀ (i : Nat) f, l[i]? = some f → f.offset = o + ((l.map fun f => P.cellsOf f.type).take i).foldl (· + ·) 0 := by
          have hf : ∀ (l : List Nat) (a : Nat), l.foldl (· + ·) a = a + l.foldl (· + ·) 0 := by
            intro l
            induction l with
            | nil => intro a; rfl
            | cons x r ih => intro a; simp only [List.foldl_cons]; rw [ih, ih (0 + x)]; omega
          have hnone : ∀ l : List Field, l.foldl (fun (acc : Option Nat) f => acc.bind fun o => if f.offset == o then some (o + P.cellsOf f.type) else none) none = none := by
            intro l; induction l with
            | nil => rfl
            | cons f r ih => simpa using ih
          intro l
          induction l with
          | nil => intro o tot h; simp at h; subst h; simp
          | cons f r ihl =>
            intro o tot h
            simp only [List.foldl_cons, Option.bind_some] at h
            split at h
            · rename_i ho
              obtain ⟨e1, e2⟩ := ihl _ _ h
              refine ⟨by simp only [List.map_cons, List.foldl_cons]; rw [hf]; omega, fun i g hg => ?_⟩
              cases i with
              | zero => simp at hg ho; subst hg; simpa using ho
              | succ i =>
                simp at hg
                have := e2 i g hg
                simp only [List.map_cons, List.take_succ_cons, List.foldl_cons]
                rw [hf]; omega
            · rw [hnone] at h; cases h
        obtain ⟨g1, g2⟩ := hgen fs.toList 0 _ hoff
        refine ⟨?_, ⟨rowsD (xs.map (·.1)), by simpa using hrl, by simp only [cellsD, partsD_eq], fun i f row hf hr => ?_⟩, hlen⟩
        · simp only [cellsD, partsD_eq]
          refine LR.rows _ (fs.toList.map fun f => P.cellsOf f.type) cs (by simpa using hrl) (by omega) fun i row k hr hk => ?_
          rw [hrg] at hr
          obtain ⟨y, hy, rfl⟩ := Option.map_eq_some_iff.mp hr
          simp only [List.getElem?_map, Option.map_eq_some_iff] at hk
          obtain ⟨f, hf, rfl⟩ := hk
          have := g2 i f hf
          rw [Nat.zero_add] at this
          rw [← this]
          exact (hrow i y f hy hf).1
        · rw [hrg] at hr
          obtain ⟨y, hy, rfl⟩ := Option.map_eq_some_iff.mp hr
          exact (hrow i y f hy (by simpa using hf)).2
      | _ => simp at hp

end
end Go.Proofs.YtlophgkgmhcagaaDoor.AM
end

section
set_option linter.unusedVariables false
set_option linter.unusedSimpArgs false
namespace Go.Proofs.YtlophgkgmhcagaaDoor.AM
open Go Go.ChangeShapes Go.WideShapes Go.RowKit

def aggT (P : Program) (t : Nat) : Bool := match P.underlying t with | some (.struct _) | some (.array _ _) => true | _ => false

/-- An argument out of its cells. -/
def argA (P : Program) (t : Nat) (xs : List PV) : AV :=
  if aggT P t then .agg (xs.map .p) else match xs with | x :: _ => .p x | [] => .undef

section
variable {P : Program} {G : Nat → Option (List PV)} {H : Type} {enc : TypeId × Value → H}

/-- 'ChangeSpec.post' where all that was there is as it was. (After the guide's 'post_of_below', howto/extra-small.md, section 9.) -/
theorem post_of_below {f : Func} {s : ChangeSpec} {apart fresh handsOn again : Bool} {W W' : World} {args : Array Value} {v : Value} {ds gs : List (DataW H)} {before pa pv : List MemPlace}
    (hW : DataW.Whole enc P f.params.toList s.vars apart W args.toList ds gs before)
    (hres : ∀ (b : Nat) (sp : Nat → Bool) (hd : Bool), DataW.TrodAll enc P W' b sp hd f.resultTypes.toList (v.resultList f.resultTypes.size) (s.fn H (ds ++ gs)).results [])
    (hargs : ∀ sp : Nat → Bool, (∀ p ∈ before, sp p.block = true) → DataW.TrodAll enc P W' 0 sp true f.params.toList args.toList (s.fn H (ds ++ gs)).args pa)
    (hvars : ∀ sp : Nat → Bool, (∀ p ∈ before, sp p.block = true) → DataW.TrodVars enc P W' sp s.vars (s.fn H (ds ++ gs)).vars pv)
    (hps : before = pa ++ pv) (hb : Below W.heap.size W W')
    (hok : ∀ (j : Nat) (t : TypeId) (r : Value), f.resultTypes[j]? = some t → (v.resultList f.resultTypes.size)[j]? = some r → Value.okWide P W' .any 0 t r) :
    s.post enc P f apart fresh handsOn again W args v W' := by
  have hlt : ∀ p ∈ before, p.block < W.heap.size := fun p hp => hW.lt p hp
  have hold : ∀ p ∈ before, (fun b => decide (b < W.heap.size)) p.block = true := fun p hp => by simpa using hlt p hp
  refine ⟨ds, gs, before, [], pa, pv, hW, hres _ _ _, hargs _ hold, hvars _ hold, World.keptBut_mono (fun p hp => ⟨hp, ?_⟩) (hb.frame (· ∈ before)), fun _ => ?_⟩
  · rw [hps, List.mem_append] at hp
    exact Or.inr hp
  · obtain ⟨_, _, _, _, _, hz, hn⟩ := hW
    refine ⟨hok, _, _, ([] ++ pa) ++ pv, ⟨[] ++ pa, pv, trodAll_append (hargs _ (fun _ _ => rfl)) (hres _ _ _), hvars _ (fun _ _ => rfl), rfl, ?_, ?_⟩, ?_⟩
    · intro b off hp
      have hin : MemPlace.cell b off ∈ before := by rw [hps]; simpa using hp
      rw [hb.frozen (hlt _ hin)]
      exact hz b off hin
    · intro ha
      have := hn ha
      rw [hps] at this
      simpa using this
    · intro p hp _
      rw [hps]
      simpa using hp

theorem own_nil {ι : Nat → Nat × Nat} {k : Nat} : ¬ own ι [] k := fun ⟨b, bk, h, _⟩ => by simp at h

theorem PRel.weak {w : World} {o : Nat → Prop} {x : PV} {v : Value} (h : PRel w (fun _ => False) x v) (ho : ∀ k, ¬ o k) : PRel w o x v :=
  h.mono (Nat.le_refl _) fun k _ _ => ⟨rfl, ho k⟩

theorem arg_rel {W : World} {S : List Nat} (hS : plainB P S = true) {t : Nat} (ht : t ∈ S) {sp : Nat → Bool} {held : Bool} {v : Value} {d : DataW H} {ps : List MemPlace} (hd : DataW.Trod enc P W 0 sp held t v d ps)
    {r : Reach} {b0 : Nat} (hok : Value.okWide P W r b0 t v) (ι : Nat → Nat × Nat) : VRel ι [] W (argA P t (cellsD d)) v ∧ ∃ fuel, Ty P fuel t (cellsD d) := by
  obtain ⟨fuel, hf⟩ := hd
  obtain ⟨⟨l1, l2⟩, hty, hlen⟩ := trodPV hS fuel t _ _ ht hf
  refine ⟨?_, fuel, hty⟩
  unfold argA aggT
  unfold Value.okWide at hok
  have hpl : plainT P S t = true := by
    have : ∀ t ∈ S, plainT P S t = true := by simpa [plainB] using hS
    exact this t ht
  unfold plainT at hpl
  have agg : ∀ cs, v = .agg cs → VRel ι [] W (.agg ((cellsD d).map .p)) v := by
    intro cs hc
    subst hc
    refine .agg _ _ (by simpa [Value.cells] using l1) fun i x u hx hu => ?_
    simp only [List.getElem?_map, Option.map_eq_some_iff] at hx
    obtain ⟨y, hy, rfl⟩ := hx
    exact .p _ _ ((l2 i y u hy (by simpa [Value.cells] using hu)).weak fun _ => own_nil)
  cases hu : P.underlying t with
  | none => rw [hu] at hpl; simp at hpl
  | some D =>
    rw [hu] at hok hpl
    have one : P.cellsOf t = 1 → (∀ cs, v ≠ .agg cs) → VRel ι [] W (match cellsD d with | x :: _ => .p x | [] => .undef) v := by
      intro h1 hna
      have hc : v.cells = #[v] := by cases v <;> first | rfl | exact absurd rfl (hna _)
      rw [hc] at l1 l2
      match hq : cellsD d, l1, l2 with
      | [x], l1, l2 => exact .p _ _ ((l2 0 x v rfl rfl).weak fun _ => own_nil)
      | [], l1, _ => simp at l1
      | _ :: _ :: _, l1, _ => simp at l1
    cases D with
    | struct fs => obtain ⟨cs, hc, _⟩ := hok; simpa using agg cs hc
    | array n e => obtain ⟨cs, hc, _⟩ := hok; simpa using agg cs hc
    | bool => simpa using one (by simpa using hpl) (fun cs e => by subst e; simp [Cell.okWide, hu, Cell.ok] at hok)
    | int k => simpa using one (by simpa using hpl) (fun cs e => by subst e; simp [Cell.okWide, hu, Cell.ok] at hok)
    | string => simpa using one (by simpa using hpl) (fun cs e => by subst e; simp [Cell.okWide, hu, Cell.ok] at hok)
    | slice e => 
      have h1 : P.cellsOf t = 1 := by simp only [Bool.and_eq_true, beq_iff_eq] at hpl; exact hpl.2
      simpa using one h1 (fun cs e => by subst e; simp [Cell.okWide, hu, Cell.ok] at hok)
    | _ => simp at hpl

theorem args_rel {W : World} {S : List Nat} (hS : plainB P S = true) {sp : Nat → Bool} {held : Bool} {r : Reach} {b0 : Nat} (ι : Nat → Nat × Nat) :
    ∀ (ts : List Nat) (vs : List Value) (ds : List (DataW H)) (ps : List MemPlace), (∀ t ∈ ts, t ∈ S) → DataW.TrodAll enc P W 0 sp held ts vs ds ps →
      (∀ (j : Nat) t v, ts[j]? = some t → vs[j]? = some v → Value.okWide P W r b0 t v) →
      ds.length = ts.length ∧ vs.length = ts.length ∧ (∀ (j : Nat) t v d, ts[j]? = some t → vs[j]? = some v → ds[j]? = some d → VRel ι [] W (argA P t (cellsD d)) v ∧ ∃ fuel, Ty P fuel t (cellsD d))
  | [], [], [], ps, _, h, _ => ⟨rfl, rfl, fun j t v d ht => by simp at ht⟩
  | t :: ts, v :: vs, d :: ds, ps, hin, h, hok => by
    obtain ⟨p, q, h1, h2, rfl⟩ := h
    obtain ⟨l1, l2, l3⟩ := args_rel hS ι ts vs ds q (fun t ht => hin t (by simp [ht])) h2 (fun j t v ht hv => hok (j + 1) t v (by simpa using ht) (by simpa using hv))
    refine ⟨by simp [l1], by simp [l2], fun j t' v' d' ht hv hd => ?_⟩
    cases j with
    | zero =>
      simp at ht hv hd
      subst ht; subst hv; subst hd
      exact arg_rel hS (hin t (by simp)) h1 (hok 0 t v rfl rfl) ι
    | succ j => simp at ht hv hd; exact l3 j t' v' d' ht hv hd
  | [], [], _ :: _, _, _, h, _ => h.elim
  | [], _ :: _, _, _, _, h, _ => h.elim
  | _ :: _, [], _, _, _, h, _ => h.elim
  | _ :: _, _ :: _, [], _, _, h, _ => h.elim

theorem args_stay {W W' : World} (hl : laidOutB P = true) (hb : Below W.heap.size W W') {sp' : Nat → Bool} : ∀ (ts : List Nat) (vs : List Value) (ds : List (DataW H)) (ps : List MemPlace),
    (∀ t ∈ ts, P.readableRec t = true ∧ t < P.types.size) → DataW.TrodAll enc P W 0 (fun _ => true) true ts vs ds ps → (∀ p ∈ ps, p.block < W.heap.size) → (∀ p ∈ ps, sp' p.block = true) →
      DataW.TrodAll enc P W' 0 sp' true ts vs ds ps
  | [], [], [], ps, _, h, _, _ => h
  | t :: ts, v :: vs, d :: ds, ps, hin, h, hlt, hsp => by
    obtain ⟨p, q, h1, h2, rfl⟩ := h
    obtain ⟨r1, r2⟩ := hin t (by simp)
    exact ⟨p, q, WideElems.Trod_stays hl r1 r2 h1 (fun x hx => hb.same (hlt x (by simp [hx]))) (fun x hx => hsp x (by simp [hx])),
      args_stay hl hb ts vs ds q (fun t ht => hin t (by simp [ht])) h2 (fun x hx => hlt x (by simp [hx])) (fun x hx => hsp x (by simp [hx])), rfl⟩
  | [], [], _ :: _, _, _, h, _, _ => h.elim
  | [], _ :: _, _, _, _, h, _, _ => h.elim
  | _ :: _, [], _, _, _, h, _, _ => h.elim
  | _ :: _, _ :: _, [], _, _, h, _, _ => h.elim

/-- **A LAW**: from what abstract calls of it come to, what its row asks of each call. -/
theorem law_contract {f : FuncId} {fn : Func} {S : List Nat} (hS : plainB P S = true) (hl : laidOutB P = true) {ts : List Nat} (hts : fn.params.toList = ts) (hin : ∀ t ∈ ts, t ∈ S) (hrd : ∀ t ∈ ts, P.readableRec t = true ∧ t < P.types.size)
    {bt : Nat} (hres : fn.resultTypes = #[bt]) (hbt : P.underlying bt = some .bool)
    {s : ChangeSpec} (hsv : s.vars = []) (hsf : ∀ (H : Type) (ds : List (DataW H)), ds.length = ts.length → s.fn H ds = { results := [.lit (.bool true)], args := ds })
    (hlaw : ∀ xss : List (List PV), xss.length = ts.length → (∀ (j : Nat) t xs, ts[j]? = some t → xss[j]? = some xs → ∃ fuel, Ty P fuel t xs) →
      ACalls P G f (List.zipWith (argA P) ts xss) [] fun r h' => r = .b true ∧ h' = [])
    {apart fresh handsOn again : Bool} {W : World} (hG : ∀ g cells, G g = some cells → PinRel W (fun _ => False) cells g 0) {base : Nat} {args : Array Value} {ds gs : List (DataW H)} {before : List MemPlace}
    (hval : ∀ (j : Nat) t v, fn.params[j]? = some t → args[j]? = some v → Value.okWide P W .any base t v)
    (hW : DataW.Whole enc P fn.params.toList s.vars apart W args.toList ds gs before) :
    Calls P f args W fun e W' => ∃ v, e = .returned v ∧ s.post enc P fn apart fresh handsOn again W args v W' := by
  have hW' := hW
  obtain ⟨p, q, hA, hV, hps, hfz, hnd⟩ := hW
  rw [hsv] at hV
  obtain ⟨rfl, rfl⟩ := trodVars_none hV
  rw [hts] at hA
  obtain ⟨l1, l2, l3⟩ := args_rel hS (fun _ => (0, 0)) ts args.toList ds p hin hA (fun j t v ht hv => hval j t v (by rw [← hts] at ht; simpa using ht) (by simpa using hv))
  have hSim : SimH P G (fun _ => (0, 0)) [] W := ⟨⟨fun b bk hb => by simp at hb, fun b b' bk bk' hb => by simp at hb⟩, fun g cells hg => (hG g cells hg).mono (Nat.le_refl _) fun k _ _ => ⟨rfl, own_nil⟩⟩
  have hcall := hlaw (ds.map cellsD) (by simp [l1]) (fun j t xs ht hx => by
    simp only [List.getElem?_map, Option.map_eq_some_iff] at hx
    obtain ⟨d, hd, rfl⟩ := hx
    have hj : j < args.toList.length := by have := getElem?_lt ht; omega
    exact (l3 j t args.toList[j] d ht (List.getElem?_eq_getElem hj) hd).2) (fun _ => (0, 0)) W args hSim ⟨by simp [l1]; simpa using l2.symm, fun i x v hx hv => by
      simp only [List.getElem?_zipWith, List.getElem?_map] at hx
      cases ht : ts[i]? with
      | none => simp [ht] at hx
      | some t =>
        cases hd : ds[i]? with
        | none => simp [ht, hd] at hx
        | some d =>
          simp [ht, hd] at hx
          rw [← hx]
          exact (l3 i t v d ht (by simpa using hv) hd).1⟩
  refine hcall.mono fun e W' ⟨v, r, h', ι', he, ⟨hr, hh⟩, hS', hv, hev⟩ => ⟨v, he, ?_⟩
  subst hr
  subst hh
  have := hv.bool_inv
  subst this
  have hb : Below W.heap.size W W' := ⟨hev.os, hev.tape, hev.output, hev.size, fun k hk => (hev.keep k hk own_nil).1⟩
  have hbefore : before = p := by simpa using hps
  have hfn : s.fn H (ds ++ []) = { results := [.lit (.bool true)], args := ds } := by rw [List.append_nil]; exact hsf H ds l1
  have hlt : ∀ x ∈ before, x.block < W.heap.size := fun x hx => hW'.lt x hx
  refine post_of_below (pa := p) (pv := []) hW' (fun b sp hd => ?_) (fun sp hsp => ?_) (fun sp _ => ?_) (by simpa using hps) hb ?_
  · rw [hfn, hres]
    exact trodAll_mk1 (shut_bool hbt true)
  · rw [hfn, hts]
    exact args_stay hl hb ts args.toList ds p hrd hA (fun x hx => hlt x (by rw [hbefore]; exact hx)) (fun x hx => hsp x (by rw [hbefore]; exact hx))
  · rw [hfn, hsv]; rfl
  · exact ok_one hres rfl (okWide_bool_mk hbt true)

/-- A listed variable, as a place of lasting cells. -/
theorem laid_pin {W : World} {S : List Nat} (hS : plainB P S = true) {name : String} {D : DataW Unit} {g0 t0 : Nat} (hg : P.globalNamed name = some g0) (ht : (P.globals[g0]?).map (·.type) = some t0) (hin : t0 ∈ S)
    (hpos : cellsD D ≠ []) (h : ∃ g t cs fuel sp held p, P.globalNamed name = some g ∧ (P.globals[g]?).map (·.type) = some t ∧ W.var? P name = some cs ∧ DataW.trod (fun _ => ()) P W 0 sp held fuel t cs.toList = some (D, p)) :
    PinRel W (fun _ => False) (cellsD D) g0 0 := by
  obtain ⟨g, t, cs, fuel, sp, held, p, e1, e2, e3, e4⟩ := h
  obtain rfl := Option.some.inj (hg.symm.trans e1)
  obtain rfl := Option.some.inj (ht.symm.trans e2)
  obtain ⟨⟨l1, l2⟩, _, _⟩ := trodPV hS fuel t0 _ _ hin e4
  have hcell : ∀ i : Nat, W.cell? ⟨g0, i, none⟩ = cs[i]? := fun i => World.var?_cell e1 e3 i
  refine ⟨fun h => h, ?_, fun j x hx => ?_⟩
  · have h0 : 0 < cs.toList.length := by
      rw [← l1]; exact List.length_pos_iff.mpr hpos
    have hc : W.cell? ⟨g0, 0, none⟩ = some (cs[0]'(by simpa using h0)) := by rw [hcell]; simp
    exact block_lt_of_cell hc
  · have hj : j < cs.toList.length := Nat.lt_of_lt_of_eq (getElem?_lt hx) l1
    refine ⟨cs.toList[j], by rw [Nat.zero_add, hcell]; simp, l2 j x _ hx (by simp)⟩

end
end Go.Proofs.YtlophgkgmhcagaaDoor.AM
end

section
set_option linter.unusedVariables false
set_option linter.unusedSimpArgs false
namespace Go.Proofs.YtlophgkgmhcagaaDoor.AM
open Go

section
variable {P : Program}

theorem ty_int {k : IntKind} {a b : Nat} {z : Option (List PV)} {t fuel : Nat} {xs : List PV} (ht : tinfo P t = some ⟨.int k, a, b, z⟩) (h : Ty P fuel t xs) : ∃ n, InRange k n ∧ xs = [.int k n] := by
  obtain ⟨_, d, _, h2, h3, _⟩ := tinfo_some ht
  have := kind_int h3; subst this
  cases fuel with
  | zero => exact h.elim
  | succ m => unfold Ty at h; rw [h2] at h; exact h

theorem ty_bool {a b : Nat} {z : Option (List PV)} {t fuel : Nat} {xs : List PV} (ht : tinfo P t = some ⟨.bool, a, b, z⟩) (h : Ty P fuel t xs) : ∃ x, xs = [.bool x] := by
  obtain ⟨_, d, _, h2, h3, _⟩ := tinfo_some ht
  have := kind_bool h3; subst this
  cases fuel with
  | zero => exact h.elim
  | succ m => unfold Ty at h; rw [h2] at h; exact h

theorem ty_slice {e a b : Nat} {z : Option (List PV)} {t fuel : Nat} {xs : List PV} (ht : tinfo P t = some ⟨.slice e, a, b, z⟩) (h : Ty P fuel t xs) : ∃ (m : Nat) (rows : List (List PV)), fuel = m + 1 ∧ xs = [.sl rows] ∧ ∀ row ∈ rows, Ty P m e row := by
  obtain ⟨_, d, _, h2, h3, _⟩ := tinfo_some ht
  have := kind_slice h3; subst this
  cases fuel with
  | zero => exact h.elim
  | succ m => unfold Ty at h; rw [h2] at h; obtain ⟨rows, h1, h2⟩ := h; exact ⟨m, rows, rfl, h1, h2⟩

theorem ty_array {n e a b : Nat} {z : Option (List PV)} {t fuel : Nat} {xs : List PV} (ht : tinfo P t = some ⟨.array n e, a, b, z⟩) (h : Ty P fuel t xs) : ∃ (m : Nat) (rows : List (List PV)), fuel = m + 1 ∧ rows.length = n ∧ xs = rows.flatMap id ∧ ∀ row ∈ rows, Ty P m e row := by
  obtain ⟨_, d, _, h2, h3, _⟩ := tinfo_some ht
  have := kind_array h3; subst this
  cases fuel with
  | zero => exact h.elim
  | succ m => unfold Ty at h; rw [h2] at h; obtain ⟨rows, h1, h2, h3⟩ := h; exact ⟨m, rows, rfl, h1, h2, h3⟩

theorem ty_struct {fs : List (Nat × Nat × Nat)} {a b : Nat} {z : Option (List PV)} {t fuel : Nat} {xs : List PV} (ht : tinfo P t = some ⟨.struct fs, a, b, z⟩) (h : Ty P fuel t xs) :
    ∃ (m : Nat) (rows : List (List PV)), fuel = m + 1 ∧ rows.length = fs.length ∧ xs = rows.flatMap id ∧ ∀ (i : Nat) f row, fs[i]? = some f → rows[i]? = some row → Ty P m f.2.2 row := by
  obtain ⟨_, d, _, h2, h3, _⟩ := tinfo_some ht
  obtain ⟨F, rfl, h4⟩ := kind_struct h3
  cases fuel with
  | zero => exact h.elim
  | succ m =>
    unfold Ty at h
    rw [h2] at h
    obtain ⟨rows, g1, g2, g3⟩ := h
    refine ⟨m, rows, rfl, by rw [h4]; simpa using g1, g2, fun i f row hf hr => ?_⟩
    rw [h4] at hf
    simp only [List.getElem?_map, Option.map_eq_some_iff] at hf
    obtain ⟨fd, hfd, rfl⟩ := hf
    exact g3 i fd row (by simpa using hfd) hr

/-- Rows of numbers. -/
theorem ty_ints {k : IntKind} {a b : Nat} {z : Option (List PV)} {e m : Nat} (ht : tinfo P e = some ⟨.int k, a, b, z⟩) : ∀ (rows : List (List PV)), (∀ row ∈ rows, Ty P m e row) → ∃ l : List Int, l.length = rows.length ∧ (∀ n ∈ l, InRange k n) ∧ rows = l.map fun n => [.int k n]
  | [], _ => ⟨[], rfl, by simp, rfl⟩
  | r :: rows, h => by
    obtain ⟨n, hn, rfl⟩ := ty_int ht (h r (by simp))
    obtain ⟨l, h1, h2, h3⟩ := ty_ints ht rows fun row hr => h row (by simp [hr])
    exact ⟨n :: l, by simp [h1], by simpa using ⟨hn, h2⟩, by simp [h3]⟩

theorem flat_ints {k : IntKind} (l : List Int) : (l.map fun n => [PV.int k n]).flatMap id = l.map (.int k) := by
  induction l with
  | nil => rfl
  | cons x r ih => simp only [List.map_cons, List.flatMap_cons, ih]; rfl

/-- An array of numbers. -/
theorem ty_intarr {k : IntKind} {a b a' b' n e t fuel : Nat} {z z' : Option (List PV)} {xs : List PV} (hta : tinfo P t = some ⟨.array n e, a, b, z⟩) (ht : tinfo P e = some ⟨.int k, a', b', z'⟩) (h : Ty P fuel t xs) :
    ∃ l : List Int, l.length = n ∧ (∀ x ∈ l, InRange k x) ∧ xs = l.map (.int k) := by
  obtain ⟨m, rows, rfl, h1, rfl, h3⟩ := ty_array hta h
  obtain ⟨l, g1, g2, g3⟩ := ty_ints ht rows h3
  exact ⟨l, by omega, g2, by rw [g3, flat_ints]⟩

theorem argA_at {i : TI} {t : Nat} (ht : tinfo P t = some i) (xs : List PV) : argA P t xs = if i.isAgg then .agg (xs.map .p) else match xs with | x :: _ => .p x | [] => .undef := by
  obtain ⟨_, d, _, h2, h3, _⟩ := tinfo_some ht
  have : aggT P t = i.isAgg := by
    unfold aggT TI.isAgg
    rw [h2, ← h3]
    cases d <;> rfl
  unfold argA
  rw [this]
  all_goals (cases xs <;> rfl)
end
end Go.Proofs.YtlophgkgmhcagaaDoor.AM
end

section
set_option linter.unusedVariables false
set_option linter.unusedSimpArgs false
set_option maxRecDepth 4000
namespace Go.Proofs.YtlophgkgmhcagaaDoor.AM
open Go Go.Proofs Go.ChangeShapes Go.WideShapes Go.RowKit

theorem words_plain : plainB Tryd.prog [3, 9, 134, 135] = true := by kernel_rfl

theorem gW_pin {W : World} (h : laidMetH Tryd.prog [("treenail/term.words", Rows.laid_treenail_term_words)] W) : ∀ g cells, gW g = some cells → PinRel W (fun _ => False) cells g 0 := by
  intro g cells hg
  unfold gW at hg
  split at hg
  · rename_i e
    cases hg
    subst e
    rw [MakeChecks.laidMetH_plain _ _ _ (by kernel_rfl)] at h
    obtain ⟨ps, ⟨g0, t0, cs0, f0, p0, q0, hg0, ht0, hv0, hd0, _⟩, _⟩ := h
    have e : cellsD (Rows.laid_treenail_term_words : DataW Unit) = wcells := by kernel_rfl
    rw [← e]
    exact laid_pin words_plain (name := "treenail/term.words") (t0 := 135) (by kernel_rfl) (by kernel_rfl) (by decide) (by rw [e]; unfold wcells; simp) ⟨g0, t0, cs0, f0, _, _, p0, hg0, ht0, hv0, hd0⟩
  · cases hg

/-- Typed cells of a term are a term. -/
theorem term_of : ∀ (fuel : Nat) (xs : List PV), Ty Tryd.prog fuel 53 xs → ∃ t : Tm, xs = eT t
  | 0, xs, h => h.elim
  | fuel + 1, xs, h => by
    obtain ⟨m, rows, e, hl, rfl, hf⟩ := ty_struct T53 h
    match rows, hl with
    | [r0, r1, r2], _ =>
      have h0 : Ty Tryd.prog m 3 r0 := hf 0 _ r0 rfl rfl
      have h1 : Ty Tryd.prog m 3 r1 := hf 1 _ r1 rfl rfl
      have h2 : Ty Tryd.prog m 51 r2 := hf 2 _ r2 rfl rfl
      obtain ⟨o, _, rfl⟩ := ty_int T3 h0
      obtain ⟨n, _, rfl⟩ := ty_int T3 h1
      obtain ⟨m', rows, e2, rfl, hr⟩ := ty_slice T51 h2
      have key : ∀ rows : List (List PV), (∀ row ∈ rows, Ty Tryd.prog m' 53 row) → ∃ ks : List Tm, rows = ks.map eT := by
        intro rows
        induction rows with
        | nil => intro _; exact ⟨[], rfl⟩
        | cons r rs ih =>
          intro hh
          obtain ⟨t, ht⟩ := term_of m' r (hh r (by simp))
          obtain ⟨ks, hks⟩ := ih fun row hrow => hh row (by simp [hrow])
          exact ⟨t :: ks, by rw [ht, hks]; rfl⟩
      obtain ⟨ks, hks⟩ := key rows hr
      refine ⟨.mk o n ks, ?_⟩
      rw [hks]
      simp [eT]
termination_by fuel => fuel
decreasing_by omega

theorem rows_of {α : Type} {e : α → List PV} {p : List PV → Prop} (h : ∀ row, p row → ∃ a, row = e a) : ∀ rows : List (List PV), (∀ row ∈ rows, p row) → ∃ l : List α, rows = l.map e
  | [], _ => ⟨[], rfl⟩
  | r :: rs, hr => by
    obtain ⟨a, ha⟩ := h r (hr r (by simp))
    obtain ⟨l, hl⟩ := rows_of h rs fun row hrow => hr row (by simp [hrow])
    exact ⟨a :: l, by rw [ha, hl]; rfl⟩

theorem node_of {fuel : Nat} {xs : List PV} (h : Ty Tryd.prog fuel 55 xs) : ∃ k : Nd, xs = eN k := by
  obtain ⟨m, rows, e, hl, rfl, hf⟩ := ty_struct T55 h
  match rows, hl with
  | [r0, r1, r2], _ =>
    have h0 : Ty Tryd.prog m 3 r0 := hf 0 _ r0 rfl rfl
    have h1 : Ty Tryd.prog m 3 r1 := hf 1 _ r1 rfl rfl
    have h2 : Ty Tryd.prog m 53 r2 := hf 2 _ r2 rfl rfl
    obtain ⟨o, _, rfl⟩ := ty_int T3 h0
    obtain ⟨n, _, rfl⟩ := ty_int T3 h1
    obtain ⟨t, rfl⟩ := term_of _ _ h2
    exact ⟨⟨o, n, t⟩, by simp [eN, eT_eq]⟩

theorem flow_of {fuel : Nat} {xs : List PV} (h : Ty Tryd.prog fuel 58 xs) : ∃ k : Fl, xs = eF k := by
  obtain ⟨m, rows, e, hl, rfl, hf⟩ := ty_struct T58 h
  match rows, hl with
  | [r0, r1, r2, r3], _ =>
    have h0 : Ty Tryd.prog m 3 r0 := hf 0 _ r0 rfl rfl
    have h1 : Ty Tryd.prog m 3 r1 := hf 1 _ r1 rfl rfl
    have h2 : Ty Tryd.prog m 4 r2 := hf 2 _ r2 rfl rfl
    have h3 : Ty Tryd.prog m 53 r3 := hf 3 _ r3 rfl rfl
    obtain ⟨o, _, rfl⟩ := ty_int T3 h0
    obtain ⟨n, _, rfl⟩ := ty_int T3 h1
    obtain ⟨b, rfl⟩ := ty_bool T4 h2
    obtain ⟨t, rfl⟩ := term_of _ _ h3
    exact ⟨⟨o, n, b, t⟩, by simp [eF, eT_eq]⟩

theorem arg_net {fuel : Nat} {xs : List PV} (h : Ty Tryd.prog fuel 25 xs) : ∃ (ns : List Nd) (fl : List Fl), argA Tryd.prog 25 xs = aNet ns fl := by
  obtain ⟨m, rows, e, hl, rfl, hf⟩ := ty_struct T25 h
  match rows, hl with
  | [r0, r1], _ =>
    have h0 : Ty Tryd.prog m 22 r0 := hf 0 _ r0 rfl rfl
    have h1 : Ty Tryd.prog m 23 r1 := hf 1 _ r1 rfl rfl
    obtain ⟨m0, rows0, _, rfl, hr0⟩ := ty_slice T22 h0
    obtain ⟨m1, rows1, _, rfl, hr1⟩ := ty_slice T23 h1
    obtain ⟨ns, rfl⟩ := rows_of (fun row hrow => node_of hrow) rows0 hr0
    obtain ⟨fl, rfl⟩ := rows_of (fun row hrow => flow_of hrow) rows1 hr1
    exact ⟨ns, fl, by rw [argA_at T25]; rfl⟩
end Go.Proofs.YtlophgkgmhcagaaDoor.AM
end

section
set_option linter.unusedVariables false
set_option linter.unusedSimpArgs false
namespace Go.Proofs.YtlophgkgmhcagaaDoor.AM
open Go

/-! ### Equality, told by a program -/
mutual
def pvEq : PV → PV → Bool
  | .int k n, .int k' n' => decide (k = k') && decide (n = n')
  | .bool a, .bool b => a == b
  | .str s, .str t => decide (s = t)
  | .nils, .nils => true
  | .nilp, .nilp => true
  | .nilf, .nilf => true
  | .sl r, .sl r' => pvEqR r r'
  | _, _ => false
def pvEqL : List PV → List PV → Bool
  | [], [] => true
  | x :: r, y :: r' => pvEq x y && pvEqL r r'
  | _, _ => false
def pvEqR : List (List PV) → List (List PV) → Bool
  | [], [] => true
  | x :: r, y :: r' => pvEqL x y && pvEqR r r'
  | _, _ => false
end

mutual
theorem pvEq_eq : ∀ (x y : PV), pvEq x y = true → x = y
  | .int k n, y, h => by cases y <;> simp [pvEq] at h; rw [h.1, h.2]
  | .bool a, y, h => by cases y <;> simp [pvEq] at h; rw [h]
  | .str s, y, h => by cases y <;> simp [pvEq] at h; rw [h]
  | .nils, y, h => by cases y <;> simp [pvEq] at h; rfl
  | .nilp, y, h => by cases y <;> simp [pvEq] at h; rfl
  | .nilf, y, h => by cases y <;> simp [pvEq] at h; rfl
  | .sl r, y, h => by
    cases y with
    | sl r' => simp only [pvEq] at h; rw [pvEqR_eq r r' h]
    | _ => simp [pvEq] at h
theorem pvEqL_eq : ∀ (x y : List PV), pvEqL x y = true → x = y
  | [], y, h => by cases y <;> simp [pvEqL] at h; rfl
  | a :: r, y, h => by
    cases y with
    | nil => simp [pvEqL] at h
    | cons b r' => simp only [pvEqL, Bool.and_eq_true] at h; rw [pvEq_eq a b h.1, pvEqL_eq r r' h.2]
theorem pvEqR_eq : ∀ (x y : List (List PV)), pvEqR x y = true → x = y
  | [], y, h => by cases y <;> simp [pvEqR] at h; rfl
  | a :: r, y, h => by
    cases y with
    | nil => simp [pvEqR] at h
    | cons b r' => simp only [pvEqR, Bool.and_eq_true] at h; rw [pvEqL_eq a b h.1, pvEqR_eq r r' h.2]
end

mutual
def avEq : AV → AV → Bool
  | .p x, .p y => pvEq x y
  | .agg l, .agg l' => avEqL l l'
  | .tup l, .tup l' => avEqL l l'
  | .fn f l, .fn f' l' => decide (f = f') && avEqL l l'
  | .ref b g o s n, .ref b' g' o' s' n' => decide (b = b') && (decide (g = g') && (decide (o = o') && (decide (s = s') && decide (n = n'))))
  | .ptr b g o, .ptr b' g' o' => decide (b = b') && (decide (g = g') && decide (o = o'))
  | .pin c, .pin c' => pvEqL c c'
  | _, _ => false
def avEqL : List AV → List AV → Bool
  | [], [] => true
  | x :: r, y :: r' => avEq x y && avEqL r r'
  | _, _ => false
end

mutual
theorem avEq_eq : ∀ (x y : AV), avEq x y = true → x = y
  | .p x, y, h => by cases y <;> simp [avEq] at h; rw [pvEq_eq _ _ h]
  | .agg l, y, h => by cases y <;> simp [avEq] at h; rw [avEqL_eq _ _ h]
  | .tup l, y, h => by cases y <;> simp [avEq] at h; rw [avEqL_eq _ _ h]
  | .fn f l, y, h => by cases y <;> simp [avEq] at h; rw [h.1, avEqL_eq _ _ h.2]
  | .ref b g o s n, y, h => by cases y <;> simp [avEq] at h; obtain ⟨rfl, rfl, rfl, rfl, rfl⟩ := h; rfl
  | .ptr b g o, y, h => by cases y <;> simp [avEq] at h; obtain ⟨rfl, rfl, rfl⟩ := h; rfl
  | .pin c, y, h => by cases y <;> simp [avEq] at h; rw [pvEqL_eq _ _ h]
theorem avEqL_eq : ∀ (x y : List AV), avEqL x y = true → x = y
  | [], y, h => by cases y <;> simp [avEqL] at h; rfl
  | a :: r, y, h => by
    cases y with
    | nil => simp [avEqL] at h
    | cons b r' => simp only [avEqL, Bool.and_eq_true] at h; rw [avEq_eq a b h.1, avEqL_eq r r' h.2]
end

def heapEq : Heap → Heap → Bool
  | [], [] => true
  | none :: r, none :: r' => heapEq r r'
  | some ⟨g, c⟩ :: r, some ⟨g', c'⟩ :: r' => decide (g = g') && (avEqL c c' && heapEq r r')
  | _, _ => false

theorem heapEq_eq : ∀ (x y : Heap), heapEq x y = true → x = y
  | [], y, h => by cases y <;> simp [heapEq] at h; rfl
  | none :: r, y, h => by
    match y, h with
    | none :: r', h => simp only [heapEq] at h; rw [heapEq_eq r r' h]
    | some _ :: r', h => simp [heapEq] at h
    | [], h => simp [heapEq] at h
  | some ⟨g, c⟩ :: r, y, h => by
    match y, h with
    | some ⟨g', c'⟩ :: r', h =>
      simp only [heapEq, Bool.and_eq_true, decide_eq_true_eq] at h
      rw [h.1, avEqL_eq c c' h.2.1, heapEq_eq r r' h.2.2]
    | none :: r', h => simp [heapEq] at h
    | [], h => simp [heapEq] at h

mutual
def avltB (m : Nat) : AV → Bool
  | .p _ => true
  | .agg l => avltsB m l
  | .tup l => avltsB m l
  | .fn _ l => avltsB m l
  | .ref b _ _ _ _ => decide (b < m)
  | .ptr b _ _ => decide (b < m)
  | .pin _ => true
def avltsB (m : Nat) : List AV → Bool
  | [] => true
  | x :: r => avltB m x && avltsB m r
end

mutual
theorem avltB_lt {m : Nat} : ∀ x : AV, avltB m x = true → AVlt m x
  | .p x, _ => .p x
  | .agg l, h => .agg l (avltsB_lt l (by simpa [avltB] using h))
  | .tup l, h => .tup l (avltsB_lt l (by simpa [avltB] using h))
  | .fn f l, h => .fn f l (avltsB_lt l (by simpa [avltB] using h))
  | .ref b g o s n, h => .ref b g o s n (by simpa [avltB] using h)
  | .ptr b g o, h => .ptr b g o (by simpa [avltB] using h)
  | .pin c, _ => .pin c
theorem avltsB_lt {m : Nat} : ∀ l : List AV, avltsB m l = true → ∀ x ∈ l, AVlt m x
  | [], _ => fun x hx => by simp at hx
  | y :: r, h => fun x hx => by
    simp only [avltsB, Bool.and_eq_true] at h
    rcases List.mem_cons.mp hx with e | e
    · rw [e]; exact avltB_lt y h.1
    · exact avltsB_lt r h.2 x e
end

/-! ### What lasts, once more, as a program that the kernel can run -/
def mapO {α β : Type} (f : α → Option β) : List α → Option (List β)
  | [] => some []
  | x :: r => match f x, mapO f r with
    | some y, some ys => some (y :: ys)
    | _, _ => none

def purX (h : Heap) (n : Nat) : Nat → AV → Option PV
  | 0, x => match x with
    | .p .nils => some (.sl [])
    | .p x => some x
    | _ => none
  | fuel + 1, x => match x with
    | .p .nils => some (.sl [])
    | .p x => some x
    | .ref b g off sz len =>
      if len = 0 then some (.sl []) else
      match blkAt h b g with
      | some cells => if n ≤ b ∧ off + len * sz ≤ cells.length then (mapO (purX h n fuel) ((cells.drop off).take (len * sz))).map fun l => .sl (chunk sz len l) else none
      | none => none
    | _ => none

theorem pursX_of {h : Heap} {n fuel : Nat} (hp : ∀ x, pur h n fuel x = purX h n fuel x) : ∀ l, purs h n fuel l = mapO (purX h n fuel) l
  | [] => by unfold purs mapO; rfl
  | x :: r => by unfold purs mapO; rw [hp x, pursX_of hp r]; cases purX h n fuel x <;> cases mapO (purX h n fuel) r <;> rfl

theorem purX_eq (h : Heap) (n : Nat) : ∀ fuel x, pur h n fuel x = purX h n fuel x := by
  intro fuel
  induction fuel with
  | zero =>
    intro x
    cases x with
    | p y => cases y <;> (unfold pur purX; rfl)
    | _ => unfold pur purX; rfl
  | succ fuel ih =>
    intro x
    cases x with
    | p y => cases y <;> (unfold pur purX; rfl)
    | ref b g off sz len =>
      unfold pur purX
      dsimp only
      by_cases h0 : len = 0
      · rw [if_pos h0, if_pos h0]
      · rw [if_neg h0, if_neg h0]
        cases hb : blkAt h b g with
        | none => rfl
        | some cells =>
          dsimp only
          rw [pursX_of ih]
    | _ => unfold pur purX; rfl

def lastAX (h : Heap) (n : Nat) : AV → Option AV
  | .agg cells => (mapO (purX h n 5) cells).map fun l => .agg (l.map .p)
  | .ptr b g off => if b < n then some (.ptr b g off) else none
  | x => (purX h n 5 x).map .p

theorem lastAX_eq (h : Heap) (n : Nat) (x : AV) : lastA h n x = lastAX h n x := by
  cases x with
  | agg cells => unfold lastA lastAX; dsimp only; rw [pursX_of (purX_eq h n 5)]
  | ptr b g off => rfl
  | _ => unfold lastA lastAX; dsimp only; rw [purX_eq]

def lastVX (h : Heap) (n : Nat) : AV → Option AV
  | .tup vs => (mapO (lastAX h n) vs).map .tup
  | x => lastAX h n x

theorem lastAsX (h : Heap) (n : Nat) : ∀ l, lastAs h n l = mapO (lastAX h n) l
  | [] => by unfold lastAs mapO; rfl
  | x :: r => by unfold lastAs mapO; rw [lastAX_eq, lastAsX h n r]; cases lastAX h n x <;> cases mapO (lastAX h n) r <;> rfl

theorem lastVX_eq (h : Heap) (n : Nat) (x : AV) : lastV h n x = lastVX h n x := by
  cases x with
  | tup vs => unfold lastV lastVX; dsimp only; rw [lastAsX]
  | _ => unfold lastV lastVX; exact lastAX_eq h n _

/-! ### The evaluator -/
section
variable (P : Program) (G : Nat → Option (List PV)) (rl : List String)

abbrev Callee := FuncId → List AV → Heap → Option (AV × Heap)

def rExec (call : Callee) (o : Oper) (s : St) : Option (AV × Heap) :=
  match callOf o with
  | some (f, args) =>
    match evalA G s f, evals (evalA G s) args.toList with
    | some (.fn g caps), some xs => call g (xs ++ caps) s.heap
    | _, _ => none
  | none => opA P rl o (evalA G s) s.heap

def rOp (call : Callee) (ops : Array Oper) (o : Oper) (s : St) : Option St :=
  match wantA ops o s with
  | some true => match rExec P G rl call o s with
    | some (r, h') => some (({ s with heap := h' } : St).put o.dst r)
    | none => none
  | some false => some (s.put o.dst .undef)
  | none => none

def rOps (call : Callee) (ops : Array Oper) : List Oper → St → Option St
  | [], s => some s
  | o :: rest, s => match rOp P G rl call ops o s with
    | some s1 => rOps call ops rest s1
    | none => none

def rqOp (call : Callee) (ops : Array Oper) (o : Oper) (s : St) : Option St :=
  match wantA ops o s with
  | some true => match rExec P G rl call o s with
    | some (r, h') => if heapEq h' s.heap then some (s.put o.dst r) else none
    | none => none
  | some false => some (s.put o.dst .undef)
  | none => none

def rqOps (call : Callee) (ops : Array Oper) : List Oper → St → Option St
  | [], s => some s
  | o :: rest, s => match rqOp P G rl call ops o s with
    | some s1 => rqOps call ops rest s1
    | none => none

/-- All that the blocks that are laid by can hold. -/
def cands : List (List PV) → List Heap
  | [] => [[]]
  | z :: rest => (cands rest).flatMap fun R => [some ⟨0, []⟩ :: R, some ⟨1, z.map .p⟩ :: R]

/-- What a quiet operation yields, whatever the blocks that are laid by can hold. -/
def rStab (call : Callee) (o : Oper) (fr : Nat → Option AV) (nt : Nat) (hp : Heap) (cs : List Heap) : Option AV :=
  match o.op with
  | .load t a => (evalA G ⟨fr, nt, hp⟩ a).bind fun x => loadA P hp t x
  | .call ⟨.value f, args, _⟩ => match evalA G ⟨fr, nt, hp⟩ f, evals (evalA G ⟨fr, nt, hp⟩) args.toList, cs with
    | some (.fn g caps), some xs, R0 :: _ => match call g (xs ++ caps) (hp ++ R0) with
      | some (v, _) => if cs.all (fun R => match call g (xs ++ caps) (hp ++ R) with | some (v', h') => avEq v' v && heapEq h' (hp ++ R) | none => false) then some v else none
      | none => none
    | _, _, _ => none
  | _ => none

def rFree (o : Oper) (fr : Nat → Option AV) (nt : Nat) : Option AV :=
  (opA P rl o (evalA G ⟨fr, nt, []⟩) []).bind fun q => if q.2.isEmpty then some q.1 else none

def rTail (call : Callee) (ops : Array Oper) : List Nat → St → Option St
  | [], s => some s
  | k :: rest, s => match ops.toList[k]? with
    | none => none
    | some o =>
      if allocB o then none
      else if effB o then (match rOp P G rl call ops o s with
        | some s1 => rTail call ops rest s1
        | none => none)
      else if heapFree o && (wantA ops o s == some true) then
        (match rFree P G rl o s.fr s.nt with
        | some v => rTail call ops rest (s.put o.dst v)
        | none => none)
      else none

def rDraw (call : Callee) (ops : Array Oper) (nt : Nat) (hp : Heap) (cs : List Heap) : List Nat → (Nat → Option AV) → Heap → Option St
  | [], fr, R => some ⟨fr, nt, hp ++ R⟩
  | k :: rest, fr, R => match ops.toList[k]? with
    | none => none
    | some o =>
      if allocB o then
        (match zeroB P o, R[slotB ops k]?, o.dst with
        | some z, some (some ⟨0, []⟩), some d => if d < nt then rDraw call ops nt hp cs rest (upd fr d (.ptr (hp.length + slotB ops k) 1 0)) (R.set (slotB ops k) (some ⟨1, z.map .p⟩)) else none
        | _, _, _ => none)
      else if effB o then rTail P G rl call ops (k :: rest) ⟨fr, nt, hp ++ R⟩
      else if wantA ops o ⟨fr, nt, hp⟩ == some true then
        (match (if heapFree o then rFree P G rl o fr nt else rStab P G call o fr nt hp cs), o.dst with
        | some v, some d => if d < nt then rDraw call ops nt hp cs rest (upd fr d v) R else none
        | _, _ => none)
      else none

def allocs (ops : Array Oper) : Nat := (ops.toList.filter allocB).length

def rLoop (step : St → Option (Exit × St)) : Nat → St → Option (Exit × St)
  | 0, _ => none
  | n + 1, s => match step s with
    | some (.normal, s1) => rLoop step n s1
    | r => r

def rCode (call : Callee) (F : Nat) : Code → St → Option (Exit × St)
  | .skip, s => some (.normal, s)
  | .label _, s => some (.normal, s)
  | .region _ ops draw, s =>
    if draw then (if Region.lexB .any ops && (ops.toList.all fun o => !effB o) then (rqOps P G rl call ops ops.toList s).map fun s1 => (.normal, s1)
      else if lexR .any ops (List.range ops.size) (Array.replicate ops.size false) then (rDraw P G rl call ops s.nt s.heap (cands (zsB P ops)) (List.range ops.size) s.fr (List.replicate (zsB P ops).length (some ⟨0, []⟩))).map fun s1 => (.normal, s1) else none)
    else (rOps P G rl call ops ops.toList s).map fun s1 => (.normal, s1)
  | .seq a b, s => match rCode call F a s with
    | some (.normal, s1) => rCode call F b s1
    | r => r
  | .cond c x y, s => match evalA G s c with
    | some (.p (.bool true)) => rCode call F x s
    | some (.p (.bool false)) => rCode call F y s
    | _ => none
  | .block id c, s => match rCode call F c s with
    | some (.exit i, s1) => if i = id then some (.normal, s1) else some (.exit i, s1)
    | r => r
  | .loop c, s => rLoop (rCode call F c) F s
  | .exit id, s => some (.exit id, s)
  | .ret, s => some (.ret, s)
  | _, _ => none

def keptB (h0 : Heap) (n : Nat) : Heap → Nat → Bool
  | [], _ => true
  | none :: r, i => keptB h0 n r (i + 1)
  | some bk :: r, i => ((match h0[i]? with | some (some bk') => heapEq [some bk'] [some bk] | _ => false) || avltsB n bk.cells) && keptB h0 n r (i + 1)

def rEnd (rs : List ResultVar) (h : Heap) (s : St) : Option (AV × Heap) :=
  match resA P s rs with
  | some r =>
    if h.length ≤ s.heap.length then
      match lastVX s.heap h.length r with
      | some r' => if keptB h h.length (s.heap.take h.length) 0 then some (r', s.heap.take h.length) else some (r, s.heap)
      | none => some (r, s.heap)
    else none
  | none => none

def rCall (F : Nat) : Nat → Callee
  | 0 => fun _ _ _ => none
  | n + 1 => fun f args h =>
    match P.funcs[f]? with
    | some fn =>
      match fn.body with
      | some c =>
        if fn.name == "runtime.NumGoroutine" then none
        else if args.length ≤ fn.ntmps then
          match rCode P G rl (rCall F n) F c (entry args fn.ntmps h) with
          | some (.normal, s) => rEnd P fn.results.toList h s
          | some (.ret, s) => rEnd P fn.results.toList h s
          | _ => none
        else none
      | none => none
    | none => none
end

section
variable {P : Program} {G : Nat → Option (List PV)} {rl : List String} {h0 : Heap}

def GoodC (P : Program) (G : Nat → Option (List PV)) (call : Callee) : Prop :=
  ∀ f args h r h', call f args h = some (r, h') → Enters P f ∧ ACalls P G f args h fun r0 h1 => r0 = r ∧ h1 = h'

variable {call : Callee}

theorem rExec_sound (hc : GoodC P G call) {o : Oper} {s : St} {r : AV} {h' : Heap} (h : rExec P G rl call o s = some (r, h')) {K : St → Prop} (hk : K (({ s with heap := h' } : St).put o.dst r)) : aexec P G rl o K s := by
  unfold rExec at h
  unfold aexec
  split at h
  · rename_i f args e
    rw [e]
    dsimp only
    split at h
    · rename_i g caps xs e1 e2
      rw [e1, e2]
      obtain ⟨h1, h2⟩ := hc _ _ _ _ _ h
      exact ⟨h1, h2.mono fun r0 h1 ⟨a, b⟩ => by subst a; subst b; exact hk⟩
    · cases h
  · rename_i e
    rw [e]
    dsimp only
    rw [h]
    exact hk

theorem rOps_sound (hc : GoodC P G call) {ops : Array Oper} : ∀ (l : List Oper) (s s' : St), rOps P G rl call ops l s = some s' → ∀ K : St → Prop, K s' → aops P G rl ops K l s
  | [], s, s', h, K, hk => by simp [rOps] at h; subst h; exact hk
  | o :: rest, s, s', h, K, hk => by
    unfold rOps at h
    split at h
    · rename_i s1 e
      have ih := rOps_sound hc rest s1 s' h K hk
      unfold rOp at e
      show aop P G rl ops o (aops P G rl ops K rest) s
      unfold aop
      split at e
      · rename_i hw
        rw [hw]
        split at e
        · rename_i r h' hx
          cases e
          exact ⟨fun _ => rExec_sound hc hx ih, fun e => (by cases e)⟩
        · cases e
      · rename_i hw
        rw [hw]
        cases e
        exact ⟨fun e => (by cases e), fun _ => ih⟩
      · cases e
    · cases h

theorem rqOps_sound (hc : GoodC P G call) {ops : Array Oper} : ∀ (l : List Oper) (s s' : St), rqOps P G rl call ops l s = some s' → ∀ K : St → Prop, K s' → aqops P G rl ops K l s
  | [], s, s', h, K, hk => by simp [rqOps] at h; subst h; exact hk
  | o :: rest, s, s', h, K, hk => by
    unfold rqOps at h
    split at h
    · rename_i s1 e
      have ih := rqOps_sound hc rest s1 s' h K hk
      unfold rqOp at e
      show aqop P G rl ops o (aqops P G rl ops K rest) s
      unfold aqop
      split at e
      · rename_i hw
        rw [hw]
        split at e
        · rename_i r h' hx
          split at e
          · rename_i hq
            cases e
            have := heapEq_eq _ _ hq
            subst this
            refine ⟨fun _ => ?_, fun e => (by cases e)⟩
            unfold rExec at hx
            unfold aquiet
            split at hx
            · rename_i f args e
              rw [e]
              dsimp only
              split at hx
              · rename_i g caps xs e1 e2
                rw [e1, e2]
                obtain ⟨h1, h2⟩ := hc _ _ _ _ _ hx
                exact ⟨h1, r, h2, ih⟩
              · cases hx
            · rename_i e
              rw [e]
              dsimp only
              rw [hx]
              exact ⟨rfl, ih⟩
          · cases e
        · cases e
      · rename_i hw
        rw [hw]
        cases e
        exact ⟨fun e => (by cases e), fun _ => ih⟩
      · cases e
    · cases h

theorem loadA_ext {hp R : Heap} {t : Nat} {x v : AV} (h : loadA P hp t x = some v) : loadA P (hp ++ R) t x = some v := by
  unfold loadA at *
  split at h
  · rename_i i b g off ht
    obtain ⟨cells, hc, hv⟩ := Option.bind_eq_some_iff.mp h
    have : blkAt (hp ++ R) b g = some cells := by
      unfold blkAt at *
      have hlt : b < hp.length := by
        rcases Nat.lt_or_ge b hp.length with hl | hl
        · exact hl
        · rw [List.getElem?_eq_none hl] at hc; cases hc
      rw [List.getElem?_append_left hlt]; exact hc
    simp only [this, Option.bind_some, hv]
  · exact h
  · cases h

theorem wantA_heap {ops : Array Oper} {o : Oper} {fr : Nat → Option AV} {nt : Nat} {H H' : Heap} : wantA ops o ⟨fr, nt, H⟩ = wantA ops o ⟨fr, nt, H'⟩ := rfl

theorem evalA_heap {fr : Nat → Option AV} {nt : Nat} {H H' : Heap} (x : Operand) : evalA G ⟨fr, nt, H⟩ x = evalA G ⟨fr, nt, H'⟩ x := by cases x <;> rfl

theorem cands_mem : ∀ (zs : List (List PV)) (R : Heap), R.length = zs.length → (∀ (j : Nat) (z : List PV), zs[j]? = some z → R[j]? = some (some ⟨0, []⟩) ∨ R[j]? = some (some ⟨1, z.map .p⟩)) → R ∈ cands zs
  | [], R, hl, _ => by simp [cands]; exact List.eq_nil_of_length_eq_zero (by simpa using hl)
  | z :: rest, R, hl, h => by
    match R, hl, h with
    | b :: R', hl, h =>
      have ih := cands_mem rest R' (by simpa using hl) fun j y hy => by simpa using h (j + 1) y (by simpa using hy)
      simp only [cands, List.mem_flatMap]
      refine ⟨R', ih, ?_⟩
      rcases h 0 z rfl with h0 | h0
      · simp at h0; subst h0; simp
      · simp at h0; subst h0; simp

theorem rFree_sound {ops : Array Oper} {o : Oper} {fr : Nat → Option AV} {nt : Nat} {H0 : Heap} {v : AV} (hf : heapFree o = true) (hw : wantA ops o ⟨fr, nt, H0⟩ = some true) (h : rFree P G rl o fr nt = some v) : StabF P G rl ops o v ⟨fr, nt, H0⟩ := fun H => by
  have hev : evalA G ⟨fr, nt, []⟩ = evalA G ⟨fr, nt, H⟩ := funext fun x => evalA_heap x
  refine .inl ⟨hw, ?_⟩
  unfold rFree at h
  obtain ⟨q, hq, h⟩ := Option.bind_eq_some_iff.mp h
  split at h
  · rename_i hem
    cases h
    obtain ⟨q1, q2⟩ := q
    have : q2 = [] := by simpa using hem
    subst this
    have hcall : callOf o = none := by
      unfold heapFree at hf; unfold callOf
      split <;> simp_all
    unfold AQ
    rw [hcall]
    dsimp only
    rw [← hev]
    exact opA_free (H' := H) hf hq
  · cases h

theorem rStab_sound (hc : GoodC P G call) {ops : Array Oper} {o : Oper} {fr : Nat → Option AV} {nt : Nat} {hp : Heap} {v : AV} {cs : List Heap} (hw : wantA ops o ⟨fr, nt, hp⟩ = some true) (h : rStab P G call o fr nt hp cs = some v) (R : Heap) (hR : R ∈ cs) :
    YieldsA P G rl ops o v ⟨fr, nt, hp ++ R⟩ := by
  have hev : evalA G ⟨fr, nt, hp⟩ = evalA G ⟨fr, nt, hp ++ R⟩ := funext fun x => evalA_heap x
  refine .inl ⟨hw, ?_⟩
  unfold rStab at h
  split at h
  · rename_i t a ho
    obtain ⟨x, hx, hl⟩ := Option.bind_eq_some_iff.mp h
    unfold AQ callOf
    rw [ho]
    dsimp only
    unfold opA
    rw [ho]
    dsimp only
    rw [← evalA_heap (H := hp), hx]
    simp only [Option.bind_some, loadA_ext hl, Option.map_some]
  · rename_i f args ats ho
    split at h
    · rename_i g caps xs R0 rest hf hxs
      split at h
      · rename_i v0 h0 hq
        split at h
        · rename_i hall
          cases h
          have hr := List.all_eq_true.mp hall R hR
          split at hr
          · rename_i v' h' hq'
            simp only [Bool.and_eq_true] at hr
            have e1 := avEq_eq _ _ hr.1
            have e2 := heapEq_eq _ _ hr.2
            subst e1; subst e2
            obtain ⟨c1, c2⟩ := hc _ _ _ _ _ hq'
            unfold AQ callOf
            rw [ho]
            dsimp only
            exact ⟨g, caps, xs, by rw [← evalA_heap (H := hp)]; exact hf, by rw [← hev]; exact hxs, c1, c2⟩
          · cases hr
        · cases h
      · cases h
    · cases h
  · cases h

theorem rTail_sound (hc : GoodC P G call) {ops : Array Oper} : ∀ (l : List Nat) (s s' : St), rTail P G rl call ops l s = some s' → ∀ K : St → Prop, K s' → arunT P G rl ops K l s
  | [], s, s', h, K, hk => by simp [rTail] at h; subst h; exact hk
  | k :: rest, s, s', h, K, hk => by
    unfold rTail at h
    split at h
    · cases h
    · rename_i o ho
      have ho' : ops[k]? = some o := by rw [← Array.getElem?_toList]; exact ho
      unfold arunT
      simp only [ho']
      split at h
      · cases h
      · rename_i ha
        split at h
        · rename_i he
          rw [if_pos he]
          split at h
          · rename_i s1 h1
            have ih := rTail_sound hc rest s1 s' h K hk
            exact ⟨by simpa using ha, rOps_sound hc [o] s s1 (by unfold rOps; rw [h1]; rfl) (arunT P G rl ops K rest) ih⟩
          · cases h
        · rename_i he
          rw [if_neg he]
          split at h
          · rename_i hcond
            simp only [Bool.and_eq_true, beq_iff_eq] at hcond
            split at h
            · rename_i v hv
              exact ⟨hcond.1, v, rFree_sound (H0 := s.heap) hcond.1 hcond.2 hv, rTail_sound hc rest _ s' h K hk⟩
            · cases h
          · cases h

theorem rDraw_sound (hc : GoodC P G call) {ops : Array Oper} {nt : Nat} {hp : Heap} : ∀ (l : List Nat) (fr : Nat → Option AV) (R : Heap) (s' : St), rDraw P G rl call ops nt hp (cands (zsB P ops)) l fr R = some s' → ∀ K : St → Prop, K s' → arun P G rl ops hp.length (zsB P ops).length K l ⟨fr, nt, hp ++ R⟩
  | [], fr, R, s', h, K, hk => by simp [rDraw] at h; subst h; exact hk
  | k :: rest, fr, R, s', h, K, hk => by
    unfold rDraw at h
    split at h
    · cases h
    · rename_i o ho
      have ho' : ops[k]? = some o := by rw [← Array.getElem?_toList]; exact ho
      split at h
      · rename_i ha
        split at h
        · rename_i z d hz hs hd
          split at h
          · rename_i hlt
            exact arun_alloc ho ha hz hd hlt hs (rDraw_sound hc rest _ _ s' h K hk)
          · cases h
        · cases h
      · rename_i ha
        split at h
        · rename_i he
          unfold arun
          simp only [ho']
          rw [if_neg ha, if_pos he]
          exact rTail_sound hc _ _ _ h K hk
        · rename_i he
          split at h
          · rename_i hw
            have hw := beq_iff_eq.mp hw
            split at h
            · rename_i v d hv hd
              split at h
              · rename_i hlt
                have ih := rDraw_sound hc rest _ _ s' h K hk
                unfold arun
                simp only [ho']
                rw [if_neg ha, if_neg he]
                split at hv
                · rename_i hh
                  rw [if_pos hh]
                  refine ⟨v, rFree_sound hh hw hv, ?_⟩
                  rw [hd]; simp only [St.put, hlt, if_true]; exact ih
                · rename_i hh
                  rw [if_neg hh]
                  refine ⟨v, fun R' hR' => ?_, ?_⟩
                  · have : (hp ++ R).take hp.length = hp := by simp
                    simp only [this]
                    exact rStab_sound hc hw hv R' (cands_mem _ R' hR'.1 hR'.2)
                  · rw [hd]; simp only [St.put, hlt, if_true]; exact ih
              · cases h
            · cases h
          · cases h

theorem rCode_sound (hc : GoodC P G call) (F : Nat) : ∀ (c : Code) (s : St) (e : Exit) (s' : St), rCode P G rl call F c s = some (e, s') → ∀ Q : Exit → St → Prop, Q e s' → awp P G rl h0 c Q s := by
  intro c
  induction c with
  | skip => intro s e s' h Q hq; simp only [rCode, Option.some.injEq, Prod.mk.injEq] at h; obtain ⟨rfl, rfl⟩ := h; exact hq
  | label l => intro s e s' h Q hq; simp only [rCode, Option.some.injEq, Prod.mk.injEq] at h; obtain ⟨rfl, rfl⟩ := h; exact hq
  | region id ops draw =>
    intro s e s' h Q hq
    simp only [rCode] at h
    split at h
    · rename_i hd
      subst hd
      split at h
      · rename_i hl
        obtain ⟨s1, h1, h2⟩ := Option.map_eq_some_iff.mp h
        cases h2
        simp only [Bool.and_eq_true] at hl
        exact awp_draw hl.1 (rqOps_sound hc _ _ _ h1 _ hq)
      · split at h
        · rename_i hl
          obtain ⟨s1, h1, h2⟩ := Option.map_eq_some_iff.mp h
          cases h2
          exact awp_drawR (List.range ops.size) (zsB P ops).length (by simp) rfl hl (rDraw_sound hc _ _ _ _ h1 _ hq)
        · cases h
    · rename_i hd
      obtain ⟨s1, h1, h2⟩ := Option.map_eq_some_iff.mp h
      cases h2
      have : draw = false := by simpa using hd
      subst this
      exact awp_region (rOps_sound hc _ _ _ h1 _ hq)
  | seq a b iha ihb =>
    intro s e s' h Q hq
    simp only [rCode] at h
    split at h
    · rename_i s1 h1
      exact awp_cut (fun s2 => s2 = s1) (iha s .normal s1 h1 _ ⟨s1, .refl, rfl⟩) fun s2 e2 => by subst e2; exact ihb _ _ _ h _ hq
    · rename_i hn
      refine awp_cut (fun _ => False) (iha s e s' h _ ?_) fun _ hf => hf.elim
      cases e with
      | normal => exact (hn s' h).elim
      | _ => exact hq
  | cond c x y ihx ihy =>
    intro s e s' h Q hq
    simp only [rCode] at h
    split at h
    · rename_i hv; exact awp_cond (t := true) hv (fun _ => ihx _ _ _ h _ hq) (fun e => (by cases e))
    · rename_i hv; exact awp_cond (t := false) hv (fun e => (by cases e)) (fun _ => ihy _ _ _ h _ hq)
    · cases h
  | block id c ih =>
    intro s e s' h Q hq
    simp only [rCode] at h
    refine awp_block ?_
    split at h
    · rename_i i s1 h1
      refine ih _ _ _ h1 _ ?_
      simp only [blockA]
      split at h
      · rename_i hi; rw [if_pos hi]; cases h; exact hq
      · rename_i hi; rw [if_neg hi]; cases h; exact hq
    · rename_i hn
      refine ih _ _ _ h _ ?_
      cases e with
      | exit i => exact (hn i s' h).elim
      | _ => exact hq
  | loop c ih =>
    intro s e s' h Q hq
    simp only [rCode] at h
    refine awp_loop (fun n s1 => rLoop (rCode P G rl call F c) n s1 = some (e, s')) F s .refl h fun n s1 hn => ?_
    cases n with
    | zero => simp [rLoop] at hn
    | succ n =>
      unfold rLoop at hn
      split at hn
      · rename_i s2 h2
        exact ih _ _ _ h2 _ ⟨n, s2, Nat.lt_succ_self n, .refl, hn⟩
      · rename_i hno
        refine ih _ _ _ hn _ ?_
        cases e with
        | normal => exact (hno s' hn).elim
        | _ => exact hq
  | exit id => intro s e s' h Q hq; simp only [rCode, Option.some.injEq, Prod.mk.injEq] at h; obtain ⟨rfl, rfl⟩ := h; exact hq
  | ret => intro s e s' h Q hq; simp only [rCode, Option.some.injEq, Prod.mk.injEq] at h; obtain ⟨rfl, rfl⟩ := h; exact hq
  | _ => intro s e s' h; simp [rCode] at h

theorem keptB_spec {n : Nat} : ∀ (l : Heap) (i : Nat), keptB h0 n l i = true → ∀ (b : Nat) (bk : Blk), l[b]? = some (some bk) → h0[i + b]? = some (some bk) ∨ ∀ x ∈ bk.cells, AVlt n x
  | [], i, _, b, bk, h => by simp at h
  | none :: r, i, hk, b, bk, h => by
    simp only [keptB] at hk
    cases b with
    | zero => simp at h
    | succ b =>
      have := keptB_spec r (i + 1) hk b bk (by simpa using h)
      rwa [show i + 1 + b = i + (b + 1) by omega] at this
  | some bk0 :: r, i, hk, b, bk, h => by
    simp only [keptB, Bool.and_eq_true, Bool.or_eq_true] at hk
    cases b with
    | zero =>
      simp at h
      subst h
      rcases hk.1 with h1 | h1
      · left
        rw [Nat.add_zero]
        split at h1
        · rename_i bk' e
          have := heapEq_eq _ _ h1
          simp only [List.cons.injEq, Option.some.injEq, and_true] at this
          rw [e, this]
        · cases h1
      · exact .inr (avltsB_lt _ h1)
    | succ b =>
      have := keptB_spec r (i + 1) hk.2 b bk (by simpa using h)
      rwa [show i + 1 + b = i + (b + 1) by omega] at this

theorem rCall_good (hm : P.follows .mixedOrders = true) (F : Nat) : ∀ n, GoodC P G (rCall P G rl F n)
  | 0 => fun f args h r h' e => by simp [rCall] at e
  | n + 1 => fun f args h r h' e => by
    unfold rCall at e
    split at e
    case h_2 => cases e
    rename_i fn hf
    split at e
    case h_2 => cases e
    rename_i c hb
    split at e
    · cases e
    · rename_i hname
      split at e
      case isFalse => cases e
      rename_i hnt
      refine ⟨⟨fn, c, hf, hb, by simpa using hname⟩, ?_⟩
      have fin : ∀ (ex : Exit) (s : St), (ex = .normal ∨ ex = .ret) → rCode P G rl (rCall P G rl F n) F c (entry args fn.ntmps h) = some (ex, s) → rEnd P fn.results.toList h s = some (r, h') → ACalls P G f args h fun r0 h1 => r0 = r ∧ h1 = h' := by
        intro ex s hex hrun hend
        unfold rEnd at hend
        split at hend
        case h_2 => cases hend
        rename_i r1 hr1
        split at hend
        case isFalse => cases hend
        rename_i hlen
        have keepK : r1 = r → s.heap = h' → ACalls P G f args h fun r0 h1 => r0 = r ∧ h1 = h' := fun e1 e2 => by
          refine Sim.evoKeep (rl := rl) hm hf hb hnt (rCode_sound (rCall_good hm F n) F c _ _ _ hrun _ ⟨hex, hlen, ?_⟩)
          rw [hr1]; exact ⟨e1, e2⟩
        split at hend
        · rename_i r2 hr2
          split at hend
          · rename_i hkept
            cases hend
            have hk := keptB_spec _ _ hkept
            refine acalls_intro (rl := rl) hm hf hb hnt h.length (rCode_sound (rCall_good hm F n) F c _ _ _ hrun _ ⟨hex, Nat.le_refl _, hlen, r1, r, hr1, (lastVX_eq _ _ _).trans hr2, fun b bk hbk => ?_, rfl, rfl⟩)
            have := hk b bk hbk
            rwa [Nat.zero_add] at this
          · cases hend; exact keepK rfl rfl
        · cases hend; exact keepK rfl rfl
      split at e
      · rename_i s hrun; exact fin _ s (.inl rfl) hrun e
      · rename_i s hrun; exact fin _ s (.inr rfl) hrun e
      · cases e

/-- A ground run that comes to a truth, at whatever heap. -/
theorem ACalls.bool_lift {f : FuncId} {b : Bool} (h : ACalls P G f [] [] fun r h' => r = .b b ∧ h' = []) (H : Heap) : ACalls P G f [] H fun r h' => r = .b b ∧ h' = H := by
  intro ι w vs hS hv
  have hS0 : SimH P G ι [] w := ⟨⟨fun b bk hb => by simp at hb, fun b b' bk bk' hb => by simp at hb⟩, fun g cells hg => (hS.gr g cells hg).mono (Nat.le_refl _) fun k _ _ => ⟨rfl, own_nil⟩⟩
  refine (h ι w vs hS0 ⟨hv.1, fun i x v hx => by simp at hx⟩).mono ?_
  rintro e w' ⟨v, r, h', ι', he, ⟨rfl, rfl⟩, hS', hvr, hev⟩
  have hvb := hvr.bool_inv
  subst hvb
  have hk : ∀ k, k < w.heap.size → w'.heap[k]? = w.heap[k]? := fun k hk => (hev.keep k hk own_nil).1
  have hE : Evo H.length ι H w ι H w' := by
    refine ⟨hev.size, fun k hk' ho => ⟨hk k hk', ho⟩, Nat.le_refl _, fun b bk' hb hq => ⟨bk', hq, Nat.le_refl _, fun _ => ⟨rfl, id, fun cs ty fr hc => ?_⟩⟩, hev.os, hev.output, hev.tape⟩
    exact ⟨cs, ty, fr, by rw [hk _ (by have := Array.getElem?_eq_some_iff.mp hc; exact this.1)]; exact hc, rfl⟩
  have hH : HRel ι H w' := by
    refine ⟨fun b bk hb hne => ?_, hS.hr.inj⟩
    obtain ⟨c, ty, hc, hsz, hv⟩ := hS.hr.blk b bk hb hne
    exact ⟨c, ty, by rw [hk _ (Array.getElem?_eq_some_iff.mp hc).1]; exact hc, hsz, fun j x hx => by obtain ⟨v, p1, p2⟩ := hv j x hx; exact ⟨v, p1, p2.evo hE⟩⟩
  exact ⟨_, _, H, ι, he, ⟨rfl, rfl⟩, ⟨hH, fun g cells hg => (hS.gr g cells hg).mono hev.size fun k hk' ho => ⟨hk k hk', ho⟩⟩, .p _ _ (.bool b), hE⟩
end
end Go.Proofs.YtlophgkgmhcagaaDoor.AM
end

section
set_option linter.unusedVariables false
set_option linter.unusedSimpArgs false
set_option maxRecDepth 4000
set_option maxHeartbeats 4000000
namespace Go.Proofs.YtlophgkgmhcagaaDoor.AM
open Go Go.Proofs
attribute [local irreducible] awp aops aqops aeops arun arunT
variable {G : Nat → Option (List PV)}

theorem line_run : rCall Tryd.prog gW ["net.go:137"] 60 30 8 [] [] = some (.b true, []) := by kernel_rfl

theorem line_calls (h : Heap) : ACalls Tryd.prog gW 8 [] h (fun r h' => r = .b true ∧ h' = h) :=
  ACalls.bool_lift (rCall_good (rl := ["net.go:137"]) mixed 60 30 _ _ _ _ _ line_run).2 h

theorem Ints_same (a : List Int) (ha : a.length ≤ 200) (h : Heap) : ACalls Tryd.prog G 11 [aI a, aI a] h (fun r h' => r = .b true ∧ h' = h) := by
  have := Ints_calls (G := G) a a ha h
  simpa using this

theorem bneI (x : Int) : (x != x) = false := by simp

theorem ruOf_ok {fl : List Fl} {i : Nat} {kind : Int} : ∀ r ∈ ruOf fl i kind, r.needs.length ≤ fl.length + 1 ∧ r.gives.length ≤ fl.length + 1 := by
  have a := insN_le fl i
  have b := outsN_le fl i
  intro r hr
  unfold ruOf at hr
  split at hr
  · cases hr
  split at hr
  · obtain ⟨f, _, rfl⟩ := List.mem_map.mp hr
    have c := outsN_le fl (dstAt fl f)
    exact ⟨by simp only; omega, by simp only; omega⟩
  split at hr
  · rw [List.mem_singleton.mp hr]; exact ⟨by simp only; omega, by simp only; omega⟩
  split at hr
  · split at hr
    · obtain ⟨f, _, rfl⟩ := List.mem_map.mp hr
      exact ⟨by simp only; omega, by simp only [List.length_singleton]; omega⟩
    · obtain ⟨f, _, rfl⟩ := List.mem_map.mp hr
      exact ⟨by simp only [List.length_singleton]; omega, by simp only [List.length_singleton]; omega⟩
  · rw [List.mem_singleton.mp hr]; exact ⟨by simp only; omega, by simp only; omega⟩
theorem ruTo_ok {ns : List Nd} {fl : List Fl} : ∀ {j : Nat}, ∀ r ∈ ruTo ns fl j, r.needs.length ≤ fl.length + 1 ∧ r.gives.length ≤ fl.length + 1
  | 0, r, hr => by cases hr
  | j + 1, r, hr => by
    rcases List.mem_append.mp hr with hr | hr
    · exact ruTo_ok r hr
    · exact ruOf_ok r hr

theorem ruleAll_law (ns : List Nd) (fl : List Fl) (h : Heap) : ACalls Tryd.prog gW 3 [aNet ns fl] h (fun r h' => r = .b true ∧ h' = h) := by
  have hlg := fun h => large_calls (G := gW) ns fl h
  cases hL : largeN ns fl with
  | true =>
    rw [hL] at hlg
    refine acalls_pure (rl := []) mixed Tryd.func3 rfl (rs := [.tmp 2]) rfl Tryd.ntmps3 (by simp) ?_
    repeat' (first | ((first | refine aops_nil ?_ | refine aqops_nil ?_); (try simp only [NB])) | ((repeat ((fail_if_success (refine hK _ ?_)); clear hK K)); refine hK _ ?_; clear hK K) | ((first | refine aops_k fun K1 hK1 => ?_ | refine aqops_k fun K1 hK1 => ?_ | refine awp_cond_k fun A B hA hB => ?_); simp only [S1, simprocAttr, T2, T3, T4, T25, T28, T29, T32, T35, T37, T38]; first | (refine hK1 _ ?_; clear hK1 K1) | ((first | refine hA ?_ | refine hB ?_); clear hA hB A B) | ((first | apply call_a E7 | apply call_q E7); exact (hlg _); (refine hK1 _ ?_; clear hK1 K1)) | ((first | apply call_a E8 | apply call_q E8); exact (line_calls _); (refine hK1 _ ?_; clear hK1 K1)) | (refine join_x (v := ?_) (fun hg hk9 => ?_) ?_; rotate_left; (focus (try ((try simp only [BN] at hg); simp only [S1, simprocAttr, T2, T3, T4, T25, T28, T29, T32, T35, T37, T38, hg] at hk9 ⊢)); first | exact hk9 | ((first | apply call_a E7 | apply call_q E7); exact (hlg _); exact hk9) | ((first | apply call_a E8 | apply call_q E8); exact (line_calls _); exact hk9)); (refine hK1 _ ?_; clear hK1 K1)) | (((first | (refine ⟨fun hg => hA ?_, fun hg => hB ?_⟩ <;> clear hA hB A B) | refine ⟨fun hg => ?_, fun hg => ?_⟩) <;> (try simp only [BN2] at hg) <;> (try simp only [hg, cond_true, cond_false])) <;> (try (refine hK1 _ ?_; clear hK1 K1)) <;> (try simp only [BN3] at hg))) | (refine awp_seq_k fun K hK => ?_) | ((first | refine awp_region ?_ | refine awp_draw (by kernel_rfl) ?_ | refine awp_block ?_ | refine awp_exit ?_ | refine awp_skip ?_ | refine awp_ret ?_); (try simp only [NB, simprocAttr])))
    all_goals simp only [EndP, FinP, resA, resL, resA1, lastV, lastA, lastAs, pur, purs, take_app, List.take_length, S1, simprocAttr, T2, T3, T4, T25, T28, T29, T32, T35, T37, T38, Nat.le_add_right, Nat.le_refl]
  | false =>
    rw [hL] at hlg
    have ok := large_ok hL
    have hl := ok.f
    have ha := fun h => rAll_calls ns fl ok h
    have hb := fun h => rAllD_calls (G := gW) ns fl ok h
    have hok : ∀ r ∈ (allRu ns fl).1, r.needs.length ≤ 101 ∧ r.gives.length ≤ 101 := by
      intro r hr
      unfold allRu at hr
      split at hr
      · have := ruTo_ok r hr; omega
      · cases hr
    have hlen : (allRu ns fl).1.length ≤ 20000 := by
      unfold allRu
      split
      · have h1 := ruTo_le ns fl ns.length
        have h2 : ns.length * (fl.length + 1) ≤ 100 * 101 := Nat.mul_le_mul ok.n (by omega)
        simp only; omega
      · simp
    generalize allRu ns fl = q at *
    obtain ⟨l, e⟩ := q
    simp only at ha hb hok hlen
    have b1 := bneI e
    have b2 := bneI (l.length : Int)
    refine acalls_pure (rl := []) mixed Tryd.func3 rfl (rs := [.tmp 2]) rfl Tryd.ntmps3 (by simp) ?_
    repeat' (first | ((first | refine aops_nil ?_ | refine aqops_nil ?_); (try simp only [NB])) | ((repeat ((fail_if_success (refine hK _ ?_)); clear hK K)); refine hK _ ?_; clear hK K) | ((first | refine aops_k fun K1 hK1 => ?_ | refine aqops_k fun K1 hK1 => ?_ | refine awp_cond_k fun A B hA hB => ?_); simp only [S1, simprocAttr, T2, T3, T4, T25, T28, T29, T32, T35, T37, T38, b1, b2, List.length_map]; first | (refine hK1 _ ?_; clear hK1 K1) | ((first | refine hA ?_ | refine hB ?_); clear hA hB A B) | ((first | apply call_a E7 | apply call_q E7); exact (hlg _); (refine hK1 _ ?_; clear hK1 K1)) | ((first | apply call_a E9 | apply call_q E9); exact (ha _); (refine hK1 _ ?_; clear hK1 K1)) | ((first | apply call_a E10 | apply call_q E10); exact (hb _); (refine hK1 _ ?_; clear hK1 K1)) | (refine join_x (v := ?_) (fun hg hk9 => ?_) ?_; rotate_left; (focus (try ((try simp only [BN] at hg); simp only [S1, simprocAttr, T2, T3, T4, T25, T28, T29, T32, T35, T37, T38, b1, b2, List.length_map, hg] at hk9 ⊢)); first | exact hk9 | ((first | apply call_a E7 | apply call_q E7); exact (hlg _); exact hk9) | ((first | apply call_a E9 | apply call_q E9); exact (ha _); exact hk9) | ((first | apply call_a E10 | apply call_q E10); exact (hb _); exact hk9)); (refine hK1 _ ?_; clear hK1 K1)) | (((first | (refine ⟨fun hg => hA ?_, fun hg => hB ?_⟩ <;> clear hA hB A B) | refine ⟨fun hg => ?_, fun hg => ?_⟩) <;> (try simp only [BN2] at hg) <;> (try simp only [hg, cond_true, cond_false])) <;> (try (refine hK1 _ ?_; clear hK1 K1)) <;> (try simp only [BN3] at hg))) | (refine awp_seq_k fun K hK => ?_) | ((first | refine awp_region ?_ | refine awp_draw (by kernel_rfl) ?_ | refine awp_block ?_ | refine awp_exit ?_ | refine awp_skip ?_ | refine awp_ret ?_); (try simp only [NB, simprocAttr])))
    refine awp_for l.length 90 (fun i => [(33, .i i), (32, .i l.length), (5, aRus l), (3, aRus l)]) (fun i => []) (fun i => True) ?_ trivial fun i hi hp K hK => ?_
    · (refine ⟨rfl, (by first | exact ⟨_, rfl⟩ | exact ⟨[], by simp⟩), ?_, ?_⟩ <;> simp only [keeps, avlt, avlts, blksLt, frL, upd_get, S1, simprocAttr, List.length_map, Int.natCast_zero, AV.p.injEq, PV.int.injEq, PV.bool.injEq, PV.sl.injEq] <;> (try and_intros) <;> (try assumption) <;> (try trivial) <;> (try omega))
    rcases Nat.lt_or_ge i l.length with hlt | hge
    · obtain ⟨x, hx⟩ : ∃ k, l[i]? = some k := ⟨_, List.getElem?_eq_getElem hlt⟩
      obtain ⟨h1, h2⟩ := hok x (List.mem_of_getElem? hx)
      have i0 : (0 : Int) ≤ (i : Int) := by omega
      have hx' : (l.map eRu)[i]? = some (eRu x) := by simp [hx]
      have hnx : IntKind.i64.wrap ((i : Int) + 1) = ((i + 1 : Nat) : Int) := by rw [IntWalk.i64_in _ (by omega)]; omega
      have c1 := bneI x.kind
      have c2 := bneI x.node
      repeat' (first | ((first | refine aops_nil ?_ | refine aqops_nil ?_); (try simp only [NB])) | ((repeat ((fail_if_success (refine hK _ ?_)); clear hK K)); refine hK _ ?_; clear hK K) | ((first | refine aops_k fun K1 hK1 => ?_ | refine aqops_k fun K1 hK1 => ?_ | refine awp_cond_k fun A B hA hB => ?_); simp only [S1, simprocAttr, T2, T3, T4, T25, T28, T29, T32, T35, T37, T38, hitK hlt, hnx, hx', eRu, i0, c1, c2, Int.toNat_natCast]; first | (refine hK1 _ ?_; clear hK1 K1) | ((first | refine hA ?_ | refine hB ?_); clear hA hB A B) | ((first | apply call_a E11 | apply call_q E11); exact (Ints_same x.needs (by omega) _); (refine hK1 _ ?_; clear hK1 K1)) | ((first | apply call_a E11 | apply call_q E11); exact (Ints_same x.gives (by omega) _); (refine hK1 _ ?_; clear hK1 K1)) | (refine join_x (v := ?_) (fun hg hk9 => ?_) ?_; rotate_left; (focus (try ((try simp only [BN] at hg); simp only [S1, simprocAttr, T2, T3, T4, T25, T28, T29, T32, T35, T37, T38, hitK hlt, hnx, hx', eRu, i0, c1, c2, Int.toNat_natCast, hg] at hk9 ⊢)); first | exact hk9 | ((first | apply call_a E11 | apply call_q E11); exact (Ints_same x.needs (by omega) _); exact hk9) | ((first | apply call_a E11 | apply call_q E11); exact (Ints_same x.gives (by omega) _); exact hk9)); (refine hK1 _ ?_; clear hK1 K1)) | (((first | (refine ⟨fun hg => hA ?_, fun hg => hB ?_⟩ <;> clear hA hB A B) | refine ⟨fun hg => ?_, fun hg => ?_⟩) <;> (try simp only [BN2] at hg) <;> (try simp only [hg, cond_true, cond_false])) <;> (try (refine hK1 _ ?_; clear hK1 K1)) <;> (try simp only [BN3] at hg))) | (refine awp_seq_k fun K hK => ?_) | ((first | refine awp_region ?_ | refine awp_draw (by kernel_rfl) ?_ | refine awp_block ?_ | refine awp_exit ?_ | refine awp_skip ?_ | refine awp_ret ?_); (try simp only [NB, simprocAttr])))
      all_goals exact ⟨hlt, trivial, by (refine ⟨rfl, (by first | exact ⟨_, rfl⟩ | exact ⟨[], by simp⟩), ?_, ?_⟩ <;> simp only [keeps, avlt, avlts, blksLt, frL, upd_get, S1, simprocAttr, List.length_map, Int.natCast_zero, AV.p.injEq, PV.int.injEq, PV.bool.injEq, PV.sl.injEq] <;> (try and_intros) <;> (try assumption) <;> (try trivial) <;> (try omega))⟩
    · obtain rfl : i = l.length := by omega
      repeat' (first | ((first | refine aops_nil ?_ | refine aqops_nil ?_); (try simp only [NB])) | ((repeat ((fail_if_success (refine hK _ ?_)); clear hK K)); refine hK _ ?_; clear hK K) | ((first | refine aops_k fun K1 hK1 => ?_ | refine aqops_k fun K1 hK1 => ?_ | refine awp_cond_k fun A B hA hB => ?_); simp only [S1, simprocAttr, T2, T3, T4, T25, T28, T29, T32, T35, T37, T38, endK]; first | (refine hK1 _ ?_; clear hK1 K1) | ((first | refine hA ?_ | refine hB ?_); clear hA hB A B) | ((first | apply call_a E8 | apply call_q E8); exact (line_calls _); (refine hK1 _ ?_; clear hK1 K1)) | (refine join_x (v := ?_) (fun hg hk9 => ?_) ?_; rotate_left; (focus (try ((try simp only [BN] at hg); simp only [S1, simprocAttr, T2, T3, T4, T25, T28, T29, T32, T35, T37, T38, endK, hg] at hk9 ⊢)); first | exact hk9 | ((first | apply call_a E8 | apply call_q E8); exact (line_calls _); exact hk9)); (refine hK1 _ ?_; clear hK1 K1)) | (((first | (refine ⟨fun hg => hA ?_, fun hg => hB ?_⟩ <;> clear hA hB A B) | refine ⟨fun hg => ?_, fun hg => ?_⟩) <;> (try simp only [BN2] at hg) <;> (try simp only [hg, cond_true, cond_false])) <;> (try (refine hK1 _ ?_; clear hK1 K1)) <;> (try simp only [BN3] at hg))) | (refine awp_seq_k fun K hK => ?_) | ((first | refine awp_region ?_ | refine awp_draw (by kernel_rfl) ?_ | refine awp_block ?_ | refine awp_exit ?_ | refine awp_skip ?_ | refine awp_ret ?_); (try simp only [NB, simprocAttr])))
      all_goals simp only [EndP, FinP, resA, resL, resA1, lastV, lastA, lastAs, pur, purs, take_app, List.take_length, S1, simprocAttr, T2, T3, T4, T25, T28, T29, T32, T35, T37, T38, Nat.le_add_right, Nat.le_refl]

theorem all_given (xss : List (List PV)) (hl : xss.length = [25].length) (ht : ∀ (j : Nat) t xs, [25][j]? = some t → xss[j]? = some xs → ∃ fuel, Ty Tryd.prog fuel t xs) :
    ACalls Tryd.prog gW 3 (List.zipWith (argA Tryd.prog) [25] xss) [] fun r h' => r = .b true ∧ h' = [] := by
  match xss, hl, ht with
  | [x0], _, ht =>
    obtain ⟨_, h0⟩ := ht 0 25 x0 rfl rfl
    obtain ⟨ns, fl, e0⟩ := arg_net h0
    simp only [List.zipWith_cons_cons, List.zipWith_nil_left, e0]
    exact ruleAll_law ns fl []
end Go.Proofs.YtlophgkgmhcagaaDoor.AM
end
