/- Contract of the bound of what is gone through: a term is not larger. -/
-- TYPES: 3 4 22 24 27 29
import Derived.Test.YtelljholenkckaaDoorEvB
set_option linter.unusedVariables false
set_option linter.unusedSimpArgs false
set_option maxRecDepth 4000
set_option maxHeartbeats 4000000
namespace Go.Proofs.YtelljholenkckaaDoor.AM
open Go Go.Proofs
attribute [local irreducible] awp aops aqops
variable {G : Nat → Option (List PV)}

mutual
def lgT : Tm → Int → Int → Bool × Int
  | .mk _ _ ks, d, n => if n - 1 < 0 ∨ 100 < d ∨ 100 < (ks.length : Int) then (true, n - 1) else lgS ks (d + 1) (n - 1)
def lgS : List Tm → Int → Int → Bool × Int
  | [], _, n => (false, n)
  | k :: r, d, n => if (lgT k d n).1 = true then lgT k d n else lgS r d (lgT k d n).2
end

theorem lgT_eq (t : Tm) (d n : Int) : lgT t d n = if n - 1 < 0 ∨ 100 < d ∨ 100 < (t.kids.length : Int) then (true, n - 1) else lgS t.kids (d + 1) (n - 1) := by
  cases t; rw [lgT]; rfl

theorem lgS_app : ∀ (a b : List Tm) (d n : Int), lgS (a ++ b) d n = if (lgS a d n).1 = true then lgS a d n else lgS b d (lgS a d n).2
  | [], b, d, n => by simp [lgS]
  | k :: r, b, d, n => by
    simp only [List.cons_append, lgS]
    by_cases h : (lgT k d n).1 = true
    · simp [h]
    · simp only [h, if_false]
      exact lgS_app r b d _

theorem lgS_take {l : List Tm} {i : Nat} {k : Tm} (hk : l[i]? = some k) {d n : Int} (hp : (lgS (l.take i) d n).1 = false) :
    lgS (l.take (i + 1)) d n = lgT k d (lgS (l.take i) d n).2 := by
  rw [List.take_add_one, hk, lgS_app]
  simp only [hp, Bool.false_eq_true, if_false, Option.toList_some, lgS]
  split
  · rfl
  · rename_i h
    have : (lgT k d (lgS (List.take i l) d n).2).1 = false := by simpa using h
    rw [Prod.ext_iff]; exact ⟨this.symm, rfl⟩

theorem lgS_stop {l : List Tm} {i : Nat} {k : Tm} (hk : l[i]? = some k) {d n : Int} (hp : (lgS (l.take i) d n).1 = false) (ht : (lgT k d (lgS (l.take i) d n).2).1 = true) :
    lgS l d n = lgT k d (lgS (l.take i) d n).2 := by
  have h := lgS_take hk hp
  conv => lhs; rw [← List.take_append_drop (i + 1) l]
  rw [lgS_app, h, if_pos ht]

/-- What is left of the room. -/
theorem lg_room : ∀ t : Tm, ∀ d n : Int, 0 ≤ n → -1 ≤ (lgT t d n).2 ∧ (lgT t d n).2 ≤ n ∧ ((lgT t d n).1 = false → 0 ≤ (lgT t d n).2) := by
  intro t
  refine Tm.ind (p := fun t => ∀ d n : Int, 0 ≤ n → -1 ≤ (lgT t d n).2 ∧ (lgT t d n).2 ≤ n ∧ ((lgT t d n).1 = false → 0 ≤ (lgT t d n).2)) (fun t ih => ?_) t
  have hs : ∀ l : List Tm, (∀ k ∈ l, k ∈ t.kids) → ∀ d n : Int, 0 ≤ n → -1 ≤ (lgS l d n).2 ∧ (lgS l d n).2 ≤ n ∧ ((lgS l d n).1 = false → 0 ≤ (lgS l d n).2) := by
    intro l
    induction l with
    | nil => intro _ d n hn; simp [lgS]; omega
    | cons k r ihr =>
      intro hm d n hn
      have h1 := ih k (hm k (by simp)) d n hn
      simp only [lgS]
      split
      · exact h1
      · rename_i h
        have h2 := h1.2.2 (by simpa using h)
        have h3 := ihr (fun x hx => hm x (by simp [hx])) d _ h2
        exact ⟨by omega, by omega, h3.2.2⟩
  intro d n hn
  rw [lgT_eq]
  split
  · simp; omega
  · rename_i h
    have := hs t.kids (fun _ h => h) (d + 1) (n - 1) (by omega)
    exact ⟨by omega, by omega, this.2.2⟩

theorem lgS_room {l : List Tm} {d n : Int} (hn : 0 ≤ n) : -1 ≤ (lgS l d n).2 ∧ (lgS l d n).2 ≤ n ∧ ((lgS l d n).1 = false → 0 ≤ (lgS l d n).2) := by
  induction l generalizing n with
  | nil => simp [lgS]; omega
  | cons k r ih =>
    have h1 := lg_room k d n hn
    simp only [lgS]
    split
    · exact h1
    · rename_i h
      have h2 := h1.2.2 (by simpa using h)
      have h3 := ih h2
      exact ⟨by omega, by omega, h3.2.2⟩

/-- What is not larger. -/
theorem lg_ok : ∀ t : Tm, ∀ d n : Int, (lgT t d n).1 = false → 1 ≤ d → Tm.Ok (101 - d).toNat t := by
  intro t
  refine Tm.ind (p := fun t => ∀ d n : Int, (lgT t d n).1 = false → 1 ≤ d → Tm.Ok (101 - d).toNat t) (fun t ih => ?_) t
  intro d n hf hd
  rw [lgT_eq] at hf
  split at hf
  · cases hf
  · rename_i h
    have hs : ∀ l : List Tm, ∀ d n : Int, (lgS l d n).1 = false → ∀ k ∈ l, ∃ m, (lgT k d m).1 = false := by
      intro l
      induction l with
      | nil => intro d n _ k hk; simp at hk
      | cons x r ihr =>
        intro d n hf k hk
        simp only [lgS] at hf
        split at hf
        · rename_i h2; rw [h2] at hf; cases hf
        · rename_i h2
          rcases List.mem_cons.mp hk with rfl | hk
          · exact ⟨n, by simpa using h2⟩
          · exact ihr _ _ hf k hk
    have e : (101 - d).toNat = (101 - (d + 1)).toNat + 1 := by omega
    rw [e]
    refine .mk _ t (by omega) fun k hk => ?_
    obtain ⟨m, hm⟩ := hs _ _ _ hf k hk
    exact ih k hk _ _ hm (by omega)

/-- A heap whose block b was changed. -/
def withB (h : Heap) (b : Nat) (c : Option Blk) : Heap := h.set b c

section
variable {h : Heap} {b : Nat} {c c' : Option Blk}
theorem wb_self (hb : h[b]? = some c) : withB h b c = h := by
  apply List.ext_getElem?
  intro i
  unfold withB
  rw [List.getElem?_set]
  split
  · rename_i e; subst e; split
    · exact hb.symm
    · rename_i hn; rw [List.getElem?_eq_none (by omega)] at hb; cases hb
  · rfl
theorem wb_len : (withB h b c).length = h.length := by unfold withB; rw [List.length_set]
theorem wb_at (hb : b < h.length) : (withB h b c)[b]? = some c := by unfold withB; rw [List.getElem?_set]; simp [hb]
theorem wb_get (hb : b < h.length) (L : Heap) : (withB h b c ++ L)[b]? = some c := by rw [List.getElem?_append_left (by rw [wb_len]; exact hb), wb_at hb]
theorem wb_put : (withB h b c).set b c' = withB h b c' := by unfold withB; rw [List.set_set]
theorem wb_set (hb : b < h.length) (L : Heap) : (withB h b c ++ L).set b c' = withB h b c' ++ L := by rw [List.set_append_left _ _ (by rw [wb_len]; exact hb), wb_put]
theorem wb_get0 (L : Heap) : (withB h b c ++ L)[h.length]? = L[0]? := by rw [List.getElem?_append_right (by rw [wb_len]; omega), wb_len]; congr 1; omega
theorem wb_geti (L : Heap) (i : Nat) : (withB h b c ++ L)[h.length + i]? = L[i]? := by rw [List.getElem?_append_right (by rw [wb_len]; omega), wb_len]; congr 1; omega
theorem wb_set0 (L : Heap) (x : Option Blk) : (withB h b c ++ L).set h.length x = withB h b c ++ L.set 0 x := by rw [List.set_append_right _ _ (by rw [wb_len]; omega), wb_len]; congr 2; omega
theorem wb_seti (L : Heap) (i : Nat) (x : Option Blk) : (withB h b c ++ L).set (h.length + i) x = withB h b c ++ L.set i x := by rw [List.set_append_right _ _ (by rw [wb_len]; omega), wb_len]; congr 2; omega
theorem wb_take (L : Heap) : (withB h b c ++ L).take h.length = withB h b c := by
  have := wb_len (h := h) (b := b) (c := c)
  rw [← this, List.take_left']; rfl
theorem wb_app (L : Heap) (hb : b < h.length) : withB (withB h b c ++ L) b c' = withB h b c' ++ L := by
  show (withB h b c ++ L).set b c' = _
  exact wb_set hb L
theorem wb_keep {c0 : Option Blk} {g : Nat} {n : Int} : ∀ (i : Nat) (bk : Blk), (withB h b (some ⟨g, [.i n]⟩))[i]? = some (some bk) → (withB h b c0)[i]? = some (some bk) ∨ avlts (withB h b c0).length bk.cells := by
  intro i bk hi
  unfold withB at hi ⊢
  rw [List.getElem?_set] at hi ⊢
  split at hi
  · rename_i e
    split at hi
    · cases hi; exact .inr (by simp [avlts, avlt])
    · cases hi
  · rename_i e; rw [if_neg e]; exact .inl hi
theorem wb_keep' {c0 : Option Blk} {g : Nat} {n : Int} (i : Nat) (bk : Blk) (hi : (withB h b (some ⟨g, [.i n]⟩))[i]? = some (some bk)) : (withB h b c0)[i]? = some (some bk) ∨ ∀ x, x ∈ bk.cells → AVlt h.length x :=
  (wb_keep i bk hi).imp id fun hx => by rw [wb_len] at hx; exact avlts_lt _ hx
theorem wb_wb : withB (withB h b c) b c' = withB h b c' := wb_put
theorem wb_take0 : (withB h b c).take h.length = withB h b c := by
  rw [← wb_len (h := h) (b := b) (c := c), List.take_length]
end

abbrev rB (g : Nat) (n : Int) : Option Blk := some ⟨g, [.i n]⟩

theorem large_calls (t : Tm) : ∀ (d n : Int) (b g : Nat) (h : Heap), 0 ≤ n → n ≤ 3000 → 1 ≤ d → d ≤ 101 → h[b]? = some (rB g n) →
    ACalls Tryd.prog G 8 [aT t, .ptr b g 0, .i d] h (fun r h' => r = .b (lgT t d n).1 ∧ h' = withB h b (rB g (lgT t d n).2)) := by
  refine Tm.ind (p := fun t => ∀ (d n : Int) (b g : Nat) (h : Heap), 0 ≤ n → n ≤ 3000 → 1 ≤ d → d ≤ 101 → h[b]? = some (rB g n) →
    ACalls Tryd.prog G 8 [aT t, .ptr b g 0, .i d] h (fun r h' => r = .b (lgT t d n).1 ∧ h' = withB h b (rB g (lgT t d n).2))) (fun t ih => ?_) t
  intro d n b g h hn hn2 hd hd2 hb
  have hlt : b < h.length := (List.getElem?_eq_some_iff.mp hb).1
  have hself := wb_self hb
  have hw : IntKind.i64.wrap (n - 1) = n - 1 := IntWalk.i64_in _ (by omega)
  rw [lgT_eq]
  refine acalls_heap (rl := []) mixed Tryd.func8 rfl (rs := [.tmp 6]) rfl Tryd.ntmps8 (by simp) ?_
  rw [← hself]
  by_cases hbig : n - 1 < 0 ∨ 100 < d ∨ 100 < (t.kids.length : Int)
  · rw [if_pos hbig]
    have f1 : ((decide (n - 1 < 0) || decide (100 < d)) || decide (100 < (t.kids.length : Int))) = true := by
      simp; omega
    repeat' (first | ((first | refine aops_nil ?_ | refine aqops_nil ?_); (try simp only [thenA_normal, blockA_normal]); (first | (refine hK _ ?_; clear hK K) | (clear hK K; (first | (refine hK _ ?_; clear hK K) | (clear hK K; (first | (refine hK _ ?_; clear hK K) | (clear hK K; (first | (refine hK _ ?_; clear hK K) | (clear hK K; (first | (refine hK _ ?_; clear hK K) | (clear hK K; (first | (refine hK _ ?_; clear hK K) | (clear hK K; (first | (refine hK _ ?_; clear hK K) | (clear hK K; (refine hK _ ?_; clear hK K)))))))))))))))) | (first | (refine hK _ ?_; clear hK K) | (clear hK K; (first | (refine hK _ ?_; clear hK K) | (clear hK K; (first | (refine hK _ ?_; clear hK K) | (clear hK K; (first | (refine hK _ ?_; clear hK K) | (clear hK K; (first | (refine hK _ ?_; clear hK K) | (clear hK K; (first | (refine hK _ ?_; clear hK K) | (clear hK K; (first | (refine hK _ ?_; clear hK K) | (clear hK K; (refine hK _ ?_; clear hK K))))))))))))))) | ((first | refine aops_k fun K1 hK1 => ?_ | refine aqops_k fun K1 hK1 => ?_); simp only [SS, AV.i, AV.b, AV.undef, Int.reduceLE, Int.reduceBEq, Int.reduceBNe, Int.reduceEq, Nat.reduceLT, Nat.reduceLeDiff, Nat.reduceEqDiff, Nat.reduceAdd, Nat.reduceSub, Nat.reduceMul, Nat.reduceBEq, Nat.reduceBNe, Int.reduceLT, Int.reduceNeg, Int.reduceToNat, reduceIte, reduceCtorEq, T3, T4, T22, T24, T27, T29, f1, hw, List.length_map, wb_get hlt, wb_at hlt, wb_put, wb_set hlt, wb_get0, wb_geti, wb_len]; first | (refine hK1 _ ?_; clear hK1 K1) | (refine join_x (v := ?_) (fun hg hk9 => ?_) ?_; rotate_left; (focus (first | ((try simp only [Bool.not_not, Bool.and_eq_true, Bool.not_eq_eq_eq_not, Bool.not_true, Bool.not_false, Bool.and_true, Bool.true_and, Bool.or_false, Bool.false_or, decide_true, decide_false, bt_true, bt_false] at hg); simp only [SS, AV.i, AV.b, AV.undef, Int.reduceLE, Int.reduceBEq, Int.reduceBNe, Int.reduceEq, Nat.reduceLT, Nat.reduceLeDiff, Nat.reduceEqDiff, Nat.reduceAdd, Nat.reduceSub, Nat.reduceMul, Nat.reduceBEq, Nat.reduceBNe, Int.reduceLT, Int.reduceNeg, Int.reduceToNat, reduceIte, reduceCtorEq, T3, T4, T22, T24, T27, T29, f1, hw, List.length_map, wb_get hlt, wb_at hlt, wb_put, wb_set hlt, wb_get0, wb_geti, wb_len, hg] at hk9 ⊢; first | exact hk9) | exact hk9)); (refine hK1 _ ?_; clear hK1 K1)) | (refine ⟨fun hg => ?_, fun hg => ?_⟩ <;> (try simp only [Bool.not_eq_eq_eq_not, Bool.not_true, Bool.not_false] at hg) <;> (try simp only [hg, cond_true, cond_false]) <;> (refine hK1 _ ?_; clear hK1 K1) <;> (try simp only [decide_eq_true_eq, decide_eq_false_iff_not, beq_iff_eq, bne_iff_ne, beq_eq_false_iff_ne, bne_eq_false_iff_eq, ne_eq, Bool.not_eq_eq_eq_not, Bool.not_true, Bool.not_false, Bool.and_eq_true, Bool.or_eq_false_iff] at hg))) | (refine awp_seq_k fun K hK => ?_) | ((first | refine awp_region ?_ | refine awp_draw (by kernel_rfl) ?_); (try simp only [thenA_normal, blockA_normal])) | (refine awp_block ?_) | (refine awp_exit ?_; try simp only [thenA_exit, blockA_exit, thenA_normal, blockA_normal, reduceIte, Nat.reduceEqDiff]; (try (first | (refine hK _ ?_; clear hK K) | (clear hK K; (first | (refine hK _ ?_; clear hK K) | (clear hK K; (first | (refine hK _ ?_; clear hK K) | (clear hK K; (first | (refine hK _ ?_; clear hK K) | (clear hK K; (first | (refine hK _ ?_; clear hK K) | (clear hK K; (first | (refine hK _ ?_; clear hK K) | (clear hK K; (first | (refine hK _ ?_; clear hK K) | (clear hK K; (refine hK _ ?_; clear hK K))))))))))))))))) | (refine awp_skip ?_; try simp only [thenA_normal, blockA_normal]; (try (first | (refine hK _ ?_; clear hK K) | (clear hK K; (first | (refine hK _ ?_; clear hK K) | (clear hK K; (first | (refine hK _ ?_; clear hK K) | (clear hK K; (first | (refine hK _ ?_; clear hK K) | (clear hK K; (first | (refine hK _ ?_; clear hK K) | (clear hK K; (first | (refine hK _ ?_; clear hK K) | (clear hK K; (first | (refine hK _ ?_; clear hK K) | (clear hK K; (refine hK _ ?_; clear hK K))))))))))))))))) | (refine awp_ret ?_; (try simp only [thenA_ret, blockA_ret])) | (refine awp_cond_k fun A B hA hB => ?_; simp only [SS, AV.i, AV.b, AV.undef, Int.reduceLE, Int.reduceBEq, Int.reduceBNe, Int.reduceEq, Nat.reduceLT, Nat.reduceLeDiff, Nat.reduceEqDiff, Nat.reduceAdd, Nat.reduceSub, Nat.reduceMul, Nat.reduceBEq, Nat.reduceBNe, Int.reduceLT, Int.reduceNeg, Int.reduceToNat, reduceIte, reduceCtorEq, T3, T4, T22, T24, T27, T29, f1, hw, List.length_map, wb_get hlt, wb_at hlt, wb_put, wb_set hlt, wb_get0, wb_geti, wb_len]; first | (refine hA ?_; clear hA hB A B) | (refine hB ?_; clear hA hB A B) | (refine ⟨fun hg => hA ?_, fun hg => hB ?_⟩ <;> clear hA hB A B <;> (try simp only [Bool.not_eq_eq_eq_not, Bool.not_true, Bool.not_false] at hg) <;> (try simp only [hg, cond_true, cond_false]) <;> (try simp only [decide_eq_true_eq, decide_eq_false_iff_not, beq_iff_eq, bne_iff_ne, beq_eq_false_iff_ne, bne_eq_false_iff_eq, ne_eq, Bool.not_eq_eq_eq_not, Bool.not_true, Bool.not_false, Bool.and_eq_true, Bool.or_eq_false_iff] at hg))))
    all_goals simp only [EndH, FinH, resA, resL, resA1, lastV, lastA, lastAs, pur, purs, wb_len, wb_take, wb_take0, wb_wb, SS, AV.i, AV.b, AV.undef, Int.reduceLE, Int.reduceBEq, Int.reduceBNe, Int.reduceEq, Nat.reduceLT, Nat.reduceLeDiff, Nat.reduceEqDiff, Nat.reduceAdd, Nat.reduceSub, Nat.reduceMul, Nat.reduceBEq, Nat.reduceBNe, Int.reduceLT, Int.reduceNeg, Int.reduceToNat, reduceIte, reduceCtorEq, T3, T4, T22, T24, T27, T29, Nat.le_add_right, Nat.le_refl]
    all_goals first | exact wb_keep' | exact ⟨wb_keep', rfl⟩ | exact ⟨wb_keep', rfl, rfl⟩
  · rw [if_neg hbig]
    have f1 : ((decide (n - 1 < 0) || decide (100 < d)) || decide (100 < (t.kids.length : Int))) = false := by
      simp; omega
    have hkl : t.kids.length ≤ 100 := by omega
    have hm0 : 0 ≤ n - 1 := by omega
    have hd3 : IntKind.i64.wrap (d + 1) = d + 1 := IntWalk.i64_in _ (by omega)
    let m := fun i => (lgS (t.kids.take i) (d + 1) (n - 1)).2
    refine awp_seq_k fun K hK => ?_
    repeat' (first | ((first | refine aops_nil ?_ | refine aqops_nil ?_); (try simp only [thenA_normal, blockA_normal]); (first | (refine hK _ ?_; clear hK K) | (clear hK K; (first | (refine hK _ ?_; clear hK K) | (clear hK K; (first | (refine hK _ ?_; clear hK K) | (clear hK K; (first | (refine hK _ ?_; clear hK K) | (clear hK K; (first | (refine hK _ ?_; clear hK K) | (clear hK K; (first | (refine hK _ ?_; clear hK K) | (clear hK K; (first | (refine hK _ ?_; clear hK K) | (clear hK K; (refine hK _ ?_; clear hK K)))))))))))))))) | (first | (refine hK _ ?_; clear hK K) | (clear hK K; (first | (refine hK _ ?_; clear hK K) | (clear hK K; (first | (refine hK _ ?_; clear hK K) | (clear hK K; (first | (refine hK _ ?_; clear hK K) | (clear hK K; (first | (refine hK _ ?_; clear hK K) | (clear hK K; (first | (refine hK _ ?_; clear hK K) | (clear hK K; (first | (refine hK _ ?_; clear hK K) | (clear hK K; (refine hK _ ?_; clear hK K))))))))))))))) | ((first | refine aops_k fun K1 hK1 => ?_ | refine aqops_k fun K1 hK1 => ?_); simp only [SS, AV.i, AV.b, AV.undef, Int.reduceLE, Int.reduceBEq, Int.reduceBNe, Int.reduceEq, Nat.reduceLT, Nat.reduceLeDiff, Nat.reduceEqDiff, Nat.reduceAdd, Nat.reduceSub, Nat.reduceMul, Nat.reduceBEq, Nat.reduceBNe, Int.reduceLT, Int.reduceNeg, Int.reduceToNat, reduceIte, reduceCtorEq, T3, T4, T22, T24, T27, T29, f1, hw, List.length_map, wb_get hlt, wb_at hlt, wb_put, wb_set hlt, wb_get0, wb_geti, wb_len]; first | (refine hK1 _ ?_; clear hK1 K1) | (refine join_x (v := ?_) (fun hg hk9 => ?_) ?_; rotate_left; (focus (first | ((try simp only [Bool.not_not, Bool.and_eq_true, Bool.not_eq_eq_eq_not, Bool.not_true, Bool.not_false, Bool.and_true, Bool.true_and, Bool.or_false, Bool.false_or, decide_true, decide_false, bt_true, bt_false] at hg); simp only [SS, AV.i, AV.b, AV.undef, Int.reduceLE, Int.reduceBEq, Int.reduceBNe, Int.reduceEq, Nat.reduceLT, Nat.reduceLeDiff, Nat.reduceEqDiff, Nat.reduceAdd, Nat.reduceSub, Nat.reduceMul, Nat.reduceBEq, Nat.reduceBNe, Int.reduceLT, Int.reduceNeg, Int.reduceToNat, reduceIte, reduceCtorEq, T3, T4, T22, T24, T27, T29, f1, hw, List.length_map, wb_get hlt, wb_at hlt, wb_put, wb_set hlt, wb_get0, wb_geti, wb_len, hg] at hk9 ⊢; first | exact hk9) | exact hk9)); (refine hK1 _ ?_; clear hK1 K1)) | (refine ⟨fun hg => ?_, fun hg => ?_⟩ <;> (try simp only [Bool.not_eq_eq_eq_not, Bool.not_true, Bool.not_false] at hg) <;> (try simp only [hg, cond_true, cond_false]) <;> (refine hK1 _ ?_; clear hK1 K1) <;> (try simp only [decide_eq_true_eq, decide_eq_false_iff_not, beq_iff_eq, bne_iff_ne, beq_eq_false_iff_ne, bne_eq_false_iff_eq, ne_eq, Bool.not_eq_eq_eq_not, Bool.not_true, Bool.not_false, Bool.and_eq_true, Bool.or_eq_false_iff] at hg))) | (refine awp_seq_k fun K hK => ?_) | ((first | refine awp_region ?_ | refine awp_draw (by kernel_rfl) ?_); (try simp only [thenA_normal, blockA_normal])) | (refine awp_block ?_) | (refine awp_exit ?_; try simp only [thenA_exit, blockA_exit, thenA_normal, blockA_normal, reduceIte, Nat.reduceEqDiff]; (try (first | (refine hK _ ?_; clear hK K) | (clear hK K; (first | (refine hK _ ?_; clear hK K) | (clear hK K; (first | (refine hK _ ?_; clear hK K) | (clear hK K; (first | (refine hK _ ?_; clear hK K) | (clear hK K; (first | (refine hK _ ?_; clear hK K) | (clear hK K; (first | (refine hK _ ?_; clear hK K) | (clear hK K; (first | (refine hK _ ?_; clear hK K) | (clear hK K; (refine hK _ ?_; clear hK K))))))))))))))))) | (refine awp_skip ?_; try simp only [thenA_normal, blockA_normal]; (try (first | (refine hK _ ?_; clear hK K) | (clear hK K; (first | (refine hK _ ?_; clear hK K) | (clear hK K; (first | (refine hK _ ?_; clear hK K) | (clear hK K; (first | (refine hK _ ?_; clear hK K) | (clear hK K; (first | (refine hK _ ?_; clear hK K) | (clear hK K; (first | (refine hK _ ?_; clear hK K) | (clear hK K; (first | (refine hK _ ?_; clear hK K) | (clear hK K; (refine hK _ ?_; clear hK K))))))))))))))))) | (refine awp_ret ?_; (try simp only [thenA_ret, blockA_ret])) | (refine awp_cond_k fun A B hA hB => ?_; simp only [SS, AV.i, AV.b, AV.undef, Int.reduceLE, Int.reduceBEq, Int.reduceBNe, Int.reduceEq, Nat.reduceLT, Nat.reduceLeDiff, Nat.reduceEqDiff, Nat.reduceAdd, Nat.reduceSub, Nat.reduceMul, Nat.reduceBEq, Nat.reduceBNe, Int.reduceLT, Int.reduceNeg, Int.reduceToNat, reduceIte, reduceCtorEq, T3, T4, T22, T24, T27, T29, f1, hw, List.length_map, wb_get hlt, wb_at hlt, wb_put, wb_set hlt, wb_get0, wb_geti, wb_len]; first | (refine hA ?_; clear hA hB A B) | (refine hB ?_; clear hA hB A B) | (refine ⟨fun hg => hA ?_, fun hg => hB ?_⟩ <;> clear hA hB A B <;> (try simp only [Bool.not_eq_eq_eq_not, Bool.not_true, Bool.not_false] at hg) <;> (try simp only [hg, cond_true, cond_false]) <;> (try simp only [decide_eq_true_eq, decide_eq_false_iff_not, beq_iff_eq, bne_iff_ne, beq_eq_false_iff_ne, bne_eq_false_iff_eq, ne_eq, Bool.not_eq_eq_eq_not, Bool.not_true, Bool.not_false, Bool.and_eq_true, Bool.or_eq_false_iff] at hg))))
    refine awp_forH t.kids.length 45 (fun i => withB h b (rB g (m i))) (fun i => [(35, .i i), (34, .i t.kids.length), (33, .p (.sl (t.kids.map eT))), (1, .ptr b g 0), (2, .i d)]) (fun i => []) (fun i => (lgS (t.kids.take i) (d + 1) (n - 1)).1 = false)
      (fun i => ⟨by rw [wb_len, wb_len], wb_keep⟩) ?_ (by simp [lgS]) fun i hi hp K hK => ?_
    · have e0 : m 0 = n - 1 := by simp [m, lgS]
      simp only [e0]
      refine ⟨rfl, ⟨_, rfl⟩, ?_, ?_⟩
      · simp [keeps, avlt, upd_get, wb_len]; omega
      · simp [blksLt]
    rcases Nat.lt_or_ge i t.kids.length with hlti | hge
    · obtain ⟨k, hx⟩ : ∃ k, t.kids[i]? = some k := ⟨_, List.getElem?_eq_getElem hlti⟩
      have hmem := List.mem_of_getElem? hx
      have hmi : 0 ≤ m i ∧ m i ≤ n - 1 := by
        have := lgS_room (l := t.kids.take i) (d := d + 1) hm0
        exact ⟨this.2.2 hp, this.2.1⟩
      have hr : ∀ L : Heap, ACalls Tryd.prog G 8 [aT k, .ptr b g 0, .i (d + 1)] (withB h b (rB g (m i)) ++ L) (fun r h' => r = .b (lgT k (d + 1) (m i)).1 ∧ h' = withB h b (rB g (lgT k (d + 1) (m i)).2) ++ L) := fun L => by
        have := ih k hmem (d + 1) (m i) b g (withB h b (rB g (m i)) ++ L) hmi.1 (by omega) (by omega) (by omega) (wb_get hlt L)
        rwa [wb_app L hlt] at this
      cases hb1 : (lgT k (d + 1) (m i)).1 with
      | false =>
        rw [hb1] at hr
        have hs := lgS_take hx hp
        repeat' (first | ((first | refine aops_nil ?_ | refine aqops_nil ?_); (try simp only [thenA_normal, blockA_normal]); (first | (refine hK _ ?_; clear hK K) | (clear hK K; (first | (refine hK _ ?_; clear hK K) | (clear hK K; (first | (refine hK _ ?_; clear hK K) | (clear hK K; (first | (refine hK _ ?_; clear hK K) | (clear hK K; (first | (refine hK _ ?_; clear hK K) | (clear hK K; (first | (refine hK _ ?_; clear hK K) | (clear hK K; (first | (refine hK _ ?_; clear hK K) | (clear hK K; (refine hK _ ?_; clear hK K)))))))))))))))) | (first | (refine hK _ ?_; clear hK K) | (clear hK K; (first | (refine hK _ ?_; clear hK K) | (clear hK K; (first | (refine hK _ ?_; clear hK K) | (clear hK K; (first | (refine hK _ ?_; clear hK K) | (clear hK K; (first | (refine hK _ ?_; clear hK K) | (clear hK K; (first | (refine hK _ ?_; clear hK K) | (clear hK K; (first | (refine hK _ ?_; clear hK K) | (clear hK K; (refine hK _ ?_; clear hK K))))))))))))))) | ((first | refine aops_k fun K1 hK1 => ?_ | refine aqops_k fun K1 hK1 => ?_); simp only [SS, AV.i, AV.b, AV.undef, Int.reduceLE, Int.reduceBEq, Int.reduceBNe, Int.reduceEq, Nat.reduceLT, Nat.reduceLeDiff, Nat.reduceEqDiff, Nat.reduceAdd, Nat.reduceSub, Nat.reduceMul, Nat.reduceBEq, Nat.reduceBNe, Int.reduceLT, Int.reduceNeg, Int.reduceToNat, reduceIte, reduceCtorEq, T3, T4, T22, T24, T27, T29, row_of hx, idx_hit hlti, idx_next hkl hlti, eT_eq, hd3, List.length_map, wb_get hlt, wb_at hlt, wb_put, wb_set hlt, wb_get0, wb_geti, wb_len, wb_set0, wb_seti]; first | (refine hK1 _ ?_; clear hK1 K1) | (refine ⟨E8, ACalls.mono (hr _) ?_⟩; rintro r h1 ⟨rfl, rfl⟩; (refine hK1 _ ?_; clear hK1 K1)) | (refine ⟨E8, _, (hr _), ?_⟩; (refine hK1 _ ?_; clear hK1 K1)) | (refine join_x (v := ?_) (fun hg hk9 => ?_) ?_; rotate_left; (focus (first | ((try simp only [Bool.not_not, Bool.and_eq_true, Bool.not_eq_eq_eq_not, Bool.not_true, Bool.not_false, Bool.and_true, Bool.true_and, Bool.or_false, Bool.false_or, decide_true, decide_false, bt_true, bt_false] at hg); simp only [SS, AV.i, AV.b, AV.undef, Int.reduceLE, Int.reduceBEq, Int.reduceBNe, Int.reduceEq, Nat.reduceLT, Nat.reduceLeDiff, Nat.reduceEqDiff, Nat.reduceAdd, Nat.reduceSub, Nat.reduceMul, Nat.reduceBEq, Nat.reduceBNe, Int.reduceLT, Int.reduceNeg, Int.reduceToNat, reduceIte, reduceCtorEq, T3, T4, T22, T24, T27, T29, row_of hx, idx_hit hlti, idx_next hkl hlti, eT_eq, hd3, List.length_map, wb_get hlt, wb_at hlt, wb_put, wb_set hlt, wb_get0, wb_geti, wb_len, wb_set0, wb_seti, hg] at hk9 ⊢; first | exact hk9 | (refine ⟨E8, ACalls.mono (hr _) ?_⟩; rintro r h1 ⟨rfl, rfl⟩; exact hk9) | (refine ⟨E8, _, (hr _), ?_⟩; exact hk9)) | exact hk9 | (refine ⟨E8, ACalls.mono (hr _) ?_⟩; rintro r h1 ⟨rfl, rfl⟩; exact hk9) | (refine ⟨E8, _, (hr _), ?_⟩; exact hk9))); (refine hK1 _ ?_; clear hK1 K1)) | (refine ⟨fun hg => ?_, fun hg => ?_⟩ <;> (try simp only [Bool.not_eq_eq_eq_not, Bool.not_true, Bool.not_false] at hg) <;> (try simp only [hg, cond_true, cond_false]) <;> (refine hK1 _ ?_; clear hK1 K1) <;> (try simp only [decide_eq_true_eq, decide_eq_false_iff_not, beq_iff_eq, bne_iff_ne, beq_eq_false_iff_ne, bne_eq_false_iff_eq, ne_eq, Bool.not_eq_eq_eq_not, Bool.not_true, Bool.not_false, Bool.and_eq_true, Bool.or_eq_false_iff] at hg))) | (refine awp_seq_k fun K hK => ?_) | ((first | refine awp_region ?_ | refine awp_draw (by kernel_rfl) ?_); (try simp only [thenA_normal, blockA_normal])) | (refine awp_block ?_) | (refine awp_exit ?_; try simp only [thenA_exit, blockA_exit, thenA_normal, blockA_normal, reduceIte, Nat.reduceEqDiff]; (try (first | (refine hK _ ?_; clear hK K) | (clear hK K; (first | (refine hK _ ?_; clear hK K) | (clear hK K; (first | (refine hK _ ?_; clear hK K) | (clear hK K; (first | (refine hK _ ?_; clear hK K) | (clear hK K; (first | (refine hK _ ?_; clear hK K) | (clear hK K; (first | (refine hK _ ?_; clear hK K) | (clear hK K; (first | (refine hK _ ?_; clear hK K) | (clear hK K; (refine hK _ ?_; clear hK K))))))))))))))))) | (refine awp_skip ?_; try simp only [thenA_normal, blockA_normal]; (try (first | (refine hK _ ?_; clear hK K) | (clear hK K; (first | (refine hK _ ?_; clear hK K) | (clear hK K; (first | (refine hK _ ?_; clear hK K) | (clear hK K; (first | (refine hK _ ?_; clear hK K) | (clear hK K; (first | (refine hK _ ?_; clear hK K) | (clear hK K; (first | (refine hK _ ?_; clear hK K) | (clear hK K; (first | (refine hK _ ?_; clear hK K) | (clear hK K; (refine hK _ ?_; clear hK K))))))))))))))))) | (refine awp_ret ?_; (try simp only [thenA_ret, blockA_ret])) | (refine awp_cond_k fun A B hA hB => ?_; simp only [SS, AV.i, AV.b, AV.undef, Int.reduceLE, Int.reduceBEq, Int.reduceBNe, Int.reduceEq, Nat.reduceLT, Nat.reduceLeDiff, Nat.reduceEqDiff, Nat.reduceAdd, Nat.reduceSub, Nat.reduceMul, Nat.reduceBEq, Nat.reduceBNe, Int.reduceLT, Int.reduceNeg, Int.reduceToNat, reduceIte, reduceCtorEq, T3, T4, T22, T24, T27, T29, row_of hx, idx_hit hlti, idx_next hkl hlti, eT_eq, hd3, List.length_map, wb_get hlt, wb_at hlt, wb_put, wb_set hlt, wb_get0, wb_geti, wb_len, wb_set0, wb_seti]; first | (refine hA ?_; clear hA hB A B) | (refine hB ?_; clear hA hB A B) | (refine ⟨fun hg => hA ?_, fun hg => hB ?_⟩ <;> clear hA hB A B <;> (try simp only [Bool.not_eq_eq_eq_not, Bool.not_true, Bool.not_false] at hg) <;> (try simp only [hg, cond_true, cond_false]) <;> (try simp only [decide_eq_true_eq, decide_eq_false_iff_not, beq_iff_eq, bne_iff_ne, beq_eq_false_iff_ne, bne_eq_false_iff_eq, ne_eq, Bool.not_eq_eq_eq_not, Bool.not_true, Bool.not_false, Bool.and_eq_true, Bool.or_eq_false_iff] at hg))))
        refine ⟨hlti, by rw [hs]; exact hb1, ?_⟩
        have em : m (i + 1) = (lgT k (d + 1) (m i)).2 := by simp only [m, hs]
        rw [em]
        refine ⟨rfl, ⟨_, rfl⟩, ?_, ?_⟩
        · simp [keeps, avlt, upd_get, frL, wb_len]; omega
        · simp [blksLt]
      | true =>
        rw [hb1] at hr
        have hs := lgS_stop hx hp hb1
        repeat' (first | ((first | refine aops_nil ?_ | refine aqops_nil ?_); (try simp only [thenA_normal, blockA_normal]); (first | (refine hK _ ?_; clear hK K) | (clear hK K; (first | (refine hK _ ?_; clear hK K) | (clear hK K; (first | (refine hK _ ?_; clear hK K) | (clear hK K; (first | (refine hK _ ?_; clear hK K) | (clear hK K; (first | (refine hK _ ?_; clear hK K) | (clear hK K; (first | (refine hK _ ?_; clear hK K) | (clear hK K; (first | (refine hK _ ?_; clear hK K) | (clear hK K; (refine hK _ ?_; clear hK K)))))))))))))))) | (first | (refine hK _ ?_; clear hK K) | (clear hK K; (first | (refine hK _ ?_; clear hK K) | (clear hK K; (first | (refine hK _ ?_; clear hK K) | (clear hK K; (first | (refine hK _ ?_; clear hK K) | (clear hK K; (first | (refine hK _ ?_; clear hK K) | (clear hK K; (first | (refine hK _ ?_; clear hK K) | (clear hK K; (first | (refine hK _ ?_; clear hK K) | (clear hK K; (refine hK _ ?_; clear hK K))))))))))))))) | ((first | refine aops_k fun K1 hK1 => ?_ | refine aqops_k fun K1 hK1 => ?_); simp only [SS, AV.i, AV.b, AV.undef, Int.reduceLE, Int.reduceBEq, Int.reduceBNe, Int.reduceEq, Nat.reduceLT, Nat.reduceLeDiff, Nat.reduceEqDiff, Nat.reduceAdd, Nat.reduceSub, Nat.reduceMul, Nat.reduceBEq, Nat.reduceBNe, Int.reduceLT, Int.reduceNeg, Int.reduceToNat, reduceIte, reduceCtorEq, T3, T4, T22, T24, T27, T29, row_of hx, idx_hit hlti, idx_next hkl hlti, eT_eq, hd3, List.length_map, wb_get hlt, wb_at hlt, wb_put, wb_set hlt, wb_get0, wb_geti, wb_len, wb_set0, wb_seti]; first | (refine hK1 _ ?_; clear hK1 K1) | (refine ⟨E8, ACalls.mono (hr _) ?_⟩; rintro r h1 ⟨rfl, rfl⟩; (refine hK1 _ ?_; clear hK1 K1)) | (refine ⟨E8, _, (hr _), ?_⟩; (refine hK1 _ ?_; clear hK1 K1)) | (refine join_x (v := ?_) (fun hg hk9 => ?_) ?_; rotate_left; (focus (first | ((try simp only [Bool.not_not, Bool.and_eq_true, Bool.not_eq_eq_eq_not, Bool.not_true, Bool.not_false, Bool.and_true, Bool.true_and, Bool.or_false, Bool.false_or, decide_true, decide_false, bt_true, bt_false] at hg); simp only [SS, AV.i, AV.b, AV.undef, Int.reduceLE, Int.reduceBEq, Int.reduceBNe, Int.reduceEq, Nat.reduceLT, Nat.reduceLeDiff, Nat.reduceEqDiff, Nat.reduceAdd, Nat.reduceSub, Nat.reduceMul, Nat.reduceBEq, Nat.reduceBNe, Int.reduceLT, Int.reduceNeg, Int.reduceToNat, reduceIte, reduceCtorEq, T3, T4, T22, T24, T27, T29, row_of hx, idx_hit hlti, idx_next hkl hlti, eT_eq, hd3, List.length_map, wb_get hlt, wb_at hlt, wb_put, wb_set hlt, wb_get0, wb_geti, wb_len, wb_set0, wb_seti, hg] at hk9 ⊢; first | exact hk9 | (refine ⟨E8, ACalls.mono (hr _) ?_⟩; rintro r h1 ⟨rfl, rfl⟩; exact hk9) | (refine ⟨E8, _, (hr _), ?_⟩; exact hk9)) | exact hk9 | (refine ⟨E8, ACalls.mono (hr _) ?_⟩; rintro r h1 ⟨rfl, rfl⟩; exact hk9) | (refine ⟨E8, _, (hr _), ?_⟩; exact hk9))); (refine hK1 _ ?_; clear hK1 K1)) | (refine ⟨fun hg => ?_, fun hg => ?_⟩ <;> (try simp only [Bool.not_eq_eq_eq_not, Bool.not_true, Bool.not_false] at hg) <;> (try simp only [hg, cond_true, cond_false]) <;> (refine hK1 _ ?_; clear hK1 K1) <;> (try simp only [decide_eq_true_eq, decide_eq_false_iff_not, beq_iff_eq, bne_iff_ne, beq_eq_false_iff_ne, bne_eq_false_iff_eq, ne_eq, Bool.not_eq_eq_eq_not, Bool.not_true, Bool.not_false, Bool.and_eq_true, Bool.or_eq_false_iff] at hg))) | (refine awp_seq_k fun K hK => ?_) | ((first | refine awp_region ?_ | refine awp_draw (by kernel_rfl) ?_); (try simp only [thenA_normal, blockA_normal])) | (refine awp_block ?_) | (refine awp_exit ?_; try simp only [thenA_exit, blockA_exit, thenA_normal, blockA_normal, reduceIte, Nat.reduceEqDiff]; (try (first | (refine hK _ ?_; clear hK K) | (clear hK K; (first | (refine hK _ ?_; clear hK K) | (clear hK K; (first | (refine hK _ ?_; clear hK K) | (clear hK K; (first | (refine hK _ ?_; clear hK K) | (clear hK K; (first | (refine hK _ ?_; clear hK K) | (clear hK K; (first | (refine hK _ ?_; clear hK K) | (clear hK K; (first | (refine hK _ ?_; clear hK K) | (clear hK K; (refine hK _ ?_; clear hK K))))))))))))))))) | (refine awp_skip ?_; try simp only [thenA_normal, blockA_normal]; (try (first | (refine hK _ ?_; clear hK K) | (clear hK K; (first | (refine hK _ ?_; clear hK K) | (clear hK K; (first | (refine hK _ ?_; clear hK K) | (clear hK K; (first | (refine hK _ ?_; clear hK K) | (clear hK K; (first | (refine hK _ ?_; clear hK K) | (clear hK K; (first | (refine hK _ ?_; clear hK K) | (clear hK K; (first | (refine hK _ ?_; clear hK K) | (clear hK K; (refine hK _ ?_; clear hK K))))))))))))))))) | (refine awp_ret ?_; (try simp only [thenA_ret, blockA_ret])) | (refine awp_cond_k fun A B hA hB => ?_; simp only [SS, AV.i, AV.b, AV.undef, Int.reduceLE, Int.reduceBEq, Int.reduceBNe, Int.reduceEq, Nat.reduceLT, Nat.reduceLeDiff, Nat.reduceEqDiff, Nat.reduceAdd, Nat.reduceSub, Nat.reduceMul, Nat.reduceBEq, Nat.reduceBNe, Int.reduceLT, Int.reduceNeg, Int.reduceToNat, reduceIte, reduceCtorEq, T3, T4, T22, T24, T27, T29, row_of hx, idx_hit hlti, idx_next hkl hlti, eT_eq, hd3, List.length_map, wb_get hlt, wb_at hlt, wb_put, wb_set hlt, wb_get0, wb_geti, wb_len, wb_set0, wb_seti]; first | (refine hA ?_; clear hA hB A B) | (refine hB ?_; clear hA hB A B) | (refine ⟨fun hg => hA ?_, fun hg => hB ?_⟩ <;> clear hA hB A B <;> (try simp only [Bool.not_eq_eq_eq_not, Bool.not_true, Bool.not_false] at hg) <;> (try simp only [hg, cond_true, cond_false]) <;> (try simp only [decide_eq_true_eq, decide_eq_false_iff_not, beq_iff_eq, bne_iff_ne, beq_eq_false_iff_ne, bne_eq_false_iff_eq, ne_eq, Bool.not_eq_eq_eq_not, Bool.not_true, Bool.not_false, Bool.and_eq_true, Bool.or_eq_false_iff] at hg))))
        rw [hs, hb1]
        simp only [EndH, FinH, resA, resL, resA1, lastV, lastA, lastAs, pur, purs, wb_len, wb_take, wb_take0, wb_wb, SS, AV.i, AV.b, AV.undef, Int.reduceLE, Int.reduceBEq, Int.reduceBNe, Int.reduceEq, Nat.reduceLT, Nat.reduceLeDiff, Nat.reduceEqDiff, Nat.reduceAdd, Nat.reduceSub, Nat.reduceMul, Nat.reduceBEq, Nat.reduceBNe, Int.reduceLT, Int.reduceNeg, Int.reduceToNat, reduceIte, reduceCtorEq, T3, T4, T22, T24, T27, T29, Nat.le_add_right, Nat.le_refl]
        first | exact wb_keep' | exact ⟨wb_keep', rfl⟩ | exact ⟨wb_keep', rfl, rfl⟩
    · obtain rfl : i = t.kids.length := by omega
      repeat' (first | ((first | refine aops_nil ?_ | refine aqops_nil ?_); (try simp only [thenA_normal, blockA_normal]); (first | (refine hK _ ?_; clear hK K) | (clear hK K; (first | (refine hK _ ?_; clear hK K) | (clear hK K; (first | (refine hK _ ?_; clear hK K) | (clear hK K; (first | (refine hK _ ?_; clear hK K) | (clear hK K; (first | (refine hK _ ?_; clear hK K) | (clear hK K; (first | (refine hK _ ?_; clear hK K) | (clear hK K; (first | (refine hK _ ?_; clear hK K) | (clear hK K; (refine hK _ ?_; clear hK K)))))))))))))))) | (first | (refine hK _ ?_; clear hK K) | (clear hK K; (first | (refine hK _ ?_; clear hK K) | (clear hK K; (first | (refine hK _ ?_; clear hK K) | (clear hK K; (first | (refine hK _ ?_; clear hK K) | (clear hK K; (first | (refine hK _ ?_; clear hK K) | (clear hK K; (first | (refine hK _ ?_; clear hK K) | (clear hK K; (first | (refine hK _ ?_; clear hK K) | (clear hK K; (refine hK _ ?_; clear hK K))))))))))))))) | ((first | refine aops_k fun K1 hK1 => ?_ | refine aqops_k fun K1 hK1 => ?_); simp only [SS, AV.i, AV.b, AV.undef, Int.reduceLE, Int.reduceBEq, Int.reduceBNe, Int.reduceEq, Nat.reduceLT, Nat.reduceLeDiff, Nat.reduceEqDiff, Nat.reduceAdd, Nat.reduceSub, Nat.reduceMul, Nat.reduceBEq, Nat.reduceBNe, Int.reduceLT, Int.reduceNeg, Int.reduceToNat, reduceIte, reduceCtorEq, T3, T4, T22, T24, T27, T29, idx_end]; first | (refine hK1 _ ?_; clear hK1 K1) | (refine join_x (v := ?_) (fun hg hk9 => ?_) ?_; rotate_left; (focus (first | ((try simp only [Bool.not_not, Bool.and_eq_true, Bool.not_eq_eq_eq_not, Bool.not_true, Bool.not_false, Bool.and_true, Bool.true_and, Bool.or_false, Bool.false_or, decide_true, decide_false, bt_true, bt_false] at hg); simp only [SS, AV.i, AV.b, AV.undef, Int.reduceLE, Int.reduceBEq, Int.reduceBNe, Int.reduceEq, Nat.reduceLT, Nat.reduceLeDiff, Nat.reduceEqDiff, Nat.reduceAdd, Nat.reduceSub, Nat.reduceMul, Nat.reduceBEq, Nat.reduceBNe, Int.reduceLT, Int.reduceNeg, Int.reduceToNat, reduceIte, reduceCtorEq, T3, T4, T22, T24, T27, T29, idx_end, hg] at hk9 ⊢; first | exact hk9) | exact hk9)); (refine hK1 _ ?_; clear hK1 K1)) | (refine ⟨fun hg => ?_, fun hg => ?_⟩ <;> (try simp only [Bool.not_eq_eq_eq_not, Bool.not_true, Bool.not_false] at hg) <;> (try simp only [hg, cond_true, cond_false]) <;> (refine hK1 _ ?_; clear hK1 K1) <;> (try simp only [decide_eq_true_eq, decide_eq_false_iff_not, beq_iff_eq, bne_iff_ne, beq_eq_false_iff_ne, bne_eq_false_iff_eq, ne_eq, Bool.not_eq_eq_eq_not, Bool.not_true, Bool.not_false, Bool.and_eq_true, Bool.or_eq_false_iff] at hg))) | (refine awp_seq_k fun K hK => ?_) | ((first | refine awp_region ?_ | refine awp_draw (by kernel_rfl) ?_); (try simp only [thenA_normal, blockA_normal])) | (refine awp_block ?_) | (refine awp_exit ?_; try simp only [thenA_exit, blockA_exit, thenA_normal, blockA_normal, reduceIte, Nat.reduceEqDiff]; (try (first | (refine hK _ ?_; clear hK K) | (clear hK K; (first | (refine hK _ ?_; clear hK K) | (clear hK K; (first | (refine hK _ ?_; clear hK K) | (clear hK K; (first | (refine hK _ ?_; clear hK K) | (clear hK K; (first | (refine hK _ ?_; clear hK K) | (clear hK K; (first | (refine hK _ ?_; clear hK K) | (clear hK K; (first | (refine hK _ ?_; clear hK K) | (clear hK K; (refine hK _ ?_; clear hK K))))))))))))))))) | (refine awp_skip ?_; try simp only [thenA_normal, blockA_normal]; (try (first | (refine hK _ ?_; clear hK K) | (clear hK K; (first | (refine hK _ ?_; clear hK K) | (clear hK K; (first | (refine hK _ ?_; clear hK K) | (clear hK K; (first | (refine hK _ ?_; clear hK K) | (clear hK K; (first | (refine hK _ ?_; clear hK K) | (clear hK K; (first | (refine hK _ ?_; clear hK K) | (clear hK K; (first | (refine hK _ ?_; clear hK K) | (clear hK K; (refine hK _ ?_; clear hK K))))))))))))))))) | (refine awp_ret ?_; (try simp only [thenA_ret, blockA_ret])) | (refine awp_cond_k fun A B hA hB => ?_; simp only [SS, AV.i, AV.b, AV.undef, Int.reduceLE, Int.reduceBEq, Int.reduceBNe, Int.reduceEq, Nat.reduceLT, Nat.reduceLeDiff, Nat.reduceEqDiff, Nat.reduceAdd, Nat.reduceSub, Nat.reduceMul, Nat.reduceBEq, Nat.reduceBNe, Int.reduceLT, Int.reduceNeg, Int.reduceToNat, reduceIte, reduceCtorEq, T3, T4, T22, T24, T27, T29, idx_end]; first | (refine hA ?_; clear hA hB A B) | (refine hB ?_; clear hA hB A B) | (refine ⟨fun hg => hA ?_, fun hg => hB ?_⟩ <;> clear hA hB A B <;> (try simp only [Bool.not_eq_eq_eq_not, Bool.not_true, Bool.not_false] at hg) <;> (try simp only [hg, cond_true, cond_false]) <;> (try simp only [decide_eq_true_eq, decide_eq_false_iff_not, beq_iff_eq, bne_iff_ne, beq_eq_false_iff_ne, bne_eq_false_iff_eq, ne_eq, Bool.not_eq_eq_eq_not, Bool.not_true, Bool.not_false, Bool.and_eq_true, Bool.or_eq_false_iff] at hg))))
      have e : t.kids.take t.kids.length = t.kids := List.take_length
      rw [e] at hp
      have em : m t.kids.length = (lgS t.kids (d + 1) (n - 1)).2 := by simp only [m, e]
      rw [em, hp]
      simp only [EndH, FinH, resA, resL, resA1, lastV, lastA, lastAs, pur, purs, wb_len, wb_take, wb_take0, wb_wb, SS, AV.i, AV.b, AV.undef, Int.reduceLE, Int.reduceBEq, Int.reduceBNe, Int.reduceEq, Nat.reduceLT, Nat.reduceLeDiff, Nat.reduceEqDiff, Nat.reduceAdd, Nat.reduceSub, Nat.reduceMul, Nat.reduceBEq, Nat.reduceBNe, Int.reduceLT, Int.reduceNeg, Int.reduceToNat, reduceIte, reduceCtorEq, T3, T4, T22, T24, T27, T29, Nat.le_add_right, Nat.le_refl]
      first | exact wb_keep' | exact ⟨wb_keep', rfl⟩ | exact ⟨wb_keep', rfl, rfl⟩
end Go.Proofs.YtelljholenkckaaDoor.AM
