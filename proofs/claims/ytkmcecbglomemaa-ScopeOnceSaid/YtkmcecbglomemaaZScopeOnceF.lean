/- Proved here, in parts, for one law: Contracts: the law ScopeReverse. What the law ScopeNil is given. What the laws ScopeOnce, ScopeCatches, ScopeReverse are given. Conditions: none. -/
import Derived.Test.YtkmcecbglomemaaZScopeOnceE

section
set_option linter.unusedVariables false
set_option linter.unusedSimpArgs false
set_option maxRecDepth 4000
set_option maxHeartbeats 4000000
namespace Go.Proofs.Ytkmcecbglomemaa.AM
open Go Go.Proofs
set_option linter.defProp false in
def TTSdE := And.intro T2 (And.intro T3 (And.intro T4 (And.intro T22 (And.intro T23 (And.intro T25 (And.intro T26 (And.intro T29 (And.intro T35 (And.intro T37 (And.intro T41 (And.intro T45 (And.intro T49 (And.intro T54 (And.intro T56 (And.intro T57 (And.intro T59 (And.intro T61 T64)))))))))))))))))
attribute [local irreducible] awp aops aqops aeops arun arunT arunN
variable {G : Nat → Option (List PV)}

/-- Where each stands in the order, from one; nought: nowhere. -/
def atL (dn : List Nat) (n j : Nat) : List Int := (List.range n).map fun x => if x ∈ dn.take j then (dn.idxOf x : Int) + 1 else 0
theorem atL_len (dn : List Nat) (n j : Nat) : (atL dn n j).length = n := by simp [atL]
theorem atL_zero (dn : List Nat) (n : Nat) : atL dn n 0 = List.replicate n 0 := by
  unfold atL
  apply List.ext_getElem?
  intro k
  simp only [List.take_zero, List.not_mem_nil, if_false, List.getElem?_map, List.getElem?_replicate]
  by_cases h : k < n
  · rw [if_pos h, List.getElem?_range h]; rfl
  · rw [if_neg h, List.getElem?_eq_none (by simpa using h)]; rfl
theorem atL_get {dn : List Nat} {n j x : Nat} (h : x < n) : (atL dn n j)[x]? = some (if x ∈ dn.take j then (dn.idxOf x : Int) + 1 else 0) := by
  unfold atL
  rw [List.getElem?_map, List.getElem?_range h]; rfl
theorem atL_set {dn : List Nat} {n j x : Nat} (hd : dn.Nodup) (hx : dn[j]? = some x) (hn : x < n) : (atL dn n j).set x ((j : Int) + 1) = atL dn n (j + 1) := by
  have hjl := (List.getElem?_eq_some_iff.mp hx)
  obtain ⟨hj, hjx⟩ := hjl
  have hid : dn.idxOf x = j := by rw [← hjx]; exact List.Nodup.idxOf_getElem hd j hj
  apply List.ext_getElem?
  intro k
  rw [List.getElem?_set, atL_len]
  by_cases hk : x = k
  · subst hk
    rw [if_pos rfl, if_pos hn, atL_get hn, if_pos (by rw [List.take_add_one, hx]; simp), hid]
  · rw [if_neg hk]
    by_cases hkn : k < n
    · rw [atL_get hkn, atL_get hkn]
      have : (k ∈ dn.take (j + 1)) ↔ k ∈ dn.take j := by
        rw [List.take_add_one, hx]
        simp only [Option.toList_some, List.mem_append, List.mem_singleton]
        exact ⟨fun e => e.elim id fun e => absurd e.symm hk, .inl⟩
      simp only [this]
    · rw [List.getElem?_eq_none (by rw [atL_len]; omega), List.getElem?_eq_none (by rw [atL_len]; omega)]
theorem atL_at {dn : List Nat} {n x : Nat} (hn : x < n) (hx : x ∈ dn) : (atL dn n dn.length)[x]? = some ((dn.idxOf x : Int) + 1) := by rw [atL_get hn, List.take_length, if_pos hx]
theorem revl_calls (P : List Sc) (l : List (Int × Int)) (i : Int) (h : Heap) : ACalls Try.prog G 5 [aSc P, aSt l, .i i] h (fun r h' => r = .b true ∧ h' = h) := by
  have hu := fun h => undone_calls (G := G) h
  by_cases c0 : (60 : Int) < (P.length : Int)
  · refine acalls_pure (rl := []) mixed Try.func5 rfl (rs := [.tmp 6]) rfl Try.ntmps5 (by simp) ?_
    repeat' (first | ((first | refine aops_nil ?_ | refine aqops_nil ?_); (try simp only [NB])) | ((repeat ((fail_if_success (refine hK _ ?_)); clear hK K)); refine hK _ ?_; clear hK K) | ((first | refine aops_k fun K1 hK1 => ?_ | refine aqops_k fun K1 hK1 => ?_ | refine awp_cond_k fun A B hA hB => ?_); simp only [S1, simprocAttr, TTSdE, c0, List.length_map]; first | (refine hK1 _ ?_; clear hK1 K1) | ((first | refine hA ?_ | refine hB ?_); clear hA hB A B) | ((first | apply call_a E7 | apply call_q E7); exact (hu _); (refine hK1 _ ?_; clear hK1 K1)) | (refine join_x (v := ?_) (fun hg hk9 => ?_) ?_; rotate_left; (focus (try ((try simp only [BN] at hg); simp only [S1, simprocAttr, TTSdE, c0, List.length_map, hg] at hk9 ⊢)); first | exact hk9 | ((first | apply call_a E7 | apply call_q E7); exact (hu _); exact hk9)); (refine hK1 _ ?_; clear hK1 K1)) | (((first | (refine ⟨fun hg => hA ?_, fun hg => hB ?_⟩ <;> clear hA hB A B) | refine ⟨fun hg => ?_, fun hg => ?_⟩) <;> (try simp only [BN2] at hg) <;> (try simp only [hg, cond_true, cond_false])) <;> (try (refine hK1 _ ?_; clear hK1 K1)) <;> (try simp only [BN3] at hg))) | (refine awp_seq_k fun K hK => ?_) | ((first | refine awp_region ?_ | refine awp_draw (by kernel_rfl) ?_ | refine awp_block ?_ | refine awp_exit ?_ | refine awp_skip ?_ | refine awp_ret ?_); (try simp only [NB, simprocAttr])))
    all_goals simp only [EndP, FinP, resA, resL, resA1, lastV, lastA, lastAs, pur, purs, take_app, List.take_length, S1, simprocAttr, TTSdE, Nat.le_add_right, Nat.le_refl]
  by_cases c1 : (200 : Int) < (l.length : Int)
  · refine acalls_pure (rl := []) mixed Try.func5 rfl (rs := [.tmp 6]) rfl Try.ntmps5 (by simp) ?_
    repeat' (first | ((first | refine aops_nil ?_ | refine aqops_nil ?_); (try simp only [NB])) | ((repeat ((fail_if_success (refine hK _ ?_)); clear hK K)); refine hK _ ?_; clear hK K) | ((first | refine aops_k fun K1 hK1 => ?_ | refine aqops_k fun K1 hK1 => ?_ | refine awp_cond_k fun A B hA hB => ?_); simp only [S1, simprocAttr, TTSdE, c0, c1, List.length_map]; first | (refine hK1 _ ?_; clear hK1 K1) | ((first | refine hA ?_ | refine hB ?_); clear hA hB A B) | ((first | apply call_a E7 | apply call_q E7); exact (hu _); (refine hK1 _ ?_; clear hK1 K1)) | (refine join_x (v := ?_) (fun hg hk9 => ?_) ?_; rotate_left; (focus (try ((try simp only [BN] at hg); simp only [S1, simprocAttr, TTSdE, c0, c1, List.length_map, hg] at hk9 ⊢)); first | exact hk9 | ((first | apply call_a E7 | apply call_q E7); exact (hu _); exact hk9)); (refine hK1 _ ?_; clear hK1 K1)) | (((first | (refine ⟨fun hg => hA ?_, fun hg => hB ?_⟩ <;> clear hA hB A B) | refine ⟨fun hg => ?_, fun hg => ?_⟩) <;> (try simp only [BN2] at hg) <;> (try simp only [hg, cond_true, cond_false])) <;> (try (refine hK1 _ ?_; clear hK1 K1)) <;> (try simp only [BN3] at hg))) | (refine awp_seq_k fun K hK => ?_) | ((first | refine awp_region ?_ | refine awp_draw (by kernel_rfl) ?_ | refine awp_block ?_ | refine awp_exit ?_ | refine awp_skip ?_ | refine awp_ret ?_); (try simp only [NB, simprocAttr])))
    all_goals simp only [EndP, FinP, resA, resL, resA1, lastV, lastA, lastAs, pur, purs, take_app, List.take_length, S1, simprocAttr, TTSdE, Nat.le_add_right, Nat.le_refl]
  by_cases pl : PlOk P
  rotate_left
  · have n1 := fun h => New_bad (G := G) pl h
    have n2 := fun h => NewR_bad (G := G) pl h
    have n3 := fun h => refs_calls (G := G) (P := P) (by omega) h
    refine acalls_pure (rl := []) mixed Try.func5 rfl (rs := [.tmp 6]) rfl Try.ntmps5 (by simp) ?_
    repeat' (first | ((first | refine aops_nil ?_ | refine aqops_nil ?_); (try simp only [NB])) | ((repeat ((fail_if_success (refine hK _ ?_)); clear hK K)); refine hK _ ?_; clear hK K) | ((first | refine aops_k fun K1 hK1 => ?_ | refine aqops_k fun K1 hK1 => ?_ | refine awp_cond_k fun A B hA hB => ?_); simp only [S1, simprocAttr, TTSdE, c0, c1, beq_self_eq_true, List.length_map]; first | (refine hK1 _ ?_; clear hK1 K1) | ((first | refine hA ?_ | refine hB ?_); clear hA hB A B) | ((first | apply call_a E7 | apply call_q E7); exact (hu _); (refine hK1 _ ?_; clear hK1 K1)) | ((first | apply call_a E8 | apply call_q E8); exact (n1 _); (refine hK1 _ ?_; clear hK1 K1)) | ((first | apply call_a E9 | apply call_q E9); exact (n2 _); (refine hK1 _ ?_; clear hK1 K1)) | ((first | apply call_a E10 | apply call_q E10); exact (n3 _); (refine hK1 _ ?_; clear hK1 K1)) | (refine join_x (v := ?_) (fun hg hk9 => ?_) ?_; rotate_left; (focus (try ((try simp only [BN] at hg); simp only [S1, simprocAttr, TTSdE, c0, c1, beq_self_eq_true, List.length_map, hg] at hk9 ⊢)); first | exact hk9 | ((first | apply call_a E7 | apply call_q E7); exact (hu _); exact hk9) | ((first | apply call_a E8 | apply call_q E8); exact (n1 _); exact hk9) | ((first | apply call_a E9 | apply call_q E9); exact (n2 _); exact hk9) | ((first | apply call_a E10 | apply call_q E10); exact (n3 _); exact hk9)); (refine hK1 _ ?_; clear hK1 K1)) | (((first | (refine ⟨fun hg => hA ?_, fun hg => hB ?_⟩ <;> clear hA hB A B) | refine ⟨fun hg => ?_, fun hg => ?_⟩) <;> (try simp only [BN2] at hg) <;> (try simp only [hg, cond_true, cond_false])) <;> (try (refine hK1 _ ?_; clear hK1 K1)) <;> (try simp only [BN3] at hg))) | (refine awp_seq_k fun K hK => ?_) | ((first | refine awp_region ?_ | refine awp_draw (by kernel_rfl) ?_ | refine awp_block ?_ | refine awp_exit ?_ | refine awp_skip ?_ | refine awp_ret ?_); (try simp only [NB, simprocAttr])))
    all_goals simp only [EndP, FinP, resA, resL, resA1, lastV, lastA, lastAs, pur, purs, take_app, List.take_length, S1, simprocAttr, TTSdE, Nat.le_add_right, Nat.le_refl]
  have n1 := New_calls (G := G) pl h
  have n2 := new_both (G := G) pl h
  have n3 := fun h => refs_calls (G := G) (P := P) (by omega) h
  have hlen : l.length ≤ 1000 := by omega
  have hpn : P.length ≤ 1000 := by omega
  refine acalls_pure (rl := []) mixed Try.func5 rfl (rs := [.tmp 6]) rfl Try.ntmps5 (by simp) ?_
  refine awp_seq_k fun K hK => ?_
  repeat' (first | ((first | refine aops_nil ?_ | refine aqops_nil ?_); (try simp only [NB]); ((repeat ((fail_if_success (refine hK _ ?_)); clear hK K)); refine hK _ ?_; clear hK K)) | ((first | refine aops_k fun K1 hK1 => ?_ | refine aqops_k fun K1 hK1 => ?_ | refine awp_cond_k fun A B hA hB => ?_); simp only [S1, simprocAttr, TTSdE]; first | (refine hK1 _ ?_; clear hK1 K1) | ((first | refine hA ?_ | refine hB ?_); clear hA hB A B) | (refine join_x (v := ?_) (fun hg hk9 => ?_) ?_; rotate_left; (focus (try ((try simp only [BN] at hg); simp only [S1, simprocAttr, TTSdE, hg] at hk9 ⊢)); first | exact hk9); (refine hK1 _ ?_; clear hK1 K1)) | (((first | (refine ⟨fun hg => hA ?_, fun hg => hB ?_⟩ <;> clear hA hB A B) | refine ⟨fun hg => ?_, fun hg => ?_⟩) <;> (try simp only [BN2] at hg) <;> (try simp only [hg, cond_true, cond_false])) <;> (try (refine hK1 _ ?_; clear hK1 K1)) <;> (try simp only [BN3] at hg))) | (fail) | ((first | refine awp_region ?_ | refine awp_draw (by kernel_rfl) ?_ | refine awp_block ?_ | refine awp_exit ?_ | refine awp_skip ?_ | refine awp_ret ?_); (try simp only [NB, simprocAttr]); (try ((repeat ((fail_if_success (refine hK _ ?_)); clear hK K)); refine hK _ ?_; clear hK K))))
  refine awp_seq_k fun K hK => ?_
  refine awp_seq_k fun K hK => ?_
  repeat' (first | ((first | refine aops_nil ?_ | refine aqops_nil ?_); (try simp only [NB]); ((repeat ((fail_if_success (refine hK _ ?_)); clear hK K)); refine hK _ ?_; clear hK K)) | ((first | refine aops_k fun K1 hK1 => ?_ | refine aqops_k fun K1 hK1 => ?_ | refine awp_cond_k fun A B hA hB => ?_); simp only [S1, simprocAttr, TTSdE, c0, c1, List.length_map]; first | (refine hK1 _ ?_; clear hK1 K1) | ((first | refine hA ?_ | refine hB ?_); clear hA hB A B) | (refine join_x (v := ?_) (fun hg hk9 => ?_) ?_; rotate_left; (focus (try ((try simp only [BN] at hg); simp only [S1, simprocAttr, TTSdE, c0, c1, List.length_map, hg] at hk9 ⊢)); first | exact hk9); (refine hK1 _ ?_; clear hK1 K1)) | (((first | (refine ⟨fun hg => hA ?_, fun hg => hB ?_⟩ <;> clear hA hB A B) | refine ⟨fun hg => ?_, fun hg => ?_⟩) <;> (try simp only [BN2] at hg) <;> (try simp only [hg, cond_true, cond_false])) <;> (try (refine hK1 _ ?_; clear hK1 K1)) <;> (try simp only [BN3] at hg))) | (fail) | ((first | refine awp_region ?_ | refine awp_draw (by kernel_rfl) ?_ | refine awp_block ?_ | refine awp_exit ?_ | refine awp_skip ?_ | refine awp_ret ?_); (try simp only [NB, simprocAttr]); (try ((repeat ((fail_if_success (refine hK _ ?_)); clear hK K)); refine hK _ ?_; clear hK K))))
  repeat' (first | ((first | refine aops_nil ?_ | refine aqops_nil ?_); (try simp only [NB]); ((repeat ((fail_if_success (refine hK _ ?_)); clear hK K)); refine hK _ ?_; clear hK K)) | ((first | refine aops_k fun K1 hK1 => ?_ | refine aqops_k fun K1 hK1 => ?_ | refine awp_cond_k fun A B hA hB => ?_); simp only [S1, simprocAttr, TTSdE, c0, c1, List.length_map]; first | (refine hK1 _ ?_; clear hK1 K1) | ((first | refine hA ?_ | refine hB ?_); clear hA hB A B) | (refine join_x (v := ?_) (fun hg hk9 => ?_) ?_; rotate_left; (focus (try ((try simp only [BN] at hg); simp only [S1, simprocAttr, TTSdE, c0, c1, List.length_map, hg] at hk9 ⊢)); first | exact hk9); (refine hK1 _ ?_; clear hK1 K1)) | (((first | (refine ⟨fun hg => hA ?_, fun hg => hB ?_⟩ <;> clear hA hB A B) | refine ⟨fun hg => ?_, fun hg => ?_⟩) <;> (try simp only [BN2] at hg) <;> (try simp only [hg, cond_true, cond_false])) <;> (try (refine hK1 _ ?_; clear hK1 K1)) <;> (try simp only [BN3] at hg))) | (fail) | ((first | refine awp_region ?_ | refine awp_draw (by kernel_rfl) ?_ | refine awp_block ?_ | refine awp_exit ?_ | refine awp_skip ?_ | refine awp_ret ?_); (try simp only [NB, simprocAttr]); (try ((repeat ((fail_if_success (refine hK _ ?_)); clear hK K)); refine hK _ ?_; clear hK K))))
  refine awp_seq_k fun K hK => ?_
  repeat' (first | ((first | refine aops_nil ?_ | refine aqops_nil ?_); (try simp only [NB]); ((repeat ((fail_if_success (refine hK _ ?_)); clear hK K)); refine hK _ ?_; clear hK K)) | ((first | refine aops_k fun K1 hK1 => ?_ | refine aqops_k fun K1 hK1 => ?_ | refine awp_cond_k fun A B hA hB => ?_); simp only [S1, simprocAttr, TTSdE]; first | (refine hK1 _ ?_; clear hK1 K1) | ((first | refine hA ?_ | refine hB ?_); clear hA hB A B) | ((first | apply call_a E8 | apply call_q E8); exact n1; (refine hK1 _ ?_; clear hK1 K1)) | (refine join_x (v := ?_) (fun hg hk9 => ?_) ?_; rotate_left; (focus (try ((try simp only [BN] at hg); simp only [S1, simprocAttr, TTSdE, hg] at hk9 ⊢)); first | exact hk9 | ((first | apply call_a E8 | apply call_q E8); exact n1; exact hk9)); (refine hK1 _ ?_; clear hK1 K1)) | (((first | (refine ⟨fun hg => hA ?_, fun hg => hB ?_⟩ <;> clear hA hB A B) | refine ⟨fun hg => ?_, fun hg => ?_⟩) <;> (try simp only [BN2] at hg) <;> (try simp only [hg, cond_true, cond_false])) <;> (try (refine hK1 _ ?_; clear hK1 K1)) <;> (try simp only [BN3] at hg))) | (fail) | ((first | refine awp_region ?_ | refine awp_draw (by kernel_rfl) ?_ | refine awp_block ?_ | refine awp_exit ?_ | refine awp_skip ?_ | refine awp_ret ?_); (try simp only [NB, simprocAttr]); (try ((repeat ((fail_if_success (refine hK _ ?_)); clear hK K)); refine hK _ ?_; clear hK K))))
  refine awp_tellG ⟨frL [(0, aSc P), (1, aSt l), (2, .i i), (7, .ptr (h.length + 1) 0 0), (8, .i 0), (9, .ptr (h.length + 4) 0 0), (10, .i 0)], 171, bH h P (b0 P) []⟩ (fun K hK => ?_) ?_
  · repeat' (first | ((first | refine aops_nil ?_ | refine aqops_nil ?_); (try simp only [NB]); ((repeat ((fail_if_success (refine hK _ ?_)); clear hK K)); refine hK _ ?_; clear hK K)) | ((first | refine aops_k fun K1 hK1 => ?_ | refine aqops_k fun K1 hK1 => ?_ | refine awp_cond_k fun A B hA hB => ?_); simp only [S1, simprocAttr, TTSdE]; first | (refine hK1 _ ?_; clear hK1 K1) | ((first | refine hA ?_ | refine hB ?_); clear hA hB A B) | ((first | apply call_a E9 | apply call_q E9); exact n2; (refine hK1 _ ?_; clear hK1 K1)) | ((first | apply call_a E10 | apply call_q E10); exact (n3 _); (refine hK1 _ ?_; clear hK1 K1)) | (refine join_x (v := ?_) (fun hg hk9 => ?_) ?_; rotate_left; (focus (try ((try simp only [BN] at hg); simp only [S1, simprocAttr, TTSdE, hg] at hk9 ⊢)); first | exact hk9 | ((first | apply call_a E9 | apply call_q E9); exact n2; exact hk9) | ((first | apply call_a E10 | apply call_q E10); exact (n3 _); exact hk9)); (refine hK1 _ ?_; clear hK1 K1)) | (((first | (refine ⟨fun hg => hA ?_, fun hg => hB ?_⟩ <;> clear hA hB A B) | refine ⟨fun hg => ?_, fun hg => ?_⟩) <;> (try simp only [BN2] at hg) <;> (try simp only [hg, cond_true, cond_false])) <;> (try (refine hK1 _ ?_; clear hK1 K1)) <;> (try simp only [BN3] at hg))) | (fail) | ((first | refine awp_region ?_ | refine awp_draw (by kernel_rfl) ?_ | refine awp_block ?_ | refine awp_exit ?_ | refine awp_skip ?_ | refine awp_ret ?_); (try simp only [NB, simprocAttr]); (try ((repeat ((fail_if_success (refine hK _ ?_)); clear hK K)); refine hK _ ?_; clear hK K))))
    all_goals rw [← bH_is]
    all_goals refine Sub.ghost ⟨rfl, ⟨[], by simp⟩, ?_, bW_avl (by simp [bW]) trivial⟩
    all_goals simp only [keeps, avlt, avlts, blksLt, frL, upd_get, bW_len, List.append_nil, S1, simprocAttr, List.length_map, List.length_cons, List.length_nil, Int.natCast_zero, AV.p.injEq, PV.int.injEq, PV.bool.injEq, PV.sl.injEq] <;> (try and_intros) <;> (try assumption) <;> (try trivial) <;> (try omega)
  refine awp_seq_k fun K hK => ?_
  refine awp_seq_k fun K hK => ?_
  repeat' (first | ((first | refine aops_nil ?_ | refine aqops_nil ?_); (try simp only [NB]); ((repeat ((fail_if_success (refine hK _ ?_)); clear hK K)); refine hK _ ?_; clear hK K)) | ((first | refine aops_k fun K1 hK1 => ?_ | refine aqops_k fun K1 hK1 => ?_ | refine awp_cond_k fun A B hA hB => ?_); simp only [S1, simprocAttr, TTSdE]; first | (refine hK1 _ ?_; clear hK1 K1) | ((first | refine hA ?_ | refine hB ?_); clear hA hB A B) | (refine join_x (v := ?_) (fun hg hk9 => ?_) ?_; rotate_left; (focus (try ((try simp only [BN] at hg); simp only [S1, simprocAttr, TTSdE, hg] at hk9 ⊢)); first | exact hk9); (refine hK1 _ ?_; clear hK1 K1)) | (((first | (refine ⟨fun hg => hA ?_, fun hg => hB ?_⟩ <;> clear hA hB A B) | refine ⟨fun hg => ?_, fun hg => ?_⟩) <;> (try simp only [BN2] at hg) <;> (try simp only [hg, cond_true, cond_false])) <;> (try (refine hK1 _ ?_; clear hK1 K1)) <;> (try simp only [BN3] at hg))) | (fail) | ((first | refine awp_region ?_ | refine awp_draw (by kernel_rfl) ?_ | refine awp_block ?_ | refine awp_exit ?_ | refine awp_skip ?_ | refine awp_ret ?_); (try simp only [NB, simprocAttr]); (try ((repeat ((fail_if_success (refine hK _ ?_)); clear hK K)); refine hK _ ?_; clear hK K))))
  repeat' (first | ((first | refine aops_nil ?_ | refine aqops_nil ?_); (try simp only [NB]); ((repeat ((fail_if_success (refine hK _ ?_)); clear hK K)); refine hK _ ?_; clear hK K)) | ((first | refine aops_k fun K1 hK1 => ?_ | refine aqops_k fun K1 hK1 => ?_ | refine awp_cond_k fun A B hA hB => ?_); simp only [S1, simprocAttr, TTSdE]; first | (refine hK1 _ ?_; clear hK1 K1) | ((first | refine hA ?_ | refine hB ?_); clear hA hB A B) | (refine join_x (v := ?_) (fun hg hk9 => ?_) ?_; rotate_left; (focus (try ((try simp only [BN] at hg); simp only [S1, simprocAttr, TTSdE, hg] at hk9 ⊢)); first | exact hk9); (refine hK1 _ ?_; clear hK1 K1)) | (((first | (refine ⟨fun hg => hA ?_, fun hg => hB ?_⟩ <;> clear hA hB A B) | refine ⟨fun hg => ?_, fun hg => ?_⟩) <;> (try simp only [BN2] at hg) <;> (try simp only [hg, cond_true, cond_false])) <;> (try (refine hK1 _ ?_; clear hK1 K1)) <;> (try simp only [BN3] at hg))) | (fail) | ((first | refine awp_region ?_ | refine awp_draw (by kernel_rfl) ?_ | refine awp_block ?_ | refine awp_exit ?_ | refine awp_skip ?_ | refine awp_ret ?_); (try simp only [NB, simprocAttr]); (try ((repeat ((fail_if_success (refine hK _ ?_)); clear hK K)); refine hK _ ?_; clear hK K))))
  refine awp_tellG ⟨frL [(0, aSc P), (2, .i i), (7, .ptr (h.length + 1) 0 0)], 171, bH h P (bN P l l.length) []⟩ (fun K hK => ?_) ?_
  · refine awp_seq_k fun K hK => ?_
    repeat' (first | ((first | refine aops_nil ?_ | refine aqops_nil ?_); (try simp only [NB]); ((repeat ((fail_if_success (refine hK _ ?_)); clear hK K)); refine hK _ ?_; clear hK K)) | ((first | refine aops_k fun K1 hK1 => ?_ | refine aqops_k fun K1 hK1 => ?_ | refine awp_cond_k fun A B hA hB => ?_); simp only [S1, simprocAttr, TTSdE, List.length_map]; first | (refine hK1 _ ?_; clear hK1 K1) | ((first | refine hA ?_ | refine hB ?_); clear hA hB A B) | (refine join_x (v := ?_) (fun hg hk9 => ?_) ?_; rotate_left; (focus (try ((try simp only [BN] at hg); simp only [S1, simprocAttr, TTSdE, List.length_map, hg] at hk9 ⊢)); first | exact hk9); (refine hK1 _ ?_; clear hK1 K1)) | (((first | (refine ⟨fun hg => hA ?_, fun hg => hB ?_⟩ <;> clear hA hB A B) | refine ⟨fun hg => ?_, fun hg => ?_⟩) <;> (try simp only [BN2] at hg) <;> (try simp only [hg, cond_true, cond_false])) <;> (try (refine hK1 _ ?_; clear hK1 K1)) <;> (try simp only [BN3] at hg))) | (fail) | ((first | refine awp_region ?_ | refine awp_draw (by kernel_rfl) ?_ | refine awp_block ?_ | refine awp_exit ?_ | refine awp_skip ?_ | refine awp_ret ?_); (try simp only [NB, simprocAttr]); (try ((repeat ((fail_if_success (refine hK _ ?_)); clear hK K)); refine hK _ ?_; clear hK K))))
    refine awp_for l.length 171 (fun j => [(61, .i j), (60, .i l.length), (59, aSt l), (0, aSc P), (2, .i i), (7, .ptr (h.length + 1) 0 0), (9, .ptr (h.length + 4) 0 0)])
      (fun j => bW h.length P (bN P l j) ++ []) (fun j => True) ?_ trivial fun j hj hp K hK => ?_
    · refine ⟨rfl, ⟨[], by rw [← bH_is]; simp [bN]⟩, ?_, bW_avl (by simp [bW]) trivial⟩
      simp only [keeps, avlt, avlts, blksLt, frL, upd_get, bW_len, List.append_nil, S1, simprocAttr, List.length_map, List.length_cons, List.length_nil, Int.natCast_zero, AV.p.injEq, PV.int.injEq, PV.bool.injEq, PV.sl.injEq] <;> (try and_intros) <;> (try assumption) <;> (try trivial) <;> (try omega)
    rw [bH_is]
    have okj := bN_ok pl l j
    rcases Nat.lt_or_ge j l.length with hlt | hge
    · obtain ⟨s, hx⟩ : ∃ k, l[j]? = some k := ⟨_, List.getElem?_eq_getElem hlt⟩
      have jl : (j : Int) < (l.length : Int) := by omega
      have j0 : (0 : Int) ≤ (j : Int) := by omega
      have es := bN_succ (P := P) hx
      have hdo := fun L => does_calls (G := G) (h := h) (b := bN P l j) (L := L) pl okj s.1 s.2
      rw [← es] at hdo
      have hnx := nextJ hlen hlt
      generalize bN P l (j + 1) = b2 at *
      generalize bN P l j = b at *
      repeat' (first | ((first | refine aops_nil ?_ | refine aqops_nil ?_); (try simp only [NB])) | ((repeat ((fail_if_success (refine hK _ ?_)); clear hK K)); refine hK _ ?_; clear hK K) | ((first | refine aops_k fun K1 hK1 => ?_ | refine aqops_k fun K1 hK1 => ?_ | refine awp_cond_k fun A B hA hB => ?_); simp only [S1, simprocAttr, TTSdE, rowSp hx, jl, j0, hnx, bH_len, bH_app, bH_get7, bH_set7, takeC_st, Int.toNat_natCast, List.length_map, List.nil_append]; first | (refine hK1 _ ?_; clear hK1 K1) | ((first | refine hA ?_ | refine hB ?_); clear hA hB A B) | ((first | apply call_a E11 | apply call_q E11); exact (hdo _); (refine hK1 _ ?_; clear hK1 K1)) | (refine join_x (v := ?_) (fun hg hk9 => ?_) ?_; rotate_left; (focus (try ((try simp only [BN] at hg); simp only [S1, simprocAttr, TTSdE, rowSp hx, jl, j0, hnx, bH_len, bH_app, bH_get7, bH_set7, takeC_st, Int.toNat_natCast, List.length_map, List.nil_append, hg] at hk9 ⊢)); first | exact hk9 | ((first | apply call_a E11 | apply call_q E11); exact (hdo _); exact hk9)); (refine hK1 _ ?_; clear hK1 K1)) | (((first | (refine ⟨fun hg => hA ?_, fun hg => hB ?_⟩ <;> clear hA hB A B) | refine ⟨fun hg => ?_, fun hg => ?_⟩) <;> (try simp only [BN2] at hg) <;> (try simp only [hg, cond_true, cond_false])) <;> (try (refine hK1 _ ?_; clear hK1 K1)) <;> (try simp only [BN3] at hg))) | (refine awp_seq_k fun K hK => ?_) | ((first | refine awp_region ?_ | refine awp_draw (by kernel_rfl) ?_ | refine awp_block ?_ | refine awp_exit ?_ | refine awp_skip ?_ | refine awp_ret ?_); (try simp only [NB, simprocAttr])))
      all_goals refine ⟨hlt, trivial, rfl, ⟨[some ⟨0, [.i s.1, .i s.2]⟩], rfl⟩, ?_, bW_avl (by simp [bW]) trivial⟩
      all_goals simp only [keeps, avlt, avlts, blksLt, frL, upd_get, bW_len, List.append_nil, S1, simprocAttr, List.length_map, List.length_cons, List.length_nil, Int.natCast_zero, AV.p.injEq, PV.int.injEq, PV.bool.injEq, PV.sl.injEq] <;> (try and_intros) <;> (try assumption) <;> (try trivial) <;> (try omega)
    · obtain rfl : j = l.length := by omega
      repeat' (first | ((first | refine aops_nil ?_ | refine aqops_nil ?_); (try simp only [NB])) | ((repeat ((fail_if_success (refine hK _ ?_)); clear hK K)); refine hK _ ?_; clear hK K) | ((first | refine aops_k fun K1 hK1 => ?_ | refine aqops_k fun K1 hK1 => ?_ | refine awp_cond_k fun A B hA hB => ?_); simp only [S1, simprocAttr, TTSdE, Int.lt_irrefl]; first | (refine hK1 _ ?_; clear hK1 K1) | ((first | refine hA ?_ | refine hB ?_); clear hA hB A B) | (refine join_x (v := ?_) (fun hg hk9 => ?_) ?_; rotate_left; (focus (try ((try simp only [BN] at hg); simp only [S1, simprocAttr, TTSdE, Int.lt_irrefl, hg] at hk9 ⊢)); first | exact hk9); (refine hK1 _ ?_; clear hK1 K1)) | (((first | (refine ⟨fun hg => hA ?_, fun hg => hB ?_⟩ <;> clear hA hB A B) | refine ⟨fun hg => ?_, fun hg => ?_⟩) <;> (try simp only [BN2] at hg) <;> (try simp only [hg, cond_true, cond_false])) <;> (try (refine hK1 _ ?_; clear hK1 K1)) <;> (try simp only [BN3] at hg))) | (refine awp_seq_k fun K hK => ?_) | ((first | refine awp_region ?_ | refine awp_draw (by kernel_rfl) ?_ | refine awp_block ?_ | refine awp_exit ?_ | refine awp_skip ?_ | refine awp_ret ?_); (try simp only [NB, simprocAttr])))
      all_goals refine Sub.ghost (h := h) (L := bW h.length P (bN P l l.length) ++ []) ?_
      all_goals refine ⟨rfl, ⟨[], rfl⟩, ?_, bW_avl (by simp [bW]) trivial⟩
      all_goals simp only [keeps, avlt, avlts, blksLt, frL, upd_get, bW_len, List.append_nil, S1, simprocAttr, List.length_map, List.length_cons, List.length_nil, Int.natCast_zero, AV.p.injEq, PV.int.injEq, PV.bool.injEq, PV.sl.injEq] <;> (try and_intros) <;> (try assumption) <;> (try trivial) <;> (try omega)
  have okb := bN_ok pl l l.length
  generalize bN P l l.length = b at *
  have hdnl : b.s.dn.length ≤ 1000 := Nat.le_trans okb.dnle hpn
  have hor := order_calls (G := G) (h := h) (P := P) (L := []) hdnl
  have hndp := okb.ndp
  have hdlt : ∀ x ∈ b.s.dn, x < P.length := fun x hx => okb.lt (by rw [(okb.dnp x).mp hx]; decide)
  refine awp_seq_k fun K hK => ?_
  repeat' (first | ((first | refine aops_nil ?_ | refine aqops_nil ?_); (try simp only [NB]); ((repeat ((fail_if_success (refine hK _ ?_)); clear hK K)); refine hK _ ?_; clear hK K)) | ((first | refine aops_k fun K1 hK1 => ?_ | refine aqops_k fun K1 hK1 => ?_ | refine awp_cond_k fun A B hA hB => ?_); simp only [S1, simprocAttr, TTSdE]; first | (refine hK1 _ ?_; clear hK1 K1) | ((first | refine hA ?_ | refine hB ?_); clear hA hB A B) | ((first | apply call_a E15 | apply call_q E15); exact hor; (refine hK1 _ ?_; clear hK1 K1)) | (refine join_x (v := ?_) (fun hg hk9 => ?_) ?_; rotate_left; (focus (try ((try simp only [BN] at hg); simp only [S1, simprocAttr, TTSdE, hg] at hk9 ⊢)); first | exact hk9 | ((first | apply call_a E15 | apply call_q E15); exact hor; exact hk9)); (refine hK1 _ ?_; clear hK1 K1)) | (((first | (refine ⟨fun hg => hA ?_, fun hg => hB ?_⟩ <;> clear hA hB A B) | refine ⟨fun hg => ?_, fun hg => ?_⟩) <;> (try simp only [BN2] at hg) <;> (try simp only [hg, cond_true, cond_false])) <;> (try (refine hK1 _ ?_; clear hK1 K1)) <;> (try simp only [BN3] at hg))) | (fail) | ((first | refine awp_region ?_ | refine awp_draw (by kernel_rfl) ?_ | refine awp_block ?_ | refine awp_exit ?_ | refine awp_skip ?_ | refine awp_ret ?_); (try simp only [NB, simprocAttr]); (try ((repeat ((fail_if_success (refine hK _ ?_)); clear hK K)); refine hK _ ?_; clear hK K))))
  have h32 := pl.n32
  have hn1 := pl.n1
  have z1 : (0 : Int) ≤ (P.length : Int) := by omega
  have z3 : (P.length : Int) ≤ 16777216 := by omega
  have z6 : ¬ (P.length : Int) = 0 := by omega
  have hrp := rep_flat P.length (AV.i 0)
  have hbl : ∀ (b : SB), (bH h P b []).length = h.length + 7 := fun b => by rw [bH_len]; rfl
  refine awp_tellG ⟨frL [(14, .ref (h.length + 7) 0 0 1 P.length), (13, .p (.sl (b.s.dn.map eN))), (0, aSc P), (2, .i i), (7, .ptr (h.length + 1) 0 0)], 171, bH h P b [some ⟨0, (atL b.s.dn P.length 0).map AV.i⟩]⟩ (fun K hK => ?_) ?_
  · repeat' (first | ((first | refine aops_nil ?_ | refine aqops_nil ?_); (try simp only [NB]); ((repeat ((fail_if_success (refine hK _ ?_)); clear hK K)); refine hK _ ?_; clear hK K)) | ((first | refine aops_k fun K1 hK1 => ?_ | refine aqops_k fun K1 hK1 => ?_ | refine awp_cond_k fun A B hA hB => ?_); simp only [S1, simprocAttr, TTSdE, z1, z3, z6, hrp, hbl, bH_app, Int.toNat_natCast, List.length_map]; first | (refine hK1 _ ?_; clear hK1 K1) | ((first | refine hA ?_ | refine hB ?_); clear hA hB A B) | (refine join_x (v := ?_) (fun hg hk9 => ?_) ?_; rotate_left; (focus (try ((try simp only [BN] at hg); simp only [S1, simprocAttr, TTSdE, z1, z3, z6, hrp, hbl, bH_app, Int.toNat_natCast, List.length_map, hg] at hk9 ⊢)); first | exact hk9); (refine hK1 _ ?_; clear hK1 K1)) | (((first | (refine ⟨fun hg => hA ?_, fun hg => hB ?_⟩ <;> clear hA hB A B) | refine ⟨fun hg => ?_, fun hg => ?_⟩) <;> (try simp only [BN2] at hg) <;> (try simp only [hg, cond_true, cond_false])) <;> (try (refine hK1 _ ?_; clear hK1 K1)) <;> (try simp only [BN3] at hg))) | (fail) | ((first | refine awp_region ?_ | refine awp_draw (by kernel_rfl) ?_ | refine awp_block ?_ | refine awp_exit ?_ | refine awp_skip ?_ | refine awp_ret ?_); (try simp only [NB, simprocAttr]); (try ((repeat ((fail_if_success (refine hK _ ?_)); clear hK K)); refine hK _ ?_; clear hK K))))
    all_goals refine Sub.ghost (h := h) (L := bW h.length P b ++ [some ⟨0, (atL b.s.dn P.length 0).map AV.i⟩]) ?_
    all_goals rw [atL_zero, List.map_replicate]
    all_goals refine ⟨rfl, ⟨[], rfl⟩, ?_, bW_avl (by simp [bW]) ⟨avlts_rep _ _, trivial⟩⟩
    all_goals simp only [keeps, avlt, avlts, blksLt, frL, upd_get, bW_len, List.length_append, List.length_cons, List.length_nil, S1, simprocAttr, List.length_map, List.length_cons, List.length_nil, Int.natCast_zero, AV.p.injEq, PV.int.injEq, PV.bool.injEq, PV.sl.injEq] <;> (try and_intros) <;> (try assumption) <;> (try trivial) <;> (try omega)
  refine awp_tellG ⟨frL [(14, .ref (h.length + 7) 0 0 1 P.length), (0, aSc P), (2, .i i), (7, .ptr (h.length + 1) 0 0)], 171, bH h P b [some ⟨0, (atL b.s.dn P.length b.s.dn.length).map AV.i⟩]⟩ (fun K hK => ?_) ?_
  · refine awp_seq_k fun K hK => ?_
    repeat' (first | ((first | refine aops_nil ?_ | refine aqops_nil ?_); (try simp only [NB]); ((repeat ((fail_if_success (refine hK _ ?_)); clear hK K)); refine hK _ ?_; clear hK K)) | ((first | refine aops_k fun K1 hK1 => ?_ | refine aqops_k fun K1 hK1 => ?_ | refine awp_cond_k fun A B hA hB => ?_); simp only [S1, simprocAttr, TTSdE, List.length_map]; first | (refine hK1 _ ?_; clear hK1 K1) | ((first | refine hA ?_ | refine hB ?_); clear hA hB A B) | (refine join_x (v := ?_) (fun hg hk9 => ?_) ?_; rotate_left; (focus (try ((try simp only [BN] at hg); simp only [S1, simprocAttr, TTSdE, List.length_map, hg] at hk9 ⊢)); first | exact hk9); (refine hK1 _ ?_; clear hK1 K1)) | (((first | (refine ⟨fun hg => hA ?_, fun hg => hB ?_⟩ <;> clear hA hB A B) | refine ⟨fun hg => ?_, fun hg => ?_⟩) <;> (try simp only [BN2] at hg) <;> (try simp only [hg, cond_true, cond_false])) <;> (try (refine hK1 _ ?_; clear hK1 K1)) <;> (try simp only [BN3] at hg))) | (fail) | ((first | refine awp_region ?_ | refine awp_draw (by kernel_rfl) ?_ | refine awp_block ?_ | refine awp_exit ?_ | refine awp_skip ?_ | refine awp_ret ?_); (try simp only [NB, simprocAttr]); (try ((repeat ((fail_if_success (refine hK _ ?_)); clear hK K)); refine hK _ ?_; clear hK K))))
    refine awp_forC b.s.dn.length 171 (fun j => [(77, .i j), (76, .i b.s.dn.length), (75, .p (.sl (b.s.dn.map eN))), (14, .ref (h.length + 7) 0 0 1 P.length), (0, aSc P), (2, .i i), (7, .ptr (h.length + 1) 0 0)])
      (fun j => bW h.length P b ++ [some ⟨0, (atL b.s.dn P.length j).map AV.i⟩]) (fun j => True) ?_ trivial fun j hj hp K hK => ?_
    · refine Sub.ghost (h := h) (L := bW h.length P b ++ [some ⟨0, (atL b.s.dn P.length 0).map AV.i⟩]) ?_
      refine ⟨rfl, ⟨[], rfl⟩, ?_, bW_avl (by simp [bW]) ⟨avlts_i _ _, trivial⟩⟩
      simp only [keeps, avlt, avlts, blksLt, frL, upd_get, bW_len, List.length_append, List.length_cons, List.length_nil, S1, simprocAttr, List.length_map, List.length_cons, List.length_nil, Int.natCast_zero, AV.p.injEq, PV.int.injEq, PV.bool.injEq, PV.sl.injEq] <;> (try and_intros) <;> (try assumption) <;> (try trivial) <;> (try omega)
    rw [bH_is]
    rcases Nat.lt_or_ge j b.s.dn.length with hlt | hge
    · obtain ⟨x, hx⟩ : ∃ x, b.s.dn[j]? = some x := ⟨_, List.getElem?_eq_getElem hlt⟩
      have jl : (j : Int) < (b.s.dn.length : Int) := by omega
      have j0 : (0 : Int) ≤ (j : Int) := by omega
      have x0 : (0 : Int) ≤ (x : Int) := by omega
      have hxl := hdlt x (List.mem_of_getElem? hx)
      have xl : (x : Int) < (P.length : Int) := by omega
      have hxr : (b.s.dn.map eN)[j]? = some [.int .i64 (x : Int)] := by rw [List.getElem?_map, hx]; rfl
      have hnx := nextJ hdnl hlt
      have hwr : IntKind.i64.wrap ((j : Int) + 1) = (j : Int) + 1 := by rw [IntWalk.i64_in _ (by omega)]
      have hset := map_setI (atL b.s.dn P.length j) x ((j : Int) + 1)
      rw [atL_set hndp hx hxl] at hset
      have hal := atL_len b.s.dn P.length j
      have x1 : x + 1 ≤ P.length := by omega
      have hlt' : x < P.length := hxl
      have hnx2 : (j : Int) + 1 = ((j + 1 : Nat) : Int) := by omega
      repeat' (first | ((first | refine aops_nil ?_ | refine aqops_nil ?_); (try simp only [NB])) | ((repeat ((fail_if_success (refine hK _ ?_)); clear hK K)); refine hK _ ?_; clear hK K) | ((first | refine aops_k fun K1 hK1 => ?_ | refine aqops_k fun K1 hK1 => ?_ | refine awp_cond_k fun A B hA hB => ?_); simp only [S1, simprocAttr, TTSdE, hxr, jl, j0, x0, xl, x1, hlt', hwr, hset, hal, bH_len, bH_get7, bH_set7, Int.toNat_natCast, List.length_map, Nat.mul_one, Nat.zero_add]; first | (refine hK1 _ ?_; clear hK1 K1) | ((first | refine hA ?_ | refine hB ?_); clear hA hB A B) | (refine join_x (v := ?_) (fun hg hk9 => ?_) ?_; rotate_left; (focus (try ((try simp only [BN] at hg); simp only [S1, simprocAttr, TTSdE, hxr, jl, j0, x0, xl, x1, hlt', hwr, hset, hal, bH_len, bH_get7, bH_set7, Int.toNat_natCast, List.length_map, Nat.mul_one, Nat.zero_add, hg] at hk9 ⊢)); first | exact hk9); (refine hK1 _ ?_; clear hK1 K1)) | (((first | (refine ⟨fun hg => hA ?_, fun hg => hB ?_⟩ <;> clear hA hB A B) | refine ⟨fun hg => ?_, fun hg => ?_⟩) <;> (try simp only [BN2] at hg) <;> (try simp only [hg, cond_true, cond_false])) <;> (try (refine hK1 _ ?_; clear hK1 K1)) <;> (try simp only [BN3] at hg))) | (refine awp_seq_k fun K hK => ?_) | ((first | refine awp_region ?_ | refine awp_draw (by kernel_rfl) ?_ | refine awp_block ?_ | refine awp_exit ?_ | refine awp_skip ?_ | refine awp_ret ?_); (try simp only [NB, simprocAttr])))
      all_goals rw [hnx2]
      all_goals refine ⟨hlt, trivial, rfl, ⟨[], rfl⟩, ?_, bW_avl (by simp [bW]) ⟨avlts_i _ _, trivial⟩⟩
      all_goals simp only [keeps, avlt, avlts, blksLt, frL, upd_get, bW_len, List.length_append, List.length_cons, List.length_nil, S1, simprocAttr, List.length_map, List.length_cons, List.length_nil, Int.natCast_zero, AV.p.injEq, PV.int.injEq, PV.bool.injEq, PV.sl.injEq] <;> (try and_intros) <;> (try assumption) <;> (try trivial) <;> (try omega)
    · obtain rfl : j = b.s.dn.length := by omega
      repeat' (first | ((first | refine aops_nil ?_ | refine aqops_nil ?_); (try simp only [NB])) | ((repeat ((fail_if_success (refine hK _ ?_)); clear hK K)); refine hK _ ?_; clear hK K) | ((first | refine aops_k fun K1 hK1 => ?_ | refine aqops_k fun K1 hK1 => ?_ | refine awp_cond_k fun A B hA hB => ?_); simp only [S1, simprocAttr, TTSdE, Int.lt_irrefl]; first | (refine hK1 _ ?_; clear hK1 K1) | ((first | refine hA ?_ | refine hB ?_); clear hA hB A B) | (refine join_x (v := ?_) (fun hg hk9 => ?_) ?_; rotate_left; (focus (try ((try simp only [BN] at hg); simp only [S1, simprocAttr, TTSdE, Int.lt_irrefl, hg] at hk9 ⊢)); first | exact hk9); (refine hK1 _ ?_; clear hK1 K1)) | (((first | (refine ⟨fun hg => hA ?_, fun hg => hB ?_⟩ <;> clear hA hB A B) | refine ⟨fun hg => ?_, fun hg => ?_⟩) <;> (try simp only [BN2] at hg) <;> (try simp only [hg, cond_true, cond_false])) <;> (try (refine hK1 _ ?_; clear hK1 K1)) <;> (try simp only [BN3] at hg))) | (refine awp_seq_k fun K hK => ?_) | ((first | refine awp_region ?_ | refine awp_draw (by kernel_rfl) ?_ | refine awp_block ?_ | refine awp_exit ?_ | refine awp_skip ?_ | refine awp_ret ?_); (try simp only [NB, simprocAttr])))
      all_goals refine Sub.ghost (h := h) (L := bW h.length P b ++ [some ⟨0, (atL b.s.dn P.length b.s.dn.length).map AV.i⟩]) ?_
      all_goals refine ⟨rfl, ⟨[], rfl⟩, ?_, bW_avl (by simp [bW]) ⟨avlts_i _ _, trivial⟩⟩
      all_goals simp only [keeps, avlt, avlts, blksLt, frL, upd_get, bW_len, List.length_append, List.length_cons, List.length_nil, S1, simprocAttr, List.length_map, List.length_cons, List.length_nil, Int.natCast_zero, AV.p.injEq, PV.int.injEq, PV.bool.injEq, PV.sl.injEq] <;> (try and_intros) <;> (try assumption) <;> (try trivial) <;> (try omega)
  have hata : ∀ x, x ∈ b.s.dn → (atL b.s.dn P.length b.s.dn.length)[x]? = some ((b.s.dn.idxOf x : Int) + 1) := fun x hx => atL_at (hdlt x hx) hx
  have hatl := atL_len b.s.dn P.length b.s.dn.length
  generalize atL b.s.dn P.length b.s.dn.length = al at *
  have hf := faultB_calls (G := G) (h := h) (L := [some ⟨0, al.map AV.i⟩]) pl okb i
  rcases faultC_cases pl okb i with ⟨f1, f2⟩ | ⟨k, f0, f1, f2, f3, f4, f5⟩
  · rw [f2] at hf
    have hb1 : ((faultC P b.g b.s i).2.2 != 0) = true := by simpa using f1
    repeat' (first | ((first | refine aops_nil ?_ | refine aqops_nil ?_); (try simp only [NB])) | ((repeat ((fail_if_success (refine hK _ ?_)); clear hK K)); refine hK _ ?_; clear hK K) | ((first | refine aops_k fun K1 hK1 => ?_ | refine aqops_k fun K1 hK1 => ?_ | refine awp_cond_k fun A B hA hB => ?_); simp only [S1, simprocAttr, TTSdE, hb1, List.map_nil, List.length_nil]; first | (refine hK1 _ ?_; clear hK1 K1) | ((first | refine hA ?_ | refine hB ?_); clear hA hB A B) | ((first | apply call_a E12 | apply call_q E12); exact hf; (refine hK1 _ ?_; clear hK1 K1)) | ((first | apply call_a E7 | apply call_q E7); exact (hu _); (refine hK1 _ ?_; clear hK1 K1)) | (refine join_x (v := ?_) (fun hg hk9 => ?_) ?_; rotate_left; (focus (try ((try simp only [BN] at hg); simp only [S1, simprocAttr, TTSdE, hb1, List.map_nil, List.length_nil, hg] at hk9 ⊢)); first | exact hk9 | ((first | apply call_a E12 | apply call_q E12); exact hf; exact hk9) | ((first | apply call_a E7 | apply call_q E7); exact (hu _); exact hk9)); (refine hK1 _ ?_; clear hK1 K1)) | (((first | (refine ⟨fun hg => hA ?_, fun hg => hB ?_⟩ <;> clear hA hB A B) | refine ⟨fun hg => ?_, fun hg => ?_⟩) <;> (try simp only [BN2] at hg) <;> (try simp only [hg, cond_true, cond_false])) <;> (try (refine hK1 _ ?_; clear hK1 K1)) <;> (try simp only [BN3] at hg))) | (refine awp_seq_k fun K hK => ?_) | ((first | refine awp_region ?_ | refine awp_draw (by kernel_rfl) ?_ | refine awp_block ?_ | refine awp_exit ?_ | refine awp_skip ?_ | refine awp_ret ?_); (try simp only [NB, simprocAttr])))
    all_goals simp only [EndP, FinP, resA, resL, resA1, lastV, lastA, lastAs, pur, purs, take_app, List.take_length, S1, simprocAttr, TTSdE, Nat.le_add_right, Nat.le_refl, bH_takeh, bH_len]
    all_goals simp
  subst f0
  rw [f2, f3] at hf
  have ok2 : RsOk P (fB P b k).s := by show RsOk P (faultC P b.g b.s k).1.2; rw [f4]; exact f5.ok
  have hrv : RvOk P b.s.dn (fB P b k).s := by
    show RvOk P b.s.dn (faultC P b.g b.s k).1.2
    rw [f4]
    exact f5.rv b.s.dn hndp ⟨List.Sublist.refl _, fun a ha => by simp at ha, fun a ha => by simp at ha, List.Pairwise.nil⟩
  have hf : ACalls Try.prog G 12 [.ptr (h.length + 1) 0 0, .i k] (bH h P b [some ⟨0, al.map AV.i⟩]) (fun r h' => r = .tup [aAc (fB P b k).s.ac, .i 0] ∧ h' = bH h P (fB P b k) [some ⟨0, al.map AV.i⟩]) := hf
  have hacl := ok2.acle
  clear f3 f4 f5
  generalize fB P b k = b2 at *
  generalize b.s.dn = dn at *
  obtain ⟨la, hla⟩ : ∃ la, la = b2.s.ac := ⟨_, rfl⟩
  rw [← hla] at hf hacl
  have hlan : la.length ≤ 1000 := by omega
  refine awp_seq_k fun K hK => ?_
  repeat' (first | ((first | refine aops_nil ?_ | refine aqops_nil ?_); (try simp only [NB]); ((repeat ((fail_if_success (refine hK _ ?_)); clear hK K)); refine hK _ ?_; clear hK K)) | ((first | refine aops_k fun K1 hK1 => ?_ | refine aqops_k fun K1 hK1 => ?_ | refine awp_cond_k fun A B hA hB => ?_); simp only [S1, simprocAttr, TTSdE]; first | (refine hK1 _ ?_; clear hK1 K1) | ((first | refine hA ?_ | refine hB ?_); clear hA hB A B) | ((first | apply call_a E12 | apply call_q E12); exact hf; (refine hK1 _ ?_; clear hK1 K1)) | (refine join_x (v := ?_) (fun hg hk9 => ?_) ?_; rotate_left; (focus (try ((try simp only [BN] at hg); simp only [S1, simprocAttr, TTSdE, hg] at hk9 ⊢)); first | exact hk9 | ((first | apply call_a E12 | apply call_q E12); exact hf; exact hk9)); (refine hK1 _ ?_; clear hK1 K1)) | (((first | (refine ⟨fun hg => hA ?_, fun hg => hB ?_⟩ <;> clear hA hB A B) | refine ⟨fun hg => ?_, fun hg => ?_⟩) <;> (try simp only [BN2] at hg) <;> (try simp only [hg, cond_true, cond_false])) <;> (try (refine hK1 _ ?_; clear hK1 K1)) <;> (try simp only [BN3] at hg))) | (fail) | ((first | refine awp_region ?_ | refine awp_draw (by kernel_rfl) ?_ | refine awp_block ?_ | refine awp_exit ?_ | refine awp_skip ?_ | refine awp_ret ?_); (try simp only [NB, simprocAttr]); (try ((repeat ((fail_if_success (refine hK _ ?_)); clear hK K)); refine hK _ ?_; clear hK K))))
  refine awp_seq_k fun K hK => ?_
  refine awp_seq_k fun K hK => ?_
  repeat' (first | ((first | refine aops_nil ?_ | refine aqops_nil ?_); (try simp only [NB]); ((repeat ((fail_if_success (refine hK _ ?_)); clear hK K)); refine hK _ ?_; clear hK K)) | ((first | refine aops_k fun K1 hK1 => ?_ | refine aqops_k fun K1 hK1 => ?_ | refine awp_cond_k fun A B hA hB => ?_); simp only [S1, simprocAttr, TTSdE]; first | (refine hK1 _ ?_; clear hK1 K1) | ((first | refine hA ?_ | refine hB ?_); clear hA hB A B) | (refine join_x (v := ?_) (fun hg hk9 => ?_) ?_; rotate_left; (focus (try ((try simp only [BN] at hg); simp only [S1, simprocAttr, TTSdE, hg] at hk9 ⊢)); first | exact hk9); (refine hK1 _ ?_; clear hK1 K1)) | (((first | (refine ⟨fun hg => hA ?_, fun hg => hB ?_⟩ <;> clear hA hB A B) | refine ⟨fun hg => ?_, fun hg => ?_⟩) <;> (try simp only [BN2] at hg) <;> (try simp only [hg, cond_true, cond_false])) <;> (try (refine hK1 _ ?_; clear hK1 K1)) <;> (try simp only [BN3] at hg))) | (fail) | ((first | refine awp_region ?_ | refine awp_draw (by kernel_rfl) ?_ | refine awp_block ?_ | refine awp_exit ?_ | refine awp_skip ?_ | refine awp_ret ?_); (try simp only [NB, simprocAttr]); (try ((repeat ((fail_if_success (refine hK _ ?_)); clear hK K)); refine hK _ ?_; clear hK K))))
  repeat' (first | ((first | refine aops_nil ?_ | refine aqops_nil ?_); (try simp only [NB]); ((repeat ((fail_if_success (refine hK _ ?_)); clear hK K)); refine hK _ ?_; clear hK K)) | ((first | refine aops_k fun K1 hK1 => ?_ | refine aqops_k fun K1 hK1 => ?_ | refine awp_cond_k fun A B hA hB => ?_); simp only [S1, simprocAttr, TTSdE]; first | (refine hK1 _ ?_; clear hK1 K1) | ((first | refine hA ?_ | refine hB ?_); clear hA hB A B) | (refine join_x (v := ?_) (fun hg hk9 => ?_) ?_; rotate_left; (focus (try ((try simp only [BN] at hg); simp only [S1, simprocAttr, TTSdE, hg] at hk9 ⊢)); first | exact hk9); (refine hK1 _ ?_; clear hK1 K1)) | (((first | (refine ⟨fun hg => hA ?_, fun hg => hB ?_⟩ <;> clear hA hB A B) | refine ⟨fun hg => ?_, fun hg => ?_⟩) <;> (try simp only [BN2] at hg) <;> (try simp only [hg, cond_true, cond_false])) <;> (try (refine hK1 _ ?_; clear hK1 K1)) <;> (try simp only [BN3] at hg))) | (fail) | ((first | refine awp_region ?_ | refine awp_draw (by kernel_rfl) ?_ | refine awp_block ?_ | refine awp_exit ?_ | refine awp_skip ?_ | refine awp_ret ?_); (try simp only [NB, simprocAttr]); (try ((repeat ((fail_if_success (refine hK _ ?_)); clear hK K)); refine hK _ ?_; clear hK K))))
  refine awp_seq_k fun K hK => ?_
  refine awp_seq_k fun K hK => ?_
  repeat' (first | ((first | refine aops_nil ?_ | refine aqops_nil ?_); (try simp only [NB]); ((repeat ((fail_if_success (refine hK _ ?_)); clear hK K)); refine hK _ ?_; clear hK K)) | ((first | refine aops_k fun K1 hK1 => ?_ | refine aqops_k fun K1 hK1 => ?_ | refine awp_cond_k fun A B hA hB => ?_); simp only [S1, simprocAttr, TTSdE, List.length_map]; first | (refine hK1 _ ?_; clear hK1 K1) | ((first | refine hA ?_ | refine hB ?_); clear hA hB A B) | (refine join_x (v := ?_) (fun hg hk9 => ?_) ?_; rotate_left; (focus (try ((try simp only [BN] at hg); simp only [S1, simprocAttr, TTSdE, List.length_map, hg] at hk9 ⊢)); first | exact hk9); (refine hK1 _ ?_; clear hK1 K1)) | (((first | (refine ⟨fun hg => hA ?_, fun hg => hB ?_⟩ <;> clear hA hB A B) | refine ⟨fun hg => ?_, fun hg => ?_⟩) <;> (try simp only [BN2] at hg) <;> (try simp only [hg, cond_true, cond_false])) <;> (try (refine hK1 _ ?_; clear hK1 K1)) <;> (try simp only [BN3] at hg))) | (fail) | ((first | refine awp_region ?_ | refine awp_draw (by kernel_rfl) ?_ | refine awp_block ?_ | refine awp_exit ?_ | refine awp_skip ?_ | refine awp_ret ?_); (try simp only [NB, simprocAttr]); (try ((repeat ((fail_if_success (refine hK _ ?_)); clear hK K)); refine hK _ ?_; clear hK K))))
  refine awp_forC la.length 171 (fun x => [(99, .i x), (98, .i la.length), (97, aAc la), (17, aAc la), (14, .ref (h.length + 7) 0 0 1 P.length), (0, aSc P), (7, .ptr (h.length + 1) 0 0)])
    (fun x => bW h.length P b2 ++ [some ⟨0, al.map AV.i⟩]) (fun x => True) ?_ trivial fun x hx hp K hK => ?_
  · refine Sub.ghost (h := h) (L := bW h.length P b2 ++ [some ⟨0, al.map AV.i⟩]) ?_
    refine ⟨rfl, ⟨[], rfl⟩, ?_, bW_avl (by simp [bW]) ⟨avlts_i _ _, trivial⟩⟩
    simp only [keeps, avlt, avlts, blksLt, frL, upd_get, bW_len, List.length_append, List.length_cons, List.length_nil, S1, simprocAttr, List.length_map, List.length_cons, List.length_nil, Int.natCast_zero, AV.p.injEq, PV.int.injEq, PV.bool.injEq, PV.sl.injEq] <;> (try and_intros) <;> (try assumption) <;> (try trivial) <;> (try omega)
  rw [bH_is]
  rcases Nat.lt_or_ge x la.length with hlt | hge
  · obtain ⟨s, hs⟩ : ∃ s, la[x]? = some s := ⟨_, List.getElem?_eq_getElem hlt⟩
    have xl : (x : Int) < (la.length : Int) := by omega
    have x0 : (0 : Int) ≤ (x : Int) := by omega
    have hsr : (la.map eAct)[x]? = some [.int .i64 s.1, .int .i64 (s.2 : Int)] := by rw [List.getElem?_map, hs]; rfl
    have hb8 : ∀ (u v : Option Blk), (bH h P b2 [u, v])[h.length + 8]? = some v := fun u v => by
      have := bH_at0 (h := h) (P := P) (b := b2) (L := [u]) v
      rw [bH_app] at this; exact this
    have hs8 : ∀ (u v z : Option Blk), (bH h P b2 [u, v]).set (h.length + 8) z = bH h P b2 [u, z] := fun u v z => by
      have e : ∀ z, bH h P b2 [u, z] = bH h P b2 [u] ++ [z] := fun z => by rw [bH_app]; rfl
      have hl := bH_len (h := h) (P := P) (b := b2) (L := [u])
      rw [e, e, show h.length + 8 = (bH h P b2 [u]).length by rw [hl]; rfl, set_app0]; rfl
    have hbl8 : ∀ u : Option Blk, (bH h P b2 [u]).length = h.length + 8 := fun u => by rw [bH_len]; rfl
    refine awp_seq_k fun K hK => ?_
    repeat' (first | ((first | refine aops_nil ?_ | refine aqops_nil ?_); (try simp only [NB]); ((repeat ((fail_if_success (refine hK _ ?_)); clear hK K)); refine hK _ ?_; clear hK K)) | ((first | refine aops_k fun K1 hK1 => ?_ | refine aqops_k fun K1 hK1 => ?_ | refine awp_cond_k fun A B hA hB => ?_); simp only [S1, simprocAttr, TTSdE, xl]; first | (refine hK1 _ ?_; clear hK1 K1) | ((first | refine hA ?_ | refine hB ?_); clear hA hB A B) | (refine join_x (v := ?_) (fun hg hk9 => ?_) ?_; rotate_left; (focus (try ((try simp only [BN] at hg); simp only [S1, simprocAttr, TTSdE, xl, hg] at hk9 ⊢)); first | exact hk9); (refine hK1 _ ?_; clear hK1 K1)) | (((first | (refine ⟨fun hg => hA ?_, fun hg => hB ?_⟩ <;> clear hA hB A B) | refine ⟨fun hg => ?_, fun hg => ?_⟩) <;> (try simp only [BN2] at hg) <;> (try simp only [hg, cond_true, cond_false])) <;> (try (refine hK1 _ ?_; clear hK1 K1)) <;> (try simp only [BN3] at hg))) | (fail) | ((first | refine awp_region ?_ | refine awp_draw (by kernel_rfl) ?_ | refine awp_block ?_ | refine awp_exit ?_ | refine awp_skip ?_ | refine awp_ret ?_); (try simp only [NB, simprocAttr]); (try ((repeat ((fail_if_success (refine hK _ ?_)); clear hK K)); refine hK _ ?_; clear hK K))))
    refine awp_seq_k fun K hK => ?_
    repeat' (first | ((first | refine aops_nil ?_ | refine aqops_nil ?_); (try simp only [NB]); ((repeat ((fail_if_success (refine hK _ ?_)); clear hK K)); refine hK _ ?_; clear hK K)) | ((first | refine aops_k fun K1 hK1 => ?_ | refine aqops_k fun K1 hK1 => ?_ | refine awp_cond_k fun A B hA hB => ?_); simp only [S1, simprocAttr, TTSdE, xl]; first | (refine hK1 _ ?_; clear hK1 K1) | ((first | refine hA ?_ | refine hB ?_); clear hA hB A B) | (refine join_x (v := ?_) (fun hg hk9 => ?_) ?_; rotate_left; (focus (try ((try simp only [BN] at hg); simp only [S1, simprocAttr, TTSdE, xl, hg] at hk9 ⊢)); first | exact hk9); (refine hK1 _ ?_; clear hK1 K1)) | (((first | (refine ⟨fun hg => hA ?_, fun hg => hB ?_⟩ <;> clear hA hB A B) | refine ⟨fun hg => ?_, fun hg => ?_⟩) <;> (try simp only [BN2] at hg) <;> (try simp only [hg, cond_true, cond_false])) <;> (try (refine hK1 _ ?_; clear hK1 K1)) <;> (try simp only [BN3] at hg))) | (fail) | ((first | refine awp_region ?_ | refine awp_draw (by kernel_rfl) ?_ | refine awp_block ?_ | refine awp_exit ?_ | refine awp_skip ?_ | refine awp_ret ?_); (try simp only [NB, simprocAttr]); (try ((repeat ((fail_if_success (refine hK _ ?_)); clear hK K)); refine hK _ ?_; clear hK K))))
    refine awp_seq_k fun K hK => ?_
    refine awp_block ?_
    refine awp_tellG ⟨frL [(19, .i x), (20, .pin [.int .i64 s.1, .int .i64 (s.2 : Int)]), (99, .i x), (98, .i la.length), (97, aAc la), (17, aAc la), (14, .ref (h.length + 7) 0 0 1 P.length), (0, aSc P), (7, .ptr (h.length + 1) 0 0)], 171, bH h P b2 [some ⟨0, al.map AV.i⟩]⟩ (fun K hK => ?_) ?_
    · repeat' (first | ((first | refine aops_nil ?_ | refine aqops_nil ?_); (try simp only [NB]); ((repeat ((fail_if_success (refine hK _ ?_)); clear hK K)); refine hK _ ?_; clear hK K)) | ((first | refine aops_k fun K1 hK1 => ?_ | refine aqops_k fun K1 hK1 => ?_ | refine awp_cond_k fun A B hA hB => ?_); simp only [S1, simprocAttr, TTSdE, hsr, xl, x0, hbl8, hb8, hs8, bH_app, takeC_st, Int.toNat_natCast, List.length_map]; first | (refine hK1 _ ?_; clear hK1 K1) | ((first | refine hA ?_ | refine hB ?_); clear hA hB A B) | (refine join_x (v := ?_) (fun hg hk9 => ?_) ?_; rotate_left; (focus (try ((try simp only [BN] at hg); simp only [S1, simprocAttr, TTSdE, hsr, xl, x0, hbl8, hb8, hs8, bH_app, takeC_st, Int.toNat_natCast, List.length_map, hg] at hk9 ⊢)); first | exact hk9); (refine hK1 _ ?_; clear hK1 K1)) | (((first | (refine ⟨fun hg => hA ?_, fun hg => hB ?_⟩ <;> clear hA hB A B) | refine ⟨fun hg => ?_, fun hg => ?_⟩) <;> (try simp only [BN2] at hg) <;> (try simp only [hg, cond_true, cond_false])) <;> (try (refine hK1 _ ?_; clear hK1 K1)) <;> (try simp only [BN3] at hg))) | (fail) | ((first | refine awp_region ?_ | refine awp_draw (by kernel_rfl) ?_ | refine awp_block ?_ | refine awp_exit ?_ | refine awp_skip ?_ | refine awp_ret ?_); (try simp only [NB, simprocAttr]); (try ((repeat ((fail_if_success (refine hK _ ?_)); clear hK K)); refine hK _ ?_; clear hK K))))
      all_goals refine (Ghost.freezeP (k := 20) (b := h.length + 8) (bk := ⟨0, [.i s.1, .i (s.2 : Int)]⟩) (cells := [.int .i64 s.1, .int .i64 (s.2 : Int)]) rfl (hb8 _ _) rfl (by simp)).trans ?_
      all_goals rw [hs8]
      all_goals refine Sub.ghost (h := h) (L := bW h.length P b2 ++ [some ⟨0, al.map AV.i⟩]) ?_
      all_goals refine ⟨rfl, ⟨[none], rfl⟩, ?_, bW_avl (by simp [bW]) ⟨avlts_i _ _, trivial⟩⟩
      all_goals simp only [keeps, avlt, avlts, blksLt, frL, upd_get, bW_len, List.length_append, List.length_cons, List.length_nil, S1, simprocAttr, List.length_map, List.length_cons, List.length_nil, Int.natCast_zero, AV.p.injEq, PV.int.injEq, PV.bool.injEq, PV.sl.injEq] <;> (try and_intros) <;> (try assumption) <;> (try trivial) <;> (try omega)
    by_cases hw : s.1 ≠ 2
    · have bw : (s.1 != 2) = true := by simpa using hw
      repeat' (first | ((first | refine aops_nil ?_ | refine aqops_nil ?_); (try simp only [NB])) | ((repeat ((fail_if_success (refine hK _ ?_)); clear hK K)); refine hK _ ?_; clear hK K) | ((first | refine aops_k fun K1 hK1 => ?_ | refine aqops_k fun K1 hK1 => ?_ | refine awp_cond_k fun A B hA hB => ?_); simp only [S1, simprocAttr, TTSdE, bw, nextJ hlan hlt]; first | (refine hK1 _ ?_; clear hK1 K1) | ((first | refine hA ?_ | refine hB ?_); clear hA hB A B) | (refine join_x (v := ?_) (fun hg hk9 => ?_) ?_; rotate_left; (focus (try ((try simp only [BN] at hg); simp only [S1, simprocAttr, TTSdE, bw, nextJ hlan hlt, hg] at hk9 ⊢)); first | exact hk9); (refine hK1 _ ?_; clear hK1 K1)) | (((first | (refine ⟨fun hg => hA ?_, fun hg => hB ?_⟩ <;> clear hA hB A B) | refine ⟨fun hg => ?_, fun hg => ?_⟩) <;> (try simp only [BN2] at hg) <;> (try simp only [hg, cond_true, cond_false])) <;> (try (refine hK1 _ ?_; clear hK1 K1)) <;> (try simp only [BN3] at hg))) | (refine awp_seq_k fun K hK => ?_) | ((first | refine awp_region ?_ | refine awp_draw (by kernel_rfl) ?_ | refine awp_block ?_ | refine awp_exit ?_ | refine awp_skip ?_ | refine awp_ret ?_); (try simp only [NB, simprocAttr])))
      all_goals refine ⟨hlt, trivial, rfl, ⟨[], rfl⟩, ?_, bW_avl (by simp [bW]) ⟨avlts_i _ _, trivial⟩⟩
      all_goals simp only [keeps, avlt, avlts, blksLt, frL, upd_get, bW_len, List.length_append, List.length_cons, List.length_nil, S1, simprocAttr, List.length_map, List.length_cons, List.length_nil, Int.natCast_zero, AV.p.injEq, PV.int.injEq, PV.bool.injEq, PV.sl.injEq] <;> (try and_intros) <;> (try assumption) <;> (try trivial) <;> (try omega)
    have hw : s.1 = 2 := by omega
    have bw : (s.1 != 2) = false := by rw [hw]; rfl
    have hsm : s ∈ b2.s.ac := by rw [← hla]; exact List.mem_of_getElem? hs
    obtain ⟨v1, v2, v3⟩ := hrv.ac4 s hsm hw
    have hsl := hdlt s.2 v1
    have sl : (s.2 : Int) < (P.length : Int) := by omega
    have s0 : (0 : Int) ≤ (s.2 : Int) := by omega
    have hsd := dropSt (hata s.2 v1)
    have hsb := stateB (G := G) (h := h) (L := [some ⟨0, al.map AV.i⟩]) ok2 hsl
    rw [v2] at hsb
    have hprow := parA_row (P := P) hsl
    rw [v3] at hprow
    have ba : ((dn.idxOf s.2 : Int) + 1 == 0) = false := beq_false_of_ne (by omega)
    have hbg7 := fun (u : Option Blk) => bH_get7 (h := h) (P := P) (b := b2) u []
    refine awp_tellG ⟨frL [(19, .i x), (20, .pin [.int .i64 s.1, .int .i64 (s.2 : Int)]), (99, .i x), (98, .i la.length), (97, aAc la), (17, aAc la), (14, .ref (h.length + 7) 0 0 1 P.length), (0, aSc P), (7, .ptr (h.length + 1) 0 0)], 171, bH h P b2 [some ⟨0, al.map AV.i⟩]⟩ (fun K hK => ?_) ?_
    · repeat' (first | ((first | refine aops_nil ?_ | refine aqops_nil ?_); (try simp only [NB])) | ((repeat ((fail_if_success (refine hK _ ?_)); clear hK K)); refine hK _ ?_; clear hK K) | ((first | refine aops_k fun K1 hK1 => ?_ | refine aqops_k fun K1 hK1 => ?_ | refine awp_cond_k fun A B hA hB => ?_); simp only [S1, simprocAttr, TTSdE, bw]; first | (refine hK1 _ ?_; clear hK1 K1) | ((first | refine hA ?_ | refine hB ?_); clear hA hB A B) | (refine join_x (v := ?_) (fun hg hk9 => ?_) ?_; rotate_left; (focus (try ((try simp only [BN] at hg); simp only [S1, simprocAttr, TTSdE, bw, hg] at hk9 ⊢)); first | exact hk9); (refine hK1 _ ?_; clear hK1 K1)) | (((first | (refine ⟨fun hg => hA ?_, fun hg => hB ?_⟩ <;> clear hA hB A B) | refine ⟨fun hg => ?_, fun hg => ?_⟩) <;> (try simp only [BN2] at hg) <;> (try simp only [hg, cond_true, cond_false])) <;> (try (refine hK1 _ ?_; clear hK1 K1)) <;> (try simp only [BN3] at hg))) | (refine awp_seq_k fun K hK => ?_) | ((first | refine awp_region ?_ | refine awp_draw (by kernel_rfl) ?_ | refine awp_block ?_ | refine awp_exit ?_ | refine awp_skip ?_ | refine awp_ret ?_); (try simp only [NB, simprocAttr])))
      all_goals refine Sub.ghost (h := h) (L := bW h.length P b2 ++ [some ⟨0, al.map AV.i⟩]) ?_
      all_goals refine ⟨rfl, ⟨[], rfl⟩, ?_, bW_avl (by simp [bW]) ⟨avlts_i _ _, trivial⟩⟩
      all_goals simp only [keeps, avlt, avlts, blksLt, frL, upd_get, bW_len, List.length_append, List.length_cons, List.length_nil, S1, simprocAttr, List.length_map, List.length_cons, List.length_nil, Int.natCast_zero, AV.p.injEq, PV.int.injEq, PV.bool.injEq, PV.sl.injEq] <;> (try and_intros) <;> (try assumption) <;> (try trivial) <;> (try omega)
    refine awp_tellG ⟨frL [(19, .i x), (20, .pin [.int .i64 s.1, .int .i64 (s.2 : Int)]), (99, .i x), (98, .i la.length), (97, aAc la), (17, aAc la), (14, .ref (h.length + 7) 0 0 1 P.length), (0, aSc P), (7, .ptr (h.length + 1) 0 0)], 171, bH h P b2 [some ⟨0, al.map AV.i⟩]⟩ (fun K hK => ?_) ?_
    · refine awp_seq_k fun K hK => ?_
      repeat' (first | ((first | refine aops_nil ?_ | refine aqops_nil ?_); (try simp only [NB]); ((repeat ((fail_if_success (refine hK _ ?_)); clear hK K)); refine hK _ ?_; clear hK K)) | ((first | refine aops_k fun K1 hK1 => ?_ | refine aqops_k fun K1 hK1 => ?_ | refine awp_cond_k fun A B hA hB => ?_); simp only [S1, simprocAttr, TTSdE, hsd, hatl, ba, sl, s0, hprow, hbg7, bH_len, Int.toNat_natCast, List.length_map, Nat.mul_one, Nat.zero_add]; first | (refine hK1 _ ?_; clear hK1 K1) | ((first | refine hA ?_ | refine hB ?_); clear hA hB A B) | ((first | apply call_a E14 | apply call_q E14); exact hsb; (refine hK1 _ ?_; clear hK1 K1)) | (refine join_x (v := ?_) (fun hg hk9 => ?_) ?_; rotate_left; (focus (try ((try simp only [BN] at hg); simp only [S1, simprocAttr, TTSdE, hsd, hatl, ba, sl, s0, hprow, hbg7, bH_len, Int.toNat_natCast, List.length_map, Nat.mul_one, Nat.zero_add, hg] at hk9 ⊢)); first | exact hk9 | ((first | apply call_a E14 | apply call_q E14); exact hsb; exact hk9)); (refine hK1 _ ?_; clear hK1 K1)) | (((first | (refine ⟨fun hg => hA ?_, fun hg => hB ?_⟩ <;> clear hA hB A B) | refine ⟨fun hg => ?_, fun hg => ?_⟩) <;> (try simp only [BN2] at hg) <;> (try simp only [hg, cond_true, cond_false])) <;> (try (refine hK1 _ ?_; clear hK1 K1)) <;> (try simp only [BN3] at hg))) | (fail) | ((first | refine awp_region ?_ | refine awp_draw (by kernel_rfl) ?_ | refine awp_block ?_ | refine awp_exit ?_ | refine awp_skip ?_ | refine awp_ret ?_); (try simp only [NB, simprocAttr]); (try ((repeat ((fail_if_success (refine hK _ ?_)); clear hK K)); refine hK _ ?_; clear hK K))))
      repeat' (first | ((first | refine aops_nil ?_ | refine aqops_nil ?_); (try simp only [NB]); ((repeat ((fail_if_success (refine hK _ ?_)); clear hK K)); refine hK _ ?_; clear hK K)) | ((first | refine aops_k fun K1 hK1 => ?_ | refine aqops_k fun K1 hK1 => ?_ | refine awp_cond_k fun A B hA hB => ?_); simp only [S1, simprocAttr, TTSdE]; first | (refine hK1 _ ?_; clear hK1 K1) | ((first | refine hA ?_ | refine hB ?_); clear hA hB A B) | (refine join_x (v := ?_) (fun hg hk9 => ?_) ?_; rotate_left; (focus (try ((try simp only [BN] at hg); simp only [S1, simprocAttr, TTSdE, hg] at hk9 ⊢)); first | exact hk9); (refine hK1 _ ?_; clear hK1 K1)) | (((first | (refine ⟨fun hg => hA ?_, fun hg => hB ?_⟩ <;> clear hA hB A B) | refine ⟨fun hg => ?_, fun hg => ?_⟩) <;> (try simp only [BN2] at hg) <;> (try simp only [hg, cond_true, cond_false])) <;> (try (refine hK1 _ ?_; clear hK1 K1)) <;> (try simp only [BN3] at hg))) | (fail) | ((first | refine awp_region ?_ | refine awp_draw (by kernel_rfl) ?_ | refine awp_block ?_ | refine awp_exit ?_ | refine awp_skip ?_ | refine awp_ret ?_); (try simp only [NB, simprocAttr]); (try ((repeat ((fail_if_success (refine hK _ ?_)); clear hK K)); refine hK _ ?_; clear hK K))))
      all_goals refine Sub.ghost (h := h) (L := bW h.length P b2 ++ [some ⟨0, al.map AV.i⟩]) ?_
      all_goals refine ⟨rfl, ⟨[], rfl⟩, ?_, bW_avl (by simp [bW]) ⟨avlts_i _ _, trivial⟩⟩
      all_goals simp only [keeps, avlt, avlts, blksLt, frL, upd_get, bW_len, List.length_append, List.length_cons, List.length_nil, S1, simprocAttr, List.length_map, List.length_cons, List.length_nil, Int.natCast_zero, AV.p.injEq, PV.int.injEq, PV.bool.injEq, PV.sl.injEq] <;> (try and_intros) <;> (try assumption) <;> (try trivial) <;> (try omega)
    have htl : ((la.map eAct).take x).length = x := by rw [List.length_take, List.length_map]; omega
    have xle : x ≤ la.length := by omega
    have hall : (la.map eAct).all (fun r => r.length == 2) = true := eAct_all la
    refine awp_seq_k fun K hK => ?_
    repeat' (first | ((first | refine aops_nil ?_ | refine aqops_nil ?_); (try simp only [NB]); ((repeat ((fail_if_success (refine hK _ ?_)); clear hK K)); refine hK _ ?_; clear hK K)) | ((first | refine aops_k fun K1 hK1 => ?_ | refine aqops_k fun K1 hK1 => ?_ | refine awp_cond_k fun A B hA hB => ?_); simp only [S1, simprocAttr, TTSdE, xl, x0, xle, htl, hall, Nat.zero_le, Nat.sub_zero, Int.toNat_natCast, List.length_map, List.drop_zero]; first | (refine hK1 _ ?_; clear hK1 K1) | ((first | refine hA ?_ | refine hB ?_); clear hA hB A B) | (refine join_x (v := ?_) (fun hg hk9 => ?_) ?_; rotate_left; (focus (try ((try simp only [BN] at hg); simp only [S1, simprocAttr, TTSdE, xl, x0, xle, htl, hall, Nat.zero_le, Nat.sub_zero, Int.toNat_natCast, List.length_map, List.drop_zero, hg] at hk9 ⊢)); first | exact hk9); (refine hK1 _ ?_; clear hK1 K1)) | (((first | (refine ⟨fun hg => hA ?_, fun hg => hB ?_⟩ <;> clear hA hB A B) | refine ⟨fun hg => ?_, fun hg => ?_⟩) <;> (try simp only [BN2] at hg) <;> (try simp only [hg, cond_true, cond_false])) <;> (try (refine hK1 _ ?_; clear hK1 K1)) <;> (try simp only [BN3] at hg))) | (fail) | ((first | refine awp_region ?_ | refine awp_draw (by kernel_rfl) ?_ | refine awp_block ?_ | refine awp_exit ?_ | refine awp_skip ?_ | refine awp_ret ?_); (try simp only [NB, simprocAttr]); (try ((repeat ((fail_if_success (refine hK _ ?_)); clear hK K)); refine hK _ ?_; clear hK K))))
    refine awp_forC x 171 (fun y => [(133, .i y), (132, .i x), (131, .p (.sl ((la.map eAct).take x))), (20, .pin [.int .i64 s.1, .int .i64 (s.2 : Int)]), (99, .i x), (98, .i la.length), (97, aAc la), (17, aAc la), (14, .ref (h.length + 7) 0 0 1 P.length), (0, aSc P), (7, .ptr (h.length + 1) 0 0)])
      (fun y => bW h.length P b2 ++ [some ⟨0, al.map AV.i⟩]) (fun y => True) ?_ trivial fun y hy hp K hK => ?_
    · refine Sub.ghost (h := h) (L := bW h.length P b2 ++ [some ⟨0, al.map AV.i⟩]) ?_
      refine ⟨rfl, ⟨[], rfl⟩, ?_, bW_avl (by simp [bW]) ⟨avlts_i _ _, trivial⟩⟩
      simp only [keeps, avlt, avlts, blksLt, frL, upd_get, bW_len, List.length_append, List.length_cons, List.length_nil, S1, simprocAttr, List.length_map, List.length_cons, List.length_nil, Int.natCast_zero, AV.p.injEq, PV.int.injEq, PV.bool.injEq, PV.sl.injEq] <;> (try and_intros) <;> (try assumption) <;> (try trivial) <;> (try omega)
    rw [bH_is]
    rcases Nat.lt_or_ge y x with hlty | hgey
    · obtain ⟨u, hu1⟩ : ∃ u, la[y]? = some u := ⟨_, List.getElem?_eq_getElem (by omega)⟩
      have yl : (y : Int) < (x : Int) := by omega
      have y0 : (0 : Int) ≤ (y : Int) := by omega
      have hnx := nextJ (n := x) (by omega) hlty
      have hur : ((la.map eAct).take x)[y]? = some [.int .i64 u.1, .int .i64 (u.2 : Int)] := by rw [List.getElem?_take, if_pos hlty, List.getElem?_map, hu1]; rfl
      have hb78 : ∀ (u v : Option Blk), (bH h P b2 [u, v])[h.length + 7]? = some u := fun u v => bH_get7 u [v]
      by_cases w2 : u.1 ≠ 2
      · have bw2 : (u.1 == 2) = false := beq_false_of_ne w2
        repeat' (first | ((first | refine aops_nil ?_ | refine aqops_nil ?_); (try simp only [NB])) | ((repeat ((fail_if_success (refine hK _ ?_)); clear hK K)); refine hK _ ?_; clear hK K) | ((first | refine aops_k fun K1 hK1 => ?_ | refine aqops_k fun K1 hK1 => ?_ | refine awp_cond_k fun A B hA hB => ?_); simp only [S1, simprocAttr, TTSdE, yl, y0, hnx, hur, htl, bw2, hbl8, hb8, hs8, hb78, bH_app, takeC_st, Int.toNat_natCast, List.length_map]; first | (refine hK1 _ ?_; clear hK1 K1) | ((first | refine hA ?_ | refine hB ?_); clear hA hB A B) | (refine join_x (v := ?_) (fun hg hk9 => ?_) ?_; rotate_left; (focus (try ((try simp only [BN] at hg); simp only [S1, simprocAttr, TTSdE, yl, y0, hnx, hur, htl, bw2, hbl8, hb8, hs8, hb78, bH_app, takeC_st, Int.toNat_natCast, List.length_map, hg] at hk9 ⊢)); first | exact hk9); (refine hK1 _ ?_; clear hK1 K1)) | (((first | (refine ⟨fun hg => hA ?_, fun hg => hB ?_⟩ <;> clear hA hB A B) | refine ⟨fun hg => ?_, fun hg => ?_⟩) <;> (try simp only [BN2] at hg) <;> (try simp only [hg, cond_true, cond_false])) <;> (try (refine hK1 _ ?_; clear hK1 K1)) <;> (try simp only [BN3] at hg))) | (refine awp_seq_k fun K hK => ?_) | ((first | refine awp_region ?_ | refine awp_draw (by kernel_rfl) ?_ | refine awp_block ?_ | refine awp_exit ?_ | refine awp_skip ?_ | refine awp_ret ?_); (try simp only [NB, simprocAttr])))
        all_goals refine ⟨hlty, trivial, rfl, ⟨[some ⟨0, [.i u.1, .i (u.2 : Int)]⟩], rfl⟩, ?_, bW_avl (by simp [bW]) ⟨avlts_i _ _, trivial⟩⟩
        all_goals simp only [keeps, avlt, avlts, blksLt, frL, upd_get, bW_len, List.length_append, List.length_cons, List.length_nil, S1, simprocAttr, List.length_map, List.length_cons, List.length_nil, Int.natCast_zero, AV.p.injEq, PV.int.injEq, PV.bool.injEq, PV.sl.injEq] <;> (try and_intros) <;> (try assumption) <;> (try trivial) <;> (try omega)
      have w2 : u.1 = 2 := by omega
      have bw2 : (u.1 == 2) = true := by rw [w2]; rfl
      have hum : u ∈ b2.s.ac := by rw [← hla]; exact List.mem_of_getElem? hu1
      obtain ⟨e1, e2, e3⟩ := hrv.ac4 u hum w2
      have hul := hdlt u.2 e1
      have ul : (u.2 : Int) < (P.length : Int) := by omega
      have u0 : (0 : Int) ≤ (u.2 : Int) := by omega
      have hud := dropSt (hata u.2 e1)
      have hprow2 := parA_row (P := P) hul
      rw [e3] at hprow2
      by_cases c2 : parA P u.2 = parA P s.2
      · have bc2 : (parA P u.2 == parA P s.2) = true := by rw [c2]; exact beq_self_eq_true _
        have hord := hrv.ord
        rw [← hla, List.pairwise_iff_getElem] at hord
        have ho := hord y x (by omega) hlt hlty
        have ey : la[y] = u := (List.getElem?_eq_some_iff.mp hu1).2
        have ex : la[x] = s := (List.getElem?_eq_some_iff.mp hs).2
        rw [ey, ex] at ho
        have ho := ho w2 hw c2
        have nlt : ¬ ((dn.idxOf u.2 : Int) + 1 < (dn.idxOf s.2 : Int) + 1) := by omega
        repeat' (first | ((first | refine aops_nil ?_ | refine aqops_nil ?_); (try simp only [NB])) | ((repeat ((fail_if_success (refine hK _ ?_)); clear hK K)); refine hK _ ?_; clear hK K) | ((first | refine aops_k fun K1 hK1 => ?_ | refine aqops_k fun K1 hK1 => ?_ | refine awp_cond_k fun A B hA hB => ?_); simp only [S1, simprocAttr, TTSdE, yl, y0, hnx, hur, htl, bw2, bc2, nlt, hsd, hud, ul, u0, sl, s0, hprow, hprow2, hatl, hbl8, hb8, hs8, hb78, bH_app, takeC_st, Int.toNat_natCast, List.length_map, Nat.mul_one, Nat.zero_add]; first | (refine hK1 _ ?_; clear hK1 K1) | ((first | refine hA ?_ | refine hB ?_); clear hA hB A B) | (refine join_x (v := ?_) (fun hg hk9 => ?_) ?_; rotate_left; (focus (try ((try simp only [BN] at hg); simp only [S1, simprocAttr, TTSdE, yl, y0, hnx, hur, htl, bw2, bc2, nlt, hsd, hud, ul, u0, sl, s0, hprow, hprow2, hatl, hbl8, hb8, hs8, hb78, bH_app, takeC_st, Int.toNat_natCast, List.length_map, Nat.mul_one, Nat.zero_add, hg] at hk9 ⊢)); first | exact hk9); (refine hK1 _ ?_; clear hK1 K1)) | (((first | (refine ⟨fun hg => hA ?_, fun hg => hB ?_⟩ <;> clear hA hB A B) | refine ⟨fun hg => ?_, fun hg => ?_⟩) <;> (try simp only [BN2] at hg) <;> (try simp only [hg, cond_true, cond_false])) <;> (try (refine hK1 _ ?_; clear hK1 K1)) <;> (try simp only [BN3] at hg))) | (refine awp_seq_k fun K hK => ?_) | ((first | refine awp_region ?_ | refine awp_draw (by kernel_rfl) ?_ | refine awp_block ?_ | refine awp_exit ?_ | refine awp_skip ?_ | refine awp_ret ?_); (try simp only [NB, simprocAttr])))
        all_goals refine ⟨hlty, trivial, rfl, ⟨[some ⟨0, [.i u.1, .i (u.2 : Int)]⟩], rfl⟩, ?_, bW_avl (by simp [bW]) ⟨avlts_i _ _, trivial⟩⟩
        all_goals simp only [keeps, avlt, avlts, blksLt, frL, upd_get, bW_len, List.length_append, List.length_cons, List.length_nil, S1, simprocAttr, List.length_map, List.length_cons, List.length_nil, Int.natCast_zero, AV.p.injEq, PV.int.injEq, PV.bool.injEq, PV.sl.injEq] <;> (try and_intros) <;> (try assumption) <;> (try trivial) <;> (try omega)
      · have bc2 : (parA P u.2 == parA P s.2) = false := beq_false_of_ne c2
        repeat' (first | ((first | refine aops_nil ?_ | refine aqops_nil ?_); (try simp only [NB])) | ((repeat ((fail_if_success (refine hK _ ?_)); clear hK K)); refine hK _ ?_; clear hK K) | ((first | refine aops_k fun K1 hK1 => ?_ | refine aqops_k fun K1 hK1 => ?_ | refine awp_cond_k fun A B hA hB => ?_); simp only [S1, simprocAttr, TTSdE, yl, y0, hnx, hur, htl, bw2, bc2, hsd, hud, ul, u0, sl, s0, hprow, hprow2, hatl, hbl8, hb8, hs8, hb78, bH_app, takeC_st, Int.toNat_natCast, List.length_map, Nat.mul_one, Nat.zero_add]; first | (refine hK1 _ ?_; clear hK1 K1) | ((first | refine hA ?_ | refine hB ?_); clear hA hB A B) | (refine join_x (v := ?_) (fun hg hk9 => ?_) ?_; rotate_left; (focus (try ((try simp only [BN] at hg); simp only [S1, simprocAttr, TTSdE, yl, y0, hnx, hur, htl, bw2, bc2, hsd, hud, ul, u0, sl, s0, hprow, hprow2, hatl, hbl8, hb8, hs8, hb78, bH_app, takeC_st, Int.toNat_natCast, List.length_map, Nat.mul_one, Nat.zero_add, hg] at hk9 ⊢)); first | exact hk9); (refine hK1 _ ?_; clear hK1 K1)) | (((first | (refine ⟨fun hg => hA ?_, fun hg => hB ?_⟩ <;> clear hA hB A B) | refine ⟨fun hg => ?_, fun hg => ?_⟩) <;> (try simp only [BN2] at hg) <;> (try simp only [hg, cond_true, cond_false])) <;> (try (refine hK1 _ ?_; clear hK1 K1)) <;> (try simp only [BN3] at hg))) | (refine awp_seq_k fun K hK => ?_) | ((first | refine awp_region ?_ | refine awp_draw (by kernel_rfl) ?_ | refine awp_block ?_ | refine awp_exit ?_ | refine awp_skip ?_ | refine awp_ret ?_); (try simp only [NB, simprocAttr])))
        all_goals refine ⟨hlty, trivial, rfl, ⟨[some ⟨0, [.i u.1, .i (u.2 : Int)]⟩], rfl⟩, ?_, bW_avl (by simp [bW]) ⟨avlts_i _ _, trivial⟩⟩
        all_goals simp only [keeps, avlt, avlts, blksLt, frL, upd_get, bW_len, List.length_append, List.length_cons, List.length_nil, S1, simprocAttr, List.length_map, List.length_cons, List.length_nil, Int.natCast_zero, AV.p.injEq, PV.int.injEq, PV.bool.injEq, PV.sl.injEq] <;> (try and_intros) <;> (try assumption) <;> (try trivial) <;> (try omega)
    · obtain rfl : x = y := by omega
      repeat' (first | ((first | refine aops_nil ?_ | refine aqops_nil ?_); (try simp only [NB])) | ((repeat ((fail_if_success (refine hK _ ?_)); clear hK K)); refine hK _ ?_; clear hK K) | ((first | refine aops_k fun K1 hK1 => ?_ | refine aqops_k fun K1 hK1 => ?_ | refine awp_cond_k fun A B hA hB => ?_); simp only [S1, simprocAttr, TTSdE, Int.lt_irrefl, nextJ hlan hlt]; first | (refine hK1 _ ?_; clear hK1 K1) | ((first | refine hA ?_ | refine hB ?_); clear hA hB A B) | (refine join_x (v := ?_) (fun hg hk9 => ?_) ?_; rotate_left; (focus (try ((try simp only [BN] at hg); simp only [S1, simprocAttr, TTSdE, Int.lt_irrefl, nextJ hlan hlt, hg] at hk9 ⊢)); first | exact hk9); (refine hK1 _ ?_; clear hK1 K1)) | (((first | (refine ⟨fun hg => hA ?_, fun hg => hB ?_⟩ <;> clear hA hB A B) | refine ⟨fun hg => ?_, fun hg => ?_⟩) <;> (try simp only [BN2] at hg) <;> (try simp only [hg, cond_true, cond_false])) <;> (try (refine hK1 _ ?_; clear hK1 K1)) <;> (try simp only [BN3] at hg))) | (refine awp_seq_k fun K hK => ?_) | ((first | refine awp_region ?_ | refine awp_draw (by kernel_rfl) ?_ | refine awp_block ?_ | refine awp_exit ?_ | refine awp_skip ?_ | refine awp_ret ?_); (try simp only [NB, simprocAttr])))
      all_goals refine ⟨hlt, trivial, rfl, ⟨[], rfl⟩, ?_, bW_avl (by simp [bW]) ⟨avlts_i _ _, trivial⟩⟩
      all_goals simp only [keeps, avlt, avlts, blksLt, frL, upd_get, bW_len, List.length_append, List.length_cons, List.length_nil, S1, simprocAttr, List.length_map, List.length_cons, List.length_nil, Int.natCast_zero, AV.p.injEq, PV.int.injEq, PV.bool.injEq, PV.sl.injEq] <;> (try and_intros) <;> (try assumption) <;> (try trivial) <;> (try omega)
  · obtain rfl : x = la.length := by omega
    repeat' (first | ((first | refine aops_nil ?_ | refine aqops_nil ?_); (try simp only [NB])) | ((repeat ((fail_if_success (refine hK _ ?_)); clear hK K)); refine hK _ ?_; clear hK K) | ((first | refine aops_k fun K1 hK1 => ?_ | refine aqops_k fun K1 hK1 => ?_ | refine awp_cond_k fun A B hA hB => ?_); simp only [S1, simprocAttr, TTSdE, Int.lt_irrefl]; first | (refine hK1 _ ?_; clear hK1 K1) | ((first | refine hA ?_ | refine hB ?_); clear hA hB A B) | ((first | apply call_a E7 | apply call_q E7); exact (hu _); (refine hK1 _ ?_; clear hK1 K1)) | (refine join_x (v := ?_) (fun hg hk9 => ?_) ?_; rotate_left; (focus (try ((try simp only [BN] at hg); simp only [S1, simprocAttr, TTSdE, Int.lt_irrefl, hg] at hk9 ⊢)); first | exact hk9 | ((first | apply call_a E7 | apply call_q E7); exact (hu _); exact hk9)); (refine hK1 _ ?_; clear hK1 K1)) | (((first | (refine ⟨fun hg => hA ?_, fun hg => hB ?_⟩ <;> clear hA hB A B) | refine ⟨fun hg => ?_, fun hg => ?_⟩) <;> (try simp only [BN2] at hg) <;> (try simp only [hg, cond_true, cond_false])) <;> (try (refine hK1 _ ?_; clear hK1 K1)) <;> (try simp only [BN3] at hg))) | (refine awp_seq_k fun K hK => ?_) | ((first | refine awp_region ?_ | refine awp_draw (by kernel_rfl) ?_ | refine awp_block ?_ | refine awp_exit ?_ | refine awp_skip ?_ | refine awp_ret ?_); (try simp only [NB, simprocAttr])))
    all_goals simp only [EndP, FinP, resA, resL, resA1, lastV, lastA, lastAs, pur, purs, take_app, List.take_length, S1, simprocAttr, TTSdE, Nat.le_add_right, Nat.le_refl, bH_takeh, bH_len]
    all_goals simp
end Go.Proofs.Ytkmcecbglomemaa.AM
end

section
set_option linter.unusedVariables false
set_option linter.unusedSimpArgs false
set_option maxRecDepth 4000
set_option maxHeartbeats 4000000
namespace Go.Proofs.Ytkmcecbglomemaa.AM
open Go Go.Proofs
set_option linter.defProp false in
def gK : Nat → Option (List PV) := fun _ => none
theorem gK_pin {W : World} : ∀ g cells, gK g = some cells → PinRel W (fun _ => False) cells g 0 := fun g cells h => by cases h
theorem argk_num {fuel : Nat} {xs : List PV} (h : Ty Try.prog fuel 3 xs) : ∃ n : Int, n ≤ 9223372036854775807 ∧ argA Try.prog 3 xs = .i n := by
  obtain ⟨n, hn, rfl⟩ := ty_int T3 h
  exact ⟨n, hn.2, by rw [argA_at T3]; simp [TI.isAgg]⟩
end Go.Proofs.Ytkmcecbglomemaa.AM
end

section
set_option linter.unusedVariables false
set_option linter.unusedSimpArgs false
set_option maxRecDepth 4000
set_option maxHeartbeats 4000000
namespace Go.Proofs.Ytkmcecbglomemaa.AM
open Go Go.Proofs
set_option linter.defProp false in
theorem argk_step {fuel : Nat} {xs : List PV} (h : Ty Try.prog fuel 35 xs) : ∃ s : Int × Int, xs = eSt s := by
  obtain ⟨m, rows, e, hl, rfl, hf⟩ := ty_struct T35 h
  match rows, hl with
  | [r0, r1], _ =>
    obtain ⟨a, _, rfl⟩ := ty_int T3 (show Ty Try.prog m 3 r0 from hf 0 _ r0 rfl rfl)
    obtain ⟨b, _, rfl⟩ := ty_int T3 (show Ty Try.prog m 3 r1 from hf 1 _ r1 rfl rfl)
    exact ⟨(a, b), rfl⟩
theorem argk_steps {fuel : Nat} {xs : List PV} (h : Ty Try.prog fuel 23 xs) : ∃ l : List (Int × Int), argA Try.prog 23 xs = aSt l := by
  obtain ⟨m, rows, _, rfl, hr⟩ := ty_slice T23 h
  have : ∃ l : List (Int × Int), rows = l.map eSt := by
    clear h
    induction rows with
    | nil => exact ⟨[], rfl⟩
    | cons r rows ih =>
      obtain ⟨s, hs⟩ := argk_step (hr r (by simp))
      obtain ⟨l, hl⟩ := ih fun row h => hr row (by simp [h])
      exact ⟨s :: l, by rw [hs, hl]; rfl⟩
  obtain ⟨l, rfl⟩ := this
  exact ⟨l, by rw [argA_at T23]; simp [TI.isAgg]⟩
theorem argk_scope {fuel : Nat} {xs : List PV} (h : Ty Try.prog fuel 49 xs) : ∃ s : Sc, xs = eSc s := by
  obtain ⟨m, rows, e, hl, rfl, hf⟩ := ty_struct T49 h
  match rows, hl with
  | [r0, r1, r2], _ =>
    obtain ⟨a, _, rfl⟩ := ty_int T3 (show Ty Try.prog m 3 r0 from hf 0 _ r0 rfl rfl)
    obtain ⟨b, rfl⟩ := ty_bool T4 (show Ty Try.prog m 4 r1 from hf 1 _ r1 rfl rfl)
    obtain ⟨c, rfl⟩ := ty_bool T4 (show Ty Try.prog m 4 r2 from hf 2 _ r2 rfl rfl)
    exact ⟨(a, b, c), rfl⟩
theorem argk_scopes {fuel : Nat} {xs : List PV} (h : Ty Try.prog fuel 22 xs) : ∃ P : List Sc, argA Try.prog 22 xs = aSc P := by
  obtain ⟨m, rows, _, rfl, hr⟩ := ty_slice T22 h
  have : ∃ l : List Sc, rows = l.map eSc := by
    clear h
    induction rows with
    | nil => exact ⟨[], rfl⟩
    | cons r rows ih =>
      obtain ⟨s, hs⟩ := argk_scope (hr r (by simp))
      obtain ⟨l, hl⟩ := ih fun row h => hr row (by simp [h])
      exact ⟨s :: l, by rw [hs, hl]; rfl⟩
  obtain ⟨l, rfl⟩ := this
  exact ⟨l, by rw [argA_at T22]; simp [TI.isAgg]⟩
theorem once_given (xss : List (List PV)) (hl : xss.length = [22, 23].length) (ht : ∀ (j : Nat) t xs, [22, 23][j]? = some t → xss[j]? = some xs → ∃ fuel, Ty Try.prog fuel t xs) :
    ACalls Try.prog gK 4 (List.zipWith (argA Try.prog) [22, 23] xss) [] fun r h' => r = .b true ∧ h' = [] := by
  match xss, hl, ht with
  | [x0, x1], _, ht =>
    obtain ⟨_, h0⟩ := ht 0 22 x0 rfl rfl
    obtain ⟨_, h1⟩ := ht 1 23 x1 rfl rfl
    obtain ⟨P, e0⟩ := argk_scopes h0
    obtain ⟨l, e1⟩ := argk_steps h1
    simp only [List.zipWith_cons_cons, List.zipWith_nil_left, e0, e1]
    exact once_calls P l []
theorem catches_given (xss : List (List PV)) (hl : xss.length = [22, 23, 3].length) (ht : ∀ (j : Nat) t xs, [22, 23, 3][j]? = some t → xss[j]? = some xs → ∃ fuel, Ty Try.prog fuel t xs) :
    ACalls Try.prog gK 3 (List.zipWith (argA Try.prog) [22, 23, 3] xss) [] fun r h' => r = .b true ∧ h' = [] := by
  match xss, hl, ht with
  | [x0, x1, x2], _, ht =>
    obtain ⟨_, h0⟩ := ht 0 22 x0 rfl rfl
    obtain ⟨_, h1⟩ := ht 1 23 x1 rfl rfl
    obtain ⟨_, h2⟩ := ht 2 3 x2 rfl rfl
    obtain ⟨P, e0⟩ := argk_scopes h0
    obtain ⟨l, e1⟩ := argk_steps h1
    obtain ⟨n, _, e2⟩ := argk_num h2
    simp only [List.zipWith_cons_cons, List.zipWith_nil_left, e0, e1, e2]
    exact catches_calls P l n []
theorem reverse_given (xss : List (List PV)) (hl : xss.length = [22, 23, 3].length) (ht : ∀ (j : Nat) t xs, [22, 23, 3][j]? = some t → xss[j]? = some xs → ∃ fuel, Ty Try.prog fuel t xs) :
    ACalls Try.prog gK 5 (List.zipWith (argA Try.prog) [22, 23, 3] xss) [] fun r h' => r = .b true ∧ h' = [] := by
  match xss, hl, ht with
  | [x0, x1, x2], _, ht =>
    obtain ⟨_, h0⟩ := ht 0 22 x0 rfl rfl
    obtain ⟨_, h1⟩ := ht 1 23 x1 rfl rfl
    obtain ⟨_, h2⟩ := ht 2 3 x2 rfl rfl
    obtain ⟨P, e0⟩ := argk_scopes h0
    obtain ⟨l, e1⟩ := argk_steps h1
    obtain ⟨n, _, e2⟩ := argk_num h2
    simp only [List.zipWith_cons_cons, List.zipWith_nil_left, e0, e1, e2]
    exact revl_calls P l n []
end Go.Proofs.Ytkmcecbglomemaa.AM
end
