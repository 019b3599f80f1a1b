/- Proved here, in parts, for one law: Contracts: lists of flows. Contracts: the flows that lead to a node. Contracts: tokens less those of a list; whether there are enough. Contracts: the document's flows that lead to a node, and from it. Contracts: the program's flows that lead to a node, and from it. Contracts: the first node of a kind. Plain: what is led to, round by round and breadth first. Contracts: rule 2 of a flow (both). Contracts: the document's rule 3 of a node. Contracts: what is led to, round by round. Contracts: the program's rule 2 of a flow. Contracts: what is met, breadth first. Conditions: none. -/
import Derived.Test.YtlophgkgmhcagaaDoorZAllB

section
set_option linter.unusedVariables false
set_option linter.unusedSimpArgs false
set_option maxRecDepth 4000
set_option maxHeartbeats 4000000
namespace Go.Proofs.YtlophgkgmhcagaaDoor.AM
open Go Go.Proofs
attribute [local irreducible] awp aops aqops aeops
variable {G : Nat → Option (List PV)}

def eI (n : Int) : List PV := [.int .i64 n]
abbrev aI (l : List Int) : AV := .p (.sl (l.map eI))

theorem rowI {l : List Int} {i : Nat} {k : Int} (h : l[i]? = some k) : (l.map eI)[i]? = some [.int .i64 k] := by simp [h, eI]
theorem hitI {l : List Int} {i : Nat} (h : i < l.length) : decide ((i : Int) < (l.length : Int)) = true := by simp; omega
theorem endI {l : List Int} : decide ((l.length : Int) < (l.length : Int)) = false := by simp
theorem nextI {l : List Int} {i : Nat} (hk : l.length ≤ 200) (h : i < l.length) : IntKind.i64.wrap ((i : Int) + 1) = ((i + 1 : Nat) : Int) := by rw [IntWalk.i64_in _ (by omega)]; omega
theorem allI_take {f : Int → Bool} {l : List Int} {i : Nat} {k : Int} (hk : l[i]? = some k) (h : (l.take i).all f = true) (hf : f k = true) : (l.take (i + 1)).all f = true := by
  rw [List.take_add_one, hk]; simp only [List.all_append, h, Option.toList_some, List.all_cons, hf, List.all_nil, Bool.and_self]
theorem allI_no {f : Int → Bool} {l : List Int} {k : Int} (hk : k ∈ l) (hf : f k = false) : l.all f = false := by
  cases h : l.all f with
  | false => rfl
  | true => rw [List.all_eq_true.mp h k hk] at hf; cases hf

theorem flow_calls (f : Int) (h : Heap) : ACalls Tryd.prog G 28 [.i f] h (fun r h' => r = .b (flowB f) ∧ h' = h) := by
  refine acalls_pure (rl := []) mixed Tryd.func28 rfl (rs := [.tmp 2]) rfl Tryd.ntmps28 (by simp) ?_
  repeat' (first | ((first | refine aops_nil ?_ | refine aqops_nil ?_); (try simp only [NB])) | ((repeat ((fail_if_success (refine hK _ ?_)); clear hK K)); refine hK _ ?_; clear hK K) | ((first | refine aops_k fun K1 hK1 => ?_ | refine aqops_k fun K1 hK1 => ?_ | refine awp_cond_k fun A B hA hB => ?_); simp only [S1, simprocAttr, T2, T3, T4, T35]; first | (refine hK1 _ ?_; clear hK1 K1) | ((first | refine hA ?_ | refine hB ?_); clear hA hB A B) | (refine join_x (v := ?_) (fun hg hk9 => ?_) ?_; rotate_left; (focus (try ((try simp only [BN] at hg); simp only [S1, simprocAttr, T2, T3, T4, T35, hg] at hk9 ⊢)); first | exact hk9); (refine hK1 _ ?_; clear hK1 K1)) | (((first | (refine ⟨fun hg => hA ?_, fun hg => hB ?_⟩ <;> clear hA hB A B) | refine ⟨fun hg => ?_, fun hg => ?_⟩) <;> (try simp only [BN2] at hg) <;> (try simp only [hg, cond_true, cond_false])) <;> (try (refine hK1 _ ?_; clear hK1 K1)) <;> (try simp only [BN3] at hg))) | (refine awp_seq_k fun K hK => ?_) | ((first | refine awp_region ?_ | refine awp_draw (by kernel_rfl) ?_ | refine awp_block ?_ | refine awp_exit ?_ | refine awp_skip ?_ | refine awp_ret ?_); (try simp only [NB, simprocAttr])))
  all_goals simp only [EndP, FinP, resA, resL, resA1, lastV, lastA, lastAs, pur, purs, take_app, List.take_length, S1, simprocAttr, T2, T3, T4, T35, Nat.le_add_right, Nat.le_refl]
  all_goals (simp only [flowB, AV.p.injEq, PV.bool.injEq]; rw [Bool.eq_iff_iff]; simp; omega)

theorem in_calls (l : List Int) (hl : l.length ≤ 200) (h : Heap) : ACalls Tryd.prog G 30 [aI l] h (fun r h' => r = .b (inF l) ∧ h' = h) := by
  refine acalls_pure (rl := []) mixed Tryd.func30 rfl (rs := [.tmp 2]) rfl Tryd.ntmps30 (by simp) ?_
  refine awp_seq_k fun K hK => ?_
  repeat' (first | ((first | refine aops_nil ?_ | refine aqops_nil ?_); (try simp only [NB]); ((repeat ((fail_if_success (refine hK _ ?_)); clear hK K)); refine hK _ ?_; clear hK K)) | ((first | refine aops_k fun K1 hK1 => ?_ | refine aqops_k fun K1 hK1 => ?_ | refine awp_cond_k fun A B hA hB => ?_); simp only [S1, simprocAttr, T2, T3, T4, T35]; first | (refine hK1 _ ?_; clear hK1 K1) | ((first | refine hA ?_ | refine hB ?_); clear hA hB A B) | (refine join_x (v := ?_) (fun hg hk9 => ?_) ?_; rotate_left; (focus (try ((try simp only [BN] at hg); simp only [S1, simprocAttr, T2, T3, T4, T35, hg] at hk9 ⊢)); first | exact hk9); (refine hK1 _ ?_; clear hK1 K1)) | (((first | (refine ⟨fun hg => hA ?_, fun hg => hB ?_⟩ <;> clear hA hB A B) | refine ⟨fun hg => ?_, fun hg => ?_⟩) <;> (try simp only [BN2] at hg) <;> (try simp only [hg, cond_true, cond_false])) <;> (try (refine hK1 _ ?_; clear hK1 K1)) <;> (try simp only [BN3] at hg))) | (fail) | ((first | refine awp_region ?_ | refine awp_draw (by kernel_rfl) ?_ | refine awp_block ?_ | refine awp_exit ?_ | refine awp_skip ?_ | refine awp_ret ?_); (try simp only [NB, simprocAttr]); (try ((repeat ((fail_if_success (refine hK _ ?_)); clear hK K)); refine hK _ ?_; clear hK K))))
  refine awp_seq_k fun K hK => ?_
  repeat' (first | ((first | refine aops_nil ?_ | refine aqops_nil ?_); (try simp only [NB])) | ((repeat ((fail_if_success (refine hK _ ?_)); clear hK K)); refine hK _ ?_; clear hK K) | ((first | refine aops_k fun K1 hK1 => ?_ | refine aqops_k fun K1 hK1 => ?_ | refine awp_cond_k fun A B hA hB => ?_); simp only [S1, simprocAttr, T2, T3, T4, T35, List.length_map]; first | (refine hK1 _ ?_; clear hK1 K1) | ((first | refine hA ?_ | refine hB ?_); clear hA hB A B) | (refine join_x (v := ?_) (fun hg hk9 => ?_) ?_; rotate_left; (focus (try ((try simp only [BN] at hg); simp only [S1, simprocAttr, T2, T3, T4, T35, List.length_map, hg] at hk9 ⊢)); first | exact hk9); (refine hK1 _ ?_; clear hK1 K1)) | (((first | (refine ⟨fun hg => hA ?_, fun hg => hB ?_⟩ <;> clear hA hB A B) | refine ⟨fun hg => ?_, fun hg => ?_⟩) <;> (try simp only [BN2] at hg) <;> (try simp only [hg, cond_true, cond_false])) <;> (try (refine hK1 _ ?_; clear hK1 K1)) <;> (try simp only [BN3] at hg))) | (refine awp_seq_k fun K hK => ?_) | ((first | refine awp_region ?_ | refine awp_draw (by kernel_rfl) ?_ | refine awp_block ?_ | refine awp_exit ?_ | refine awp_skip ?_ | refine awp_ret ?_); (try simp only [NB, simprocAttr])))
  refine awp_for l.length 18 (fun i => [(7, .i i), (6, .i l.length), (5, aI l)]) (fun i => []) (fun i => (l.take i).all flowB = true) ?_ rfl fun i hi hp K hK => ?_
  · (refine ⟨rfl, (by first | exact ⟨_, rfl⟩ | exact ⟨[], by simp⟩), ?_, ?_⟩ <;> simp only [keeps, avlt, avlts, blksLt, frL, upd_get, S1, simprocAttr, List.length_map, Int.natCast_zero, AV.p.injEq, PV.int.injEq, PV.bool.injEq, PV.sl.injEq] <;> (try and_intros) <;> (try assumption) <;> (try trivial) <;> (try omega))
  rcases Nat.lt_or_ge i l.length with hlt | hge
  · obtain ⟨k, hx⟩ : ∃ k, l[i]? = some k := ⟨_, List.getElem?_eq_getElem hlt⟩
    have hm := List.mem_of_getElem? hx
    cases hf : flowB k with
    | true =>
      have f1 : (decide (k < 0) || decide (39 < k)) = false := by simp [flowB] at hf ⊢; omega
      repeat' (first | ((first | refine aops_nil ?_ | refine aqops_nil ?_); (try simp only [NB])) | ((repeat ((fail_if_success (refine hK _ ?_)); clear hK K)); refine hK _ ?_; clear hK K) | ((first | refine aops_k fun K1 hK1 => ?_ | refine aqops_k fun K1 hK1 => ?_ | refine awp_cond_k fun A B hA hB => ?_); simp only [S1, simprocAttr, T2, T3, T4, T35, rowI hx, hitI hlt, nextI hl hlt, f1]; first | (refine hK1 _ ?_; clear hK1 K1) | ((first | refine hA ?_ | refine hB ?_); clear hA hB A B) | (refine join_x (v := ?_) (fun hg hk9 => ?_) ?_; rotate_left; (focus (try ((try simp only [BN] at hg); simp only [S1, simprocAttr, T2, T3, T4, T35, rowI hx, hitI hlt, nextI hl hlt, f1, hg] at hk9 ⊢)); first | exact hk9); (refine hK1 _ ?_; clear hK1 K1)) | (((first | (refine ⟨fun hg => hA ?_, fun hg => hB ?_⟩ <;> clear hA hB A B) | refine ⟨fun hg => ?_, fun hg => ?_⟩) <;> (try simp only [BN2] at hg) <;> (try simp only [hg, cond_true, cond_false])) <;> (try (refine hK1 _ ?_; clear hK1 K1)) <;> (try simp only [BN3] at hg))) | (refine awp_seq_k fun K hK => ?_) | ((first | refine awp_region ?_ | refine awp_draw (by kernel_rfl) ?_ | refine awp_block ?_ | refine awp_exit ?_ | refine awp_skip ?_ | refine awp_ret ?_); (try simp only [NB, simprocAttr])))
      all_goals exact ⟨hlt, allI_take hx hp hf, by (refine ⟨rfl, (by first | exact ⟨_, rfl⟩ | exact ⟨[], by simp⟩), ?_, ?_⟩ <;> simp only [keeps, avlt, avlts, blksLt, frL, upd_get, S1, simprocAttr, List.length_map, Int.natCast_zero, AV.p.injEq, PV.int.injEq, PV.bool.injEq, PV.sl.injEq] <;> (try and_intros) <;> (try assumption) <;> (try trivial) <;> (try omega))⟩
    | false =>
      have f1 : (decide (k < 0) || decide (39 < k)) = true := by
        rw [Bool.eq_false_iff] at hf
        simp [flowB] at hf ⊢; omega
      repeat' (first | ((first | refine aops_nil ?_ | refine aqops_nil ?_); (try simp only [NB])) | ((repeat ((fail_if_success (refine hK _ ?_)); clear hK K)); refine hK _ ?_; clear hK K) | ((first | refine aops_k fun K1 hK1 => ?_ | refine aqops_k fun K1 hK1 => ?_ | refine awp_cond_k fun A B hA hB => ?_); simp only [S1, simprocAttr, T2, T3, T4, T35, rowI hx, hitI hlt, nextI hl hlt, f1]; first | (refine hK1 _ ?_; clear hK1 K1) | ((first | refine hA ?_ | refine hB ?_); clear hA hB A B) | (refine join_x (v := ?_) (fun hg hk9 => ?_) ?_; rotate_left; (focus (try ((try simp only [BN] at hg); simp only [S1, simprocAttr, T2, T3, T4, T35, rowI hx, hitI hlt, nextI hl hlt, f1, hg] at hk9 ⊢)); first | exact hk9); (refine hK1 _ ?_; clear hK1 K1)) | (((first | (refine ⟨fun hg => hA ?_, fun hg => hB ?_⟩ <;> clear hA hB A B) | refine ⟨fun hg => ?_, fun hg => ?_⟩) <;> (try simp only [BN2] at hg) <;> (try simp only [hg, cond_true, cond_false])) <;> (try (refine hK1 _ ?_; clear hK1 K1)) <;> (try simp only [BN3] at hg))) | (refine awp_seq_k fun K hK => ?_) | ((first | refine awp_region ?_ | refine awp_draw (by kernel_rfl) ?_ | refine awp_block ?_ | refine awp_exit ?_ | refine awp_skip ?_ | refine awp_ret ?_); (try simp only [NB, simprocAttr])))
      all_goals simp only [EndP, FinP, resA, resL, resA1, lastV, lastA, lastAs, pur, purs, take_app, List.take_length, S1, simprocAttr, T2, T3, T4, T35, Nat.le_add_right, Nat.le_refl]
      all_goals (unfold inF; rw [allI_no hm hf])
  · obtain rfl : i = l.length := by omega
    repeat' (first | ((first | refine aops_nil ?_ | refine aqops_nil ?_); (try simp only [NB])) | ((repeat ((fail_if_success (refine hK _ ?_)); clear hK K)); refine hK _ ?_; clear hK K) | ((first | refine aops_k fun K1 hK1 => ?_ | refine aqops_k fun K1 hK1 => ?_ | refine awp_cond_k fun A B hA hB => ?_); simp only [S1, simprocAttr, T2, T3, T4, T35, endI]; first | (refine hK1 _ ?_; clear hK1 K1) | ((first | refine hA ?_ | refine hB ?_); clear hA hB A B) | (refine join_x (v := ?_) (fun hg hk9 => ?_) ?_; rotate_left; (focus (try ((try simp only [BN] at hg); simp only [S1, simprocAttr, T2, T3, T4, T35, endI, hg] at hk9 ⊢)); first | exact hk9); (refine hK1 _ ?_; clear hK1 K1)) | (((first | (refine ⟨fun hg => hA ?_, fun hg => hB ?_⟩ <;> clear hA hB A B) | refine ⟨fun hg => ?_, fun hg => ?_⟩) <;> (try simp only [BN2] at hg) <;> (try simp only [hg, cond_true, cond_false])) <;> (try (refine hK1 _ ?_; clear hK1 K1)) <;> (try simp only [BN3] at hg))) | (refine awp_seq_k fun K hK => ?_) | ((first | refine awp_region ?_ | refine awp_draw (by kernel_rfl) ?_ | refine awp_block ?_ | refine awp_exit ?_ | refine awp_skip ?_ | refine awp_ret ?_); (try simp only [NB, simprocAttr])))
    simp only [EndP, FinP, resA, resL, resA1, lastV, lastA, lastAs, pur, purs, take_app, List.take_length, S1, simprocAttr, T2, T3, T4, T35, Nat.le_add_right, Nat.le_refl]
    rw [List.take_length] at hp
    unfold inF; rw [hp]

theorem cnt_take {l : List Int} {i : Nat} {k : Int} (hx : l[i]? = some k) (f : Int) : cnt (l.take (i + 1)) f = cnt (l.take i) f + if k = f then 1 else 0 := by
  rw [List.take_add_one, hx, Option.toList_some, cnt_app, cnt_one]

theorem times_calls (l : List Int) (hl : l.length ≤ 200) (f : Int) (h : Heap) : ACalls Tryd.prog G 31 [aI l, .i f] h (fun r h' => r = .i (cnt l f) ∧ h' = h) := by
  refine acalls_pure (rl := []) mixed Tryd.func31 rfl (rs := [.tmp 4]) rfl Tryd.ntmps31 (by simp) ?_
  refine awp_seq_k fun K hK => ?_
  repeat' (first | ((first | refine aops_nil ?_ | refine aqops_nil ?_); (try simp only [NB]); ((repeat ((fail_if_success (refine hK _ ?_)); clear hK K)); refine hK _ ?_; clear hK K)) | ((first | refine aops_k fun K1 hK1 => ?_ | refine aqops_k fun K1 hK1 => ?_ | refine awp_cond_k fun A B hA hB => ?_); simp only [S1, simprocAttr, T2, T3, T4, T35]; first | (refine hK1 _ ?_; clear hK1 K1) | ((first | refine hA ?_ | refine hB ?_); clear hA hB A B) | (refine join_x (v := ?_) (fun hg hk9 => ?_) ?_; rotate_left; (focus (try ((try simp only [BN] at hg); simp only [S1, simprocAttr, T2, T3, T4, T35, hg] at hk9 ⊢)); first | exact hk9); (refine hK1 _ ?_; clear hK1 K1)) | (((first | (refine ⟨fun hg => hA ?_, fun hg => hB ?_⟩ <;> clear hA hB A B) | refine ⟨fun hg => ?_, fun hg => ?_⟩) <;> (try simp only [BN2] at hg) <;> (try simp only [hg, cond_true, cond_false])) <;> (try (refine hK1 _ ?_; clear hK1 K1)) <;> (try simp only [BN3] at hg))) | (fail) | ((first | refine awp_region ?_ | refine awp_draw (by kernel_rfl) ?_ | refine awp_block ?_ | refine awp_exit ?_ | refine awp_skip ?_ | refine awp_ret ?_); (try simp only [NB, simprocAttr]); (try ((repeat ((fail_if_success (refine hK _ ?_)); clear hK K)); refine hK _ ?_; clear hK K))))
  refine awp_seq_k fun K hK => ?_
  repeat' (first | ((first | refine aops_nil ?_ | refine aqops_nil ?_); (try simp only [NB]); ((repeat ((fail_if_success (refine hK _ ?_)); clear hK K)); refine hK _ ?_; clear hK K)) | ((first | refine aops_k fun K1 hK1 => ?_ | refine aqops_k fun K1 hK1 => ?_ | refine awp_cond_k fun A B hA hB => ?_); simp only [S1, simprocAttr, T2, T3, T4, T35]; first | (refine hK1 _ ?_; clear hK1 K1) | ((first | refine hA ?_ | refine hB ?_); clear hA hB A B) | (refine join_x (v := ?_) (fun hg hk9 => ?_) ?_; rotate_left; (focus (try ((try simp only [BN] at hg); simp only [S1, simprocAttr, T2, T3, T4, T35, hg] at hk9 ⊢)); first | exact hk9); (refine hK1 _ ?_; clear hK1 K1)) | (((first | (refine ⟨fun hg => hA ?_, fun hg => hB ?_⟩ <;> clear hA hB A B) | refine ⟨fun hg => ?_, fun hg => ?_⟩) <;> (try simp only [BN2] at hg) <;> (try simp only [hg, cond_true, cond_false])) <;> (try (refine hK1 _ ?_; clear hK1 K1)) <;> (try simp only [BN3] at hg))) | (fail) | ((first | refine awp_region ?_ | refine awp_draw (by kernel_rfl) ?_ | refine awp_block ?_ | refine awp_exit ?_ | refine awp_skip ?_ | refine awp_ret ?_); (try simp only [NB, simprocAttr]); (try ((repeat ((fail_if_success (refine hK _ ?_)); clear hK K)); refine hK _ ?_; clear hK K))))
  refine awp_seq_k fun K hK => ?_
  repeat' (first | ((first | refine aops_nil ?_ | refine aqops_nil ?_); (try simp only [NB])) | ((repeat ((fail_if_success (refine hK _ ?_)); clear hK K)); refine hK _ ?_; clear hK K) | ((first | refine aops_k fun K1 hK1 => ?_ | refine aqops_k fun K1 hK1 => ?_ | refine awp_cond_k fun A B hA hB => ?_); simp only [S1, simprocAttr, T2, T3, T4, T35, List.length_map]; first | (refine hK1 _ ?_; clear hK1 K1) | ((first | refine hA ?_ | refine hB ?_); clear hA hB A B) | (refine join_x (v := ?_) (fun hg hk9 => ?_) ?_; rotate_left; (focus (try ((try simp only [BN] at hg); simp only [S1, simprocAttr, T2, T3, T4, T35, List.length_map, hg] at hk9 ⊢)); first | exact hk9); (refine hK1 _ ?_; clear hK1 K1)) | (((first | (refine ⟨fun hg => hA ?_, fun hg => hB ?_⟩ <;> clear hA hB A B) | refine ⟨fun hg => ?_, fun hg => ?_⟩) <;> (try simp only [BN2] at hg) <;> (try simp only [hg, cond_true, cond_false])) <;> (try (refine hK1 _ ?_; clear hK1 K1)) <;> (try simp only [BN3] at hg))) | (refine awp_seq_k fun K hK => ?_) | ((first | refine awp_region ?_ | refine awp_draw (by kernel_rfl) ?_ | refine awp_block ?_ | refine awp_exit ?_ | refine awp_skip ?_ | refine awp_ret ?_); (try simp only [NB, simprocAttr])))
  refine awp_for l.length 21 (fun i => [(10, .i i), (9, .i l.length), (8, aI l), (5, .i (cnt (l.take i) f)), (1, .i f)]) (fun i => []) (fun i => True) ?_ trivial fun i hi hp K hK => ?_
  · (refine ⟨rfl, (by first | exact ⟨_, rfl⟩ | exact ⟨[], by simp⟩), ?_, ?_⟩ <;> simp only [keeps, avlt, avlts, blksLt, frL, upd_get, S1, simprocAttr, List.length_map, Int.natCast_zero, AV.p.injEq, PV.int.injEq, PV.bool.injEq, PV.sl.injEq] <;> (try and_intros) <;> (try assumption) <;> (try trivial) <;> (try omega))
  rcases Nat.lt_or_ge i l.length with hlt | hge
  · obtain ⟨k, hx⟩ : ∃ k, l[i]? = some k := ⟨_, List.getElem?_eq_getElem hlt⟩
    have hc := cnt_take hx f
    have hle := cnt_le (l.take i) f
    have hlen : (l.take i).length ≤ l.length := by rw [List.length_take]; omega
    have hn := cnt_nonneg (l.take i) f
    have hw : IntKind.i64.wrap (cnt (l.take i) f + 1) = cnt (l.take i) f + 1 := IntWalk.i64_in _ (by omega)
    by_cases e : k = f
    · rw [if_pos e] at hc
      have f1 : (k == f) = true := by simp [e]
      repeat' (first | ((first | refine aops_nil ?_ | refine aqops_nil ?_); (try simp only [NB])) | ((repeat ((fail_if_success (refine hK _ ?_)); clear hK K)); refine hK _ ?_; clear hK K) | ((first | refine aops_k fun K1 hK1 => ?_ | refine aqops_k fun K1 hK1 => ?_ | refine awp_cond_k fun A B hA hB => ?_); simp only [S1, simprocAttr, T2, T3, T4, T35, rowI hx, hitI hlt, nextI hl hlt, f1, hw]; first | (refine hK1 _ ?_; clear hK1 K1) | ((first | refine hA ?_ | refine hB ?_); clear hA hB A B) | (refine join_x (v := ?_) (fun hg hk9 => ?_) ?_; rotate_left; (focus (try ((try simp only [BN] at hg); simp only [S1, simprocAttr, T2, T3, T4, T35, rowI hx, hitI hlt, nextI hl hlt, f1, hw, hg] at hk9 ⊢)); first | exact hk9); (refine hK1 _ ?_; clear hK1 K1)) | (((first | (refine ⟨fun hg => hA ?_, fun hg => hB ?_⟩ <;> clear hA hB A B) | refine ⟨fun hg => ?_, fun hg => ?_⟩) <;> (try simp only [BN2] at hg) <;> (try simp only [hg, cond_true, cond_false])) <;> (try (refine hK1 _ ?_; clear hK1 K1)) <;> (try simp only [BN3] at hg))) | (refine awp_seq_k fun K hK => ?_) | ((first | refine awp_region ?_ | refine awp_draw (by kernel_rfl) ?_ | refine awp_block ?_ | refine awp_exit ?_ | refine awp_skip ?_ | refine awp_ret ?_); (try simp only [NB, simprocAttr])))
      all_goals exact ⟨hlt, trivial, by rw [hc]; (refine ⟨rfl, (by first | exact ⟨_, rfl⟩ | exact ⟨[], by simp⟩), ?_, ?_⟩ <;> simp only [keeps, avlt, avlts, blksLt, frL, upd_get, S1, simprocAttr, List.length_map, Int.natCast_zero, AV.p.injEq, PV.int.injEq, PV.bool.injEq, PV.sl.injEq] <;> (try and_intros) <;> (try assumption) <;> (try trivial) <;> (try omega))⟩
    · rw [if_neg e, Int.add_zero] at hc
      have f1 : (k == f) = false := by simp [e]
      repeat' (first | ((first | refine aops_nil ?_ | refine aqops_nil ?_); (try simp only [NB])) | ((repeat ((fail_if_success (refine hK _ ?_)); clear hK K)); refine hK _ ?_; clear hK K) | ((first | refine aops_k fun K1 hK1 => ?_ | refine aqops_k fun K1 hK1 => ?_ | refine awp_cond_k fun A B hA hB => ?_); simp only [S1, simprocAttr, T2, T3, T4, T35, rowI hx, hitI hlt, nextI hl hlt, f1]; first | (refine hK1 _ ?_; clear hK1 K1) | ((first | refine hA ?_ | refine hB ?_); clear hA hB A B) | (refine join_x (v := ?_) (fun hg hk9 => ?_) ?_; rotate_left; (focus (try ((try simp only [BN] at hg); simp only [S1, simprocAttr, T2, T3, T4, T35, rowI hx, hitI hlt, nextI hl hlt, f1, hg] at hk9 ⊢)); first | exact hk9); (refine hK1 _ ?_; clear hK1 K1)) | (((first | (refine ⟨fun hg => hA ?_, fun hg => hB ?_⟩ <;> clear hA hB A B) | refine ⟨fun hg => ?_, fun hg => ?_⟩) <;> (try simp only [BN2] at hg) <;> (try simp only [hg, cond_true, cond_false])) <;> (try (refine hK1 _ ?_; clear hK1 K1)) <;> (try simp only [BN3] at hg))) | (refine awp_seq_k fun K hK => ?_) | ((first | refine awp_region ?_ | refine awp_draw (by kernel_rfl) ?_ | refine awp_block ?_ | refine awp_exit ?_ | refine awp_skip ?_ | refine awp_ret ?_); (try simp only [NB, simprocAttr])))
      all_goals exact ⟨hlt, trivial, by rw [hc]; (refine ⟨rfl, (by first | exact ⟨_, rfl⟩ | exact ⟨[], by simp⟩), ?_, ?_⟩ <;> simp only [keeps, avlt, avlts, blksLt, frL, upd_get, S1, simprocAttr, List.length_map, Int.natCast_zero, AV.p.injEq, PV.int.injEq, PV.bool.injEq, PV.sl.injEq] <;> (try and_intros) <;> (try assumption) <;> (try trivial) <;> (try omega))⟩
  · obtain rfl : i = l.length := by omega
    repeat' (first | ((first | refine aops_nil ?_ | refine aqops_nil ?_); (try simp only [NB])) | ((repeat ((fail_if_success (refine hK _ ?_)); clear hK K)); refine hK _ ?_; clear hK K) | ((first | refine aops_k fun K1 hK1 => ?_ | refine aqops_k fun K1 hK1 => ?_ | refine awp_cond_k fun A B hA hB => ?_); simp only [S1, simprocAttr, T2, T3, T4, T35, endI]; first | (refine hK1 _ ?_; clear hK1 K1) | ((first | refine hA ?_ | refine hB ?_); clear hA hB A B) | (refine join_x (v := ?_) (fun hg hk9 => ?_) ?_; rotate_left; (focus (try ((try simp only [BN] at hg); simp only [S1, simprocAttr, T2, T3, T4, T35, endI, hg] at hk9 ⊢)); first | exact hk9); (refine hK1 _ ?_; clear hK1 K1)) | (((first | (refine ⟨fun hg => hA ?_, fun hg => hB ?_⟩ <;> clear hA hB A B) | refine ⟨fun hg => ?_, fun hg => ?_⟩) <;> (try simp only [BN2] at hg) <;> (try simp only [hg, cond_true, cond_false])) <;> (try (refine hK1 _ ?_; clear hK1 K1)) <;> (try simp only [BN3] at hg))) | (refine awp_seq_k fun K hK => ?_) | ((first | refine awp_region ?_ | refine awp_draw (by kernel_rfl) ?_ | refine awp_block ?_ | refine awp_exit ?_ | refine awp_skip ?_ | refine awp_ret ?_); (try simp only [NB, simprocAttr])))
    simp only [EndP, FinP, resA, resL, resA1, lastV, lastA, lastAs, pur, purs, take_app, List.take_length, S1, simprocAttr, T2, T3, T4, T35, Nat.le_add_right, Nat.le_refl]
    all_goals rw [List.take_length]
end Go.Proofs.YtlophgkgmhcagaaDoor.AM
end

section
set_option linter.unusedVariables false
set_option linter.unusedSimpArgs false
set_option maxRecDepth 4000
set_option maxHeartbeats 4000000
namespace Go.Proofs.YtlophgkgmhcagaaDoor.AM
open Go Go.Proofs
attribute [local irreducible] awp aops aqops aeops arun
variable {G : Nat → Option (List PV)}

structure Fl where
  src : Int
  dst : Int
  els : Bool
  cond : Tm

def eF (f : Fl) : List PV := [.int .i64 f.src, .int .i64 f.dst, .bool f.els, .int .i64 f.cond.op, .int .i64 f.cond.n, .sl (f.cond.kids.map eT)]

theorem rowF {l : List Fl} {i : Nat} {k : Fl} (h : l[i]? = some k) : (l.map eF)[i]? = some (eF k) := by simp [h]
theorem hitF {l : List Fl} {i : Nat} (h : i < l.length) : decide ((i : Int) < (l.length : Int)) = true := by simp; omega
theorem endF {l : List Fl} : decide ((l.length : Int) < (l.length : Int)) = false := by simp
theorem nextF {l : List Fl} {i : Nat} (hk : l.length ≤ 100) (h : i < l.length) : IntKind.i64.wrap ((i : Int) + 1) = ((i + 1 : Nat) : Int) := by rw [IntWalk.i64_in _ (by omega)]; omega

/-- The numbers of those among the first j flows that are asked for. -/
def pickF (q : Fl → Bool) (l : List Fl) : Nat → List Int
  | 0 => []
  | j + 1 => match l[j]? with
    | some f => if q f then pickF q l j ++ [(j : Int)] else pickF q l j
    | none => pickF q l j

def insN (l : List Fl) (i : Int) : List Int := pickF (fun f => f.dst == i) l l.length
def outsN (l : List Fl) (i : Int) : List Int := pickF (fun f => f.src == i) l l.length

theorem pickF_le (q : Fl → Bool) (l : List Fl) : ∀ j, (pickF q l j).length ≤ j
  | 0 => Nat.le_refl _
  | j + 1 => by
    unfold pickF
    have := pickF_le q l j
    split
    · split
      · rw [List.length_append]; simp; omega
      · omega
    · omega

section
variable {P : Program} {rl : List String} {h : Heap}
theorem awp_forG {c : Code} {Q : Exit → St → Prop} {s : St} (N nt : Nat) (l : Nat → List (Nat × AV)) (L : Nat → List (Option Blk)) (p : Nat → Prop) (hi : Ghost P G h s ⟨frL (l 0), nt, h ++ L 0⟩) (hp : p 0)
    (hb : ∀ i, i ≤ N → p i → ∀ K : St → Prop, (∀ s', (i < N ∧ p (i + 1) ∧ Sub h s' (l (i + 1)) (L (i + 1)) nt) → K s') → awp P G rl h c (thenA K Q) ⟨frL (l i), nt, h ++ L i⟩) : awp P G rl h (.loop c) Q s := by
  refine awp_loop (fun n s => ∃ i, i ≤ N ∧ p i ∧ n = N - i ∧ s = ⟨frL (l i), nt, h ++ L i⟩) N _ hi ⟨0, Nat.zero_le _, hp, rfl, rfl⟩ fun n s hI => ?_
  obtain ⟨i, h1, h2, rfl, rfl⟩ := hI
  exact hb i h1 h2 _ fun s' hs => ⟨N - (i + 1), _, by omega, hs.2.2.ghost, i + 1, by omega, hs.2.1, rfl, rfl⟩
end
end Go.Proofs.YtlophgkgmhcagaaDoor.AM
end

section
set_option linter.unusedVariables false
set_option linter.unusedSimpArgs false
set_option maxRecDepth 4000
set_option maxHeartbeats 4000000
namespace Go.Proofs.YtlophgkgmhcagaaDoor.AM
open Go Go.Proofs
attribute [local irreducible] awp aops aqops aeops
variable {G : Nat → Option (List PV)}

def z40 : List PV := List.replicate 40 (.int .i64 0)
def zT : Int → Int := fun _ => 0
theorem T40z : tinfo Tryd.prog 40 = some ⟨.array 40 3, 40, 320, some z40⟩ := by rw [T40]; rfl
theorem z40_ne : (z40 = []) = False := by simp [z40]
theorem z40_map : z40.map AV.p = aA zT := rfl
theorem aA_scalar (tok : Int → Int) : (aA tok).all AV.scalar = true := by
  rw [List.all_eq_true]; intro x hx
  simp only [aA, List.mem_map] at hx
  obtain ⟨i, _, rfl⟩ := hx
  rfl
theorem aA_ne (tok : Int → Int) : (aA tok).isEmpty = false := by
  have := aA_len tok
  cases h : aA tok with
  | nil => rw [h] at this; cases this
  | cons => rfl
theorem aA_take40 (tok : Int → Int) : (aA tok).take 40 = aA tok := List.take_of_length_le (by rw [aA_len]; exact Nat.le_refl _)
theorem aA_load (tok : Int → Int) (b : Nat) (z : Option (List PV)) : takeA ⟨.array 40 3, 40, b, z⟩ (aA tok) = some (.agg (aA tok)) := by
  unfold takeA
  simp [TI.isAgg, aA_len, aA_take40]
theorem over_at {α : Type} : ∀ (cs c : List α) (k : Nat), k + cs.length = c.length → over c k cs = c.take k ++ cs
  | [], c, k, h => by simp only [over, List.append_nil]; rw [List.take_of_length_le (by simp at h; omega)]
  | v :: r, c, k, h => by
    simp only [over]
    rw [over_at r (c.set k v) (k + 1) (by simp at h ⊢; omega)]
    simp only [List.length_cons] at h
    rw [List.take_add_one, List.getElem?_set_self (by omega), List.take_set_of_le (Nat.le_refl k)]
    simp
theorem over_aA (a b : Int → Int) : over (aA a) 0 (aA b) = aA b := by
  rw [over_at (aA b) (aA a) 0 (by rw [aA_len, aA_len])]; rfl
theorem avlts_all {m : Nat} : ∀ l : List AV, (∀ x ∈ l, ∃ n, x = .i n) → avlts m l
  | [], _ => trivial
  | x :: r, h => by
    obtain ⟨n, rfl⟩ := h x (by simp)
    exact ⟨trivial, avlts_all r fun y hy => h y (by simp [hy])⟩
theorem avlts_aA (m : Nat) (tok : Int → Int) : avlts m (aA tok) := avlts_all _ fun x hx => by
  simp only [aA, List.mem_map] at hx
  obtain ⟨i, _, rfl⟩ := hx
  exact ⟨_, rfl⟩
def aP (tok : Int → Int) : List PV := (List.range 40).map fun (i : Nat) => PV.int .i64 (tok (i : Int))
theorem purs_ints (h : Heap) (n fuel : Nat) : ∀ l : List Int, purs h n fuel (l.map AV.i) = some (l.map (PV.int .i64))
  | [] => by unfold purs; rfl
  | x :: r => by
    simp only [List.map_cons]
    unfold purs pur
    rw [purs_ints h n fuel r]
theorem aA_ints (tok : Int → Int) : aA tok = ((List.range 40).map fun (i : Nat) => tok (i : Int)).map AV.i := by simp [aA, List.map_map, Function.comp_def]
theorem purs_aA (h : Heap) (n : Nat) (tok : Int → Int) : purs h n 5 (aA tok) = some (aP tok) := by
  rw [aA_ints, purs_ints]; simp [aP, List.map_map, Function.comp_def]
theorem aP_map (tok : Int → Int) : (aP tok).map AV.p = aA tok := by simp [aP, aA, List.map_map, Function.comp_def]

theorem takeT_app : ∀ (a b : List Int) (tok : Int → Int), takeT (a ++ b) tok = (takeT a tok).bind (takeT b)
  | [], b, tok => rfl
  | f :: r, b, tok => by
    simp only [List.cons_append, takeT]
    split
    · exact takeT_app r b _
    · rfl

theorem takeT_next {l : List Int} {i : Nat} {k : Int} (hx : l[i]? = some k) {tok t : Int → Int} (hp : takeT (l.take i) tok = some t) :
    takeT (l.take (i + 1)) tok = if flowB k = true ∧ 0 < t k then some (setT t k (t k - 1)) else none := by
  rw [List.take_add_one, hx, Option.toList_some, takeT_app, hp]
  simp [takeT]

theorem takeT_stop {l : List Int} {i : Nat} {k : Int} (hx : l[i]? = some k) {tok t : Int → Int} (hp : takeT (l.take i) tok = some t) (hn : ¬ (flowB k = true ∧ 0 < t k)) : takeT l tok = none := by
  have h := takeT_next hx hp
  rw [if_neg hn] at h
  rw [← List.take_append_drop (i + 1) l, takeT_app, h]; rfl

theorem takeT_le : ∀ (l : List Int) (tok t : Int → Int), takeT l tok = some t → ∀ i, t i ≤ tok i
  | [], tok, t, h, i => by simp [takeT] at h; subst h; exact Int.le_refl _
  | f :: r, tok, t, h, i => by
    unfold takeT at h
    split at h
    · have := takeT_le r _ t h i
      simp only [setT] at this
      split at this <;> (try subst_vars) <;> omega
    · cases h

theorem without_calls (l : List Int) (hl : l.length ≤ 200) (tok : Int → Int) (ht : ∀ i, tok i ≤ 9223372036854775807) (h : Heap) :
    ACalls Tryd.prog G 29 [.agg (aA tok), aI l] h (fun r h' => r = .tup [.agg (aA ((takeT l tok).getD zT)), .b (takeT l tok).isSome] ∧ h' = h) := by
  refine acalls_pure (rl := []) mixed Tryd.func29 rfl (rs := [.cell 4 40, .tmp 5]) rfl Tryd.ntmps29 (by simp) ?_
  refine awp_seq_k fun K hK => ?_
  repeat' (first | ((first | refine aops_nil ?_ | refine aqops_nil ?_); (try simp only [NB]); ((repeat ((fail_if_success (refine hK _ ?_)); clear hK K)); refine hK _ ?_; clear hK K)) | ((first | refine aops_k fun K1 hK1 => ?_ | refine aqops_k fun K1 hK1 => ?_ | refine awp_cond_k fun A B hA hB => ?_); simp only [S1, simprocAttr, T2, T3, T4, T35, T37, T38, T40z, z40_ne, z40_map, aA_len, aA_scalar, aA_ne, over_aA, aA_take40, aA_load]; first | (refine hK1 _ ?_; clear hK1 K1) | ((first | refine hA ?_ | refine hB ?_); clear hA hB A B) | (refine join_x (v := ?_) (fun hg hk9 => ?_) ?_; rotate_left; (focus (try ((try simp only [BN] at hg); simp only [S1, simprocAttr, T2, T3, T4, T35, T37, T38, T40z, z40_ne, z40_map, aA_len, aA_scalar, aA_ne, over_aA, aA_take40, aA_load, hg] at hk9 ⊢)); first | exact hk9); (refine hK1 _ ?_; clear hK1 K1)) | (((first | (refine ⟨fun hg => hA ?_, fun hg => hB ?_⟩ <;> clear hA hB A B) | refine ⟨fun hg => ?_, fun hg => ?_⟩) <;> (try simp only [BN2] at hg) <;> (try simp only [hg, cond_true, cond_false])) <;> (try (refine hK1 _ ?_; clear hK1 K1)) <;> (try simp only [BN3] at hg))) | (fail) | ((first | refine awp_region ?_ | refine awp_draw (by kernel_rfl) ?_ | refine awp_block ?_ | refine awp_exit ?_ | refine awp_skip ?_ | refine awp_ret ?_); (try simp only [NB, simprocAttr]); (try ((repeat ((fail_if_success (refine hK _ ?_)); clear hK K)); refine hK _ ?_; clear hK K))))
  refine awp_seq_k fun K hK => ?_
  repeat' (first | ((first | refine aops_nil ?_ | refine aqops_nil ?_); (try simp only [NB])) | ((repeat ((fail_if_success (refine hK _ ?_)); clear hK K)); refine hK _ ?_; clear hK K) | ((first | refine aops_k fun K1 hK1 => ?_ | refine aqops_k fun K1 hK1 => ?_ | refine awp_cond_k fun A B hA hB => ?_); simp only [S1, simprocAttr, T2, T3, T4, T35, T37, T38, List.length_map]; first | (refine hK1 _ ?_; clear hK1 K1) | ((first | refine hA ?_ | refine hB ?_); clear hA hB A B) | (refine join_x (v := ?_) (fun hg hk9 => ?_) ?_; rotate_left; (focus (try ((try simp only [BN] at hg); simp only [S1, simprocAttr, T2, T3, T4, T35, T37, T38, List.length_map, hg] at hk9 ⊢)); first | exact hk9); (refine hK1 _ ?_; clear hK1 K1)) | (((first | (refine ⟨fun hg => hA ?_, fun hg => hB ?_⟩ <;> clear hA hB A B) | refine ⟨fun hg => ?_, fun hg => ?_⟩) <;> (try simp only [BN2] at hg) <;> (try simp only [hg, cond_true, cond_false])) <;> (try (refine hK1 _ ?_; clear hK1 K1)) <;> (try simp only [BN3] at hg))) | (refine awp_seq_k fun K hK => ?_) | ((first | refine awp_region ?_ | refine awp_draw (by kernel_rfl) ?_ | refine awp_block ?_ | refine awp_exit ?_ | refine awp_skip ?_ | refine awp_ret ?_); (try simp only [NB, simprocAttr])))
  let tk := fun i => (takeT (l.take i) tok).getD zT
  refine awp_for l.length 31 (fun i => [(10, .i i), (9, .i l.length), (8, aI l), (2, .ptr h.length 0 0), (4, .ptr (h.length + 1) 0 0)]) (fun i => [some ⟨0, aA (tk i)⟩, some ⟨0, aA zT⟩]) (fun i => takeT (l.take i) tok = some (tk i)) ?_ rfl fun i hi hp K hK => ?_
  · refine ⟨rfl, ⟨[], by simp [tk, takeT]⟩, ?_, avlts_aA _ _, avlts_aA _ _, trivial⟩
    simp only [keeps, avlt, avlts, blksLt, frL, upd_get, S1, simprocAttr, List.length_map, Int.natCast_zero, AV.p.injEq, PV.int.injEq, PV.bool.injEq, PV.sl.injEq] <;> (try and_intros) <;> (try assumption) <;> (try trivial) <;> (try omega)
  rcases Nat.lt_or_ge i l.length with hlt | hge
  · obtain ⟨k, hx⟩ : ∃ k, l[i]? = some k := ⟨_, List.getElem?_eq_getElem hlt⟩
    have hnext := takeT_next hx hp
    by_cases hc : flowB k = true ∧ 0 < tk i k
    · rw [if_pos hc] at hnext
      have hr : 0 ≤ k ∧ k ≤ 39 := by have := hc.1; simp [flowB] at this; exact this
      have hk40 : k < 40 := by omega
      have hk3 : k.toNat + 1 ≤ 40 := by omega
      have f1 := hc.1
      have f2 : decide (tk i k ≤ 0) = false := by simp; omega
      have hle := takeT_le _ _ _ hp k
      have hw : IntKind.i64.wrap (tk i k - 1) = tk i k - 1 := IntWalk.i64_in _ (by have := ht k; omega)
      have hget := aA_take (tok := tk i) (b := 8) (z := some [.int .i64 0]) hr.1 hr.2
      have hset := aA_set (tok := tk i) (x := tk i k - 1) hr.1 hr.2
      have hfl := fun h => flow_calls (G := G) k h
      rw [f1] at hfl
      repeat' (first | ((first | refine aops_nil ?_ | refine aqops_nil ?_); (try simp only [NB])) | ((repeat ((fail_if_success (refine hK _ ?_)); clear hK K)); refine hK _ ?_; clear hK K) | ((first | refine aops_k fun K1 hK1 => ?_ | refine aqops_k fun K1 hK1 => ?_ | refine awp_cond_k fun A B hA hB => ?_); simp only [S1, simprocAttr, T2, T3, T4, T35, T37, T38, rowI hx, hitI hlt, nextI hl hlt, f1, f2, hw, hget, hset, hr.1, hk40, hk3, Nat.mul_one, aA_len, T40z]; first | (refine hK1 _ ?_; clear hK1 K1) | ((first | refine hA ?_ | refine hB ?_); clear hA hB A B) | ((first | apply call_a E28 | apply call_q E28); exact (hfl _); (refine hK1 _ ?_; clear hK1 K1)) | (refine join_x (v := ?_) (fun hg hk9 => ?_) ?_; rotate_left; (focus (try ((try simp only [BN] at hg); simp only [S1, simprocAttr, T2, T3, T4, T35, T37, T38, rowI hx, hitI hlt, nextI hl hlt, f1, f2, hw, hget, hset, hr.1, hk40, hk3, Nat.mul_one, aA_len, T40z, hg] at hk9 ⊢)); first | exact hk9 | ((first | apply call_a E28 | apply call_q E28); exact (hfl _); exact hk9)); (refine hK1 _ ?_; clear hK1 K1)) | (((first | (refine ⟨fun hg => hA ?_, fun hg => hB ?_⟩ <;> clear hA hB A B) | refine ⟨fun hg => ?_, fun hg => ?_⟩) <;> (try simp only [BN2] at hg) <;> (try simp only [hg, cond_true, cond_false])) <;> (try (refine hK1 _ ?_; clear hK1 K1)) <;> (try simp only [BN3] at hg))) | (refine awp_seq_k fun K hK => ?_) | ((first | refine awp_region ?_ | refine awp_draw (by kernel_rfl) ?_ | refine awp_block ?_ | refine awp_exit ?_ | refine awp_skip ?_ | refine awp_ret ?_); (try simp only [NB, simprocAttr])))
      have e2 : tk (i + 1) = setT (tk i) k (tk i k - 1) := by simp only [tk]; rw [hnext]; rfl
      all_goals refine ⟨hlt, by rw [hnext, e2], ?_⟩
      all_goals rw [e2]
      all_goals refine ⟨rfl, ⟨[], by simp⟩, ?_, avlts_aA _ _, avlts_aA _ _, trivial⟩
      all_goals simp only [keeps, avlt, avlts, blksLt, frL, upd_get, S1, simprocAttr, List.length_map, Int.natCast_zero, AV.p.injEq, PV.int.injEq, PV.bool.injEq, PV.sl.injEq] <;> (try and_intros) <;> (try assumption) <;> (try trivial) <;> (try omega)
    · have hstop := takeT_stop hx hp hc
      cases hf : flowB k with
      | false =>
        have hfl := fun h => flow_calls (G := G) k h
        rw [hf] at hfl
        repeat' (first | ((first | refine aops_nil ?_ | refine aqops_nil ?_); (try simp only [NB])) | ((repeat ((fail_if_success (refine hK _ ?_)); clear hK K)); refine hK _ ?_; clear hK K) | ((first | refine aops_k fun K1 hK1 => ?_ | refine aqops_k fun K1 hK1 => ?_ | refine awp_cond_k fun A B hA hB => ?_); simp only [S1, simprocAttr, T2, T3, T4, T35, T37, T38, rowI hx, hitI hlt, nextI hl hlt, Nat.mul_one, aA_len, T40z, z40_ne, z40_map, aA_scalar, over_aA, aA_take40, aA_load]; first | (refine hK1 _ ?_; clear hK1 K1) | ((first | refine hA ?_ | refine hB ?_); clear hA hB A B) | ((first | apply call_a E28 | apply call_q E28); exact (hfl _); (refine hK1 _ ?_; clear hK1 K1)) | (refine join_x (v := ?_) (fun hg hk9 => ?_) ?_; rotate_left; (focus (try ((try simp only [BN] at hg); simp only [S1, simprocAttr, T2, T3, T4, T35, T37, T38, rowI hx, hitI hlt, nextI hl hlt, Nat.mul_one, aA_len, T40z, z40_ne, z40_map, aA_scalar, over_aA, aA_take40, aA_load, hg] at hk9 ⊢)); first | exact hk9 | ((first | apply call_a E28 | apply call_q E28); exact (hfl _); exact hk9)); (refine hK1 _ ?_; clear hK1 K1)) | (((first | (refine ⟨fun hg => hA ?_, fun hg => hB ?_⟩ <;> clear hA hB A B) | refine ⟨fun hg => ?_, fun hg => ?_⟩) <;> (try simp only [BN2] at hg) <;> (try simp only [hg, cond_true, cond_false])) <;> (try (refine hK1 _ ?_; clear hK1 K1)) <;> (try simp only [BN3] at hg))) | (refine awp_seq_k fun K hK => ?_) | ((first | refine awp_region ?_ | refine awp_draw (by kernel_rfl) ?_ | refine awp_block ?_ | refine awp_exit ?_ | refine awp_skip ?_ | refine awp_ret ?_); (try simp only [NB, simprocAttr])))
        all_goals simp only [EndP, FinP, resA, resL, resA1, lastV, lastA, lastAs, pur, purs, take_app, List.take_length, S1, simprocAttr, T2, T3, T4, T35, T37, T38, Nat.le_add_right, Nat.le_refl, T40z, aA_len, aA_take40, aA_load, purs_aA, aP_map]
        all_goals (rw [hstop]; simp)
      | true =>
        have hr : 0 ≤ k ∧ k ≤ 39 := by simp [flowB] at hf; exact hf
        have hk40 : k < 40 := by omega
        have f2 : decide (tk i k ≤ 0) = true := by
          have : ¬ 0 < tk i k := fun e => hc ⟨hf, e⟩
          simp; omega
        have hget := aA_take (tok := tk i) (b := 8) (z := some [.int .i64 0]) hr.1 hr.2
        have hfl := fun h => flow_calls (G := G) k h
        rw [hf] at hfl
        repeat' (first | ((first | refine aops_nil ?_ | refine aqops_nil ?_); (try simp only [NB])) | ((repeat ((fail_if_success (refine hK _ ?_)); clear hK K)); refine hK _ ?_; clear hK K) | ((first | refine aops_k fun K1 hK1 => ?_ | refine aqops_k fun K1 hK1 => ?_ | refine awp_cond_k fun A B hA hB => ?_); simp only [S1, simprocAttr, T2, T3, T4, T35, T37, T38, rowI hx, hitI hlt, nextI hl hlt, f2, hget, hr.1, hk40, Nat.mul_one, aA_len, T40z, z40_ne, z40_map, aA_scalar, over_aA, aA_take40, aA_load]; first | (refine hK1 _ ?_; clear hK1 K1) | ((first | refine hA ?_ | refine hB ?_); clear hA hB A B) | ((first | apply call_a E28 | apply call_q E28); exact (hfl _); (refine hK1 _ ?_; clear hK1 K1)) | (refine join_x (v := ?_) (fun hg hk9 => ?_) ?_; rotate_left; (focus (try ((try simp only [BN] at hg); simp only [S1, simprocAttr, T2, T3, T4, T35, T37, T38, rowI hx, hitI hlt, nextI hl hlt, f2, hget, hr.1, hk40, Nat.mul_one, aA_len, T40z, z40_ne, z40_map, aA_scalar, over_aA, aA_take40, aA_load, hg] at hk9 ⊢)); first | exact hk9 | ((first | apply call_a E28 | apply call_q E28); exact (hfl _); exact hk9)); (refine hK1 _ ?_; clear hK1 K1)) | (((first | (refine ⟨fun hg => hA ?_, fun hg => hB ?_⟩ <;> clear hA hB A B) | refine ⟨fun hg => ?_, fun hg => ?_⟩) <;> (try simp only [BN2] at hg) <;> (try simp only [hg, cond_true, cond_false])) <;> (try (refine hK1 _ ?_; clear hK1 K1)) <;> (try simp only [BN3] at hg))) | (refine awp_seq_k fun K hK => ?_) | ((first | refine awp_region ?_ | refine awp_draw (by kernel_rfl) ?_ | refine awp_block ?_ | refine awp_exit ?_ | refine awp_skip ?_ | refine awp_ret ?_); (try simp only [NB, simprocAttr])))
        all_goals simp only [EndP, FinP, resA, resL, resA1, lastV, lastA, lastAs, pur, purs, take_app, List.take_length, S1, simprocAttr, T2, T3, T4, T35, T37, T38, Nat.le_add_right, Nat.le_refl, T40z, aA_len, aA_take40, aA_load, purs_aA, aP_map]
        all_goals (rw [hstop]; simp)
  · obtain rfl : i = l.length := by omega
    repeat' (first | ((first | refine aops_nil ?_ | refine aqops_nil ?_); (try simp only [NB])) | ((repeat ((fail_if_success (refine hK _ ?_)); clear hK K)); refine hK _ ?_; clear hK K) | ((first | refine aops_k fun K1 hK1 => ?_ | refine aqops_k fun K1 hK1 => ?_ | refine awp_cond_k fun A B hA hB => ?_); simp only [S1, simprocAttr, T2, T3, T4, T35, T37, T38, endI, T40z, aA_len, aA_scalar, over_aA, aA_take40, aA_load]; first | (refine hK1 _ ?_; clear hK1 K1) | ((first | refine hA ?_ | refine hB ?_); clear hA hB A B) | (refine join_x (v := ?_) (fun hg hk9 => ?_) ?_; rotate_left; (focus (try ((try simp only [BN] at hg); simp only [S1, simprocAttr, T2, T3, T4, T35, T37, T38, endI, T40z, aA_len, aA_scalar, over_aA, aA_take40, aA_load, hg] at hk9 ⊢)); first | exact hk9); (refine hK1 _ ?_; clear hK1 K1)) | (((first | (refine ⟨fun hg => hA ?_, fun hg => hB ?_⟩ <;> clear hA hB A B) | refine ⟨fun hg => ?_, fun hg => ?_⟩) <;> (try simp only [BN2] at hg) <;> (try simp only [hg, cond_true, cond_false])) <;> (try (refine hK1 _ ?_; clear hK1 K1)) <;> (try simp only [BN3] at hg))) | (refine awp_seq_k fun K hK => ?_) | ((first | refine awp_region ?_ | refine awp_draw (by kernel_rfl) ?_ | refine awp_block ?_ | refine awp_exit ?_ | refine awp_skip ?_ | refine awp_ret ?_); (try simp only [NB, simprocAttr])))
    simp only [EndP, FinP, resA, resL, resA1, lastV, lastA, lastAs, pur, purs, take_app, List.take_length, S1, simprocAttr, T2, T3, T4, T35, T37, T38, Nat.le_add_right, Nat.le_refl, T40z, aA_len, aA_take40, aA_load, purs_aA, aP_map]
    have e : l.take l.length = l := List.take_length
    have e1 : tk l.length = (takeT l tok).getD zT := by simp only [tk, e]
    have e2 : (takeT l tok).isSome = true := by rw [e] at hp; rw [hp]; rfl
    rw [e1, e2]
end Go.Proofs.YtlophgkgmhcagaaDoor.AM
end

section
set_option linter.unusedVariables false
set_option linter.unusedSimpArgs false
set_option maxRecDepth 4000
set_option maxHeartbeats 4000000
namespace Go.Proofs.YtlophgkgmhcagaaDoor.AM
open Go Go.Proofs
attribute [local irreducible] awp aops aqops aeops arun
variable {G : Nat → Option (List PV)}

theorem avlts_ints (m : Nat) (l : List Int) : avlts m (l.map AV.i) := avlts_all _ fun x hx => by
  simp only [List.mem_map] at hx
  obtain ⟨i, _, rfl⟩ := hx
  exact ⟨_, rfl⟩

theorem chunk_ints : ∀ l : List Int, chunk 1 l.length (l.map (PV.int .i64)) = l.map eI
  | [] => rfl
  | x :: r => by simp only [List.length_cons, List.map_cons, chunk, List.take_succ_cons, List.take_zero, List.drop_succ_cons, List.drop_zero, chunk_ints r, eI]

theorem pur_ints {h : Heap} {n fuel b g : Nat} {l : List Int} (hb : blkAt h b g = some (l.map AV.i)) (hn : n ≤ b) : pur h n (fuel + 1) (.ref b g 0 1 l.length) = some (.sl (l.map eI)) := by
  unfold pur
  by_cases h0 : l.length = 0
  · rw [if_pos h0]; have := List.eq_nil_of_length_eq_zero h0; subst this; rfl
  · rw [if_neg h0, hb]
    simp only [hn, true_and, Nat.zero_add, Nat.mul_one, List.length_map, Nat.le_refl, if_true, List.drop_zero]
    rw [List.take_of_length_le (by simp), purs_ints]
    simp only [Option.map_some, chunk_ints]

theorem EndP_ints {P : Program} {h : Heap} {K : AV → Prop} {e : Exit} {s : St} (he : e = .normal ∨ e = .ret) {t b g : Nat} {l : List Int} (hf : s.fr t = some (.ref b g 0 1 l.length)) (hb : blkAt s.heap b g = some (l.map AV.i)) (hn : h.length ≤ b)
    (ht : s.heap.take h.length = h) (hle : h.length ≤ s.heap.length) (hk : K (aI l)) : EndP P [.tmp t] h K e s := by
  have key : FinP P [.tmp t] h K s := by
    unfold FinP
    simp only [resA, resL, resA1, hf, lastV, lastA, pur_ints hb hn, Option.map_some]
    exact ⟨ht, hle, hk⟩
  rcases he with rfl | rfl <;> exact key

theorem rIns_calls (nodes : List (List PV)) (fl : List Fl) (hl : fl.length ≤ 100) (i : Int) (h : Heap) : ACalls Tryd.prog G 18 [.agg [.p (.sl nodes), .p (.sl (fl.map eF))], .i i] h (fun r h' => r = aI (insN fl i) ∧ h' = h) := by
  refine acalls_pure (rl := []) mixed Tryd.func18 rfl (rs := [.tmp 4]) rfl Tryd.ntmps18 (by simp) ?_
  refine awp_seq_k fun K hK => ?_
  repeat' (first | ((first | refine aops_nil ?_ | refine aqops_nil ?_); (try simp only [NB]); ((repeat ((fail_if_success (refine hK _ ?_)); clear hK K)); refine hK _ ?_; clear hK K)) | ((first | refine aops_k fun K1 hK1 => ?_ | refine aqops_k fun K1 hK1 => ?_ | refine awp_cond_k fun A B hA hB => ?_); simp only [S1, simprocAttr, T2, T3, T4, T23, T25, T35, T51, T53, T58]; first | (refine hK1 _ ?_; clear hK1 K1) | ((first | refine hA ?_ | refine hB ?_); clear hA hB A B) | (refine join_x (v := ?_) (fun hg hk9 => ?_) ?_; rotate_left; (focus (try ((try simp only [BN] at hg); simp only [S1, simprocAttr, T2, T3, T4, T23, T25, T35, T51, T53, T58, hg] at hk9 ⊢)); first | exact hk9); (refine hK1 _ ?_; clear hK1 K1)) | (((first | (refine ⟨fun hg => hA ?_, fun hg => hB ?_⟩ <;> clear hA hB A B) | refine ⟨fun hg => ?_, fun hg => ?_⟩) <;> (try simp only [BN2] at hg) <;> (try simp only [hg, cond_true, cond_false])) <;> (try (refine hK1 _ ?_; clear hK1 K1)) <;> (try simp only [BN3] at hg))) | (fail) | ((first | refine awp_region ?_ | refine awp_draw (by kernel_rfl) ?_ | refine awp_block ?_ | refine awp_exit ?_ | refine awp_skip ?_ | refine awp_ret ?_); (try simp only [NB, simprocAttr]); (try ((repeat ((fail_if_success (refine hK _ ?_)); clear hK K)); refine hK _ ?_; clear hK K))))
  refine awp_seq_k fun K hK => ?_
  repeat' (first | ((first | refine aops_nil ?_ | refine aqops_nil ?_); (try simp only [NB]); ((repeat ((fail_if_success (refine hK _ ?_)); clear hK K)); refine hK _ ?_; clear hK K)) | ((first | refine aops_k fun K1 hK1 => ?_ | refine aqops_k fun K1 hK1 => ?_ | refine awp_cond_k fun A B hA hB => ?_); simp only [S1, simprocAttr, T2, T3, T4, T23, T25, T35, T51, T53, T58]; first | (refine hK1 _ ?_; clear hK1 K1) | ((first | refine hA ?_ | refine hB ?_); clear hA hB A B) | (refine join_x (v := ?_) (fun hg hk9 => ?_) ?_; rotate_left; (focus (try ((try simp only [BN] at hg); simp only [S1, simprocAttr, T2, T3, T4, T23, T25, T35, T51, T53, T58, hg] at hk9 ⊢)); first | exact hk9); (refine hK1 _ ?_; clear hK1 K1)) | (((first | (refine ⟨fun hg => hA ?_, fun hg => hB ?_⟩ <;> clear hA hB A B) | refine ⟨fun hg => ?_, fun hg => ?_⟩) <;> (try simp only [BN2] at hg) <;> (try simp only [hg, cond_true, cond_false])) <;> (try (refine hK1 _ ?_; clear hK1 K1)) <;> (try simp only [BN3] at hg))) | (fail) | ((first | refine awp_region ?_ | refine awp_draw (by kernel_rfl) ?_ | refine awp_block ?_ | refine awp_exit ?_ | refine awp_skip ?_ | refine awp_ret ?_); (try simp only [NB, simprocAttr]); (try ((repeat ((fail_if_success (refine hK _ ?_)); clear hK K)); refine hK _ ?_; clear hK K))))
  refine awp_seq_k fun K hK => ?_
  repeat' (first | ((first | refine aops_nil ?_ | refine aqops_nil ?_); (try simp only [NB])) | ((repeat ((fail_if_success (refine hK _ ?_)); clear hK K)); refine hK _ ?_; clear hK K) | ((first | refine aops_k fun K1 hK1 => ?_ | refine aqops_k fun K1 hK1 => ?_ | refine awp_cond_k fun A B hA hB => ?_); simp only [S1, simprocAttr, T2, T3, T4, T23, T25, T35, T51, T53, T58, List.length_map]; first | (refine hK1 _ ?_; clear hK1 K1) | ((first | refine hA ?_ | refine hB ?_); clear hA hB A B) | (refine join_x (v := ?_) (fun hg hk9 => ?_) ?_; rotate_left; (focus (try ((try simp only [BN] at hg); simp only [S1, simprocAttr, T2, T3, T4, T23, T25, T35, T51, T53, T58, List.length_map, hg] at hk9 ⊢)); first | exact hk9); (refine hK1 _ ?_; clear hK1 K1)) | (((first | (refine ⟨fun hg => hA ?_, fun hg => hB ?_⟩ <;> clear hA hB A B) | refine ⟨fun hg => ?_, fun hg => ?_⟩) <;> (try simp only [BN2] at hg) <;> (try simp only [hg, cond_true, cond_false])) <;> (try (refine hK1 _ ?_; clear hK1 K1)) <;> (try simp only [BN3] at hg))) | (refine awp_seq_k fun K hK => ?_) | ((first | refine awp_region ?_ | refine awp_draw (by kernel_rfl) ?_ | refine awp_block ?_ | refine awp_exit ?_ | refine awp_skip ?_ | refine awp_ret ?_); (try simp only [NB, simprocAttr])))
  let q := fun f : Fl => f.dst == i
  refine awp_forG fl.length 26 (fun j => [(11, .i j), (10, .i fl.length), (9, .p (.sl (fl.map eF))), (1, .i i), (5, .ref (h.length + 1) (pickF q fl j).length 0 1 (pickF q fl j).length)])
    (fun j => [some ⟨0, [.p (.sl nodes), .p (.sl (fl.map eF))]⟩, some ⟨(pickF q fl j).length, (pickF q fl j).map AV.i⟩]) (fun j => True) ?_ trivial fun j hj hp K hK => ?_
  · refine (Ghost.adopt 5 1 rfl).trans (Sub.ghost ⟨rfl, ⟨[], by simp [pickF]⟩, ?_, ?_⟩)
    · simp [keeps, upd, avlt, pickF]
    · simp [blksLt, avlts, avlt, pickF]
  rcases Nat.lt_or_ge j fl.length with hlt | hge
  · obtain ⟨k, hx⟩ : ∃ k, fl[j]? = some k := ⟨_, List.getElem?_eq_getElem hlt⟩
    have hle := pickF_le q fl j
    have hmax : (pickF q fl j).length + 1 ≤ maxCount := by unfold maxCount; omega
    cases hq : q k with
    | false =>
      have f1 : (k.dst == i) = false := hq
      have e1 : pickF q fl (j + 1) = pickF q fl j := by simp only [pickF, hx, hq]; rfl
      repeat' (first | ((first | refine aops_nil ?_ | refine aqops_nil ?_); (try simp only [NB])) | ((repeat ((fail_if_success (refine hK _ ?_)); clear hK K)); refine hK _ ?_; clear hK K) | ((first | refine aops_k fun K1 hK1 => ?_ | refine aqops_k fun K1 hK1 => ?_ | refine awp_cond_k fun A B hA hB => ?_); simp only [S1, simprocAttr, T2, T3, T4, T23, T25, T35, T51, T53, T58, rowF hx, hitF hlt, nextF hl hlt, eF, f1, List.length_map]; first | (refine hK1 _ ?_; clear hK1 K1) | ((first | refine hA ?_ | refine hB ?_); clear hA hB A B) | (refine join_x (v := ?_) (fun hg hk9 => ?_) ?_; rotate_left; (focus (try ((try simp only [BN] at hg); simp only [S1, simprocAttr, T2, T3, T4, T23, T25, T35, T51, T53, T58, rowF hx, hitF hlt, nextF hl hlt, eF, f1, List.length_map, hg] at hk9 ⊢)); first | exact hk9); (refine hK1 _ ?_; clear hK1 K1)) | (((first | (refine ⟨fun hg => hA ?_, fun hg => hB ?_⟩ <;> clear hA hB A B) | refine ⟨fun hg => ?_, fun hg => ?_⟩) <;> (try simp only [BN2] at hg) <;> (try simp only [hg, cond_true, cond_false])) <;> (try (refine hK1 _ ?_; clear hK1 K1)) <;> (try simp only [BN3] at hg))) | (refine awp_seq_k fun K hK => ?_) | ((first | refine awp_region ?_ | refine awp_draw (by kernel_rfl) ?_ | refine awp_block ?_ | refine awp_exit ?_ | refine awp_skip ?_ | refine awp_ret ?_); (try simp only [NB, simprocAttr])))
      all_goals refine ⟨hlt, trivial, ?_⟩
      all_goals simp only [e1]
      all_goals refine ⟨rfl, ⟨_, rfl⟩, ?_, ?_⟩
      · simp only [keeps, avlt, avlts, blksLt, frL, upd_get, S1, simprocAttr, List.length_map, Int.natCast_zero, AV.p.injEq, PV.int.injEq, PV.bool.injEq, PV.sl.injEq] <;> (try and_intros) <;> (try assumption) <;> (try trivial) <;> (try omega)
      · simp only [blksLt, avlts, avlt]; exact ⟨⟨trivial, trivial, trivial⟩, avlts_ints _ _, trivial⟩
    | true =>
      have f1 : (k.dst == i) = true := hq
      have e1 : pickF q fl (j + 1) = pickF q fl j ++ [(j : Int)] := by simp only [pickF, hx, hq]; rfl
      repeat' (first | ((first | refine aops_nil ?_ | refine aqops_nil ?_); (try simp only [NB])) | ((repeat ((fail_if_success (refine hK _ ?_)); clear hK K)); refine hK _ ?_; clear hK K) | ((first | refine aops_k fun K1 hK1 => ?_ | refine aqops_k fun K1 hK1 => ?_ | refine awp_cond_k fun A B hA hB => ?_); simp only [S1, simprocAttr, T2, T3, T4, T23, T25, T35, T51, T53, T58, rowF hx, hitF hlt, nextF hl hlt, eF, f1, List.length_map, hmax, Nat.mul_one, Nat.zero_add]; first | (refine hK1 _ ?_; clear hK1 K1) | ((first | refine hA ?_ | refine hB ?_); clear hA hB A B) | (refine join_x (v := ?_) (fun hg hk9 => ?_) ?_; rotate_left; (focus (try ((try simp only [BN] at hg); simp only [S1, simprocAttr, T2, T3, T4, T23, T25, T35, T51, T53, T58, rowF hx, hitF hlt, nextF hl hlt, eF, f1, List.length_map, hmax, Nat.mul_one, Nat.zero_add, hg] at hk9 ⊢)); first | exact hk9); (refine hK1 _ ?_; clear hK1 K1)) | (((first | (refine ⟨fun hg => hA ?_, fun hg => hB ?_⟩ <;> clear hA hB A B) | refine ⟨fun hg => ?_, fun hg => ?_⟩) <;> (try simp only [BN2] at hg) <;> (try simp only [hg, cond_true, cond_false])) <;> (try (refine hK1 _ ?_; clear hK1 K1)) <;> (try simp only [BN3] at hg))) | (refine awp_seq_k fun K hK => ?_) | ((first | refine awp_region ?_ | refine awp_draw (by kernel_rfl) ?_ | refine awp_block ?_ | refine awp_exit ?_ | refine awp_skip ?_ | refine awp_ret ?_); (try simp only [NB, simprocAttr])))
      all_goals refine ⟨hlt, trivial, ?_⟩
      all_goals simp only [e1, List.length_append, List.map_append, List.length_cons, List.length_nil, List.map_cons, List.map_nil, Nat.zero_add]
      all_goals refine ⟨rfl, ⟨_, rfl⟩, ?_, ?_⟩
      · simp only [keeps, avlt, avlts, blksLt, frL, upd_get, S1, simprocAttr, List.length_map, Int.natCast_zero, AV.p.injEq, PV.int.injEq, PV.bool.injEq, PV.sl.injEq] <;> (try and_intros) <;> (try assumption) <;> (try trivial) <;> (try omega)
      · simp only [blksLt, avlts, avlt]; exact ⟨⟨trivial, trivial, trivial⟩, (by have := avlts_ints (h.length + 2) (pickF q fl j ++ [(j : Int)]); simpa using this), trivial⟩
  · obtain rfl : j = fl.length := by omega
    repeat' (first | ((first | refine aops_nil ?_ | refine aqops_nil ?_); (try simp only [NB])) | ((repeat ((fail_if_success (refine hK _ ?_)); clear hK K)); refine hK _ ?_; clear hK K) | ((first | refine aops_k fun K1 hK1 => ?_ | refine aqops_k fun K1 hK1 => ?_ | refine awp_cond_k fun A B hA hB => ?_); simp only [S1, simprocAttr, T2, T3, T4, T23, T25, T35, T51, T53, T58, endF]; first | (refine hK1 _ ?_; clear hK1 K1) | ((first | refine hA ?_ | refine hB ?_); clear hA hB A B) | (refine join_x (v := ?_) (fun hg hk9 => ?_) ?_; rotate_left; (focus (try ((try simp only [BN] at hg); simp only [S1, simprocAttr, T2, T3, T4, T23, T25, T35, T51, T53, T58, endF, hg] at hk9 ⊢)); first | exact hk9); (refine hK1 _ ?_; clear hK1 K1)) | (((first | (refine ⟨fun hg => hA ?_, fun hg => hB ?_⟩ <;> clear hA hB A B) | refine ⟨fun hg => ?_, fun hg => ?_⟩) <;> (try simp only [BN2] at hg) <;> (try simp only [hg, cond_true, cond_false])) <;> (try (refine hK1 _ ?_; clear hK1 K1)) <;> (try simp only [BN3] at hg))) | (refine awp_seq_k fun K hK => ?_) | ((first | refine awp_region ?_ | refine awp_draw (by kernel_rfl) ?_ | refine awp_block ?_ | refine awp_exit ?_ | refine awp_skip ?_ | refine awp_ret ?_); (try simp only [NB, simprocAttr])))
    exact EndP_ints (.inr rfl) rfl (by simp only [blkAt, get_app, List.getElem?_cons_succ, List.getElem?_cons_zero, if_true]) (by omega) (by simp) (by simp) rfl
theorem rOuts_calls (nodes : List (List PV)) (fl : List Fl) (hl : fl.length ≤ 100) (i : Int) (h : Heap) : ACalls Tryd.prog G 19 [.agg [.p (.sl nodes), .p (.sl (fl.map eF))], .i i] h (fun r h' => r = aI (outsN fl i) ∧ h' = h) := by
  refine acalls_pure (rl := []) mixed Tryd.func19 rfl (rs := [.tmp 4]) rfl Tryd.ntmps19 (by simp) ?_
  refine awp_seq_k fun K hK => ?_
  repeat' (first | ((first | refine aops_nil ?_ | refine aqops_nil ?_); (try simp only [NB]); ((repeat ((fail_if_success (refine hK _ ?_)); clear hK K)); refine hK _ ?_; clear hK K)) | ((first | refine aops_k fun K1 hK1 => ?_ | refine aqops_k fun K1 hK1 => ?_ | refine awp_cond_k fun A B hA hB => ?_); simp only [S1, simprocAttr, T2, T3, T4, T23, T25, T35, T51, T53, T58]; first | (refine hK1 _ ?_; clear hK1 K1) | ((first | refine hA ?_ | refine hB ?_); clear hA hB A B) | (refine join_x (v := ?_) (fun hg hk9 => ?_) ?_; rotate_left; (focus (try ((try simp only [BN] at hg); simp only [S1, simprocAttr, T2, T3, T4, T23, T25, T35, T51, T53, T58, hg] at hk9 ⊢)); first | exact hk9); (refine hK1 _ ?_; clear hK1 K1)) | (((first | (refine ⟨fun hg => hA ?_, fun hg => hB ?_⟩ <;> clear hA hB A B) | refine ⟨fun hg => ?_, fun hg => ?_⟩) <;> (try simp only [BN2] at hg) <;> (try simp only [hg, cond_true, cond_false])) <;> (try (refine hK1 _ ?_; clear hK1 K1)) <;> (try simp only [BN3] at hg))) | (fail) | ((first | refine awp_region ?_ | refine awp_draw (by kernel_rfl) ?_ | refine awp_block ?_ | refine awp_exit ?_ | refine awp_skip ?_ | refine awp_ret ?_); (try simp only [NB, simprocAttr]); (try ((repeat ((fail_if_success (refine hK _ ?_)); clear hK K)); refine hK _ ?_; clear hK K))))
  refine awp_seq_k fun K hK => ?_
  repeat' (first | ((first | refine aops_nil ?_ | refine aqops_nil ?_); (try simp only [NB]); ((repeat ((fail_if_success (refine hK _ ?_)); clear hK K)); refine hK _ ?_; clear hK K)) | ((first | refine aops_k fun K1 hK1 => ?_ | refine aqops_k fun K1 hK1 => ?_ | refine awp_cond_k fun A B hA hB => ?_); simp only [S1, simprocAttr, T2, T3, T4, T23, T25, T35, T51, T53, T58]; first | (refine hK1 _ ?_; clear hK1 K1) | ((first | refine hA ?_ | refine hB ?_); clear hA hB A B) | (refine join_x (v := ?_) (fun hg hk9 => ?_) ?_; rotate_left; (focus (try ((try simp only [BN] at hg); simp only [S1, simprocAttr, T2, T3, T4, T23, T25, T35, T51, T53, T58, hg] at hk9 ⊢)); first | exact hk9); (refine hK1 _ ?_; clear hK1 K1)) | (((first | (refine ⟨fun hg => hA ?_, fun hg => hB ?_⟩ <;> clear hA hB A B) | refine ⟨fun hg => ?_, fun hg => ?_⟩) <;> (try simp only [BN2] at hg) <;> (try simp only [hg, cond_true, cond_false])) <;> (try (refine hK1 _ ?_; clear hK1 K1)) <;> (try simp only [BN3] at hg))) | (fail) | ((first | refine awp_region ?_ | refine awp_draw (by kernel_rfl) ?_ | refine awp_block ?_ | refine awp_exit ?_ | refine awp_skip ?_ | refine awp_ret ?_); (try simp only [NB, simprocAttr]); (try ((repeat ((fail_if_success (refine hK _ ?_)); clear hK K)); refine hK _ ?_; clear hK K))))
  refine awp_seq_k fun K hK => ?_
  repeat' (first | ((first | refine aops_nil ?_ | refine aqops_nil ?_); (try simp only [NB])) | ((repeat ((fail_if_success (refine hK _ ?_)); clear hK K)); refine hK _ ?_; clear hK K) | ((first | refine aops_k fun K1 hK1 => ?_ | refine aqops_k fun K1 hK1 => ?_ | refine awp_cond_k fun A B hA hB => ?_); simp only [S1, simprocAttr, T2, T3, T4, T23, T25, T35, T51, T53, T58, List.length_map]; first | (refine hK1 _ ?_; clear hK1 K1) | ((first | refine hA ?_ | refine hB ?_); clear hA hB A B) | (refine join_x (v := ?_) (fun hg hk9 => ?_) ?_; rotate_left; (focus (try ((try simp only [BN] at hg); simp only [S1, simprocAttr, T2, T3, T4, T23, T25, T35, T51, T53, T58, List.length_map, hg] at hk9 ⊢)); first | exact hk9); (refine hK1 _ ?_; clear hK1 K1)) | (((first | (refine ⟨fun hg => hA ?_, fun hg => hB ?_⟩ <;> clear hA hB A B) | refine ⟨fun hg => ?_, fun hg => ?_⟩) <;> (try simp only [BN2] at hg) <;> (try simp only [hg, cond_true, cond_false])) <;> (try (refine hK1 _ ?_; clear hK1 K1)) <;> (try simp only [BN3] at hg))) | (refine awp_seq_k fun K hK => ?_) | ((first | refine awp_region ?_ | refine awp_draw (by kernel_rfl) ?_ | refine awp_block ?_ | refine awp_exit ?_ | refine awp_skip ?_ | refine awp_ret ?_); (try simp only [NB, simprocAttr])))
  let q := fun f : Fl => f.src == i
  refine awp_forG fl.length 26 (fun j => [(11, .i j), (10, .i fl.length), (9, .p (.sl (fl.map eF))), (1, .i i), (5, .ref (h.length + 1) (pickF q fl j).length 0 1 (pickF q fl j).length)])
    (fun j => [some ⟨0, [.p (.sl nodes), .p (.sl (fl.map eF))]⟩, some ⟨(pickF q fl j).length, (pickF q fl j).map AV.i⟩]) (fun j => True) ?_ trivial fun j hj hp K hK => ?_
  · refine (Ghost.adopt 5 1 rfl).trans (Sub.ghost ⟨rfl, ⟨[], by simp [pickF]⟩, ?_, ?_⟩)
    · simp [keeps, upd, avlt, pickF]
    · simp [blksLt, avlts, avlt, pickF]
  rcases Nat.lt_or_ge j fl.length with hlt | hge
  · obtain ⟨k, hx⟩ : ∃ k, fl[j]? = some k := ⟨_, List.getElem?_eq_getElem hlt⟩
    have hle := pickF_le q fl j
    have hmax : (pickF q fl j).length + 1 ≤ maxCount := by unfold maxCount; omega
    cases hq : q k with
    | false =>
      have f1 : (k.src == i) = false := hq
      have e1 : pickF q fl (j + 1) = pickF q fl j := by simp only [pickF, hx, hq]; rfl
      repeat' (first | ((first | refine aops_nil ?_ | refine aqops_nil ?_); (try simp only [NB])) | ((repeat ((fail_if_success (refine hK _ ?_)); clear hK K)); refine hK _ ?_; clear hK K) | ((first | refine aops_k fun K1 hK1 => ?_ | refine aqops_k fun K1 hK1 => ?_ | refine awp_cond_k fun A B hA hB => ?_); simp only [S1, simprocAttr, T2, T3, T4, T23, T25, T35, T51, T53, T58, rowF hx, hitF hlt, nextF hl hlt, eF, f1, List.length_map]; first | (refine hK1 _ ?_; clear hK1 K1) | ((first | refine hA ?_ | refine hB ?_); clear hA hB A B) | (refine join_x (v := ?_) (fun hg hk9 => ?_) ?_; rotate_left; (focus (try ((try simp only [BN] at hg); simp only [S1, simprocAttr, T2, T3, T4, T23, T25, T35, T51, T53, T58, rowF hx, hitF hlt, nextF hl hlt, eF, f1, List.length_map, hg] at hk9 ⊢)); first | exact hk9); (refine hK1 _ ?_; clear hK1 K1)) | (((first | (refine ⟨fun hg => hA ?_, fun hg => hB ?_⟩ <;> clear hA hB A B) | refine ⟨fun hg => ?_, fun hg => ?_⟩) <;> (try simp only [BN2] at hg) <;> (try simp only [hg, cond_true, cond_false])) <;> (try (refine hK1 _ ?_; clear hK1 K1)) <;> (try simp only [BN3] at hg))) | (refine awp_seq_k fun K hK => ?_) | ((first | refine awp_region ?_ | refine awp_draw (by kernel_rfl) ?_ | refine awp_block ?_ | refine awp_exit ?_ | refine awp_skip ?_ | refine awp_ret ?_); (try simp only [NB, simprocAttr])))
      all_goals refine ⟨hlt, trivial, ?_⟩
      all_goals simp only [e1]
      all_goals refine ⟨rfl, ⟨_, rfl⟩, ?_, ?_⟩
      · simp only [keeps, avlt, avlts, blksLt, frL, upd_get, S1, simprocAttr, List.length_map, Int.natCast_zero, AV.p.injEq, PV.int.injEq, PV.bool.injEq, PV.sl.injEq] <;> (try and_intros) <;> (try assumption) <;> (try trivial) <;> (try omega)
      · simp only [blksLt, avlts, avlt]; exact ⟨⟨trivial, trivial, trivial⟩, avlts_ints _ _, trivial⟩
    | true =>
      have f1 : (k.src == i) = true := hq
      have e1 : pickF q fl (j + 1) = pickF q fl j ++ [(j : Int)] := by simp only [pickF, hx, hq]; rfl
      repeat' (first | ((first | refine aops_nil ?_ | refine aqops_nil ?_); (try simp only [NB])) | ((repeat ((fail_if_success (refine hK _ ?_)); clear hK K)); refine hK _ ?_; clear hK K) | ((first | refine aops_k fun K1 hK1 => ?_ | refine aqops_k fun K1 hK1 => ?_ | refine awp_cond_k fun A B hA hB => ?_); simp only [S1, simprocAttr, T2, T3, T4, T23, T25, T35, T51, T53, T58, rowF hx, hitF hlt, nextF hl hlt, eF, f1, List.length_map, hmax, Nat.mul_one, Nat.zero_add]; first | (refine hK1 _ ?_; clear hK1 K1) | ((first | refine hA ?_ | refine hB ?_); clear hA hB A B) | (refine join_x (v := ?_) (fun hg hk9 => ?_) ?_; rotate_left; (focus (try ((try simp only [BN] at hg); simp only [S1, simprocAttr, T2, T3, T4, T23, T25, T35, T51, T53, T58, rowF hx, hitF hlt, nextF hl hlt, eF, f1, List.length_map, hmax, Nat.mul_one, Nat.zero_add, hg] at hk9 ⊢)); first | exact hk9); (refine hK1 _ ?_; clear hK1 K1)) | (((first | (refine ⟨fun hg => hA ?_, fun hg => hB ?_⟩ <;> clear hA hB A B) | refine ⟨fun hg => ?_, fun hg => ?_⟩) <;> (try simp only [BN2] at hg) <;> (try simp only [hg, cond_true, cond_false])) <;> (try (refine hK1 _ ?_; clear hK1 K1)) <;> (try simp only [BN3] at hg))) | (refine awp_seq_k fun K hK => ?_) | ((first | refine awp_region ?_ | refine awp_draw (by kernel_rfl) ?_ | refine awp_block ?_ | refine awp_exit ?_ | refine awp_skip ?_ | refine awp_ret ?_); (try simp only [NB, simprocAttr])))
      all_goals refine ⟨hlt, trivial, ?_⟩
      all_goals simp only [e1, List.length_append, List.map_append, List.length_cons, List.length_nil, List.map_cons, List.map_nil, Nat.zero_add]
      all_goals refine ⟨rfl, ⟨_, rfl⟩, ?_, ?_⟩
      · simp only [keeps, avlt, avlts, blksLt, frL, upd_get, S1, simprocAttr, List.length_map, Int.natCast_zero, AV.p.injEq, PV.int.injEq, PV.bool.injEq, PV.sl.injEq] <;> (try and_intros) <;> (try assumption) <;> (try trivial) <;> (try omega)
      · simp only [blksLt, avlts, avlt]; exact ⟨⟨trivial, trivial, trivial⟩, (by have := avlts_ints (h.length + 2) (pickF q fl j ++ [(j : Int)]); simpa using this), trivial⟩
  · obtain rfl : j = fl.length := by omega
    repeat' (first | ((first | refine aops_nil ?_ | refine aqops_nil ?_); (try simp only [NB])) | ((repeat ((fail_if_success (refine hK _ ?_)); clear hK K)); refine hK _ ?_; clear hK K) | ((first | refine aops_k fun K1 hK1 => ?_ | refine aqops_k fun K1 hK1 => ?_ | refine awp_cond_k fun A B hA hB => ?_); simp only [S1, simprocAttr, T2, T3, T4, T23, T25, T35, T51, T53, T58, endF]; first | (refine hK1 _ ?_; clear hK1 K1) | ((first | refine hA ?_ | refine hB ?_); clear hA hB A B) | (refine join_x (v := ?_) (fun hg hk9 => ?_) ?_; rotate_left; (focus (try ((try simp only [BN] at hg); simp only [S1, simprocAttr, T2, T3, T4, T23, T25, T35, T51, T53, T58, endF, hg] at hk9 ⊢)); first | exact hk9); (refine hK1 _ ?_; clear hK1 K1)) | (((first | (refine ⟨fun hg => hA ?_, fun hg => hB ?_⟩ <;> clear hA hB A B) | refine ⟨fun hg => ?_, fun hg => ?_⟩) <;> (try simp only [BN2] at hg) <;> (try simp only [hg, cond_true, cond_false])) <;> (try (refine hK1 _ ?_; clear hK1 K1)) <;> (try simp only [BN3] at hg))) | (refine awp_seq_k fun K hK => ?_) | ((first | refine awp_region ?_ | refine awp_draw (by kernel_rfl) ?_ | refine awp_block ?_ | refine awp_exit ?_ | refine awp_skip ?_ | refine awp_ret ?_); (try simp only [NB, simprocAttr])))
    exact EndP_ints (.inr rfl) rfl (by simp only [blkAt, get_app, List.getElem?_cons_succ, List.getElem?_cons_zero, if_true]) (by omega) (by simp) (by simp) rfl
end Go.Proofs.YtlophgkgmhcagaaDoor.AM
end

section
set_option linter.unusedVariables false
set_option linter.unusedSimpArgs false
set_option maxRecDepth 4000
set_option maxHeartbeats 4000000
namespace Go.Proofs.YtlophgkgmhcagaaDoor.AM
open Go Go.Proofs
attribute [local irreducible] awp aops aqops aeops arun
variable {G : Nat → Option (List PV)}

mutual
theorem avlt_mono {m n : Nat} (hmn : m ≤ n) : ∀ x : AV, avlt m x → avlt n x
  | .p _, _ => by simp [avlt]
  | .agg l, h => by simp only [avlt] at h ⊢; exact avlts_mono hmn l h
  | .tup l, h => by simp only [avlt] at h ⊢; exact avlts_mono hmn l h
  | .fn f l, h => by simp only [avlt] at h ⊢; exact avlts_mono hmn l h
  | .ref b g o s l, h => by simp only [avlt] at h ⊢; omega
  | .ptr b g o, h => by simp only [avlt] at h ⊢; omega
  | .pin c, _ => by simp [avlt]
theorem avlts_mono {m n : Nat} (hmn : m ≤ n) : ∀ l : List AV, avlts m l → avlts n l
  | [], _ => by simp [avlts]
  | x :: r, h => by simp only [avlts] at h ⊢; exact ⟨avlt_mono hmn x h.1, avlts_mono hmn r h.2⟩
end

theorem app_get {H : Heap} {b : Nat} {x : Option Blk} (hb : H[b]? = some x) (L : Heap) : (H ++ L)[b]? = some x := by
  have : b < H.length := by
    rcases Nat.lt_or_ge b H.length with h | h
    · exact h
    · rw [List.getElem?_eq_none h] at hb; cases hb
  rw [List.getElem?_append_left this]; exact hb

abbrev aF (k : Fl) : AV := .agg [.i k.src, .i k.dst, .b k.els, .i k.cond.op, .i k.cond.n, .p (.sl (k.cond.kids.map eT))]

theorem ins1_calls (k : Fl) (i : Int) (H : Heap) {b g : Nat} (hb : H[b]? = some (some ⟨g, [.i i]⟩)) : ACalls Tryd.prog G 44 [aF k, .ptr b g 0] H (fun r h' => r = .b (k.dst == i) ∧ h' = H) := by
  refine acalls_pure (rl := []) mixed Tryd.func44 rfl (rs := [.tmp 3]) rfl Tryd.ntmps44 (by simp) ?_
  repeat' (first | ((first | refine aops_nil ?_ | refine aqops_nil ?_); (try simp only [NB])) | ((repeat ((fail_if_success (refine hK _ ?_)); clear hK K)); refine hK _ ?_; clear hK K) | ((first | refine aops_k fun K1 hK1 => ?_ | refine aqops_k fun K1 hK1 => ?_ | refine awp_cond_k fun A B hA hB => ?_); simp only [S1, simprocAttr, T2, T3, T4, T23, T25, T35, T51, T53, T58, T105, app_get hb]; first | (refine hK1 _ ?_; clear hK1 K1) | ((first | refine hA ?_ | refine hB ?_); clear hA hB A B) | (refine join_x (v := ?_) (fun hg hk9 => ?_) ?_; rotate_left; (focus (try ((try simp only [BN] at hg); simp only [S1, simprocAttr, T2, T3, T4, T23, T25, T35, T51, T53, T58, T105, app_get hb, hg] at hk9 ⊢)); first | exact hk9); (refine hK1 _ ?_; clear hK1 K1)) | (((first | (refine ⟨fun hg => hA ?_, fun hg => hB ?_⟩ <;> clear hA hB A B) | refine ⟨fun hg => ?_, fun hg => ?_⟩) <;> (try simp only [BN2] at hg) <;> (try simp only [hg, cond_true, cond_false])) <;> (try (refine hK1 _ ?_; clear hK1 K1)) <;> (try simp only [BN3] at hg))) | (refine awp_seq_k fun K hK => ?_) | ((first | refine awp_region ?_ | refine awp_draw (by kernel_rfl) ?_ | refine awp_block ?_ | refine awp_exit ?_ | refine awp_skip ?_ | refine awp_ret ?_); (try simp only [NB, simprocAttr])))
  simp only [EndP, FinP, resA, resL, resA1, lastV, lastA, lastAs, pur, purs, take_app, List.take_length, S1, simprocAttr, T2, T3, T4, T23, T25, T35, T51, T53, T58, T105, Nat.le_add_right, Nat.le_refl]

theorem outs1_calls (k : Fl) (i : Int) (H : Heap) {b g : Nat} (hb : H[b]? = some (some ⟨g, [.i i]⟩)) : ACalls Tryd.prog G 45 [aF k, .ptr b g 0] H (fun r h' => r = .b (k.src == i) ∧ h' = H) := by
  refine acalls_pure (rl := []) mixed Tryd.func45 rfl (rs := [.tmp 3]) rfl Tryd.ntmps45 (by simp) ?_
  repeat' (first | ((first | refine aops_nil ?_ | refine aqops_nil ?_); (try simp only [NB])) | ((repeat ((fail_if_success (refine hK _ ?_)); clear hK K)); refine hK _ ?_; clear hK K) | ((first | refine aops_k fun K1 hK1 => ?_ | refine aqops_k fun K1 hK1 => ?_ | refine awp_cond_k fun A B hA hB => ?_); simp only [S1, simprocAttr, T2, T3, T4, T23, T25, T35, T51, T53, T58, T105, app_get hb]; first | (refine hK1 _ ?_; clear hK1 K1) | ((first | refine hA ?_ | refine hB ?_); clear hA hB A B) | (refine join_x (v := ?_) (fun hg hk9 => ?_) ?_; rotate_left; (focus (try ((try simp only [BN] at hg); simp only [S1, simprocAttr, T2, T3, T4, T23, T25, T35, T51, T53, T58, T105, app_get hb, hg] at hk9 ⊢)); first | exact hk9); (refine hK1 _ ?_; clear hK1 K1)) | (((first | (refine ⟨fun hg => hA ?_, fun hg => hB ?_⟩ <;> clear hA hB A B) | refine ⟨fun hg => ?_, fun hg => ?_⟩) <;> (try simp only [BN2] at hg) <;> (try simp only [hg, cond_true, cond_false])) <;> (try (refine hK1 _ ?_; clear hK1 K1)) <;> (try simp only [BN3] at hg))) | (refine awp_seq_k fun K hK => ?_) | ((first | refine awp_region ?_ | refine awp_draw (by kernel_rfl) ?_ | refine awp_block ?_ | refine awp_exit ?_ | refine awp_skip ?_ | refine awp_ret ?_); (try simp only [NB, simprocAttr])))
  simp only [EndP, FinP, resA, resL, resA1, lastV, lastA, lastAs, pur, purs, take_app, List.take_length, S1, simprocAttr, T2, T3, T4, T23, T25, T35, T51, T53, T58, T105, Nat.le_add_right, Nat.le_refl]

theorem flows_calls {f : FuncId} (hE : Enters Tryd.prog f) {caps : List AV} {q : Fl → Bool} (nodes : List (List PV)) (fl : List Fl) (hl : fl.length ≤ 100) (h : Heap) (hcap : avlts h.length caps)
    (hc : ∀ L, ∀ k ∈ fl, ACalls Tryd.prog G f (aF k :: caps) (h ++ L) (fun r h' => r = .b (q k) ∧ h' = h ++ L)) :
    ACalls Tryd.prog G 43 [.agg [.p (.sl nodes), .p (.sl (fl.map eF))], .fn f caps] h (fun r h' => r = aI (pickF q fl fl.length) ∧ h' = h) := by
  refine acalls_pure (rl := []) mixed Tryd.func43 rfl (rs := [.tmp 4]) rfl Tryd.ntmps43 (by simp) ?_
  refine awp_seq_k fun K hK => ?_
  repeat' (first | ((first | refine aops_nil ?_ | refine aqops_nil ?_); (try simp only [NB]); ((repeat ((fail_if_success (refine hK _ ?_)); clear hK K)); refine hK _ ?_; clear hK K)) | ((first | refine aops_k fun K1 hK1 => ?_ | refine aqops_k fun K1 hK1 => ?_ | refine awp_cond_k fun A B hA hB => ?_); simp only [S1, simprocAttr, T2, T3, T4, T23, T25, T35, T51, T53, T58, T105]; first | (refine hK1 _ ?_; clear hK1 K1) | ((first | refine hA ?_ | refine hB ?_); clear hA hB A B) | (refine join_x (v := ?_) (fun hg hk9 => ?_) ?_; rotate_left; (focus (try ((try simp only [BN] at hg); simp only [S1, simprocAttr, T2, T3, T4, T23, T25, T35, T51, T53, T58, T105, hg] at hk9 ⊢)); first | exact hk9); (refine hK1 _ ?_; clear hK1 K1)) | (((first | (refine ⟨fun hg => hA ?_, fun hg => hB ?_⟩ <;> clear hA hB A B) | refine ⟨fun hg => ?_, fun hg => ?_⟩) <;> (try simp only [BN2] at hg) <;> (try simp only [hg, cond_true, cond_false])) <;> (try (refine hK1 _ ?_; clear hK1 K1)) <;> (try simp only [BN3] at hg))) | (fail) | ((first | refine awp_region ?_ | refine awp_draw (by kernel_rfl) ?_ | refine awp_block ?_ | refine awp_exit ?_ | refine awp_skip ?_ | refine awp_ret ?_); (try simp only [NB, simprocAttr]); (try ((repeat ((fail_if_success (refine hK _ ?_)); clear hK K)); refine hK _ ?_; clear hK K))))
  refine awp_seq_k fun K hK => ?_
  repeat' (first | ((first | refine aops_nil ?_ | refine aqops_nil ?_); (try simp only [NB]); ((repeat ((fail_if_success (refine hK _ ?_)); clear hK K)); refine hK _ ?_; clear hK K)) | ((first | refine aops_k fun K1 hK1 => ?_ | refine aqops_k fun K1 hK1 => ?_ | refine awp_cond_k fun A B hA hB => ?_); simp only [S1, simprocAttr, T2, T3, T4, T23, T25, T35, T51, T53, T58, T105]; first | (refine hK1 _ ?_; clear hK1 K1) | ((first | refine hA ?_ | refine hB ?_); clear hA hB A B) | (refine join_x (v := ?_) (fun hg hk9 => ?_) ?_; rotate_left; (focus (try ((try simp only [BN] at hg); simp only [S1, simprocAttr, T2, T3, T4, T23, T25, T35, T51, T53, T58, T105, hg] at hk9 ⊢)); first | exact hk9); (refine hK1 _ ?_; clear hK1 K1)) | (((first | (refine ⟨fun hg => hA ?_, fun hg => hB ?_⟩ <;> clear hA hB A B) | refine ⟨fun hg => ?_, fun hg => ?_⟩) <;> (try simp only [BN2] at hg) <;> (try simp only [hg, cond_true, cond_false])) <;> (try (refine hK1 _ ?_; clear hK1 K1)) <;> (try simp only [BN3] at hg))) | (fail) | ((first | refine awp_region ?_ | refine awp_draw (by kernel_rfl) ?_ | refine awp_block ?_ | refine awp_exit ?_ | refine awp_skip ?_ | refine awp_ret ?_); (try simp only [NB, simprocAttr]); (try ((repeat ((fail_if_success (refine hK _ ?_)); clear hK K)); refine hK _ ?_; clear hK K))))
  refine awp_seq_k fun K hK => ?_
  repeat' (first | ((first | refine aops_nil ?_ | refine aqops_nil ?_); (try simp only [NB])) | ((repeat ((fail_if_success (refine hK _ ?_)); clear hK K)); refine hK _ ?_; clear hK K) | ((first | refine aops_k fun K1 hK1 => ?_ | refine aqops_k fun K1 hK1 => ?_ | refine awp_cond_k fun A B hA hB => ?_); simp only [S1, simprocAttr, T2, T3, T4, T23, T25, T35, T51, T53, T58, T105, List.length_map]; first | (refine hK1 _ ?_; clear hK1 K1) | ((first | refine hA ?_ | refine hB ?_); clear hA hB A B) | (refine join_x (v := ?_) (fun hg hk9 => ?_) ?_; rotate_left; (focus (try ((try simp only [BN] at hg); simp only [S1, simprocAttr, T2, T3, T4, T23, T25, T35, T51, T53, T58, T105, List.length_map, hg] at hk9 ⊢)); first | exact hk9); (refine hK1 _ ?_; clear hK1 K1)) | (((first | (refine ⟨fun hg => hA ?_, fun hg => hB ?_⟩ <;> clear hA hB A B) | refine ⟨fun hg => ?_, fun hg => ?_⟩) <;> (try simp only [BN2] at hg) <;> (try simp only [hg, cond_true, cond_false])) <;> (try (refine hK1 _ ?_; clear hK1 K1)) <;> (try simp only [BN3] at hg))) | (refine awp_seq_k fun K hK => ?_) | ((first | refine awp_region ?_ | refine awp_draw (by kernel_rfl) ?_ | refine awp_block ?_ | refine awp_exit ?_ | refine awp_skip ?_ | refine awp_ret ?_); (try simp only [NB, simprocAttr])))
  have hcap2 := avlts_mono (Nat.le_add_right h.length 2) caps hcap
  have hcap0 := avlts_mono (Nat.le_add_right h.length 1) caps hcap
  refine awp_forG fl.length 25 (fun j => [(11, .i j), (10, .i fl.length), (9, .p (.sl (fl.map eF))), (1, .fn f caps), (5, .ref (h.length + 1) (pickF q fl j).length 0 1 (pickF q fl j).length)])
    (fun j => [some ⟨0, [.p (.sl nodes), .p (.sl (fl.map eF))]⟩, some ⟨(pickF q fl j).length, (pickF q fl j).map AV.i⟩]) (fun j => True) ?_ trivial fun j hj hp K hK => ?_
  · refine (Ghost.adopt 5 1 rfl).trans (Sub.ghost ⟨rfl, ⟨[], by simp [pickF]⟩, ?_, ?_⟩)
    · simp only [keeps, avlt, pickF, upd_get, frL, List.length_cons, List.length_nil]
      simp
      exact hcap2
    · simp [blksLt, avlts, avlt, pickF]
  rcases Nat.lt_or_ge j fl.length with hlt | hge
  · obtain ⟨k, hx⟩ : ∃ k, fl[j]? = some k := ⟨_, List.getElem?_eq_getElem hlt⟩
    have hm := List.mem_of_getElem? hx
    have hle := pickF_le q fl j
    have hmax : (pickF q fl j).length + 1 ≤ maxCount := by unfold maxCount; omega
    have hck := fun L => hc L k hm
    cases hq : q k with
    | false =>
      rw [hq] at hck
      have e1 : pickF q fl (j + 1) = pickF q fl j := by simp only [pickF, hx, hq]; rfl
      repeat' (first | ((first | refine aops_nil ?_ | refine aqops_nil ?_); (try simp only [NB])) | ((repeat ((fail_if_success (refine hK _ ?_)); clear hK K)); refine hK _ ?_; clear hK K) | ((first | refine aops_k fun K1 hK1 => ?_ | refine aqops_k fun K1 hK1 => ?_ | refine awp_cond_k fun A B hA hB => ?_); simp only [S1, simprocAttr, T2, T3, T4, T23, T25, T35, T51, T53, T58, T105, rowF hx, hitF hlt, nextF hl hlt, eF, List.length_map]; first | (refine hK1 _ ?_; clear hK1 K1) | ((first | refine hA ?_ | refine hB ?_); clear hA hB A B) | ((first | apply call_a hE | apply call_q hE); exact (hck _); (refine hK1 _ ?_; clear hK1 K1)) | (refine join_x (v := ?_) (fun hg hk9 => ?_) ?_; rotate_left; (focus (try ((try simp only [BN] at hg); simp only [S1, simprocAttr, T2, T3, T4, T23, T25, T35, T51, T53, T58, T105, rowF hx, hitF hlt, nextF hl hlt, eF, List.length_map, hg] at hk9 ⊢)); first | exact hk9 | ((first | apply call_a hE | apply call_q hE); exact (hck _); exact hk9)); (refine hK1 _ ?_; clear hK1 K1)) | (((first | (refine ⟨fun hg => hA ?_, fun hg => hB ?_⟩ <;> clear hA hB A B) | refine ⟨fun hg => ?_, fun hg => ?_⟩) <;> (try simp only [BN2] at hg) <;> (try simp only [hg, cond_true, cond_false])) <;> (try (refine hK1 _ ?_; clear hK1 K1)) <;> (try simp only [BN3] at hg))) | (refine awp_seq_k fun K hK => ?_) | ((first | refine awp_region ?_ | refine awp_draw (by kernel_rfl) ?_ | refine awp_block ?_ | refine awp_exit ?_ | refine awp_skip ?_ | refine awp_ret ?_); (try simp only [NB, simprocAttr])))
      all_goals refine ⟨hlt, trivial, ?_⟩
      all_goals simp only [e1]
      all_goals refine ⟨rfl, ⟨_, rfl⟩, ?_, ?_⟩
      · simp only [keeps, avlt, avlts, blksLt, frL, upd_get, S1, simprocAttr, List.length_map, Int.natCast_zero, AV.p.injEq, PV.int.injEq, PV.bool.injEq, PV.sl.injEq] <;> (try and_intros) <;> (try assumption) <;> (try trivial) <;> (try omega)
      · simp only [blksLt, avlts, avlt]; exact ⟨⟨trivial, trivial, trivial⟩, avlts_ints _ _, trivial⟩
    | true =>
      rw [hq] at hck
      have e1 : pickF q fl (j + 1) = pickF q fl j ++ [(j : Int)] := by simp only [pickF, hx, hq]; rfl
      repeat' (first | ((first | refine aops_nil ?_ | refine aqops_nil ?_); (try simp only [NB])) | ((repeat ((fail_if_success (refine hK _ ?_)); clear hK K)); refine hK _ ?_; clear hK K) | ((first | refine aops_k fun K1 hK1 => ?_ | refine aqops_k fun K1 hK1 => ?_ | refine awp_cond_k fun A B hA hB => ?_); simp only [S1, simprocAttr, T2, T3, T4, T23, T25, T35, T51, T53, T58, T105, rowF hx, hitF hlt, nextF hl hlt, eF, List.length_map, hmax, Nat.mul_one, Nat.zero_add]; first | (refine hK1 _ ?_; clear hK1 K1) | ((first | refine hA ?_ | refine hB ?_); clear hA hB A B) | ((first | apply call_a hE | apply call_q hE); exact (hck _); (refine hK1 _ ?_; clear hK1 K1)) | (refine join_x (v := ?_) (fun hg hk9 => ?_) ?_; rotate_left; (focus (try ((try simp only [BN] at hg); simp only [S1, simprocAttr, T2, T3, T4, T23, T25, T35, T51, T53, T58, T105, rowF hx, hitF hlt, nextF hl hlt, eF, List.length_map, hmax, Nat.mul_one, Nat.zero_add, hg] at hk9 ⊢)); first | exact hk9 | ((first | apply call_a hE | apply call_q hE); exact (hck _); exact hk9)); (refine hK1 _ ?_; clear hK1 K1)) | (((first | (refine ⟨fun hg => hA ?_, fun hg => hB ?_⟩ <;> clear hA hB A B) | refine ⟨fun hg => ?_, fun hg => ?_⟩) <;> (try simp only [BN2] at hg) <;> (try simp only [hg, cond_true, cond_false])) <;> (try (refine hK1 _ ?_; clear hK1 K1)) <;> (try simp only [BN3] at hg))) | (refine awp_seq_k fun K hK => ?_) | ((first | refine awp_region ?_ | refine awp_draw (by kernel_rfl) ?_ | refine awp_block ?_ | refine awp_exit ?_ | refine awp_skip ?_ | refine awp_ret ?_); (try simp only [NB, simprocAttr])))
      all_goals refine ⟨hlt, trivial, ?_⟩
      all_goals simp only [e1, List.length_append, List.map_append, List.length_cons, List.length_nil, List.map_cons, List.map_nil, Nat.zero_add]
      all_goals refine ⟨rfl, ⟨_, rfl⟩, ?_, ?_⟩
      · simp only [keeps, avlt, avlts, blksLt, frL, upd_get, S1, simprocAttr, List.length_map, Int.natCast_zero, AV.p.injEq, PV.int.injEq, PV.bool.injEq, PV.sl.injEq] <;> (try and_intros) <;> (try assumption) <;> (try trivial) <;> (try omega)
      · simp only [blksLt, avlts, avlt]; exact ⟨⟨trivial, trivial, trivial⟩, (by have := avlts_ints (h.length + 2) (pickF q fl j ++ [(j : Int)]); simpa using this), trivial⟩
  · obtain rfl : j = fl.length := by omega
    repeat' (first | ((first | refine aops_nil ?_ | refine aqops_nil ?_); (try simp only [NB])) | ((repeat ((fail_if_success (refine hK _ ?_)); clear hK K)); refine hK _ ?_; clear hK K) | ((first | refine aops_k fun K1 hK1 => ?_ | refine aqops_k fun K1 hK1 => ?_ | refine awp_cond_k fun A B hA hB => ?_); simp only [S1, simprocAttr, T2, T3, T4, T23, T25, T35, T51, T53, T58, T105, endF]; first | (refine hK1 _ ?_; clear hK1 K1) | ((first | refine hA ?_ | refine hB ?_); clear hA hB A B) | (refine join_x (v := ?_) (fun hg hk9 => ?_) ?_; rotate_left; (focus (try ((try simp only [BN] at hg); simp only [S1, simprocAttr, T2, T3, T4, T23, T25, T35, T51, T53, T58, T105, endF, hg] at hk9 ⊢)); first | exact hk9); (refine hK1 _ ?_; clear hK1 K1)) | (((first | (refine ⟨fun hg => hA ?_, fun hg => hB ?_⟩ <;> clear hA hB A B) | refine ⟨fun hg => ?_, fun hg => ?_⟩) <;> (try simp only [BN2] at hg) <;> (try simp only [hg, cond_true, cond_false])) <;> (try (refine hK1 _ ?_; clear hK1 K1)) <;> (try simp only [BN3] at hg))) | (refine awp_seq_k fun K hK => ?_) | ((first | refine awp_region ?_ | refine awp_draw (by kernel_rfl) ?_ | refine awp_block ?_ | refine awp_exit ?_ | refine awp_skip ?_ | refine awp_ret ?_); (try simp only [NB, simprocAttr])))
    exact EndP_ints (.inr rfl) rfl (by simp only [blkAt, get_app, List.getElem?_cons_succ, List.getElem?_cons_zero, if_true]) (by omega) (by simp) (by simp) rfl

theorem ins_calls (nodes : List (List PV)) (fl : List Fl) (hl : fl.length ≤ 100) (i : Int) (h : Heap) : ACalls Tryd.prog G 24 [.agg [.p (.sl nodes), .p (.sl (fl.map eF))], .i i] h (fun r h' => r = aI (insN fl i) ∧ h' = h) := by
  have hf := flows_calls (G := G) (f := 44) E44 (caps := [.ptr (h.length + 1) 0 0]) (q := fun f => f.dst == i) nodes fl hl (h ++ [some ⟨0, [.p (.sl nodes), .p (.sl (fl.map eF))]⟩, some ⟨0, [.i i]⟩]) (by simp [avlts, avlt])
    (fun L k hk => ins1_calls k i _ (app_get (by simp [get_app]) L))
  refine acalls_pure (rl := []) mixed Tryd.func24 rfl (rs := [.tmp 4]) rfl Tryd.ntmps24 (by simp) ?_
  repeat' (first | ((first | refine aops_nil ?_ | refine aqops_nil ?_); (try simp only [NB])) | ((repeat ((fail_if_success (refine hK _ ?_)); clear hK K)); refine hK _ ?_; clear hK K) | ((first | refine aops_k fun K1 hK1 => ?_ | refine aqops_k fun K1 hK1 => ?_ | refine awp_cond_k fun A B hA hB => ?_); simp only [S1, simprocAttr, T2, T3, T4, T23, T25, T35, T51, T53, T58, T105]; first | (refine hK1 _ ?_; clear hK1 K1) | ((first | refine hA ?_ | refine hB ?_); clear hA hB A B) | ((first | apply call_a E43 | apply call_q E43); exact hf; (refine hK1 _ ?_; clear hK1 K1)) | (refine join_x (v := ?_) (fun hg hk9 => ?_) ?_; rotate_left; (focus (try ((try simp only [BN] at hg); simp only [S1, simprocAttr, T2, T3, T4, T23, T25, T35, T51, T53, T58, T105, hg] at hk9 ⊢)); first | exact hk9 | ((first | apply call_a E43 | apply call_q E43); exact hf; exact hk9)); (refine hK1 _ ?_; clear hK1 K1)) | (((first | (refine ⟨fun hg => hA ?_, fun hg => hB ?_⟩ <;> clear hA hB A B) | refine ⟨fun hg => ?_, fun hg => ?_⟩) <;> (try simp only [BN2] at hg) <;> (try simp only [hg, cond_true, cond_false])) <;> (try (refine hK1 _ ?_; clear hK1 K1)) <;> (try simp only [BN3] at hg))) | (refine awp_seq_k fun K hK => ?_) | ((first | refine awp_region ?_ | refine awp_draw (by kernel_rfl) ?_ | refine awp_block ?_ | refine awp_exit ?_ | refine awp_skip ?_ | refine awp_ret ?_); (try simp only [NB, simprocAttr])))
  simp only [EndP, FinP, resA, resL, resA1, lastV, lastA, lastAs, pur, purs, take_app, List.take_length, S1, simprocAttr, T2, T3, T4, T23, T25, T35, T51, T53, T58, T105, Nat.le_add_right, Nat.le_refl]
  rfl

theorem outs_calls (nodes : List (List PV)) (fl : List Fl) (hl : fl.length ≤ 100) (i : Int) (h : Heap) : ACalls Tryd.prog G 25 [.agg [.p (.sl nodes), .p (.sl (fl.map eF))], .i i] h (fun r h' => r = aI (outsN fl i) ∧ h' = h) := by
  have hf := flows_calls (G := G) (f := 45) E45 (caps := [.ptr (h.length + 1) 0 0]) (q := fun f => f.src == i) nodes fl hl (h ++ [some ⟨0, [.p (.sl nodes), .p (.sl (fl.map eF))]⟩, some ⟨0, [.i i]⟩]) (by simp [avlts, avlt])
    (fun L k hk => outs1_calls k i _ (app_get (by simp [get_app]) L))
  refine acalls_pure (rl := []) mixed Tryd.func25 rfl (rs := [.tmp 4]) rfl Tryd.ntmps25 (by simp) ?_
  repeat' (first | ((first | refine aops_nil ?_ | refine aqops_nil ?_); (try simp only [NB])) | ((repeat ((fail_if_success (refine hK _ ?_)); clear hK K)); refine hK _ ?_; clear hK K) | ((first | refine aops_k fun K1 hK1 => ?_ | refine aqops_k fun K1 hK1 => ?_ | refine awp_cond_k fun A B hA hB => ?_); simp only [S1, simprocAttr, T2, T3, T4, T23, T25, T35, T51, T53, T58, T105]; first | (refine hK1 _ ?_; clear hK1 K1) | ((first | refine hA ?_ | refine hB ?_); clear hA hB A B) | ((first | apply call_a E43 | apply call_q E43); exact hf; (refine hK1 _ ?_; clear hK1 K1)) | (refine join_x (v := ?_) (fun hg hk9 => ?_) ?_; rotate_left; (focus (try ((try simp only [BN] at hg); simp only [S1, simprocAttr, T2, T3, T4, T23, T25, T35, T51, T53, T58, T105, hg] at hk9 ⊢)); first | exact hk9 | ((first | apply call_a E43 | apply call_q E43); exact hf; exact hk9)); (refine hK1 _ ?_; clear hK1 K1)) | (((first | (refine ⟨fun hg => hA ?_, fun hg => hB ?_⟩ <;> clear hA hB A B) | refine ⟨fun hg => ?_, fun hg => ?_⟩) <;> (try simp only [BN2] at hg) <;> (try simp only [hg, cond_true, cond_false])) <;> (try (refine hK1 _ ?_; clear hK1 K1)) <;> (try simp only [BN3] at hg))) | (refine awp_seq_k fun K hK => ?_) | ((first | refine awp_region ?_ | refine awp_draw (by kernel_rfl) ?_ | refine awp_block ?_ | refine awp_exit ?_ | refine awp_skip ?_ | refine awp_ret ?_); (try simp only [NB, simprocAttr])))
  simp only [EndP, FinP, resA, resL, resA1, lastV, lastA, lastAs, pur, purs, take_app, List.take_length, S1, simprocAttr, T2, T3, T4, T23, T25, T35, T51, T53, T58, T105, Nat.le_add_right, Nat.le_refl]
  rfl
end Go.Proofs.YtlophgkgmhcagaaDoor.AM
end

section
set_option linter.unusedVariables false
set_option linter.unusedSimpArgs false
set_option maxRecDepth 4000
set_option maxHeartbeats 4000000
namespace Go.Proofs.YtlophgkgmhcagaaDoor.AM
open Go Go.Proofs
attribute [local irreducible] awp aops aqops aeops arun
variable {G : Nat → Option (List PV)}

structure Nd where
  kind : Int
  a : Int
  term : Tm

def eN (k : Nd) : List PV := [.int .i64 k.kind, .int .i64 k.a, .int .i64 k.term.op, .int .i64 k.term.n, .sl (k.term.kids.map eT)]
abbrev aN (k : Nd) : AV := .agg [.i k.kind, .i k.a, .i k.term.op, .i k.term.n, .p (.sl (k.term.kids.map eT))]
abbrev aNet (ns : List Nd) (fl : List Fl) : AV := .agg [.p (.sl (ns.map eN)), .p (.sl (fl.map eF))]

theorem rowN {l : List Nd} {i : Nat} {k : Nd} (h : l[i]? = some k) : (l.map eN)[i]? = some (eN k) := by simp [h]
theorem hitN {l : List Nd} {i : Nat} (h : i < l.length) : decide ((i : Int) < (l.length : Int)) = true := by simp; omega
theorem endN {l : List Nd} : decide ((l.length : Int) < (l.length : Int)) = false := by simp
theorem nextN {l : List Nd} {i : Nat} (hk : l.length ≤ 100) (h : i < l.length) : IntKind.i64.wrap ((i : Int) + 1) = ((i + 1 : Nat) : Int) := by rw [IntWalk.i64_in _ (by omega)]; omega

def findG {α : Type} (p : α → Bool) : List α → Nat → Int
  | [], _ => -1
  | k :: r, i => if p k then (i : Int) else findG p r (i + 1)

theorem findG_step {α : Type} {p : α → Bool} {l : List α} {i : Nat} {k : α} (hk : l[i]? = some k) : findG p (l.drop i) i = if p k then (i : Int) else findG p (l.drop (i + 1)) (i + 1) := by
  obtain ⟨h, e⟩ := List.getElem?_eq_some_iff.mp hk
  rw [List.drop_eq_getElem_cons h, e]; rfl

def firstN (ns : List Nd) (kind : Int) : Int := findG (fun x => x.kind == kind) ns 0

theorem start1_calls (k : Nd) (H : Heap) : ACalls Tryd.prog G 74 [aN k] H (fun r h' => r = .b (k.kind == 1) ∧ h' = H) := by
  refine acalls_pure (rl := []) mixed Tryd.func74 rfl (rs := [.tmp 2]) rfl Tryd.ntmps74 (by simp) ?_
  repeat' (first | ((first | refine aops_nil ?_ | refine aqops_nil ?_); (try simp only [NB])) | ((repeat ((fail_if_success (refine hK _ ?_)); clear hK K)); refine hK _ ?_; clear hK K) | ((first | refine aops_k fun K1 hK1 => ?_ | refine aqops_k fun K1 hK1 => ?_ | refine awp_cond_k fun A B hA hB => ?_); simp only [S1, simprocAttr, T2, T3, T4, T22, T23, T25, T35, T51, T53, T55, T58, T88]; first | (refine hK1 _ ?_; clear hK1 K1) | ((first | refine hA ?_ | refine hB ?_); clear hA hB A B) | (refine join_x (v := ?_) (fun hg hk9 => ?_) ?_; rotate_left; (focus (try ((try simp only [BN] at hg); simp only [S1, simprocAttr, T2, T3, T4, T22, T23, T25, T35, T51, T53, T55, T58, T88, hg] at hk9 ⊢)); first | exact hk9); (refine hK1 _ ?_; clear hK1 K1)) | (((first | (refine ⟨fun hg => hA ?_, fun hg => hB ?_⟩ <;> clear hA hB A B) | refine ⟨fun hg => ?_, fun hg => ?_⟩) <;> (try simp only [BN2] at hg) <;> (try simp only [hg, cond_true, cond_false])) <;> (try (refine hK1 _ ?_; clear hK1 K1)) <;> (try simp only [BN3] at hg))) | (refine awp_seq_k fun K hK => ?_) | ((first | refine awp_region ?_ | refine awp_draw (by kernel_rfl) ?_ | refine awp_block ?_ | refine awp_exit ?_ | refine awp_skip ?_ | refine awp_ret ?_); (try simp only [NB, simprocAttr])))
  simp only [EndP, FinP, resA, resL, resA1, lastV, lastA, lastAs, pur, purs, take_app, List.take_length, S1, simprocAttr, T2, T3, T4, T22, T23, T25, T35, T51, T53, T55, T58, T88, Nat.le_add_right, Nat.le_refl]

theorem end1_calls (k : Nd) (H : Heap) : ACalls Tryd.prog G 75 [aN k] H (fun r h' => r = .b (k.kind == 2) ∧ h' = H) := by
  refine acalls_pure (rl := []) mixed Tryd.func75 rfl (rs := [.tmp 2]) rfl Tryd.ntmps75 (by simp) ?_
  repeat' (first | ((first | refine aops_nil ?_ | refine aqops_nil ?_); (try simp only [NB])) | ((repeat ((fail_if_success (refine hK _ ?_)); clear hK K)); refine hK _ ?_; clear hK K) | ((first | refine aops_k fun K1 hK1 => ?_ | refine aqops_k fun K1 hK1 => ?_ | refine awp_cond_k fun A B hA hB => ?_); simp only [S1, simprocAttr, T2, T3, T4, T22, T23, T25, T35, T51, T53, T55, T58, T88]; first | (refine hK1 _ ?_; clear hK1 K1) | ((first | refine hA ?_ | refine hB ?_); clear hA hB A B) | (refine join_x (v := ?_) (fun hg hk9 => ?_) ?_; rotate_left; (focus (try ((try simp only [BN] at hg); simp only [S1, simprocAttr, T2, T3, T4, T22, T23, T25, T35, T51, T53, T55, T58, T88, hg] at hk9 ⊢)); first | exact hk9); (refine hK1 _ ?_; clear hK1 K1)) | (((first | (refine ⟨fun hg => hA ?_, fun hg => hB ?_⟩ <;> clear hA hB A B) | refine ⟨fun hg => ?_, fun hg => ?_⟩) <;> (try simp only [BN2] at hg) <;> (try simp only [hg, cond_true, cond_false])) <;> (try (refine hK1 _ ?_; clear hK1 K1)) <;> (try simp only [BN3] at hg))) | (refine awp_seq_k fun K hK => ?_) | ((first | refine awp_region ?_ | refine awp_draw (by kernel_rfl) ?_ | refine awp_block ?_ | refine awp_exit ?_ | refine awp_skip ?_ | refine awp_ret ?_); (try simp only [NB, simprocAttr])))
  simp only [EndP, FinP, resA, resL, resA1, lastV, lastA, lastAs, pur, purs, take_app, List.take_length, S1, simprocAttr, T2, T3, T4, T22, T23, T25, T35, T51, T53, T55, T58, T88, Nat.le_add_right, Nat.le_refl]

theorem indexN_calls {f : FuncId} (hE : Enters Tryd.prog f) {caps : List AV} {p : Nd → Bool} (ks : List Nd) (hl : ks.length ≤ 100) (h : Heap) (hcap : avlts h.length caps)
    (hc0 : ∀ k ∈ ks, ACalls Tryd.prog G f (aN k :: caps) h (fun r h' => r = .b (p k) ∧ h' = h)) :
    ACalls Tryd.prog G 73 [.p (.sl (ks.map eN)), .fn f caps] h (fun r h' => r = .i (findG p ks 0) ∧ h' = h) := by
  refine acalls_pure (rl := []) mixed Tryd.func73 rfl (rs := [.tmp 4]) rfl Tryd.ntmps73 (by simp) ?_
  repeat' (first | ((first | refine aops_nil ?_ | refine aqops_nil ?_); (try simp only [NB])) | ((repeat ((fail_if_success (refine hK _ ?_)); clear hK K)); refine hK _ ?_; clear hK K) | ((first | refine aops_k fun K1 hK1 => ?_ | refine aqops_k fun K1 hK1 => ?_ | refine awp_cond_k fun A B hA hB => ?_); simp only [S1, simprocAttr, T2, T3, T4, T22, T23, T25, T35, T51, T53, T55, T58, T88, List.length_map]; first | (refine hK1 _ ?_; clear hK1 K1) | ((first | refine hA ?_ | refine hB ?_); clear hA hB A B) | (refine join_x (v := ?_) (fun hg hk9 => ?_) ?_; rotate_left; (focus (try ((try simp only [BN] at hg); simp only [S1, simprocAttr, T2, T3, T4, T22, T23, T25, T35, T51, T53, T55, T58, T88, List.length_map, hg] at hk9 ⊢)); first | exact hk9); (refine hK1 _ ?_; clear hK1 K1)) | (((first | (refine ⟨fun hg => hA ?_, fun hg => hB ?_⟩ <;> clear hA hB A B) | refine ⟨fun hg => ?_, fun hg => ?_⟩) <;> (try simp only [BN2] at hg) <;> (try simp only [hg, cond_true, cond_false])) <;> (try (refine hK1 _ ?_; clear hK1 K1)) <;> (try simp only [BN3] at hg))) | (refine awp_seq_k fun K hK => ?_) | ((first | refine awp_region ?_ | refine awp_draw (by kernel_rfl) ?_ | refine awp_block ?_ | refine awp_exit ?_ | refine awp_skip ?_ | refine awp_ret ?_); (try simp only [NB, simprocAttr])))
  refine awp_for ks.length 19 (fun i => [(8, .i i), (7, .i ks.length), (0, .p (.sl (ks.map eN))), (1, .fn f caps)]) (fun i => []) (fun i => findG p ks 0 = findG p (ks.drop i) i) ?_ rfl fun i hi hp K hK => ?_
  · (refine ⟨rfl, (by first | exact ⟨_, rfl⟩ | exact ⟨[], by simp⟩), ?_, ?_⟩ <;> simp only [keeps, avlt, avlts, blksLt, frL, upd_get, S1, simprocAttr, List.length_map, Int.natCast_zero, AV.p.injEq, PV.int.injEq, PV.bool.injEq, PV.sl.injEq] <;> (try and_intros) <;> (try assumption) <;> (try trivial) <;> (try omega))
  rcases Nat.lt_or_ge i ks.length with hlt | hge
  · obtain ⟨k, hx⟩ : ∃ k, ks[i]? = some k := ⟨_, List.getElem?_eq_getElem hlt⟩
    have hm := List.mem_of_getElem? hx
    rw [findG_step hx] at hp
    repeat' (first | ((first | refine aops_nil ?_ | refine aqops_nil ?_); (try simp only [NB])) | ((repeat ((fail_if_success (refine hK _ ?_)); clear hK K)); refine hK _ ?_; clear hK K) | ((first | refine aops_k fun K1 hK1 => ?_ | refine aqops_k fun K1 hK1 => ?_ | refine awp_cond_k fun A B hA hB => ?_); simp only [S1, simprocAttr, T2, T3, T4, T22, T23, T25, T35, T51, T53, T55, T58, T88, rowN hx, hitN hlt, nextN hl hlt, eN]; first | (refine hK1 _ ?_; clear hK1 K1) | ((first | refine hA ?_ | refine hB ?_); clear hA hB A B) | ((first | apply call_a hE | apply call_q hE); exact (hc0 k hm); (refine hK1 _ ?_; clear hK1 K1)) | (refine join_x (v := ?_) (fun hg hk9 => ?_) ?_; rotate_left; (focus (try ((try simp only [BN] at hg); simp only [S1, simprocAttr, T2, T3, T4, T22, T23, T25, T35, T51, T53, T55, T58, T88, rowN hx, hitN hlt, nextN hl hlt, eN, hg] at hk9 ⊢)); first | exact hk9 | ((first | apply call_a hE | apply call_q hE); exact (hc0 k hm); exact hk9)); (refine hK1 _ ?_; clear hK1 K1)) | (((first | (refine ⟨fun hg => hA ?_, fun hg => hB ?_⟩ <;> clear hA hB A B) | refine ⟨fun hg => ?_, fun hg => ?_⟩) <;> (try simp only [BN2] at hg) <;> (try simp only [hg, cond_true, cond_false])) <;> (try (refine hK1 _ ?_; clear hK1 K1)) <;> (try simp only [BN3] at hg))) | (refine awp_seq_k fun K hK => ?_) | ((first | refine awp_region ?_ | refine awp_draw (by kernel_rfl) ?_ | refine awp_block ?_ | refine awp_exit ?_ | refine awp_skip ?_ | refine awp_ret ?_); (try simp only [NB, simprocAttr])))
    · simp only [EndP, FinP, resA, resL, resA1, lastV, lastA, lastAs, pur, purs, take_app, List.take_length, S1, simprocAttr, T2, T3, T4, T22, T23, T25, T35, T51, T53, T55, T58, T88, Nat.le_add_right, Nat.le_refl]
      simp [hp, hg]
    · exact ⟨hlt, by simpa [hg] using hp, by (refine ⟨rfl, (by first | exact ⟨_, rfl⟩ | exact ⟨[], by simp⟩), ?_, ?_⟩ <;> simp only [keeps, avlt, avlts, blksLt, frL, upd_get, S1, simprocAttr, List.length_map, Int.natCast_zero, AV.p.injEq, PV.int.injEq, PV.bool.injEq, PV.sl.injEq] <;> (try and_intros) <;> (try assumption) <;> (try trivial) <;> (try omega))⟩
  · obtain rfl : i = ks.length := by omega
    repeat' (first | ((first | refine aops_nil ?_ | refine aqops_nil ?_); (try simp only [NB])) | ((repeat ((fail_if_success (refine hK _ ?_)); clear hK K)); refine hK _ ?_; clear hK K) | ((first | refine aops_k fun K1 hK1 => ?_ | refine aqops_k fun K1 hK1 => ?_ | refine awp_cond_k fun A B hA hB => ?_); simp only [S1, simprocAttr, T2, T3, T4, T22, T23, T25, T35, T51, T53, T55, T58, T88, endN]; first | (refine hK1 _ ?_; clear hK1 K1) | ((first | refine hA ?_ | refine hB ?_); clear hA hB A B) | (refine join_x (v := ?_) (fun hg hk9 => ?_) ?_; rotate_left; (focus (try ((try simp only [BN] at hg); simp only [S1, simprocAttr, T2, T3, T4, T22, T23, T25, T35, T51, T53, T55, T58, T88, endN, hg] at hk9 ⊢)); first | exact hk9); (refine hK1 _ ?_; clear hK1 K1)) | (((first | (refine ⟨fun hg => hA ?_, fun hg => hB ?_⟩ <;> clear hA hB A B) | refine ⟨fun hg => ?_, fun hg => ?_⟩) <;> (try simp only [BN2] at hg) <;> (try simp only [hg, cond_true, cond_false])) <;> (try (refine hK1 _ ?_; clear hK1 K1)) <;> (try simp only [BN3] at hg))) | (refine awp_seq_k fun K hK => ?_) | ((first | refine awp_region ?_ | refine awp_draw (by kernel_rfl) ?_ | refine awp_block ?_ | refine awp_exit ?_ | refine awp_skip ?_ | refine awp_ret ?_); (try simp only [NB, simprocAttr])))
    simp only [EndP, FinP, resA, resL, resA1, lastV, lastA, lastAs, pur, purs, take_app, List.take_length, S1, simprocAttr, T2, T3, T4, T22, T23, T25, T35, T51, T53, T55, T58, T88, Nat.le_add_right, Nat.le_refl]
    rw [List.drop_length] at hp
    simp [hp, findG]

theorem start_calls (ns : List Nd) (hl : ns.length ≤ 100) (fs : List (List PV)) (h : Heap) : ACalls Tryd.prog G 61 [.agg [.p (.sl (ns.map eN)), .p (.sl fs)]] h (fun r h' => r = .i (firstN ns 1) ∧ h' = h) := by
  refine acalls_pure (rl := []) mixed Tryd.func61 rfl (rs := [.tmp 2]) rfl Tryd.ntmps61 (by simp) ?_
  repeat' (first | ((first | refine aops_nil ?_ | refine aqops_nil ?_); (try simp only [NB])) | ((repeat ((fail_if_success (refine hK _ ?_)); clear hK K)); refine hK _ ?_; clear hK K) | ((first | refine aops_k fun K1 hK1 => ?_ | refine aqops_k fun K1 hK1 => ?_ | refine awp_cond_k fun A B hA hB => ?_); simp only [S1, simprocAttr, T2, T3, T4, T22, T23, T25, T35, T51, T53, T55, T58, T88]; first | (refine hK1 _ ?_; clear hK1 K1) | ((first | refine hA ?_ | refine hB ?_); clear hA hB A B) | ((first | apply call_a E73 | apply call_q E73); exact (indexN_calls E74 (p := fun x => x.kind == 1) ns hl _ (by simp [avlts]) (fun k hk => start1_calls k _)); (refine hK1 _ ?_; clear hK1 K1)) | (refine join_x (v := ?_) (fun hg hk9 => ?_) ?_; rotate_left; (focus (try ((try simp only [BN] at hg); simp only [S1, simprocAttr, T2, T3, T4, T22, T23, T25, T35, T51, T53, T55, T58, T88, hg] at hk9 ⊢)); first | exact hk9 | ((first | apply call_a E73 | apply call_q E73); exact (indexN_calls E74 (p := fun x => x.kind == 1) ns hl _ (by simp [avlts]) (fun k hk => start1_calls k _)); exact hk9)); (refine hK1 _ ?_; clear hK1 K1)) | (((first | (refine ⟨fun hg => hA ?_, fun hg => hB ?_⟩ <;> clear hA hB A B) | refine ⟨fun hg => ?_, fun hg => ?_⟩) <;> (try simp only [BN2] at hg) <;> (try simp only [hg, cond_true, cond_false])) <;> (try (refine hK1 _ ?_; clear hK1 K1)) <;> (try simp only [BN3] at hg))) | (refine awp_seq_k fun K hK => ?_) | ((first | refine awp_region ?_ | refine awp_draw (by kernel_rfl) ?_ | refine awp_block ?_ | refine awp_exit ?_ | refine awp_skip ?_ | refine awp_ret ?_); (try simp only [NB, simprocAttr])))
  simp only [EndP, FinP, resA, resL, resA1, lastV, lastA, lastAs, pur, purs, take_app, List.take_length, S1, simprocAttr, T2, T3, T4, T22, T23, T25, T35, T51, T53, T55, T58, T88, Nat.le_add_right, Nat.le_refl]
  all_goals rfl

theorem end_calls (ns : List Nd) (hl : ns.length ≤ 100) (fs : List (List PV)) (h : Heap) : ACalls Tryd.prog G 62 [.agg [.p (.sl (ns.map eN)), .p (.sl fs)]] h (fun r h' => r = .i (firstN ns 2) ∧ h' = h) := by
  refine acalls_pure (rl := []) mixed Tryd.func62 rfl (rs := [.tmp 2]) rfl Tryd.ntmps62 (by simp) ?_
  repeat' (first | ((first | refine aops_nil ?_ | refine aqops_nil ?_); (try simp only [NB])) | ((repeat ((fail_if_success (refine hK _ ?_)); clear hK K)); refine hK _ ?_; clear hK K) | ((first | refine aops_k fun K1 hK1 => ?_ | refine aqops_k fun K1 hK1 => ?_ | refine awp_cond_k fun A B hA hB => ?_); simp only [S1, simprocAttr, T2, T3, T4, T22, T23, T25, T35, T51, T53, T55, T58, T88]; first | (refine hK1 _ ?_; clear hK1 K1) | ((first | refine hA ?_ | refine hB ?_); clear hA hB A B) | ((first | apply call_a E73 | apply call_q E73); exact (indexN_calls E75 (p := fun x => x.kind == 2) ns hl _ (by simp [avlts]) (fun k hk => end1_calls k _)); (refine hK1 _ ?_; clear hK1 K1)) | (refine join_x (v := ?_) (fun hg hk9 => ?_) ?_; rotate_left; (focus (try ((try simp only [BN] at hg); simp only [S1, simprocAttr, T2, T3, T4, T22, T23, T25, T35, T51, T53, T55, T58, T88, hg] at hk9 ⊢)); first | exact hk9 | ((first | apply call_a E73 | apply call_q E73); exact (indexN_calls E75 (p := fun x => x.kind == 2) ns hl _ (by simp [avlts]) (fun k hk => end1_calls k _)); exact hk9)); (refine hK1 _ ?_; clear hK1 K1)) | (((first | (refine ⟨fun hg => hA ?_, fun hg => hB ?_⟩ <;> clear hA hB A B) | refine ⟨fun hg => ?_, fun hg => ?_⟩) <;> (try simp only [BN2] at hg) <;> (try simp only [hg, cond_true, cond_false])) <;> (try (refine hK1 _ ?_; clear hK1 K1)) <;> (try simp only [BN3] at hg))) | (refine awp_seq_k fun K hK => ?_) | ((first | refine awp_region ?_ | refine awp_draw (by kernel_rfl) ?_ | refine awp_block ?_ | refine awp_exit ?_ | refine awp_skip ?_ | refine awp_ret ?_); (try simp only [NB, simprocAttr])))
  simp only [EndP, FinP, resA, resL, resA1, lastV, lastA, lastAs, pur, purs, take_app, List.take_length, S1, simprocAttr, T2, T3, T4, T22, T23, T25, T35, T51, T53, T55, T58, T88, Nat.le_add_right, Nat.le_refl]
  all_goals rfl

theorem first_calls (ns : List Nd) (hl : ns.length ≤ 100) (fs : List (List PV)) (kind : Int) (h : Heap) : ACalls Tryd.prog G 34 [.agg [.p (.sl (ns.map eN)), .p (.sl fs)], .i kind] h (fun r h' => r = .i (firstN ns kind) ∧ h' = h) := by
  refine acalls_pure (rl := []) mixed Tryd.func34 rfl (rs := [.tmp 4]) rfl Tryd.ntmps34 (by simp) ?_
  refine awp_seq_k fun K hK => ?_
  repeat' (first | ((first | refine aops_nil ?_ | refine aqops_nil ?_); (try simp only [NB]); ((repeat ((fail_if_success (refine hK _ ?_)); clear hK K)); refine hK _ ?_; clear hK K)) | ((first | refine aops_k fun K1 hK1 => ?_ | refine aqops_k fun K1 hK1 => ?_ | refine awp_cond_k fun A B hA hB => ?_); simp only [S1, simprocAttr, T2, T3, T4, T22, T23, T25, T35, T51, T53, T55, T58, T88]; first | (refine hK1 _ ?_; clear hK1 K1) | ((first | refine hA ?_ | refine hB ?_); clear hA hB A B) | (refine join_x (v := ?_) (fun hg hk9 => ?_) ?_; rotate_left; (focus (try ((try simp only [BN] at hg); simp only [S1, simprocAttr, T2, T3, T4, T22, T23, T25, T35, T51, T53, T55, T58, T88, hg] at hk9 ⊢)); first | exact hk9); (refine hK1 _ ?_; clear hK1 K1)) | (((first | (refine ⟨fun hg => hA ?_, fun hg => hB ?_⟩ <;> clear hA hB A B) | refine ⟨fun hg => ?_, fun hg => ?_⟩) <;> (try simp only [BN2] at hg) <;> (try simp only [hg, cond_true, cond_false])) <;> (try (refine hK1 _ ?_; clear hK1 K1)) <;> (try simp only [BN3] at hg))) | (fail) | ((first | refine awp_region ?_ | refine awp_draw (by kernel_rfl) ?_ | refine awp_block ?_ | refine awp_exit ?_ | refine awp_skip ?_ | refine awp_ret ?_); (try simp only [NB, simprocAttr]); (try ((repeat ((fail_if_success (refine hK _ ?_)); clear hK K)); refine hK _ ?_; clear hK K))))
  refine awp_seq_k fun K hK => ?_
  repeat' (first | ((first | refine aops_nil ?_ | refine aqops_nil ?_); (try simp only [NB])) | ((repeat ((fail_if_success (refine hK _ ?_)); clear hK K)); refine hK _ ?_; clear hK K) | ((first | refine aops_k fun K1 hK1 => ?_ | refine aqops_k fun K1 hK1 => ?_ | refine awp_cond_k fun A B hA hB => ?_); simp only [S1, simprocAttr, T2, T3, T4, T22, T23, T25, T35, T51, T53, T55, T58, T88, List.length_map]; first | (refine hK1 _ ?_; clear hK1 K1) | ((first | refine hA ?_ | refine hB ?_); clear hA hB A B) | (refine join_x (v := ?_) (fun hg hk9 => ?_) ?_; rotate_left; (focus (try ((try simp only [BN] at hg); simp only [S1, simprocAttr, T2, T3, T4, T22, T23, T25, T35, T51, T53, T55, T58, T88, List.length_map, hg] at hk9 ⊢)); first | exact hk9); (refine hK1 _ ?_; clear hK1 K1)) | (((first | (refine ⟨fun hg => hA ?_, fun hg => hB ?_⟩ <;> clear hA hB A B) | refine ⟨fun hg => ?_, fun hg => ?_⟩) <;> (try simp only [BN2] at hg) <;> (try simp only [hg, cond_true, cond_false])) <;> (try (refine hK1 _ ?_; clear hK1 K1)) <;> (try simp only [BN3] at hg))) | (refine awp_seq_k fun K hK => ?_) | ((first | refine awp_region ?_ | refine awp_draw (by kernel_rfl) ?_ | refine awp_block ?_ | refine awp_exit ?_ | refine awp_skip ?_ | refine awp_ret ?_); (try simp only [NB, simprocAttr])))
  refine awp_for ns.length 21 (fun i => [(10, .i i), (9, .i ns.length), (8, .p (.sl (ns.map eN))), (1, .i kind)]) (fun i => []) (fun i => firstN ns kind = findG (fun x => x.kind == kind) (ns.drop i) i) ?_ rfl fun i hi hp K hK => ?_
  · (refine ⟨rfl, (by first | exact ⟨_, rfl⟩ | exact ⟨[], by simp⟩), ?_, ?_⟩ <;> simp only [keeps, avlt, avlts, blksLt, frL, upd_get, S1, simprocAttr, List.length_map, Int.natCast_zero, AV.p.injEq, PV.int.injEq, PV.bool.injEq, PV.sl.injEq] <;> (try and_intros) <;> (try assumption) <;> (try trivial) <;> (try omega))
  rcases Nat.lt_or_ge i ns.length with hlt | hge
  · obtain ⟨k, hx⟩ : ∃ k, ns[i]? = some k := ⟨_, List.getElem?_eq_getElem hlt⟩
    rw [findG_step hx] at hp
    cases hq : (k.kind == kind) with
    | true =>
      repeat' (first | ((first | refine aops_nil ?_ | refine aqops_nil ?_); (try simp only [NB])) | ((repeat ((fail_if_success (refine hK _ ?_)); clear hK K)); refine hK _ ?_; clear hK K) | ((first | refine aops_k fun K1 hK1 => ?_ | refine aqops_k fun K1 hK1 => ?_ | refine awp_cond_k fun A B hA hB => ?_); simp only [S1, simprocAttr, T2, T3, T4, T22, T23, T25, T35, T51, T53, T55, T58, T88, rowN hx, hitN hlt, nextN hl hlt, eN, hq]; first | (refine hK1 _ ?_; clear hK1 K1) | ((first | refine hA ?_ | refine hB ?_); clear hA hB A B) | (refine join_x (v := ?_) (fun hg hk9 => ?_) ?_; rotate_left; (focus (try ((try simp only [BN] at hg); simp only [S1, simprocAttr, T2, T3, T4, T22, T23, T25, T35, T51, T53, T55, T58, T88, rowN hx, hitN hlt, nextN hl hlt, eN, hq, hg] at hk9 ⊢)); first | exact hk9); (refine hK1 _ ?_; clear hK1 K1)) | (((first | (refine ⟨fun hg => hA ?_, fun hg => hB ?_⟩ <;> clear hA hB A B) | refine ⟨fun hg => ?_, fun hg => ?_⟩) <;> (try simp only [BN2] at hg) <;> (try simp only [hg, cond_true, cond_false])) <;> (try (refine hK1 _ ?_; clear hK1 K1)) <;> (try simp only [BN3] at hg))) | (refine awp_seq_k fun K hK => ?_) | ((first | refine awp_region ?_ | refine awp_draw (by kernel_rfl) ?_ | refine awp_block ?_ | refine awp_exit ?_ | refine awp_skip ?_ | refine awp_ret ?_); (try simp only [NB, simprocAttr])))
      all_goals simp only [EndP, FinP, resA, resL, resA1, lastV, lastA, lastAs, pur, purs, take_app, List.take_length, S1, simprocAttr, T2, T3, T4, T22, T23, T25, T35, T51, T53, T55, T58, T88, Nat.le_add_right, Nat.le_refl]
      all_goals simp [hp, hq]
    | false =>
      repeat' (first | ((first | refine aops_nil ?_ | refine aqops_nil ?_); (try simp only [NB])) | ((repeat ((fail_if_success (refine hK _ ?_)); clear hK K)); refine hK _ ?_; clear hK K) | ((first | refine aops_k fun K1 hK1 => ?_ | refine aqops_k fun K1 hK1 => ?_ | refine awp_cond_k fun A B hA hB => ?_); simp only [S1, simprocAttr, T2, T3, T4, T22, T23, T25, T35, T51, T53, T55, T58, T88, rowN hx, hitN hlt, nextN hl hlt, eN, hq]; first | (refine hK1 _ ?_; clear hK1 K1) | ((first | refine hA ?_ | refine hB ?_); clear hA hB A B) | (refine join_x (v := ?_) (fun hg hk9 => ?_) ?_; rotate_left; (focus (try ((try simp only [BN] at hg); simp only [S1, simprocAttr, T2, T3, T4, T22, T23, T25, T35, T51, T53, T55, T58, T88, rowN hx, hitN hlt, nextN hl hlt, eN, hq, hg] at hk9 ⊢)); first | exact hk9); (refine hK1 _ ?_; clear hK1 K1)) | (((first | (refine ⟨fun hg => hA ?_, fun hg => hB ?_⟩ <;> clear hA hB A B) | refine ⟨fun hg => ?_, fun hg => ?_⟩) <;> (try simp only [BN2] at hg) <;> (try simp only [hg, cond_true, cond_false])) <;> (try (refine hK1 _ ?_; clear hK1 K1)) <;> (try simp only [BN3] at hg))) | (refine awp_seq_k fun K hK => ?_) | ((first | refine awp_region ?_ | refine awp_draw (by kernel_rfl) ?_ | refine awp_block ?_ | refine awp_exit ?_ | refine awp_skip ?_ | refine awp_ret ?_); (try simp only [NB, simprocAttr])))
      all_goals exact ⟨hlt, by simpa [hq] using hp, by (refine ⟨rfl, (by first | exact ⟨_, rfl⟩ | exact ⟨[], by simp⟩), ?_, ?_⟩ <;> simp only [keeps, avlt, avlts, blksLt, frL, upd_get, S1, simprocAttr, List.length_map, Int.natCast_zero, AV.p.injEq, PV.int.injEq, PV.bool.injEq, PV.sl.injEq] <;> (try and_intros) <;> (try assumption) <;> (try trivial) <;> (try omega))⟩
  · obtain rfl : i = ns.length := by omega
    repeat' (first | ((first | refine aops_nil ?_ | refine aqops_nil ?_); (try simp only [NB])) | ((repeat ((fail_if_success (refine hK _ ?_)); clear hK K)); refine hK _ ?_; clear hK K) | ((first | refine aops_k fun K1 hK1 => ?_ | refine aqops_k fun K1 hK1 => ?_ | refine awp_cond_k fun A B hA hB => ?_); simp only [S1, simprocAttr, T2, T3, T4, T22, T23, T25, T35, T51, T53, T55, T58, T88, endN]; first | (refine hK1 _ ?_; clear hK1 K1) | ((first | refine hA ?_ | refine hB ?_); clear hA hB A B) | (refine join_x (v := ?_) (fun hg hk9 => ?_) ?_; rotate_left; (focus (try ((try simp only [BN] at hg); simp only [S1, simprocAttr, T2, T3, T4, T22, T23, T25, T35, T51, T53, T55, T58, T88, endN, hg] at hk9 ⊢)); first | exact hk9); (refine hK1 _ ?_; clear hK1 K1)) | (((first | (refine ⟨fun hg => hA ?_, fun hg => hB ?_⟩ <;> clear hA hB A B) | refine ⟨fun hg => ?_, fun hg => ?_⟩) <;> (try simp only [BN2] at hg) <;> (try simp only [hg, cond_true, cond_false])) <;> (try (refine hK1 _ ?_; clear hK1 K1)) <;> (try simp only [BN3] at hg))) | (refine awp_seq_k fun K hK => ?_) | ((first | refine awp_region ?_ | refine awp_draw (by kernel_rfl) ?_ | refine awp_block ?_ | refine awp_exit ?_ | refine awp_skip ?_ | refine awp_ret ?_); (try simp only [NB, simprocAttr])))
    simp only [EndP, FinP, resA, resL, resA1, lastV, lastA, lastAs, pur, purs, take_app, List.take_length, S1, simprocAttr, T2, T3, T4, T22, T23, T25, T35, T51, T53, T55, T58, T88, Nat.le_add_right, Nat.le_refl]
    rw [List.drop_length] at hp
    simp [hp, findG]
end Go.Proofs.YtlophgkgmhcagaaDoor.AM
end

section
set_option linter.unusedVariables false
namespace Go.Proofs.YtlophgkgmhcagaaDoor.AM
inductive Rch (es : List (Nat × Nat)) (a : Nat) : Nat → Prop
  | refl : Rch es a a
  | step {b c : Nat} : Rch es a b → (b, c) ∈ es → Rch es a c

theorem Rch.trans {es : List (Nat × Nat)} {a b c : Nat} (h1 : Rch es a b) (h2 : Rch es b c) : Rch es a c := by
  induction h2 with
  | refl => exact h1
  | step _ he ih => exact .step ih he

theorem Rch.back {es : List (Nat × Nat)} {a b : Nat} (h : Rch es a b) : Rch (es.map Prod.swap) b a := by
  induction h with
  | refl => exact .refl
  | step _ he ih => exact .trans (.step .refl (List.mem_map.mpr ⟨_, he, rfl⟩)) ih

theorem swap_swap (es : List (Nat × Nat)) : (es.map Prod.swap).map Prod.swap = es := by
  rw [List.map_map]; simp [Function.comp_def]

theorem Rch.rev {es : List (Nat × Nat)} {a b : Nat} : Rch (es.map Prod.swap) b a ↔ Rch es a b :=
  ⟨fun h => by have := h.back; rwa [swap_swap] at this, Rch.back⟩

theorem Rch.closed {es : List (Nat × Nat)} {a b : Nat} {p : Nat → Prop} (h : Rch es a b) (ha : p a) (hc : ∀ e ∈ es, p e.1 → p e.2) : p b := by
  induction h with
  | refl => exact ha
  | step _ he ih => exact hc _ he ih

open Classical in
/-- What is led to from a place, as truths. -/
noncomputable def rchL (es : List (Nat × Nat)) (n a : Nat) : List Bool := (List.range n).map fun i => decide (Rch es a i)

theorem rchL_len (es : List (Nat × Nat)) (n a : Nat) : (rchL es n a).length = n := by simp [rchL]

theorem rchL_of {es : List (Nat × Nat)} {n a : Nat} {l : List Bool} (hl : l.length = n) (h1 : ∀ i : Nat, l[i]? = some true → Rch es a i) (h2 : ∀ i, i < n → Rch es a i → l[i]? = some true) : l = rchL es n a := by
  apply List.ext_getElem?
  intro i
  by_cases hi : i < n
  · have e : (rchL es n a)[i]? = some (@decide (Rch es a i) (Classical.propDecidable _)) := by simp [rchL, hi]
    rw [e, List.getElem?_eq_getElem (by omega)]
    by_cases hr : Rch es a i
    · have := h2 i hi hr
      rw [List.getElem?_eq_getElem (by omega)] at this
      rw [this]; simp [hr]
    · cases hx : l[i] with
      | true => exact (hr (h1 i (by rw [List.getElem?_eq_getElem (by omega), hx]))).elim
      | false => simp [hr]
  · rw [List.getElem?_eq_none (by omega), List.getElem?_eq_none (by rw [rchL_len]; omega)]

theorem rchL_get {es : List (Nat × Nat)} {n a i : Nat} (hi : i < n) : (rchL es n a)[i]? = some true ↔ Rch es a i := by
  simp [rchL, hi]

/-! Round by round. -/
def relax (out : List Bool) (e : Nat × Nat) : List Bool := if out[e.1]? = some true then out.set e.2 true else out
def roundB (es : List (Nat × Nat)) (out : List Bool) : List Bool := es.foldl relax out
def rounds (es : List (Nat × Nat)) : Nat → List Bool → List Bool
  | 0, out => out
  | k + 1, out => roundB es (rounds es k out)

theorem relax_len (out : List Bool) (e : Nat × Nat) : (relax out e).length = out.length := by
  unfold relax; split <;> simp
theorem roundB_len (es : List (Nat × Nat)) : ∀ out : List Bool, (roundB es out).length = out.length := by
  induction es with
  | nil => intro out; rfl
  | cons e r ih => intro out; show (roundB r (relax out e)).length = _; rw [ih, relax_len]
theorem rounds_len (es : List (Nat × Nat)) (out : List Bool) : ∀ k, (rounds es k out).length = out.length
  | 0 => rfl
  | k + 1 => by rw [rounds, roundB_len, rounds_len es out k]

theorem set_same {out : List Bool} {i : Nat} (h : out[i]? = some true) : out.set i true = out := by
  apply List.ext_getElem?
  intro j
  rw [List.getElem?_set]
  split
  · rename_i e; subst e
    split
    · exact h.symm
    · rename_i hh; rw [List.getElem?_eq_none (by omega)] at h; cases h
  · rfl

theorem count_set : ∀ {out : List Bool} {i : Nat}, out[i]? = some false → (out.set i true).count true = out.count true + 1
  | [], i, h => by simp at h
  | x :: r, 0, h => by simp at h; subst h; simp
  | x :: r, i + 1, h => by
    have := count_set (out := r) (i := i) (by simpa using h)
    simp only [List.set_cons_succ, List.count_cons, this]; omega

theorem relax_count (out : List Bool) (e : Nat × Nat) (h : e.2 < out.length) : relax out e = out ∨ (relax out e).count true = out.count true + 1 := by
  unfold relax
  split
  · rcases hx : out[e.2]? with _ | x
    · rw [List.getElem?_eq_getElem h] at hx; cases hx
    · cases x with
      | true => exact .inl (set_same hx)
      | false => exact .inr (count_set hx)
  · exact .inl rfl

theorem roundB_count (es : List (Nat × Nat)) : ∀ out : List Bool, (∀ e ∈ es, e.2 < out.length) → (roundB es out = out ∧ ∀ e ∈ es, out[e.1]? = some true → out[e.2]? = some true) ∨ out.count true + 1 ≤ (roundB es out).count true := by
  induction es with
  | nil => intro out _; exact .inl ⟨rfl, fun e he => by cases he⟩
  | cons e r ih =>
    intro out h
    have h0 := h e (by simp)
    have hr : ∀ e' ∈ r, e'.2 < (relax out e).length := fun e' he' => by rw [relax_len]; exact h e' (by simp [he'])
    have hi := ih (relax out e) hr
    show (roundB r (relax out e) = out ∧ _) ∨ _ ≤ (roundB r (relax out e)).count true
    rcases relax_count out e h0 with e1 | e1
    · rw [e1] at hi ⊢
      rcases hi with ⟨a, b⟩ | hi
      · refine .inl ⟨a, fun e' he' => ?_⟩
        rcases List.mem_cons.mp he' with rfl | he'
        · intro hs
          unfold relax at e1
          rw [if_pos hs] at e1
          rw [← e1, List.getElem?_set]
          simp [h0]
        · exact b e' he'
      · exact .inr hi
    · right
      rcases hi with ⟨a, b⟩ | hi
      · rw [a, e1]; exact Nat.le_refl _
      · omega

theorem count_le : ∀ l : List Bool, l.count true ≤ l.length := fun l => List.count_le_length

def ClosedB (es : List (Nat × Nat)) (out : List Bool) : Prop := ∀ e ∈ es, out[e.1]? = some true → out[e.2]? = some true

theorem roundB_closed (es : List (Nat × Nat)) : ∀ out : List Bool, ClosedB es out → roundB es out = out := by
  induction es with
  | nil => intro out _; rfl
  | cons e r ih =>
    intro out h
    have e1 : relax out e = out := by
      unfold relax
      split
      · rename_i hs; exact set_same (h e (by simp) hs)
      · rfl
    show roundB r (relax out e) = out
    rw [e1]
    exact ih out fun e' he' => h e' (by simp [he'])

theorem rounds_count (es : List (Nat × Nat)) (out : List Bool) (h : ∀ e ∈ es, e.2 < out.length) (h1 : 1 ≤ out.count true) : ∀ k, ClosedB es (rounds es k out) ∨ k + 1 ≤ (rounds es k out).count true
  | 0 => .inr (by simpa [rounds] using h1)
  | k + 1 => by
    have hl := rounds_len es out k
    rcases rounds_count es out h h1 k with hc | hc
    · left; rw [rounds, roundB_closed es _ hc]; exact hc
    · rcases roundB_count es (rounds es k out) (by rw [hl]; exact h) with ⟨a, b⟩ | a
      · left; rw [rounds, a]; exact b
      · right; rw [rounds]; omega

theorem relax_mono {out : List Bool} {e : Nat × Nat} {i : Nat} (h : out[i]? = some true) : (relax out e)[i]? = some true := by
  unfold relax
  split
  · rw [List.getElem?_set]
    split
    · rename_i e; subst e
      have : e.2 < out.length := by
        rcases Nat.lt_or_ge e.2 out.length with hh | hh
        · exact hh
        · rw [List.getElem?_eq_none hh] at h; cases h
      simp [this]
    · exact h
  · exact h

theorem roundB_mono (es : List (Nat × Nat)) : ∀ {out : List Bool} {i : Nat}, out[i]? = some true → (roundB es out)[i]? = some true := by
  induction es with
  | nil => intro out i h; exact h
  | cons e r ih => intro out i h; exact ih (relax_mono h)

theorem rounds_mono (es : List (Nat × Nat)) {out : List Bool} {i : Nat} (h : out[i]? = some true) : ∀ k, (rounds es k out)[i]? = some true
  | 0 => h
  | k + 1 => roundB_mono es (rounds_mono es h k)

theorem relax_sound {p : Nat → Prop} {out : List Bool} {e : Nat × Nat} (h : ∀ i : Nat, out[i]? = some true → p i) (he : p e.1 → p e.2) : ∀ i : Nat, (relax out e)[i]? = some true → p i := by
  intro i hi
  unfold relax at hi
  split at hi
  · rename_i hs
    rw [List.getElem?_set] at hi
    split at hi
    · rename_i e1; subst e1; exact he (h _ hs)
    · exact h i hi
  · exact h i hi

theorem roundB_sound {p : Nat → Prop} (es : List (Nat × Nat)) : ∀ {out : List Bool}, (∀ i : Nat, out[i]? = some true → p i) → (∀ e ∈ es, p e.1 → p e.2) → ∀ i : Nat, (roundB es out)[i]? = some true → p i := by
  induction es with
  | nil => intro out h _; exact h
  | cons e r ih => intro out h he; exact ih (relax_sound h (he e (by simp))) fun e' he' => he e' (by simp [he'])

theorem rounds_sound {p : Nat → Prop} (es : List (Nat × Nat)) {out : List Bool} (h : ∀ i : Nat, out[i]? = some true → p i) (he : ∀ e ∈ es, p e.1 → p e.2) : ∀ (k : Nat) (i : Nat), (rounds es k out)[i]? = some true → p i
  | 0 => h
  | k + 1 => roundB_sound es (rounds_sound es h he k) he

theorem rounds_rch {es : List (Nat × Nat)} {n a : Nat} (ha : a < n) (h : ∀ e ∈ es, e.2 < n) : rounds es n ((List.replicate n false).set a true) = rchL es n a := by
  have hl0 : ((List.replicate n false).set a true).length = n := by simp
  have ha0 : ((List.replicate n false).set a true)[a]? = some true := by rw [List.getElem?_set]; simp [ha]
  have hc1 : 1 ≤ ((List.replicate n false).set a true).count true := List.one_le_count_iff.mpr (List.mem_of_getElem? ha0)
  refine rchL_of (by rw [rounds_len, hl0]) ?_ ?_
  · refine rounds_sound es (fun i hi => ?_) (fun e he hr => .step hr (by simpa using he)) n
    rw [List.getElem?_set] at hi
    split at hi
    · rename_i e; subst e; exact .refl
    · rw [List.getElem?_replicate] at hi
      split at hi <;> simp at hi
  · intro i hi hr
    have hcl : ClosedB es (rounds es n ((List.replicate n false).set a true)) := by
      rcases rounds_count es _ (by rw [hl0]; exact h) hc1 n with hc | hc
      · exact hc
      · have := count_le (rounds es n ((List.replicate n false).set a true))
        rw [rounds_len, hl0] at this; omega
    exact hr.closed (p := fun i => (rounds es n ((List.replicate n false).set a true))[i]? = some true) (rounds_mono es ha0 n) hcl

/-! Breadth first. -/
structure Bfs (es : List (Nat × Nat)) (n a : Nat) (seen : List Bool) (todo : List Nat) : Prop where
  len : seen.length = n
  start : a ∈ todo ∨ seen[a]? = some true
  sound : ∀ i : Nat, seen[i]? = some true → Rch es a i
  soundT : ∀ i ∈ todo, Rch es a i
  closed : ∀ e ∈ es, seen[e.1]? = some true → e.2 ∈ todo ∨ seen[e.2]? = some true

theorem Bfs.init {es : List (Nat × Nat)} {n a : Nat} : Bfs es n a (List.replicate n false) [a] where
  len := by simp
  start := .inl (by simp)
  sound := fun i hi => by rw [List.getElem?_replicate] at hi; split at hi <;> simp at hi
  soundT := fun i hi => by simp at hi; subst hi; exact .refl
  closed := fun e _ hi => by rw [List.getElem?_replicate] at hi; split at hi <;> simp at hi

theorem Bfs.skip {es : List (Nat × Nat)} {n a x : Nat} {seen : List Bool} {todo : List Nat} (h : Bfs es n a seen (x :: todo)) (hx : seen[x]? = some true) : Bfs es n a seen todo where
  len := h.len
  start := by
    rcases h.start with h1 | h1
    · rcases List.mem_cons.mp h1 with rfl | h1
      · exact .inr hx
      · exact .inl h1
    · exact .inr h1
  sound := h.sound
  soundT := fun i hi => h.soundT i (by simp [hi])
  closed := fun e he hs => by
    rcases h.closed e he hs with h1 | h1
    · rcases List.mem_cons.mp h1 with h2 | h1
      · exact .inr (h2 ▸ hx)
      · exact .inl h1
    · exact .inr h1

def nexts (es : List (Nat × Nat)) (x : Nat) : List Nat := (es.filter fun e => e.1 == x).map (·.2)

theorem Bfs.visit {es : List (Nat × Nat)} {n a x : Nat} {seen : List Bool} {todo : List Nat} (h : Bfs es n a seen (x :: todo)) (hx : x < n) : Bfs es n a (seen.set x true) (todo ++ nexts es x) where
  len := by simp [h.len]
  start := by
    have hxx : (seen.set x true)[x]? = some true := by rw [List.getElem?_set]; simp [h.len, hx]
    rcases h.start with h1 | h1
    · rcases List.mem_cons.mp h1 with rfl | h1
      · exact .inr hxx
      · exact .inl (by simp [h1])
    · right
      rw [List.getElem?_set]
      split
      · simp [h.len, hx]
      · exact h1
  sound := fun i hi => by
    rw [List.getElem?_set] at hi
    split at hi
    · rename_i e; subst e; exact h.soundT _ (by simp)
    · exact h.sound i hi
  soundT := fun i hi => by
    rcases List.mem_append.mp hi with hi | hi
    · exact h.soundT i (by simp [hi])
    · simp only [nexts, List.mem_map, List.mem_filter] at hi
      obtain ⟨⟨b, c⟩, ⟨h1, h2⟩, rfl⟩ := hi
      simp at h2; subst h2
      exact .step (h.soundT _ (by simp)) h1
  closed := fun e he hs => by
    have hxx : (seen.set x true)[x]? = some true := by rw [List.getElem?_set]; simp [h.len, hx]
    by_cases hex : e.1 = x
    · left
      rw [List.mem_append]; right
      simp only [nexts, List.mem_map, List.mem_filter]
      exact ⟨e, ⟨he, by simp [hex]⟩, rfl⟩
    · rw [List.getElem?_set, if_neg (fun h => hex h.symm)] at hs
      rcases h.closed e he hs with h1 | h1
      · rcases List.mem_cons.mp h1 with h2 | h1
        · right; rw [h2]; exact hxx
        · left; simp [h1]
      · right
        rw [List.getElem?_set]
        split
        · simp [h.len, hx]
        · exact h1

theorem Bfs.done {es : List (Nat × Nat)} {n a : Nat} {seen : List Bool} (h : Bfs es n a seen []) : seen = rchL es n a := by
  refine rchL_of h.len h.sound fun i _ hr => ?_
  refine hr.closed (p := fun i => seen[i]? = some true) ?_ fun e he hs => ?_
  · rcases h.start with h1 | h1
    · cases h1
    · exact h1
  · rcases h.closed e he hs with h1 | h1
    · cases h1
    · exact h1
/-- What is still to be done, at most. -/
def bfsM (es : List (Nat × Nat)) (seen : List Bool) (todo : List Nat) : Nat := (seen.length - seen.count true) * (es.length + 1) + todo.length

theorem bfsM_skip (es : List (Nat × Nat)) (seen : List Bool) (x : Nat) (todo : List Nat) : bfsM es seen todo < bfsM es seen (x :: todo) := by simp [bfsM]

theorem nexts_len (es : List (Nat × Nat)) (x : Nat) : (nexts es x).length ≤ es.length := by simp [nexts, List.length_filter_le]

theorem bfsM_visit {es : List (Nat × Nat)} {seen : List Bool} {x : Nat} {todo : List Nat} (hx : seen[x]? = some false) : bfsM es (seen.set x true) (todo ++ nexts es x) < bfsM es seen (x :: todo) := by
  have h1 := count_set hx
  have h2 := nexts_len es x
  have h3 : (seen.set x true).count true ≤ (seen.set x true).length := List.count_le_length
  unfold bfsM
  rw [h1, List.length_set, List.length_append, List.length_cons]
  rw [h1, List.length_set] at h3
  have : seen.length - seen.count true = (seen.length - (seen.count true + 1)) + 1 := by omega
  rw [this, Nat.succ_mul]
  omega
end Go.Proofs.YtlophgkgmhcagaaDoor.AM
end

section
set_option linter.unusedVariables false
set_option linter.unusedSimpArgs false
set_option maxRecDepth 4000
set_option maxHeartbeats 4000000
namespace Go.Proofs.YtlophgkgmhcagaaDoor.AM
open Go Go.Proofs
attribute [local irreducible] awp aops aqops aeops arun
variable {G : Nat → Option (List PV)}

def inB (m : Nat) (i : Int) : Bool := decide (0 ≤ i) && decide (i < (m : Int))
def kindAt (ns : List Nd) (i : Int) : Int := match ns[i.toNat]? with | some k => k.kind | none => 0
def splitsB (ns : List Nd) (fl : List Fl) (i : Int) : Bool := kindAt ns i == 5 && decide (2 ≤ ((outsN fl i).length : Int))
def twoB (ns : List Nd) (fl : List Fl) (f : Fl) : Bool :=
  ((inB ns.length f.src && inB ns.length f.dst) && !(f.src == f.dst)) && (if splitsB ns fl f.src = true then (if f.els = true then noneB f.cond else ofB f.cond 2) else (!f.els && noneB f.cond))

theorem inB_iff {m : Nat} {i : Int} : inB m i = true ↔ 0 ≤ i ∧ i < m := by simp [inB]

theorem two_calls (ns : List Nd) (hn : ns.length ≤ 100) (fl : List Fl) (hl : fl.length ≤ 100) (f : Fl) {n : Nat} (ht : Tm.Ok n f.cond) (hn2 : n ≤ 200) (h : Heap) : ACalls Tryd.prog G 33 [aNet ns fl, aF f] h (fun r h' => r = .b (twoB ns fl f) ∧ h' = h) := by
  cases hin : ((inB ns.length f.src && inB ns.length f.dst) && !(f.src == f.dst)) with
  | false =>
    have f1 : ((((decide (f.src < 0) || decide ((ns.length : Int) ≤ f.src)) || decide (f.dst < 0)) || decide ((ns.length : Int) ≤ f.dst)) || (f.src == f.dst)) = true := by
      rw [Bool.eq_false_iff] at hin
      rcases Bool.eq_false_or_eq_true ((((decide (f.src < 0) || decide ((ns.length : Int) ≤ f.src)) || decide (f.dst < 0)) || decide ((ns.length : Int) ≤ f.dst)) || (f.src == f.dst)) with e | e
      · exact e
      · exfalso; apply hin
        simp only [Bool.or_eq_false_iff, decide_eq_false_iff_not] at e
        obtain ⟨⟨⟨⟨e1, e2⟩, e3⟩, e4⟩, e5⟩ := e
        simp only [Bool.and_eq_true, inB_iff, e5, Bool.not_false, and_true]
        omega
    have e : twoB ns fl f = false := by unfold twoB; rw [hin]; rfl
    rw [e]
    refine acalls_pure (rl := []) mixed Tryd.func33 rfl (rs := [.tmp 4]) rfl Tryd.ntmps33 (by simp) ?_
    repeat' (first | ((first | refine aops_nil ?_ | refine aqops_nil ?_); (try simp only [NB])) | ((repeat ((fail_if_success (refine hK _ ?_)); clear hK K)); refine hK _ ?_; clear hK K) | ((first | refine aops_k fun K1 hK1 => ?_ | refine aqops_k fun K1 hK1 => ?_ | refine awp_cond_k fun A B hA hB => ?_); simp only [S1, simprocAttr, T2, T3, T4, T22, T23, T25, T35, T51, T53, T55, T58, T83, List.length_map, f1]; first | (refine hK1 _ ?_; clear hK1 K1) | ((first | refine hA ?_ | refine hB ?_); clear hA hB A B) | (refine join_x (v := ?_) (fun hg hk9 => ?_) ?_; rotate_left; (focus (try ((try simp only [BN] at hg); simp only [S1, simprocAttr, T2, T3, T4, T22, T23, T25, T35, T51, T53, T55, T58, T83, List.length_map, f1, hg] at hk9 ⊢)); first | exact hk9); (refine hK1 _ ?_; clear hK1 K1)) | (((first | (refine ⟨fun hg => hA ?_, fun hg => hB ?_⟩ <;> clear hA hB A B) | refine ⟨fun hg => ?_, fun hg => ?_⟩) <;> (try simp only [BN2] at hg) <;> (try simp only [hg, cond_true, cond_false])) <;> (try (refine hK1 _ ?_; clear hK1 K1)) <;> (try simp only [BN3] at hg))) | (refine awp_seq_k fun K hK => ?_) | ((first | refine awp_region ?_ | refine awp_draw (by kernel_rfl) ?_ | refine awp_block ?_ | refine awp_exit ?_ | refine awp_skip ?_ | refine awp_ret ?_); (try simp only [NB, simprocAttr])))
    all_goals simp only [EndP, FinP, resA, resL, resA1, lastV, lastA, lastAs, pur, purs, take_app, List.take_length, S1, simprocAttr, T2, T3, T4, T22, T23, T25, T35, T51, T53, T55, T58, T83, Nat.le_add_right, Nat.le_refl]
  | true =>
    simp only [Bool.and_eq_true, inB_iff, Bool.not_eq_true'] at hin
    obtain ⟨⟨⟨a1, a2⟩, b1, b2⟩, c1⟩ := hin
    have g1 : decide (f.src < 0) = false := by simp; omega
    have g2 : decide ((ns.length : Int) ≤ f.src) = false := by simp; omega
    have g3 : decide (f.dst < 0) = false := by simp; omega
    have g4 : decide ((ns.length : Int) ≤ f.dst) = false := by simp; omega
    obtain ⟨k, hx⟩ : ∃ k, ns[f.src.toNat]? = some k := ⟨_, List.getElem?_eq_getElem (by omega)⟩
    have ek : kindAt ns f.src = k.kind := by unfold kindAt; rw [hx]
    have e0 : twoB ns fl f = (if splitsB ns fl f.src = true then (if f.els = true then noneB f.cond else ofB f.cond 2) else (!f.els && noneB f.cond)) := by
      unfold twoB
      rw [inB_iff.mpr ⟨a1, a2⟩, inB_iff.mpr ⟨b1, b2⟩, c1]; simp
    rw [e0]; unfold splitsB; rw [ek]
    cases hk : (k.kind == 5) with
    | false =>
      have hk' : (k.kind != 5) = true := by unfold bne; rw [hk]; rfl
      refine acalls_pure (rl := []) mixed Tryd.func33 rfl (rs := [.tmp 4]) rfl Tryd.ntmps33 (by simp) ?_
      repeat' (first | ((first | refine aops_nil ?_ | refine aqops_nil ?_); (try simp only [NB])) | ((repeat ((fail_if_success (refine hK _ ?_)); clear hK K)); refine hK _ ?_; clear hK K) | ((first | refine aops_k fun K1 hK1 => ?_ | refine aqops_k fun K1 hK1 => ?_ | refine awp_cond_k fun A B hA hB => ?_); simp only [S1, simprocAttr, T2, T3, T4, T22, T23, T25, T35, T51, T53, T55, T58, T83, List.length_map, g1, g2, g3, g4, c1, a1, b1, hx, eN, hk, hk']; first | (refine hK1 _ ?_; clear hK1 K1) | ((first | refine hA ?_ | refine hB ?_); clear hA hB A B) | ((first | apply call_a E19 | apply call_q E19); exact (rOuts_calls _ fl hl _ _); (refine hK1 _ ?_; clear hK1 K1)) | ((first | apply call_a E46 | apply call_q E46); exact (rof_term ht hn2 _ _); (refine hK1 _ ?_; clear hK1 K1)) | ((first | apply call_a E47 | apply call_q E47); exact (rnone_calls f.cond _); (refine hK1 _ ?_; clear hK1 K1)) | (refine join_x (v := ?_) (fun hg hk9 => ?_) ?_; rotate_left; (focus (try ((try simp only [BN] at hg); simp only [S1, simprocAttr, T2, T3, T4, T22, T23, T25, T35, T51, T53, T55, T58, T83, List.length_map, g1, g2, g3, g4, c1, a1, b1, hx, eN, hk, hk', hg] at hk9 ⊢)); first | exact hk9 | ((first | apply call_a E19 | apply call_q E19); exact (rOuts_calls _ fl hl _ _); exact hk9) | ((first | apply call_a E46 | apply call_q E46); exact (rof_term ht hn2 _ _); exact hk9) | ((first | apply call_a E47 | apply call_q E47); exact (rnone_calls f.cond _); exact hk9)); (refine hK1 _ ?_; clear hK1 K1)) | (((first | (refine ⟨fun hg => hA ?_, fun hg => hB ?_⟩ <;> clear hA hB A B) | refine ⟨fun hg => ?_, fun hg => ?_⟩) <;> (try simp only [BN2] at hg) <;> (try simp only [hg, cond_true, cond_false])) <;> (try (refine hK1 _ ?_; clear hK1 K1)) <;> (try simp only [BN3] at hg))) | (refine awp_seq_k fun K hK => ?_) | ((first | refine awp_region ?_ | refine awp_draw (by kernel_rfl) ?_ | refine awp_block ?_ | refine awp_exit ?_ | refine awp_skip ?_ | refine awp_ret ?_); (try simp only [NB, simprocAttr])))
      all_goals simp only [EndP, FinP, resA, resL, resA1, lastV, lastA, lastAs, pur, purs, take_app, List.take_length, S1, simprocAttr, T2, T3, T4, T22, T23, T25, T35, T51, T53, T55, T58, T83, Nat.le_add_right, Nat.le_refl]
      all_goals simp_all
    | true =>
      have hk' : (k.kind != 5) = false := by unfold bne; rw [hk]; rfl
      cases ho : decide (2 ≤ ((outsN fl f.src).length : Int)) with
      | false =>
        have ho' : decide (((outsN fl f.src).length : Int) < 2) = true := by simp at ho ⊢; omega
        refine acalls_pure (rl := []) mixed Tryd.func33 rfl (rs := [.tmp 4]) rfl Tryd.ntmps33 (by simp) ?_
        repeat' (first | ((first | refine aops_nil ?_ | refine aqops_nil ?_); (try simp only [NB])) | ((repeat ((fail_if_success (refine hK _ ?_)); clear hK K)); refine hK _ ?_; clear hK K) | ((first | refine aops_k fun K1 hK1 => ?_ | refine aqops_k fun K1 hK1 => ?_ | refine awp_cond_k fun A B hA hB => ?_); simp only [S1, simprocAttr, T2, T3, T4, T22, T23, T25, T35, T51, T53, T55, T58, T83, List.length_map, g1, g2, g3, g4, c1, a1, b1, hx, eN, hk, hk', ho, ho']; first | (refine hK1 _ ?_; clear hK1 K1) | ((first | refine hA ?_ | refine hB ?_); clear hA hB A B) | ((first | apply call_a E19 | apply call_q E19); exact (rOuts_calls _ fl hl _ _); (refine hK1 _ ?_; clear hK1 K1)) | ((first | apply call_a E46 | apply call_q E46); exact (rof_term ht hn2 _ _); (refine hK1 _ ?_; clear hK1 K1)) | ((first | apply call_a E47 | apply call_q E47); exact (rnone_calls f.cond _); (refine hK1 _ ?_; clear hK1 K1)) | (refine join_x (v := ?_) (fun hg hk9 => ?_) ?_; rotate_left; (focus (try ((try simp only [BN] at hg); simp only [S1, simprocAttr, T2, T3, T4, T22, T23, T25, T35, T51, T53, T55, T58, T83, List.length_map, g1, g2, g3, g4, c1, a1, b1, hx, eN, hk, hk', ho, ho', hg] at hk9 ⊢)); first | exact hk9 | ((first | apply call_a E19 | apply call_q E19); exact (rOuts_calls _ fl hl _ _); exact hk9) | ((first | apply call_a E46 | apply call_q E46); exact (rof_term ht hn2 _ _); exact hk9) | ((first | apply call_a E47 | apply call_q E47); exact (rnone_calls f.cond _); exact hk9)); (refine hK1 _ ?_; clear hK1 K1)) | (((first | (refine ⟨fun hg => hA ?_, fun hg => hB ?_⟩ <;> clear hA hB A B) | refine ⟨fun hg => ?_, fun hg => ?_⟩) <;> (try simp only [BN2] at hg) <;> (try simp only [hg, cond_true, cond_false])) <;> (try (refine hK1 _ ?_; clear hK1 K1)) <;> (try simp only [BN3] at hg))) | (refine awp_seq_k fun K hK => ?_) | ((first | refine awp_region ?_ | refine awp_draw (by kernel_rfl) ?_ | refine awp_block ?_ | refine awp_exit ?_ | refine awp_skip ?_ | refine awp_ret ?_); (try simp only [NB, simprocAttr])))
        all_goals simp only [EndP, FinP, resA, resL, resA1, lastV, lastA, lastAs, pur, purs, take_app, List.take_length, S1, simprocAttr, T2, T3, T4, T22, T23, T25, T35, T51, T53, T55, T58, T83, Nat.le_add_right, Nat.le_refl]
        all_goals simp_all
      | true =>
        have ho' : decide (((outsN fl f.src).length : Int) < 2) = false := by simp at ho ⊢; omega
        refine acalls_pure (rl := []) mixed Tryd.func33 rfl (rs := [.tmp 4]) rfl Tryd.ntmps33 (by simp) ?_
        repeat' (first | ((first | refine aops_nil ?_ | refine aqops_nil ?_); (try simp only [NB])) | ((repeat ((fail_if_success (refine hK _ ?_)); clear hK K)); refine hK _ ?_; clear hK K) | ((first | refine aops_k fun K1 hK1 => ?_ | refine aqops_k fun K1 hK1 => ?_ | refine awp_cond_k fun A B hA hB => ?_); simp only [S1, simprocAttr, T2, T3, T4, T22, T23, T25, T35, T51, T53, T55, T58, T83, List.length_map, g1, g2, g3, g4, c1, a1, b1, hx, eN, hk, hk', ho, ho']; first | (refine hK1 _ ?_; clear hK1 K1) | ((first | refine hA ?_ | refine hB ?_); clear hA hB A B) | ((first | apply call_a E19 | apply call_q E19); exact (rOuts_calls _ fl hl _ _); (refine hK1 _ ?_; clear hK1 K1)) | ((first | apply call_a E46 | apply call_q E46); exact (rof_term ht hn2 _ _); (refine hK1 _ ?_; clear hK1 K1)) | ((first | apply call_a E47 | apply call_q E47); exact (rnone_calls f.cond _); (refine hK1 _ ?_; clear hK1 K1)) | (refine join_x (v := ?_) (fun hg hk9 => ?_) ?_; rotate_left; (focus (try ((try simp only [BN] at hg); simp only [S1, simprocAttr, T2, T3, T4, T22, T23, T25, T35, T51, T53, T55, T58, T83, List.length_map, g1, g2, g3, g4, c1, a1, b1, hx, eN, hk, hk', ho, ho', hg] at hk9 ⊢)); first | exact hk9 | ((first | apply call_a E19 | apply call_q E19); exact (rOuts_calls _ fl hl _ _); exact hk9) | ((first | apply call_a E46 | apply call_q E46); exact (rof_term ht hn2 _ _); exact hk9) | ((first | apply call_a E47 | apply call_q E47); exact (rnone_calls f.cond _); exact hk9)); (refine hK1 _ ?_; clear hK1 K1)) | (((first | (refine ⟨fun hg => hA ?_, fun hg => hB ?_⟩ <;> clear hA hB A B) | refine ⟨fun hg => ?_, fun hg => ?_⟩) <;> (try simp only [BN2] at hg) <;> (try simp only [hg, cond_true, cond_false])) <;> (try (refine hK1 _ ?_; clear hK1 K1)) <;> (try simp only [BN3] at hg))) | (refine awp_seq_k fun K hK => ?_) | ((first | refine awp_region ?_ | refine awp_draw (by kernel_rfl) ?_ | refine awp_block ?_ | refine awp_exit ?_ | refine awp_skip ?_ | refine awp_ret ?_); (try simp only [NB, simprocAttr])))
        all_goals simp only [EndP, FinP, resA, resL, resA1, lastV, lastA, lastAs, pur, purs, take_app, List.take_length, S1, simprocAttr, T2, T3, T4, T22, T23, T25, T35, T51, T53, T55, T58, T83, Nat.le_add_right, Nat.le_refl]
        all_goals simp_all
end Go.Proofs.YtlophgkgmhcagaaDoor.AM
end

section
set_option linter.unusedVariables false
set_option linter.unusedSimpArgs false
set_option maxRecDepth 4000
set_option maxHeartbeats 4000000
namespace Go.Proofs.YtlophgkgmhcagaaDoor.AM
open Go Go.Proofs
attribute [local irreducible] awp aops aqops aeops arun
variable {G : Nat → Option (List PV)}

theorem pickF_mem {q : Fl → Bool} {l : List Fl} : ∀ {j : Nat} {x : Int}, x ∈ pickF q l j → ∃ i f, i < j ∧ x = (i : Int) ∧ l[i]? = some f ∧ q f = true
  | 0, x, h => by simp [pickF] at h
  | j + 1, x, h => by
    unfold pickF at h
    split at h
    · rename_i f hf
      split at h
      · rename_i hq
        rcases List.mem_append.mp h with h | h
        · obtain ⟨i, f', a, b⟩ := pickF_mem h; exact ⟨i, f', by omega, b⟩
        · exact ⟨j, f, by omega, by simpa using h, hf, hq⟩
      · obtain ⟨i, f', a, b⟩ := pickF_mem h; exact ⟨i, f', by omega, b⟩
    · obtain ⟨i, f', a, b⟩ := pickF_mem h; exact ⟨i, f', by omega, b⟩

def elsAt (fl : List Fl) (x : Int) : Bool := match fl[x.toNat]? with | some f => f.els | none => false
def othAt (ns : List Nd) (fl : List Fl) (x : Int) : Bool := match fl[x.toNat]? with | some f => kindAt ns f.dst != 8 | none => false
def cntB (p : Int → Bool) (l : List Int) (j : Nat) : Nat := (l.take j).countP p

theorem cntB_step {p : Int → Bool} {l : List Int} {j : Nat} {x : Int} (h : l[j]? = some x) : cntB p l (j + 1) = cntB p l j + (if p x = true then 1 else 0) := by
  unfold cntB
  rw [List.take_add_one, h]
  simp only [Option.toList_some, List.countP_append, List.countP_cons, List.countP_nil, Nat.zero_add]
theorem cntB_le (p : Int → Bool) (l : List Int) (j : Nat) : cntB p l j ≤ l.length := by
  unfold cntB
  exact Nat.le_trans List.countP_le_length (by rw [List.length_take]; omega)

/-- Rule 3 of a node, but that there is one Start and one End. -/
def threeB (ns : List Nd) (fl : List Fl) (i : Int) : Bool :=
  let a := (insN fl i).length
  let outs := outsN fl i
  let b := outs.length
  let elses := cntB (elsAt fl) outs b
  let others := cntB (othAt ns fl) outs b
  let k := kindAt ns i
  if k = 1 then a == 0 && b == 1
  else if k = 2 then a == 1 && b == 0
  else if k = 5 then (a == 1 && decide (2 ≤ b) && elses == 1) || (decide (2 ≤ a) && b == 1)
  else if k = 6 then (a == 1 && decide (2 ≤ b)) || (decide (2 ≤ a) && b == 1)
  else if k = 7 then a == 1 && decide (2 ≤ b) && others == 0
  else a == 1 && b == 1

theorem int_beq (a b : Nat) : ((a : Int) == (b : Int)) = (a == b) := by rw [Bool.eq_iff_iff]; simp; omega

theorem three_calls (ns : List Nd) (hn : ns.length ≤ 100) (fl : List Fl) (hl : fl.length ≤ 100) (hd : ∀ f ∈ fl, 0 ≤ f.dst ∧ f.dst < (ns.length : Int)) (i : Int) (hi0 : 0 ≤ i) (hi1 : i < (ns.length : Int)) (h : Heap) :
    ACalls Tryd.prog G 35 [aNet ns fl, .i i] h (fun r h' => r = .b (threeB ns fl i) ∧ h' = h) := by
  have hle : (outsN fl i).length ≤ 100 := Nat.le_trans (pickF_le _ _ _) hl
  obtain ⟨kd, hkd⟩ : ∃ k, ns[i.toNat]? = some k := ⟨_, List.getElem?_eq_getElem (by omega)⟩
  have hkd' := rowN hkd
  have ekd : kindAt ns i = kd.kind := by unfold kindAt; rw [hkd]
  refine acalls_pure (rl := []) mixed Tryd.func35 rfl (rs := [.tmp 4]) rfl Tryd.ntmps35 (by simp) ?_
  refine awp_seq_k fun K hK => ?_
  repeat' (first | ((first | refine aops_nil ?_ | refine aqops_nil ?_); (try simp only [NB]); ((repeat ((fail_if_success (refine hK _ ?_)); clear hK K)); refine hK _ ?_; clear hK K)) | ((first | refine aops_k fun K1 hK1 => ?_ | refine aqops_k fun K1 hK1 => ?_ | refine awp_cond_k fun A B hA hB => ?_); simp only [S1, simprocAttr, T2, T3, T4, T22, T23, T25, T35, T51, T53, T55, T58]; first | (refine hK1 _ ?_; clear hK1 K1) | ((first | refine hA ?_ | refine hB ?_); clear hA hB A B) | (refine join_x (v := ?_) (fun hg hk9 => ?_) ?_; rotate_left; (focus (try ((try simp only [BN] at hg); simp only [S1, simprocAttr, T2, T3, T4, T22, T23, T25, T35, T51, T53, T55, T58, hg] at hk9 ⊢)); first | exact hk9); (refine hK1 _ ?_; clear hK1 K1)) | (((first | (refine ⟨fun hg => hA ?_, fun hg => hB ?_⟩ <;> clear hA hB A B) | refine ⟨fun hg => ?_, fun hg => ?_⟩) <;> (try simp only [BN2] at hg) <;> (try simp only [hg, cond_true, cond_false])) <;> (try (refine hK1 _ ?_; clear hK1 K1)) <;> (try simp only [BN3] at hg))) | (fail) | ((first | refine awp_region ?_ | refine awp_draw (by kernel_rfl) ?_ | refine awp_block ?_ | refine awp_exit ?_ | refine awp_skip ?_ | refine awp_ret ?_); (try simp only [NB, simprocAttr]); (try ((repeat ((fail_if_success (refine hK _ ?_)); clear hK K)); refine hK _ ?_; clear hK K))))
  refine awp_seq_k fun K hK => ?_
  repeat' (first | ((first | refine aops_nil ?_ | refine aqops_nil ?_); (try simp only [NB]); ((repeat ((fail_if_success (refine hK _ ?_)); clear hK K)); refine hK _ ?_; clear hK K)) | ((first | refine aops_k fun K1 hK1 => ?_ | refine aqops_k fun K1 hK1 => ?_ | refine awp_cond_k fun A B hA hB => ?_); simp only [S1, simprocAttr, T2, T3, T4, T22, T23, T25, T35, T51, T53, T55, T58]; first | (refine hK1 _ ?_; clear hK1 K1) | ((first | refine hA ?_ | refine hB ?_); clear hA hB A B) | ((first | apply call_a E18 | apply call_q E18); exact (rIns_calls _ fl hl _ _); (refine hK1 _ ?_; clear hK1 K1)) | (refine join_x (v := ?_) (fun hg hk9 => ?_) ?_; rotate_left; (focus (try ((try simp only [BN] at hg); simp only [S1, simprocAttr, T2, T3, T4, T22, T23, T25, T35, T51, T53, T55, T58, hg] at hk9 ⊢)); first | exact hk9 | ((first | apply call_a E18 | apply call_q E18); exact (rIns_calls _ fl hl _ _); exact hk9)); (refine hK1 _ ?_; clear hK1 K1)) | (((first | (refine ⟨fun hg => hA ?_, fun hg => hB ?_⟩ <;> clear hA hB A B) | refine ⟨fun hg => ?_, fun hg => ?_⟩) <;> (try simp only [BN2] at hg) <;> (try simp only [hg, cond_true, cond_false])) <;> (try (refine hK1 _ ?_; clear hK1 K1)) <;> (try simp only [BN3] at hg))) | (fail) | ((first | refine awp_region ?_ | refine awp_draw (by kernel_rfl) ?_ | refine awp_block ?_ | refine awp_exit ?_ | refine awp_skip ?_ | refine awp_ret ?_); (try simp only [NB, simprocAttr]); (try ((repeat ((fail_if_success (refine hK _ ?_)); clear hK K)); refine hK _ ?_; clear hK K))))
  refine awp_seq_k fun K hK => ?_
  repeat' (first | ((first | refine aops_nil ?_ | refine aqops_nil ?_); (try simp only [NB]); ((repeat ((fail_if_success (refine hK _ ?_)); clear hK K)); refine hK _ ?_; clear hK K)) | ((first | refine aops_k fun K1 hK1 => ?_ | refine aqops_k fun K1 hK1 => ?_ | refine awp_cond_k fun A B hA hB => ?_); simp only [S1, simprocAttr, T2, T3, T4, T22, T23, T25, T35, T51, T53, T55, T58]; first | (refine hK1 _ ?_; clear hK1 K1) | ((first | refine hA ?_ | refine hB ?_); clear hA hB A B) | ((first | apply call_a E19 | apply call_q E19); exact (rOuts_calls _ fl hl _ _); (refine hK1 _ ?_; clear hK1 K1)) | (refine join_x (v := ?_) (fun hg hk9 => ?_) ?_; rotate_left; (focus (try ((try simp only [BN] at hg); simp only [S1, simprocAttr, T2, T3, T4, T22, T23, T25, T35, T51, T53, T55, T58, hg] at hk9 ⊢)); first | exact hk9 | ((first | apply call_a E19 | apply call_q E19); exact (rOuts_calls _ fl hl _ _); exact hk9)); (refine hK1 _ ?_; clear hK1 K1)) | (((first | (refine ⟨fun hg => hA ?_, fun hg => hB ?_⟩ <;> clear hA hB A B) | refine ⟨fun hg => ?_, fun hg => ?_⟩) <;> (try simp only [BN2] at hg) <;> (try simp only [hg, cond_true, cond_false])) <;> (try (refine hK1 _ ?_; clear hK1 K1)) <;> (try simp only [BN3] at hg))) | (fail) | ((first | refine awp_region ?_ | refine awp_draw (by kernel_rfl) ?_ | refine awp_block ?_ | refine awp_exit ?_ | refine awp_skip ?_ | refine awp_ret ?_); (try simp only [NB, simprocAttr]); (try ((repeat ((fail_if_success (refine hK _ ?_)); clear hK K)); refine hK _ ?_; clear hK K))))
  refine awp_seq_k fun K hK => ?_
  repeat' (first | ((first | refine aops_nil ?_ | refine aqops_nil ?_); (try simp only [NB]); ((repeat ((fail_if_success (refine hK _ ?_)); clear hK K)); refine hK _ ?_; clear hK K)) | ((first | refine aops_k fun K1 hK1 => ?_ | refine aqops_k fun K1 hK1 => ?_ | refine awp_cond_k fun A B hA hB => ?_); simp only [S1, simprocAttr, T2, T3, T4, T22, T23, T25, T35, T51, T53, T55, T58, List.length_map]; first | (refine hK1 _ ?_; clear hK1 K1) | ((first | refine hA ?_ | refine hB ?_); clear hA hB A B) | (refine join_x (v := ?_) (fun hg hk9 => ?_) ?_; rotate_left; (focus (try ((try simp only [BN] at hg); simp only [S1, simprocAttr, T2, T3, T4, T22, T23, T25, T35, T51, T53, T55, T58, List.length_map, hg] at hk9 ⊢)); first | exact hk9); (refine hK1 _ ?_; clear hK1 K1)) | (((first | (refine ⟨fun hg => hA ?_, fun hg => hB ?_⟩ <;> clear hA hB A B) | refine ⟨fun hg => ?_, fun hg => ?_⟩) <;> (try simp only [BN2] at hg) <;> (try simp only [hg, cond_true, cond_false])) <;> (try (refine hK1 _ ?_; clear hK1 K1)) <;> (try simp only [BN3] at hg))) | (fail) | ((first | refine awp_region ?_ | refine awp_draw (by kernel_rfl) ?_ | refine awp_block ?_ | refine awp_exit ?_ | refine awp_skip ?_ | refine awp_ret ?_); (try simp only [NB, simprocAttr]); (try ((repeat ((fail_if_success (refine hK _ ?_)); clear hK K)); refine hK _ ?_; clear hK K))))
  refine awp_seq_k fun K hK => ?_
  repeat' (first | ((first | refine aops_nil ?_ | refine aqops_nil ?_); (try simp only [NB]); ((repeat ((fail_if_success (refine hK _ ?_)); clear hK K)); refine hK _ ?_; clear hK K)) | ((first | refine aops_k fun K1 hK1 => ?_ | refine aqops_k fun K1 hK1 => ?_ | refine awp_cond_k fun A B hA hB => ?_); simp only [S1, simprocAttr, T2, T3, T4, T22, T23, T25, T35, T51, T53, T55, T58]; first | (refine hK1 _ ?_; clear hK1 K1) | ((first | refine hA ?_ | refine hB ?_); clear hA hB A B) | (refine join_x (v := ?_) (fun hg hk9 => ?_) ?_; rotate_left; (focus (try ((try simp only [BN] at hg); simp only [S1, simprocAttr, T2, T3, T4, T22, T23, T25, T35, T51, T53, T55, T58, hg] at hk9 ⊢)); first | exact hk9); (refine hK1 _ ?_; clear hK1 K1)) | (((first | (refine ⟨fun hg => hA ?_, fun hg => hB ?_⟩ <;> clear hA hB A B) | refine ⟨fun hg => ?_, fun hg => ?_⟩) <;> (try simp only [BN2] at hg) <;> (try simp only [hg, cond_true, cond_false])) <;> (try (refine hK1 _ ?_; clear hK1 K1)) <;> (try simp only [BN3] at hg))) | (fail) | ((first | refine awp_region ?_ | refine awp_draw (by kernel_rfl) ?_ | refine awp_block ?_ | refine awp_exit ?_ | refine awp_skip ?_ | refine awp_ret ?_); (try simp only [NB, simprocAttr]); (try ((repeat ((fail_if_success (refine hK _ ?_)); clear hK K)); refine hK _ ?_; clear hK K))))
  refine awp_seq_k fun K hK => ?_
  repeat' (first | ((first | refine aops_nil ?_ | refine aqops_nil ?_); (try simp only [NB]); ((repeat ((fail_if_success (refine hK _ ?_)); clear hK K)); refine hK _ ?_; clear hK K)) | ((first | refine aops_k fun K1 hK1 => ?_ | refine aqops_k fun K1 hK1 => ?_ | refine awp_cond_k fun A B hA hB => ?_); simp only [S1, simprocAttr, T2, T3, T4, T22, T23, T25, T35, T51, T53, T55, T58]; first | (refine hK1 _ ?_; clear hK1 K1) | ((first | refine hA ?_ | refine hB ?_); clear hA hB A B) | (refine join_x (v := ?_) (fun hg hk9 => ?_) ?_; rotate_left; (focus (try ((try simp only [BN] at hg); simp only [S1, simprocAttr, T2, T3, T4, T22, T23, T25, T35, T51, T53, T55, T58, hg] at hk9 ⊢)); first | exact hk9); (refine hK1 _ ?_; clear hK1 K1)) | (((first | (refine ⟨fun hg => hA ?_, fun hg => hB ?_⟩ <;> clear hA hB A B) | refine ⟨fun hg => ?_, fun hg => ?_⟩) <;> (try simp only [BN2] at hg) <;> (try simp only [hg, cond_true, cond_false])) <;> (try (refine hK1 _ ?_; clear hK1 K1)) <;> (try simp only [BN3] at hg))) | (fail) | ((first | refine awp_region ?_ | refine awp_draw (by kernel_rfl) ?_ | refine awp_block ?_ | refine awp_exit ?_ | refine awp_skip ?_ | refine awp_ret ?_); (try simp only [NB, simprocAttr]); (try ((repeat ((fail_if_success (refine hK _ ?_)); clear hK K)); refine hK _ ?_; clear hK K))))
  refine awp_seq_k fun K hK => ?_
  repeat' (first | ((first | refine aops_nil ?_ | refine aqops_nil ?_); (try simp only [NB])) | ((repeat ((fail_if_success (refine hK _ ?_)); clear hK K)); refine hK _ ?_; clear hK K) | ((first | refine aops_k fun K1 hK1 => ?_ | refine aqops_k fun K1 hK1 => ?_ | refine awp_cond_k fun A B hA hB => ?_); simp only [S1, simprocAttr, T2, T3, T4, T22, T23, T25, T35, T51, T53, T55, T58, List.length_map]; first | (refine hK1 _ ?_; clear hK1 K1) | ((first | refine hA ?_ | refine hB ?_); clear hA hB A B) | (refine join_x (v := ?_) (fun hg hk9 => ?_) ?_; rotate_left; (focus (try ((try simp only [BN] at hg); simp only [S1, simprocAttr, T2, T3, T4, T22, T23, T25, T35, T51, T53, T55, T58, List.length_map, hg] at hk9 ⊢)); first | exact hk9); (refine hK1 _ ?_; clear hK1 K1)) | (((first | (refine ⟨fun hg => hA ?_, fun hg => hB ?_⟩ <;> clear hA hB A B) | refine ⟨fun hg => ?_, fun hg => ?_⟩) <;> (try simp only [BN2] at hg) <;> (try simp only [hg, cond_true, cond_false])) <;> (try (refine hK1 _ ?_; clear hK1 K1)) <;> (try simp only [BN3] at hg))) | (refine awp_seq_k fun K hK => ?_) | ((first | refine awp_region ?_ | refine awp_draw (by kernel_rfl) ?_ | refine awp_block ?_ | refine awp_exit ?_ | refine awp_skip ?_ | refine awp_ret ?_); (try simp only [NB, simprocAttr])))
  refine awp_for (outsN fl i).length 126 (fun j => [(23, .i j), (22, .i (outsN fl i).length), (21, aI (outsN fl i)), (9, .i (cntB (othAt ns fl) (outsN fl i) j)), (8, .i (cntB (elsAt fl) (outsN fl i) j)), (7, .i (outsN fl i).length), (6, aI (outsN fl i)), (5, .i (insN fl i).length), (2, .ptr h.length 0 0), (1, .i i)])
    (fun j => [some ⟨0, [.p (.sl (ns.map eN)), .p (.sl (fl.map eF))]⟩]) (fun j => True) ?_ trivial fun j hj hp K hK => ?_
  · (refine ⟨rfl, (by first | exact ⟨_, rfl⟩ | exact ⟨[], by simp⟩), ?_, ?_⟩ <;> simp only [keeps, avlt, avlts, blksLt, frL, upd_get, S1, simprocAttr, List.length_map, Int.natCast_zero, AV.p.injEq, PV.int.injEq, PV.bool.injEq, PV.sl.injEq] <;> (try and_intros) <;> (try assumption) <;> (try trivial) <;> (try omega))
  rcases Nat.lt_or_ge j (outsN fl i).length with hlt | hge
  · obtain ⟨x, hx⟩ : ∃ k, (outsN fl i)[j]? = some k := ⟨_, List.getElem?_eq_getElem hlt⟩
    obtain ⟨xi, f, hxi, rfl, hf, _⟩ := pickF_mem (List.mem_of_getElem? hx)
    obtain ⟨d1, d2⟩ := hd f (List.mem_of_getElem? hf)
    obtain ⟨kx, hkx⟩ : ∃ k, ns[f.dst.toNat]? = some k := ⟨_, List.getElem?_eq_getElem (by omega)⟩
    have hkx' := rowN hkx
    have hf' := rowF hf
    have x0 : (0 : Int) ≤ (xi : Int) := Int.natCast_nonneg _
    have s1 := cntB_step (p := elsAt fl) hx
    have s2 := cntB_step (p := othAt ns fl) hx
    have b1 := cntB_le (elsAt fl) (outsN fl i) j
    have b2 := cntB_le (othAt ns fl) (outsN fl i) j
    have e1 : elsAt fl (xi : Int) = f.els := by unfold elsAt; rw [Int.toNat_natCast, hf]
    have e2 : othAt ns fl (xi : Int) = (kx.kind != 8) := by unfold othAt; rw [Int.toNat_natCast, hf]; simp only [kindAt, hkx]
    rw [e1] at s1
    rw [e2] at s2
    have w1 := IntWalk.i64_in ((cntB (elsAt fl) (outsN fl i) j : Int) + 1) (by omega)
    have w2 := IntWalk.i64_in ((cntB (othAt ns fl) (outsN fl i) j : Int) + 1) (by omega)
    have n1 := nextI (l := outsN fl i) (i := j) (by omega) hlt
    cases h1 : f.els <;> cases h2 : (kx.kind != 8) <;> simp only [h1, h2, if_true, Bool.false_eq_true, if_false, Nat.add_zero] at s1 s2
    all_goals (repeat' (first | ((first | refine aops_nil ?_ | refine aqops_nil ?_); (try simp only [NB])) | ((repeat ((fail_if_success (refine hK _ ?_)); clear hK K)); refine hK _ ?_; clear hK K) | ((first | refine aops_k fun K1 hK1 => ?_ | refine aqops_k fun K1 hK1 => ?_ | refine awp_cond_k fun A B hA hB => ?_); simp only [S1, simprocAttr, T2, T3, T4, T22, T23, T25, T35, T51, T53, T55, T58, rowI hx, hitI hlt, n1, eF, eN, hf', hkx', h1, h2, d1, d2, x0, w1, w2, Int.toNat_natCast, List.length_map]; first | (refine hK1 _ ?_; clear hK1 K1) | ((first | refine hA ?_ | refine hB ?_); clear hA hB A B) | (refine join_x (v := ?_) (fun hg hk9 => ?_) ?_; rotate_left; (focus (try ((try simp only [BN] at hg); simp only [S1, simprocAttr, T2, T3, T4, T22, T23, T25, T35, T51, T53, T55, T58, rowI hx, hitI hlt, n1, eF, eN, hf', hkx', h1, h2, d1, d2, x0, w1, w2, Int.toNat_natCast, List.length_map, hg] at hk9 ⊢)); first | exact hk9); (refine hK1 _ ?_; clear hK1 K1)) | (((first | (refine ⟨fun hg => hA ?_, fun hg => hB ?_⟩ <;> clear hA hB A B) | refine ⟨fun hg => ?_, fun hg => ?_⟩) <;> (try simp only [BN2] at hg) <;> (try simp only [hg, cond_true, cond_false])) <;> (try (refine hK1 _ ?_; clear hK1 K1)) <;> (try simp only [BN3] at hg))) | (refine awp_seq_k fun K hK => ?_) | ((first | refine awp_region ?_ | refine awp_draw (by kernel_rfl) ?_ | refine awp_block ?_ | refine awp_exit ?_ | refine awp_skip ?_ | refine awp_ret ?_); (try simp only [NB, simprocAttr]))))
    all_goals refine ⟨hlt, trivial, ?_⟩
    all_goals simp only [s1, s2]
    all_goals (refine ⟨rfl, (by first | exact ⟨_, rfl⟩ | exact ⟨[], by simp⟩), ?_, ?_⟩ <;> simp only [keeps, avlt, avlts, blksLt, frL, upd_get, S1, simprocAttr, List.length_map, Int.natCast_zero, AV.p.injEq, PV.int.injEq, PV.bool.injEq, PV.sl.injEq] <;> (try and_intros) <;> (try assumption) <;> (try trivial) <;> (try omega))
  · obtain rfl : j = (outsN fl i).length := by omega
    have e0 : threeB ns fl i = threeB ns fl i := rfl
    conv at e0 => rhs; unfold threeB
    rw [ekd] at e0
    by_cases k1 : kd.kind = 1
    · repeat' (first | ((first | refine aops_nil ?_ | refine aqops_nil ?_); (try simp only [NB])) | ((repeat ((fail_if_success (refine hK _ ?_)); clear hK K)); refine hK _ ?_; clear hK K) | ((first | refine aops_k fun K1 hK1 => ?_ | refine aqops_k fun K1 hK1 => ?_ | refine awp_cond_k fun A B hA hB => ?_); simp only [S1, simprocAttr, T2, T3, T4, T22, T23, T25, T35, T51, T53, T55, T58, endI, hi0, hkd', eN, k1]; first | (refine hK1 _ ?_; clear hK1 K1) | ((first | refine hA ?_ | refine hB ?_); clear hA hB A B) | (refine join_x (v := ?_) (fun hg hk9 => ?_) ?_; rotate_left; (focus (try ((try simp only [BN] at hg); simp only [S1, simprocAttr, T2, T3, T4, T22, T23, T25, T35, T51, T53, T55, T58, endI, hi0, hkd', eN, k1, hg] at hk9 ⊢)); first | exact hk9); (refine hK1 _ ?_; clear hK1 K1)) | (((first | (refine ⟨fun hg => hA ?_, fun hg => hB ?_⟩ <;> clear hA hB A B) | refine ⟨fun hg => ?_, fun hg => ?_⟩) <;> (try simp only [BN2] at hg) <;> (try simp only [hg, cond_true, cond_false])) <;> (try (refine hK1 _ ?_; clear hK1 K1)) <;> (try simp only [BN3] at hg))) | (refine awp_seq_k fun K hK => ?_) | ((first | refine awp_region ?_ | refine awp_draw (by kernel_rfl) ?_ | refine awp_block ?_ | refine awp_exit ?_ | refine awp_skip ?_ | refine awp_ret ?_); (try simp only [NB, simprocAttr])))
      all_goals simp only [EndP, FinP, resA, resL, resA1, lastV, lastA, lastAs, pur, purs, take_app, List.take_length, S1, simprocAttr, T2, T3, T4, T22, T23, T25, T35, T51, T53, T55, T58, Nat.le_add_right, Nat.le_refl]
      all_goals simp [e0, k1]
      all_goals (rw [Bool.eq_iff_iff]; simp only [Bool.or_eq_true, Bool.and_eq_true, beq_iff_eq, decide_eq_true_eq]; omega)
    by_cases k2 : kd.kind = 2
    · repeat' (first | ((first | refine aops_nil ?_ | refine aqops_nil ?_); (try simp only [NB])) | ((repeat ((fail_if_success (refine hK _ ?_)); clear hK K)); refine hK _ ?_; clear hK K) | ((first | refine aops_k fun K1 hK1 => ?_ | refine aqops_k fun K1 hK1 => ?_ | refine awp_cond_k fun A B hA hB => ?_); simp only [S1, simprocAttr, T2, T3, T4, T22, T23, T25, T35, T51, T53, T55, T58, endI, hi0, hkd', eN, k2]; first | (refine hK1 _ ?_; clear hK1 K1) | ((first | refine hA ?_ | refine hB ?_); clear hA hB A B) | (refine join_x (v := ?_) (fun hg hk9 => ?_) ?_; rotate_left; (focus (try ((try simp only [BN] at hg); simp only [S1, simprocAttr, T2, T3, T4, T22, T23, T25, T35, T51, T53, T55, T58, endI, hi0, hkd', eN, k2, hg] at hk9 ⊢)); first | exact hk9); (refine hK1 _ ?_; clear hK1 K1)) | (((first | (refine ⟨fun hg => hA ?_, fun hg => hB ?_⟩ <;> clear hA hB A B) | refine ⟨fun hg => ?_, fun hg => ?_⟩) <;> (try simp only [BN2] at hg) <;> (try simp only [hg, cond_true, cond_false])) <;> (try (refine hK1 _ ?_; clear hK1 K1)) <;> (try simp only [BN3] at hg))) | (refine awp_seq_k fun K hK => ?_) | ((first | refine awp_region ?_ | refine awp_draw (by kernel_rfl) ?_ | refine awp_block ?_ | refine awp_exit ?_ | refine awp_skip ?_ | refine awp_ret ?_); (try simp only [NB, simprocAttr])))
      all_goals simp only [EndP, FinP, resA, resL, resA1, lastV, lastA, lastAs, pur, purs, take_app, List.take_length, S1, simprocAttr, T2, T3, T4, T22, T23, T25, T35, T51, T53, T55, T58, Nat.le_add_right, Nat.le_refl]
      all_goals simp [e0, k2]
      all_goals (rw [Bool.eq_iff_iff]; simp only [Bool.or_eq_true, Bool.and_eq_true, beq_iff_eq, decide_eq_true_eq]; omega)
    by_cases k5 : kd.kind = 5
    · repeat' (first | ((first | refine aops_nil ?_ | refine aqops_nil ?_); (try simp only [NB])) | ((repeat ((fail_if_success (refine hK _ ?_)); clear hK K)); refine hK _ ?_; clear hK K) | ((first | refine aops_k fun K1 hK1 => ?_ | refine aqops_k fun K1 hK1 => ?_ | refine awp_cond_k fun A B hA hB => ?_); simp only [S1, simprocAttr, T2, T3, T4, T22, T23, T25, T35, T51, T53, T55, T58, endI, hi0, hkd', eN, k5]; first | (refine hK1 _ ?_; clear hK1 K1) | ((first | refine hA ?_ | refine hB ?_); clear hA hB A B) | (refine join_x (v := ?_) (fun hg hk9 => ?_) ?_; rotate_left; (focus (try ((try simp only [BN] at hg); simp only [S1, simprocAttr, T2, T3, T4, T22, T23, T25, T35, T51, T53, T55, T58, endI, hi0, hkd', eN, k5, hg] at hk9 ⊢)); first | exact hk9); (refine hK1 _ ?_; clear hK1 K1)) | (((first | (refine ⟨fun hg => hA ?_, fun hg => hB ?_⟩ <;> clear hA hB A B) | refine ⟨fun hg => ?_, fun hg => ?_⟩) <;> (try simp only [BN2] at hg) <;> (try simp only [hg, cond_true, cond_false])) <;> (try (refine hK1 _ ?_; clear hK1 K1)) <;> (try simp only [BN3] at hg))) | (refine awp_seq_k fun K hK => ?_) | ((first | refine awp_region ?_ | refine awp_draw (by kernel_rfl) ?_ | refine awp_block ?_ | refine awp_exit ?_ | refine awp_skip ?_ | refine awp_ret ?_); (try simp only [NB, simprocAttr])))
      all_goals simp only [EndP, FinP, resA, resL, resA1, lastV, lastA, lastAs, pur, purs, take_app, List.take_length, S1, simprocAttr, T2, T3, T4, T22, T23, T25, T35, T51, T53, T55, T58, Nat.le_add_right, Nat.le_refl]
      all_goals simp [e0, k5]
      all_goals (rw [Bool.eq_iff_iff]; simp only [Bool.or_eq_true, Bool.and_eq_true, beq_iff_eq, decide_eq_true_eq]; omega)
    by_cases k6 : kd.kind = 6
    · repeat' (first | ((first | refine aops_nil ?_ | refine aqops_nil ?_); (try simp only [NB])) | ((repeat ((fail_if_success (refine hK _ ?_)); clear hK K)); refine hK _ ?_; clear hK K) | ((first | refine aops_k fun K1 hK1 => ?_ | refine aqops_k fun K1 hK1 => ?_ | refine awp_cond_k fun A B hA hB => ?_); simp only [S1, simprocAttr, T2, T3, T4, T22, T23, T25, T35, T51, T53, T55, T58, endI, hi0, hkd', eN, k6]; first | (refine hK1 _ ?_; clear hK1 K1) | ((first | refine hA ?_ | refine hB ?_); clear hA hB A B) | (refine join_x (v := ?_) (fun hg hk9 => ?_) ?_; rotate_left; (focus (try ((try simp only [BN] at hg); simp only [S1, simprocAttr, T2, T3, T4, T22, T23, T25, T35, T51, T53, T55, T58, endI, hi0, hkd', eN, k6, hg] at hk9 ⊢)); first | exact hk9); (refine hK1 _ ?_; clear hK1 K1)) | (((first | (refine ⟨fun hg => hA ?_, fun hg => hB ?_⟩ <;> clear hA hB A B) | refine ⟨fun hg => ?_, fun hg => ?_⟩) <;> (try simp only [BN2] at hg) <;> (try simp only [hg, cond_true, cond_false])) <;> (try (refine hK1 _ ?_; clear hK1 K1)) <;> (try simp only [BN3] at hg))) | (refine awp_seq_k fun K hK => ?_) | ((first | refine awp_region ?_ | refine awp_draw (by kernel_rfl) ?_ | refine awp_block ?_ | refine awp_exit ?_ | refine awp_skip ?_ | refine awp_ret ?_); (try simp only [NB, simprocAttr])))
      all_goals simp only [EndP, FinP, resA, resL, resA1, lastV, lastA, lastAs, pur, purs, take_app, List.take_length, S1, simprocAttr, T2, T3, T4, T22, T23, T25, T35, T51, T53, T55, T58, Nat.le_add_right, Nat.le_refl]
      all_goals simp [e0, k6]
      all_goals (rw [Bool.eq_iff_iff]; simp only [Bool.or_eq_true, Bool.and_eq_true, beq_iff_eq, decide_eq_true_eq]; omega)
    by_cases k7 : kd.kind = 7
    · repeat' (first | ((first | refine aops_nil ?_ | refine aqops_nil ?_); (try simp only [NB])) | ((repeat ((fail_if_success (refine hK _ ?_)); clear hK K)); refine hK _ ?_; clear hK K) | ((first | refine aops_k fun K1 hK1 => ?_ | refine aqops_k fun K1 hK1 => ?_ | refine awp_cond_k fun A B hA hB => ?_); simp only [S1, simprocAttr, T2, T3, T4, T22, T23, T25, T35, T51, T53, T55, T58, endI, hi0, hkd', eN, k7]; first | (refine hK1 _ ?_; clear hK1 K1) | ((first | refine hA ?_ | refine hB ?_); clear hA hB A B) | (refine join_x (v := ?_) (fun hg hk9 => ?_) ?_; rotate_left; (focus (try ((try simp only [BN] at hg); simp only [S1, simprocAttr, T2, T3, T4, T22, T23, T25, T35, T51, T53, T55, T58, endI, hi0, hkd', eN, k7, hg] at hk9 ⊢)); first | exact hk9); (refine hK1 _ ?_; clear hK1 K1)) | (((first | (refine ⟨fun hg => hA ?_, fun hg => hB ?_⟩ <;> clear hA hB A B) | refine ⟨fun hg => ?_, fun hg => ?_⟩) <;> (try simp only [BN2] at hg) <;> (try simp only [hg, cond_true, cond_false])) <;> (try (refine hK1 _ ?_; clear hK1 K1)) <;> (try simp only [BN3] at hg))) | (refine awp_seq_k fun K hK => ?_) | ((first | refine awp_region ?_ | refine awp_draw (by kernel_rfl) ?_ | refine awp_block ?_ | refine awp_exit ?_ | refine awp_skip ?_ | refine awp_ret ?_); (try simp only [NB, simprocAttr])))
      all_goals simp only [EndP, FinP, resA, resL, resA1, lastV, lastA, lastAs, pur, purs, take_app, List.take_length, S1, simprocAttr, T2, T3, T4, T22, T23, T25, T35, T51, T53, T55, T58, Nat.le_add_right, Nat.le_refl]
      all_goals simp [e0, k7]
      all_goals (rw [Bool.eq_iff_iff]; simp only [Bool.or_eq_true, Bool.and_eq_true, beq_iff_eq, decide_eq_true_eq]; omega)
    · have f1 : (kd.kind == 1) = false := by simp [k1]
      have f2 : (kd.kind == 2) = false := by simp [k2]
      have f5 : (kd.kind == 5) = false := by simp [k5]
      have f6 : (kd.kind == 6) = false := by simp [k6]
      have f7 : (kd.kind == 7) = false := by simp [k7]
      repeat' (first | ((first | refine aops_nil ?_ | refine aqops_nil ?_); (try simp only [NB])) | ((repeat ((fail_if_success (refine hK _ ?_)); clear hK K)); refine hK _ ?_; clear hK K) | ((first | refine aops_k fun K1 hK1 => ?_ | refine aqops_k fun K1 hK1 => ?_ | refine awp_cond_k fun A B hA hB => ?_); simp only [S1, simprocAttr, T2, T3, T4, T22, T23, T25, T35, T51, T53, T55, T58, endI, hi0, hkd', eN, f1, f2, f5, f6, f7]; first | (refine hK1 _ ?_; clear hK1 K1) | ((first | refine hA ?_ | refine hB ?_); clear hA hB A B) | (refine join_x (v := ?_) (fun hg hk9 => ?_) ?_; rotate_left; (focus (try ((try simp only [BN] at hg); simp only [S1, simprocAttr, T2, T3, T4, T22, T23, T25, T35, T51, T53, T55, T58, endI, hi0, hkd', eN, f1, f2, f5, f6, f7, hg] at hk9 ⊢)); first | exact hk9); (refine hK1 _ ?_; clear hK1 K1)) | (((first | (refine ⟨fun hg => hA ?_, fun hg => hB ?_⟩ <;> clear hA hB A B) | refine ⟨fun hg => ?_, fun hg => ?_⟩) <;> (try simp only [BN2] at hg) <;> (try simp only [hg, cond_true, cond_false])) <;> (try (refine hK1 _ ?_; clear hK1 K1)) <;> (try simp only [BN3] at hg))) | (refine awp_seq_k fun K hK => ?_) | ((first | refine awp_region ?_ | refine awp_draw (by kernel_rfl) ?_ | refine awp_block ?_ | refine awp_exit ?_ | refine awp_skip ?_ | refine awp_ret ?_); (try simp only [NB, simprocAttr])))
      all_goals simp only [EndP, FinP, resA, resL, resA1, lastV, lastA, lastAs, pur, purs, take_app, List.take_length, S1, simprocAttr, T2, T3, T4, T22, T23, T25, T35, T51, T53, T55, T58, Nat.le_add_right, Nat.le_refl]
      all_goals simp [e0, k1, k2, k5, k6, k7]
      all_goals (rw [Bool.eq_iff_iff]; simp only [Bool.or_eq_true, Bool.and_eq_true, beq_iff_eq, decide_eq_true_eq]; omega)
end Go.Proofs.YtlophgkgmhcagaaDoor.AM
end

section
set_option linter.unusedVariables false
set_option linter.unusedSimpArgs false
set_option maxRecDepth 4000
set_option maxHeartbeats 4000000
namespace Go.Proofs.YtlophgkgmhcagaaDoor.AM
open Go Go.Proofs
attribute [local irreducible] awp aops aqops aeops arun
variable {G : Nat → Option (List PV)}

def eB (x : Bool) : List PV := [.bool x]
abbrev aB (l : List Bool) : AV := .p (.sl (l.map eB))

theorem avlts_bools (m : Nat) (l : List Bool) : avlts m (l.map AV.b) := by
  induction l with
  | nil => trivial
  | cons x r ih => exact ⟨trivial, ih⟩

theorem chunk_bools : ∀ l : List Bool, chunk 1 l.length (l.map PV.bool) = l.map eB
  | [] => rfl
  | x :: r => by simp only [List.length_cons, List.map_cons, chunk, List.take_succ_cons, List.take_zero, List.drop_succ_cons, List.drop_zero, chunk_bools r, eB]

theorem purs_bools (h : Heap) (n fuel : Nat) : ∀ l : List Bool, purs h n fuel (l.map AV.b) = some (l.map PV.bool)
  | [] => by unfold purs; rfl
  | x :: r => by
    simp only [List.map_cons]
    unfold purs pur
    rw [purs_bools h n fuel r]

theorem pur_bools {h : Heap} {n fuel b g : Nat} {l : List Bool} {m : Nat} (hm : m = l.length) (hb : blkAt h b g = some (l.map AV.b)) (hn : n ≤ b) : pur h n (fuel + 1) (.ref b g 0 1 m) = some (.sl (l.map eB)) := by
  subst hm
  unfold pur
  by_cases h0 : l.length = 0
  · rw [if_pos h0]; have := List.eq_nil_of_length_eq_zero h0; subst this; rfl
  · rw [if_neg h0, hb]
    simp only [hn, true_and, Nat.zero_add, Nat.mul_one, List.length_map, Nat.le_refl, if_true, List.drop_zero]
    rw [List.take_of_length_le (by simp), purs_bools]
    simp only [Option.map_some, chunk_bools]

theorem EndP_bools {P : Program} {h : Heap} {K : AV → Prop} {e : Exit} {s : St} (he : e = .normal ∨ e = .ret) {t b g m : Nat} {l : List Bool} (hm : m = l.length) (hf : s.fr t = some (.ref b g 0 1 m)) (hb : blkAt s.heap b g = some (l.map AV.b)) (hn : h.length ≤ b)
    (ht : s.heap.take h.length = h) (hle : h.length ≤ s.heap.length) (hk : K (aB l)) : EndP P [.tmp t] h K e s := by
  have key : FinP P [.tmp t] h K s := by
    unfold FinP
    simp only [resA, resL, resA1, hf, lastV, lastA, pur_bools hm hb hn, Option.map_some]
    exact ⟨ht, hle, hk⟩
  rcases he with rfl | rfl <;> exact key

theorem dropB {l : List Bool} {k : Nat} {x : Bool} (h : l[k]? = some x) : (l.map AV.b).drop k = .p (.bool x) :: (l.drop (k + 1)).map AV.b := by
  obtain ⟨hk, e⟩ := List.getElem?_eq_some_iff.mp h
  rw [← List.map_drop, List.drop_eq_getElem_cons hk, e]; rfl
theorem setB_b (l : List Bool) (k : Nat) : (l.map AV.b).set k (AV.p (.bool true)) = (l.set k true).map AV.b := by
  rw [List.map_set]
theorem flat_one {α : Type} (n : Nat) (x : α) : (List.replicate n [x]).flatMap id = List.replicate n x := by
  induction n with
  | zero => rfl
  | succ n ih => rw [List.replicate_succ, List.flatMap_cons, ih, List.replicate_succ]; rfl
theorem rep_bools (n : Nat) : List.replicate n (AV.p (.bool false)) = (List.replicate n false).map AV.b := by simp

def esF (fl : List Fl) : List (Nat × Nat) := fl.map fun f => (f.src.toNat, f.dst.toNat)
def InN (n : Nat) (fl : List Fl) : Prop := ∀ f ∈ fl, (0 ≤ f.src ∧ f.src < (n : Int)) ∧ 0 ≤ f.dst ∧ f.dst < (n : Int)

theorem esF_take {fl : List Fl} {j : Nat} {f : Fl} (h : fl[j]? = some f) : (esF fl).take (j + 1) = (esF fl).take j ++ [(f.src.toNat, f.dst.toNat)] := by
  have : (esF fl)[j]? = some (f.src.toNat, f.dst.toNat) := by simp [esF, h]
  rw [List.take_add_one, this]; rfl
theorem foldl_len (es : List (Nat × Nat)) : ∀ out : List Bool, (es.foldl relax out).length = out.length := roundB_len es

theorem Reach_calls (ns : List Nd) (hn : ns.length ≤ 100) (fl : List Fl) (hl : fl.length ≤ 100) (hd : InN ns.length fl) (i : Int) (hi0 : 0 ≤ i) (hi1 : i < (ns.length : Int)) (h : Heap) :
    ACalls Tryd.prog G 36 [aNet ns fl, .i i] h (fun r h' => r = aB (rchL (esF fl) ns.length i.toNat) ∧ h' = h) := by
  have hes : ∀ e ∈ esF fl, e.2 < ns.length := by
    intro e he
    simp only [esF, List.mem_map] at he
    obtain ⟨f, hf, rfl⟩ := he
    have := hd f hf
    simp only; omega
  have hrr := rounds_rch (es := esF fl) (n := ns.length) (a := i.toNat) (by omega) hes
  let o0 := (List.replicate ns.length false).set i.toNat true
  have l0 : ∀ k, (rounds (esF fl) k o0).length = ns.length := fun k => by rw [rounds_len]; simp [o0]
  have g1 : (0 : Int) ≤ (ns.length : Int) := by omega
  have g2 : (ns.length : Int) ≤ 16777216 := by omega
  have g3 : ((ns.length : Int) = 0) = False := eq_false (by omega)
  have g4 : i.toNat + 1 ≤ ns.length := by have := Int.toNat_of_nonneg hi0; omega
  refine acalls_pure (rl := []) mixed Tryd.func36 rfl (rs := [.tmp 4]) rfl Tryd.ntmps36 (by simp) ?_
  refine awp_seq_k fun K hK => ?_
  repeat' (first | ((first | refine aops_nil ?_ | refine aqops_nil ?_); (try simp only [NB]); ((repeat ((fail_if_success (refine hK _ ?_)); clear hK K)); refine hK _ ?_; clear hK K)) | ((first | refine aops_k fun K1 hK1 => ?_ | refine aqops_k fun K1 hK1 => ?_ | refine awp_cond_k fun A B hA hB => ?_); simp only [S1, simprocAttr, T2, T3, T4, T22, T23, T25, T35, T51, T53, T55, T58, T92]; first | (refine hK1 _ ?_; clear hK1 K1) | ((first | refine hA ?_ | refine hB ?_); clear hA hB A B) | (refine join_x (v := ?_) (fun hg hk9 => ?_) ?_; rotate_left; (focus (try ((try simp only [BN] at hg); simp only [S1, simprocAttr, T2, T3, T4, T22, T23, T25, T35, T51, T53, T55, T58, T92, hg] at hk9 ⊢)); first | exact hk9); (refine hK1 _ ?_; clear hK1 K1)) | (((first | (refine ⟨fun hg => hA ?_, fun hg => hB ?_⟩ <;> clear hA hB A B) | refine ⟨fun hg => ?_, fun hg => ?_⟩) <;> (try simp only [BN2] at hg) <;> (try simp only [hg, cond_true, cond_false])) <;> (try (refine hK1 _ ?_; clear hK1 K1)) <;> (try simp only [BN3] at hg))) | (fail) | ((first | refine awp_region ?_ | refine awp_draw (by kernel_rfl) ?_ | refine awp_block ?_ | refine awp_exit ?_ | refine awp_skip ?_ | refine awp_ret ?_); (try simp only [NB, simprocAttr]); (try ((repeat ((fail_if_success (refine hK _ ?_)); clear hK K)); refine hK _ ?_; clear hK K))))
  refine awp_seq_k fun K hK => ?_
  repeat' (first | ((first | refine aops_nil ?_ | refine aqops_nil ?_); (try simp only [NB]); ((repeat ((fail_if_success (refine hK _ ?_)); clear hK K)); refine hK _ ?_; clear hK K)) | ((first | refine aops_k fun K1 hK1 => ?_ | refine aqops_k fun K1 hK1 => ?_ | refine awp_cond_k fun A B hA hB => ?_); simp only [S1, simprocAttr, T2, T3, T4, T22, T23, T25, T35, T51, T53, T55, T58, T92, List.length_map, g1, g2, g3, flat_one, rep_bools, Int.toNat_natCast, List.map_cons, List.map_nil]; first | (refine hK1 _ ?_; clear hK1 K1) | ((first | refine hA ?_ | refine hB ?_); clear hA hB A B) | (refine join_x (v := ?_) (fun hg hk9 => ?_) ?_; rotate_left; (focus (try ((try simp only [BN] at hg); simp only [S1, simprocAttr, T2, T3, T4, T22, T23, T25, T35, T51, T53, T55, T58, T92, List.length_map, g1, g2, g3, flat_one, rep_bools, Int.toNat_natCast, List.map_cons, List.map_nil, hg] at hk9 ⊢)); first | exact hk9); (refine hK1 _ ?_; clear hK1 K1)) | (((first | (refine ⟨fun hg => hA ?_, fun hg => hB ?_⟩ <;> clear hA hB A B) | refine ⟨fun hg => ?_, fun hg => ?_⟩) <;> (try simp only [BN2] at hg) <;> (try simp only [hg, cond_true, cond_false])) <;> (try (refine hK1 _ ?_; clear hK1 K1)) <;> (try simp only [BN3] at hg))) | (fail) | ((first | refine awp_region ?_ | refine awp_draw (by kernel_rfl) ?_ | refine awp_block ?_ | refine awp_exit ?_ | refine awp_skip ?_ | refine awp_ret ?_); (try simp only [NB, simprocAttr]); (try ((repeat ((fail_if_success (refine hK _ ?_)); clear hK K)); refine hK _ ?_; clear hK K))))
  refine awp_seq_k fun K hK => ?_
  repeat' (first | ((first | refine aops_nil ?_ | refine aqops_nil ?_); (try simp only [NB]); ((repeat ((fail_if_success (refine hK _ ?_)); clear hK K)); refine hK _ ?_; clear hK K)) | ((first | refine aops_k fun K1 hK1 => ?_ | refine aqops_k fun K1 hK1 => ?_ | refine awp_cond_k fun A B hA hB => ?_); simp only [S1, simprocAttr, T2, T3, T4, T22, T23, T25, T35, T51, T53, T55, T58, T92, List.length_map, List.length_replicate, hi0, hi1, g4, Nat.mul_one, Nat.zero_add, setB_b]; first | (refine hK1 _ ?_; clear hK1 K1) | ((first | refine hA ?_ | refine hB ?_); clear hA hB A B) | (refine join_x (v := ?_) (fun hg hk9 => ?_) ?_; rotate_left; (focus (try ((try simp only [BN] at hg); simp only [S1, simprocAttr, T2, T3, T4, T22, T23, T25, T35, T51, T53, T55, T58, T92, List.length_map, List.length_replicate, hi0, hi1, g4, Nat.mul_one, Nat.zero_add, setB_b, hg] at hk9 ⊢)); first | exact hk9); (refine hK1 _ ?_; clear hK1 K1)) | (((first | (refine ⟨fun hg => hA ?_, fun hg => hB ?_⟩ <;> clear hA hB A B) | refine ⟨fun hg => ?_, fun hg => ?_⟩) <;> (try simp only [BN2] at hg) <;> (try simp only [hg, cond_true, cond_false])) <;> (try (refine hK1 _ ?_; clear hK1 K1)) <;> (try simp only [BN3] at hg))) | (fail) | ((first | refine awp_region ?_ | refine awp_draw (by kernel_rfl) ?_ | refine awp_block ?_ | refine awp_exit ?_ | refine awp_skip ?_ | refine awp_ret ?_); (try simp only [NB, simprocAttr]); (try ((repeat ((fail_if_success (refine hK _ ?_)); clear hK K)); refine hK _ ?_; clear hK K))))
  refine awp_seq_k fun K hK => ?_
  repeat' (first | ((first | refine aops_nil ?_ | refine aqops_nil ?_); (try simp only [NB])) | ((repeat ((fail_if_success (refine hK _ ?_)); clear hK K)); refine hK _ ?_; clear hK K) | ((first | refine aops_k fun K1 hK1 => ?_ | refine aqops_k fun K1 hK1 => ?_ | refine awp_cond_k fun A B hA hB => ?_); simp only [S1, simprocAttr, T2, T3, T4, T22, T23, T25, T35, T51, T53, T55, T58, T92, List.length_map]; first | (refine hK1 _ ?_; clear hK1 K1) | ((first | refine hA ?_ | refine hB ?_); clear hA hB A B) | (refine join_x (v := ?_) (fun hg hk9 => ?_) ?_; rotate_left; (focus (try ((try simp only [BN] at hg); simp only [S1, simprocAttr, T2, T3, T4, T22, T23, T25, T35, T51, T53, T55, T58, T92, List.length_map, hg] at hk9 ⊢)); first | exact hk9); (refine hK1 _ ?_; clear hK1 K1)) | (((first | (refine ⟨fun hg => hA ?_, fun hg => hB ?_⟩ <;> clear hA hB A B) | refine ⟨fun hg => ?_, fun hg => ?_⟩) <;> (try simp only [BN2] at hg) <;> (try simp only [hg, cond_true, cond_false])) <;> (try (refine hK1 _ ?_; clear hK1 K1)) <;> (try simp only [BN3] at hg))) | (refine awp_seq_k fun K hK => ?_) | ((first | refine awp_region ?_ | refine awp_draw (by kernel_rfl) ?_ | refine awp_block ?_ | refine awp_exit ?_ | refine awp_skip ?_ | refine awp_ret ?_); (try simp only [NB, simprocAttr])))
  refine awp_for ns.length 39 (fun k => [(18, .i k), (17, .i ns.length), (5, .ref (h.length + 1) 0 0 1 ns.length), (2, .ptr h.length 0 0)])
    (fun k => [some ⟨0, [.p (.sl (ns.map eN)), .p (.sl (fl.map eF))]⟩, some ⟨0, (rounds (esF fl) k o0).map AV.b⟩]) (fun k => True) ?_ trivial fun k hk hp K hK => ?_
  · refine ⟨rfl, ⟨[], by simp only [List.append_nil]; rfl⟩, ?_, ⟨trivial, trivial, trivial⟩, avlts_bools _ _, trivial⟩
    simp only [keeps, avlt, avlts, blksLt, frL, upd_get, S1, simprocAttr, List.length_map, Int.natCast_zero, AV.p.injEq, PV.int.injEq, PV.bool.injEq, PV.sl.injEq] <;> (try and_intros) <;> (try assumption) <;> (try trivial) <;> (try omega)
  rcases Nat.lt_or_ge k ns.length with hlt | hge
  · repeat' (first | ((first | refine aops_nil ?_ | refine aqops_nil ?_); (try simp only [NB])) | ((repeat ((fail_if_success (refine hK _ ?_)); clear hK K)); refine hK _ ?_; clear hK K) | ((first | refine aops_k fun K1 hK1 => ?_ | refine aqops_k fun K1 hK1 => ?_ | refine awp_cond_k fun A B hA hB => ?_); simp only [S1, simprocAttr, T2, T3, T4, T22, T23, T25, T35, T51, T53, T55, T58, T92, hitN hlt, List.length_map]; first | (refine hK1 _ ?_; clear hK1 K1) | ((first | refine hA ?_ | refine hB ?_); clear hA hB A B) | (refine join_x (v := ?_) (fun hg hk9 => ?_) ?_; rotate_left; (focus (try ((try simp only [BN] at hg); simp only [S1, simprocAttr, T2, T3, T4, T22, T23, T25, T35, T51, T53, T55, T58, T92, hitN hlt, List.length_map, hg] at hk9 ⊢)); first | exact hk9); (refine hK1 _ ?_; clear hK1 K1)) | (((first | (refine ⟨fun hg => hA ?_, fun hg => hB ?_⟩ <;> clear hA hB A B) | refine ⟨fun hg => ?_, fun hg => ?_⟩) <;> (try simp only [BN2] at hg) <;> (try simp only [hg, cond_true, cond_false])) <;> (try (refine hK1 _ ?_; clear hK1 K1)) <;> (try simp only [BN3] at hg))) | (refine awp_seq_k fun K hK => ?_) | ((first | refine awp_region ?_ | refine awp_draw (by kernel_rfl) ?_ | refine awp_block ?_ | refine awp_exit ?_ | refine awp_skip ?_ | refine awp_ret ?_); (try simp only [NB, simprocAttr])))
    refine awp_for fl.length 39 (fun j => [(23, .i j), (22, .i fl.length), (21, .p (.sl (fl.map eF))), (18, .i k), (17, .i ns.length), (5, .ref (h.length + 1) 0 0 1 ns.length), (2, .ptr h.length 0 0)])
      (fun j => [some ⟨0, [.p (.sl (ns.map eN)), .p (.sl (fl.map eF))]⟩, some ⟨0, (((esF fl).take j).foldl relax (rounds (esF fl) k o0)).map AV.b⟩]) (fun j => True) ?_ trivial fun j hj hp K hK => ?_
    · refine ⟨rfl, ⟨[], by simp only [List.append_nil, List.take_zero, List.foldl_nil]⟩, ?_, ⟨trivial, trivial, trivial⟩, avlts_bools _ _, trivial⟩
      simp only [keeps, avlt, avlts, blksLt, frL, upd_get, S1, simprocAttr, List.length_map, Int.natCast_zero, AV.p.injEq, PV.int.injEq, PV.bool.injEq, PV.sl.injEq] <;> (try and_intros) <;> (try assumption) <;> (try trivial) <;> (try omega)
    rcases Nat.lt_or_ge j fl.length with hjl | hjg
    · obtain ⟨f, hx⟩ : ∃ k, fl[j]? = some k := ⟨_, List.getElem?_eq_getElem hjl⟩
      obtain ⟨⟨a1, a2⟩, b1, b2⟩ := hd f (List.mem_of_getElem? hx)
      have ht := esF_take hx
      have hcl : (((esF fl).take j).foldl relax (rounds (esF fl) k o0)).length = ns.length := by rw [foldl_len, l0]
      generalize hcur : ((esF fl).take j).foldl relax (rounds (esF fl) k o0) = cur at hcl
      have hnx : ((esF fl).take (j + 1)).foldl relax (rounds (esF fl) k o0) = relax cur (f.src.toNat, f.dst.toNat) := by rw [ht, List.foldl_append, hcur]; rfl
      have s1 : f.src.toNat < cur.length := by have := Int.toNat_of_nonneg a1; omega
      have s2 : f.dst.toNat + 1 ≤ cur.length := by have := Int.toNat_of_nonneg b1; omega
      obtain ⟨x, hcx⟩ : ∃ x, cur[f.src.toNat]? = some x := ⟨_, List.getElem?_eq_getElem s1⟩
      have hdr := dropB hcx
      cases x with
      | false =>
        have hre : relax cur (f.src.toNat, f.dst.toNat) = cur := by unfold relax; simp [hcx]
        repeat' (first | ((first | refine aops_nil ?_ | refine aqops_nil ?_); (try simp only [NB])) | ((repeat ((fail_if_success (refine hK _ ?_)); clear hK K)); refine hK _ ?_; clear hK K) | ((first | refine aops_k fun K1 hK1 => ?_ | refine aqops_k fun K1 hK1 => ?_ | refine awp_cond_k fun A B hA hB => ?_); simp only [S1, simprocAttr, T2, T3, T4, T22, T23, T25, T35, T51, T53, T55, T58, T92, rowF hx, hitF hjl, nextF hl hjl, eF, hdr, a1, a2, List.length_map, Nat.mul_one, Nat.zero_add]; first | (refine hK1 _ ?_; clear hK1 K1) | ((first | refine hA ?_ | refine hB ?_); clear hA hB A B) | (refine join_x (v := ?_) (fun hg hk9 => ?_) ?_; rotate_left; (focus (try ((try simp only [BN] at hg); simp only [S1, simprocAttr, T2, T3, T4, T22, T23, T25, T35, T51, T53, T55, T58, T92, rowF hx, hitF hjl, nextF hl hjl, eF, hdr, a1, a2, List.length_map, Nat.mul_one, Nat.zero_add, hg] at hk9 ⊢)); first | exact hk9); (refine hK1 _ ?_; clear hK1 K1)) | (((first | (refine ⟨fun hg => hA ?_, fun hg => hB ?_⟩ <;> clear hA hB A B) | refine ⟨fun hg => ?_, fun hg => ?_⟩) <;> (try simp only [BN2] at hg) <;> (try simp only [hg, cond_true, cond_false])) <;> (try (refine hK1 _ ?_; clear hK1 K1)) <;> (try simp only [BN3] at hg))) | (refine awp_seq_k fun K hK => ?_) | ((first | refine awp_region ?_ | refine awp_draw (by kernel_rfl) ?_ | refine awp_block ?_ | refine awp_exit ?_ | refine awp_skip ?_ | refine awp_ret ?_); (try simp only [NB, simprocAttr])))
        all_goals refine ⟨hjl, trivial, ?_⟩
        all_goals simp only [hnx, hre]
        all_goals refine ⟨rfl, ⟨_, rfl⟩, ?_, ⟨trivial, trivial, trivial⟩, avlts_bools _ _, trivial⟩
        all_goals simp only [keeps, avlt, avlts, blksLt, frL, upd_get, S1, simprocAttr, List.length_map, Int.natCast_zero, AV.p.injEq, PV.int.injEq, PV.bool.injEq, PV.sl.injEq] <;> (try and_intros) <;> (try assumption) <;> (try trivial) <;> (try omega)
      | true =>
        have hre : relax cur (f.src.toNat, f.dst.toNat) = cur.set f.dst.toNat true := by unfold relax; simp [hcx]
        repeat' (first | ((first | refine aops_nil ?_ | refine aqops_nil ?_); (try simp only [NB])) | ((repeat ((fail_if_success (refine hK _ ?_)); clear hK K)); refine hK _ ?_; clear hK K) | ((first | refine aops_k fun K1 hK1 => ?_ | refine aqops_k fun K1 hK1 => ?_ | refine awp_cond_k fun A B hA hB => ?_); simp only [S1, simprocAttr, T2, T3, T4, T22, T23, T25, T35, T51, T53, T55, T58, T92, rowF hx, hitF hjl, nextF hl hjl, eF, hdr, a1, a2, b1, b2, s2, setB_b, List.length_map, Nat.mul_one, Nat.zero_add]; first | (refine hK1 _ ?_; clear hK1 K1) | ((first | refine hA ?_ | refine hB ?_); clear hA hB A B) | (refine join_x (v := ?_) (fun hg hk9 => ?_) ?_; rotate_left; (focus (try ((try simp only [BN] at hg); simp only [S1, simprocAttr, T2, T3, T4, T22, T23, T25, T35, T51, T53, T55, T58, T92, rowF hx, hitF hjl, nextF hl hjl, eF, hdr, a1, a2, b1, b2, s2, setB_b, List.length_map, Nat.mul_one, Nat.zero_add, hg] at hk9 ⊢)); first | exact hk9); (refine hK1 _ ?_; clear hK1 K1)) | (((first | (refine ⟨fun hg => hA ?_, fun hg => hB ?_⟩ <;> clear hA hB A B) | refine ⟨fun hg => ?_, fun hg => ?_⟩) <;> (try simp only [BN2] at hg) <;> (try simp only [hg, cond_true, cond_false])) <;> (try (refine hK1 _ ?_; clear hK1 K1)) <;> (try simp only [BN3] at hg))) | (refine awp_seq_k fun K hK => ?_) | ((first | refine awp_region ?_ | refine awp_draw (by kernel_rfl) ?_ | refine awp_block ?_ | refine awp_exit ?_ | refine awp_skip ?_ | refine awp_ret ?_); (try simp only [NB, simprocAttr])))
        all_goals refine ⟨hjl, trivial, ?_⟩
        all_goals simp only [hnx, hre]
        all_goals refine ⟨rfl, ⟨_, rfl⟩, ?_, ⟨trivial, trivial, trivial⟩, avlts_bools _ _, trivial⟩
        all_goals simp only [keeps, avlt, avlts, blksLt, frL, upd_get, S1, simprocAttr, List.length_map, Int.natCast_zero, AV.p.injEq, PV.int.injEq, PV.bool.injEq, PV.sl.injEq] <;> (try and_intros) <;> (try assumption) <;> (try trivial) <;> (try omega)
    · obtain rfl : j = fl.length := by omega
      have hfull : (esF fl).take fl.length = esF fl := List.take_of_length_le (by simp [esF])
      have hnx : rounds (esF fl) (k + 1) o0 = ((esF fl).take fl.length).foldl relax (rounds (esF fl) k o0) := by rw [hfull]; rfl
      repeat' (first | ((first | refine aops_nil ?_ | refine aqops_nil ?_); (try simp only [NB])) | ((repeat ((fail_if_success (refine hK _ ?_)); clear hK K)); refine hK _ ?_; clear hK K) | ((first | refine aops_k fun K1 hK1 => ?_ | refine aqops_k fun K1 hK1 => ?_ | refine awp_cond_k fun A B hA hB => ?_); simp only [S1, simprocAttr, T2, T3, T4, T22, T23, T25, T35, T51, T53, T55, T58, T92, endF, nextN hn hlt]; first | (refine hK1 _ ?_; clear hK1 K1) | ((first | refine hA ?_ | refine hB ?_); clear hA hB A B) | (refine join_x (v := ?_) (fun hg hk9 => ?_) ?_; rotate_left; (focus (try ((try simp only [BN] at hg); simp only [S1, simprocAttr, T2, T3, T4, T22, T23, T25, T35, T51, T53, T55, T58, T92, endF, nextN hn hlt, hg] at hk9 ⊢)); first | exact hk9); (refine hK1 _ ?_; clear hK1 K1)) | (((first | (refine ⟨fun hg => hA ?_, fun hg => hB ?_⟩ <;> clear hA hB A B) | refine ⟨fun hg => ?_, fun hg => ?_⟩) <;> (try simp only [BN2] at hg) <;> (try simp only [hg, cond_true, cond_false])) <;> (try (refine hK1 _ ?_; clear hK1 K1)) <;> (try simp only [BN3] at hg))) | (refine awp_seq_k fun K hK => ?_) | ((first | refine awp_region ?_ | refine awp_draw (by kernel_rfl) ?_ | refine awp_block ?_ | refine awp_exit ?_ | refine awp_skip ?_ | refine awp_ret ?_); (try simp only [NB, simprocAttr])))
      all_goals refine ⟨hlt, trivial, ?_⟩
      all_goals simp only [hnx]
      all_goals refine ⟨rfl, ⟨_, rfl⟩, ?_, ⟨trivial, trivial, trivial⟩, avlts_bools _ _, trivial⟩
      all_goals simp only [keeps, avlt, avlts, blksLt, frL, upd_get, S1, simprocAttr, List.length_map, Int.natCast_zero, AV.p.injEq, PV.int.injEq, PV.bool.injEq, PV.sl.injEq] <;> (try and_intros) <;> (try assumption) <;> (try trivial) <;> (try omega)
  · obtain rfl : k = ns.length := by omega
    repeat' (first | ((first | refine aops_nil ?_ | refine aqops_nil ?_); (try simp only [NB])) | ((repeat ((fail_if_success (refine hK _ ?_)); clear hK K)); refine hK _ ?_; clear hK K) | ((first | refine aops_k fun K1 hK1 => ?_ | refine aqops_k fun K1 hK1 => ?_ | refine awp_cond_k fun A B hA hB => ?_); simp only [S1, simprocAttr, T2, T3, T4, T22, T23, T25, T35, T51, T53, T55, T58, T92, endN]; first | (refine hK1 _ ?_; clear hK1 K1) | ((first | refine hA ?_ | refine hB ?_); clear hA hB A B) | (refine join_x (v := ?_) (fun hg hk9 => ?_) ?_; rotate_left; (focus (try ((try simp only [BN] at hg); simp only [S1, simprocAttr, T2, T3, T4, T22, T23, T25, T35, T51, T53, T55, T58, T92, endN, hg] at hk9 ⊢)); first | exact hk9); (refine hK1 _ ?_; clear hK1 K1)) | (((first | (refine ⟨fun hg => hA ?_, fun hg => hB ?_⟩ <;> clear hA hB A B) | refine ⟨fun hg => ?_, fun hg => ?_⟩) <;> (try simp only [BN2] at hg) <;> (try simp only [hg, cond_true, cond_false])) <;> (try (refine hK1 _ ?_; clear hK1 K1)) <;> (try simp only [BN3] at hg))) | (refine awp_seq_k fun K hK => ?_) | ((first | refine awp_region ?_ | refine awp_draw (by kernel_rfl) ?_ | refine awp_block ?_ | refine awp_exit ?_ | refine awp_skip ?_ | refine awp_ret ?_); (try simp only [NB, simprocAttr])))
    have hrl := l0 ns.length
    exact EndP_bools (.inr rfl) hrl.symm rfl (by simp only [blkAt, get_app, List.getElem?_cons_succ, List.getElem?_cons_zero, if_true]) (by omega) (by simp) (by simp) (by rw [hrr])
end Go.Proofs.YtlophgkgmhcagaaDoor.AM
end

section
set_option linter.unusedVariables false
set_option linter.unusedSimpArgs false
set_option maxRecDepth 4000
set_option maxHeartbeats 4000000
namespace Go.Proofs.YtlophgkgmhcagaaDoor.AM
open Go Go.Proofs
attribute [local irreducible] awp aops aqops aeops arun
variable {G : Nat → Option (List PV)}

abbrev cNet (ns : List Nd) (fl : List Fl) : List AV := [.p (.sl (ns.map eN)), .p (.sl (fl.map eF))]

theorem leads1_calls (ns : List Nd) (fl : List Fl) (i : Int) (H : Heap) {b g : Nat} (hb : H[b]? = some (some ⟨g, cNet ns fl⟩)) : ACalls Tryd.prog G 70 [.i i, .ptr b g 0] H (fun r h' => r = .b (inB ns.length i) ∧ h' = H) := by
  refine acalls_pure (rl := []) mixed Tryd.func70 rfl (rs := [.tmp 3]) rfl Tryd.ntmps70 (by simp) ?_
  repeat' (first | ((first | refine aops_nil ?_ | refine aqops_nil ?_); (try simp only [NB])) | ((repeat ((fail_if_success (refine hK _ ?_)); clear hK K)); refine hK _ ?_; clear hK K) | ((first | refine aops_k fun K1 hK1 => ?_ | refine aqops_k fun K1 hK1 => ?_ | refine awp_cond_k fun A B hA hB => ?_); simp only [S1, simprocAttr, T2, T3, T4, T22, T23, T25, T35, T51, T53, T55, T58, T83, hb, List.length_map]; first | (refine hK1 _ ?_; clear hK1 K1) | ((first | refine hA ?_ | refine hB ?_); clear hA hB A B) | (refine join_x (v := ?_) (fun hg hk9 => ?_) ?_; rotate_left; (focus (try ((try simp only [BN] at hg); simp only [S1, simprocAttr, T2, T3, T4, T22, T23, T25, T35, T51, T53, T55, T58, T83, hb, List.length_map, hg] at hk9 ⊢)); first | exact hk9); (refine hK1 _ ?_; clear hK1 K1)) | (((first | (refine ⟨fun hg => hA ?_, fun hg => hB ?_⟩ <;> clear hA hB A B) | refine ⟨fun hg => ?_, fun hg => ?_⟩) <;> (try simp only [BN2] at hg) <;> (try simp only [hg, cond_true, cond_false])) <;> (try (refine hK1 _ ?_; clear hK1 K1)) <;> (try simp only [BN3] at hg))) | (refine awp_seq_k fun K hK => ?_) | ((first | refine awp_region ?_ | refine awp_draw (by kernel_rfl) ?_ | refine awp_block ?_ | refine awp_exit ?_ | refine awp_skip ?_ | refine awp_ret ?_); (try simp only [NB, simprocAttr])))
  all_goals simp only [EndP, FinP, resA, resL, resA1, lastV, lastA, lastAs, pur, purs, take_app, List.take_length, S1, simprocAttr, T2, T3, T4, T22, T23, T25, T35, T51, T53, T55, T58, T83, Nat.le_add_right, Nat.le_refl]
  all_goals rfl

theorem leads_calls (ns : List Nd) (hn : ns.length ≤ 100) (fl : List Fl) (hl : fl.length ≤ 100) (f : Fl) {n : Nat} (ht : Tm.Ok n f.cond) (h : Heap) : ACalls Tryd.prog gW 58 [aNet ns fl, aF f] h (fun r h' => r = .b (twoB ns fl f) ∧ h' = h) := by
  cases h1 : inB ns.length f.src with
  | false =>
    have e : twoB ns fl f = false := by unfold twoB; rw [h1]; rfl
    rw [e]
    refine acalls_pure (rl := []) mixed Tryd.func58 rfl (rs := [.tmp 4]) rfl Tryd.ntmps58 (by simp) ?_
    repeat' (first | ((first | refine aops_nil ?_ | refine aqops_nil ?_); (try simp only [NB])) | ((repeat ((fail_if_success (refine hK _ ?_)); clear hK K)); refine hK _ ?_; clear hK K) | ((first | refine aops_k fun K1 hK1 => ?_ | refine aqops_k fun K1 hK1 => ?_ | refine awp_cond_k fun A B hA hB => ?_); simp only [S1, simprocAttr, T2, T3, T4, T22, T23, T25, T35, T51, T53, T55, T58, T83, h1]; first | (refine hK1 _ ?_; clear hK1 K1) | ((first | refine hA ?_ | refine hB ?_); clear hA hB A B) | ((first | apply call_a E70 | apply call_q E70); exact (leads1_calls ns fl _ _ (by simp [get_app])); (refine hK1 _ ?_; clear hK1 K1)) | (refine join_x (v := ?_) (fun hg hk9 => ?_) ?_; rotate_left; (focus (try ((try simp only [BN] at hg); simp only [S1, simprocAttr, T2, T3, T4, T22, T23, T25, T35, T51, T53, T55, T58, T83, h1, hg] at hk9 ⊢)); first | exact hk9 | ((first | apply call_a E70 | apply call_q E70); exact (leads1_calls ns fl _ _ (by simp [get_app])); exact hk9)); (refine hK1 _ ?_; clear hK1 K1)) | (((first | (refine ⟨fun hg => hA ?_, fun hg => hB ?_⟩ <;> clear hA hB A B) | refine ⟨fun hg => ?_, fun hg => ?_⟩) <;> (try simp only [BN2] at hg) <;> (try simp only [hg, cond_true, cond_false])) <;> (try (refine hK1 _ ?_; clear hK1 K1)) <;> (try simp only [BN3] at hg))) | (refine awp_seq_k fun K hK => ?_) | ((first | refine awp_region ?_ | refine awp_draw (by kernel_rfl) ?_ | refine awp_block ?_ | refine awp_exit ?_ | refine awp_skip ?_ | refine awp_ret ?_); (try simp only [NB, simprocAttr])))
    all_goals simp only [EndP, FinP, resA, resL, resA1, lastV, lastA, lastAs, pur, purs, take_app, List.take_length, S1, simprocAttr, T2, T3, T4, T22, T23, T25, T35, T51, T53, T55, T58, T83, Nat.le_add_right, Nat.le_refl]
  | true =>
    cases h2 : inB ns.length f.dst with
    | false =>
      have e : twoB ns fl f = false := by unfold twoB; rw [h1, h2]; rfl
      rw [e]
      refine acalls_pure (rl := []) mixed Tryd.func58 rfl (rs := [.tmp 4]) rfl Tryd.ntmps58 (by simp) ?_
      repeat' (first | ((first | refine aops_nil ?_ | refine aqops_nil ?_); (try simp only [NB])) | ((repeat ((fail_if_success (refine hK _ ?_)); clear hK K)); refine hK _ ?_; clear hK K) | ((first | refine aops_k fun K1 hK1 => ?_ | refine aqops_k fun K1 hK1 => ?_ | refine awp_cond_k fun A B hA hB => ?_); simp only [S1, simprocAttr, T2, T3, T4, T22, T23, T25, T35, T51, T53, T55, T58, T83, h1, h2]; first | (refine hK1 _ ?_; clear hK1 K1) | ((first | refine hA ?_ | refine hB ?_); clear hA hB A B) | ((first | apply call_a E70 | apply call_q E70); exact (leads1_calls ns fl _ _ (by simp [get_app])); (refine hK1 _ ?_; clear hK1 K1)) | (refine join_x (v := ?_) (fun hg hk9 => ?_) ?_; rotate_left; (focus (try ((try simp only [BN] at hg); simp only [S1, simprocAttr, T2, T3, T4, T22, T23, T25, T35, T51, T53, T55, T58, T83, h1, h2, hg] at hk9 ⊢)); first | exact hk9 | ((first | apply call_a E70 | apply call_q E70); exact (leads1_calls ns fl _ _ (by simp [get_app])); exact hk9)); (refine hK1 _ ?_; clear hK1 K1)) | (((first | (refine ⟨fun hg => hA ?_, fun hg => hB ?_⟩ <;> clear hA hB A B) | refine ⟨fun hg => ?_, fun hg => ?_⟩) <;> (try simp only [BN2] at hg) <;> (try simp only [hg, cond_true, cond_false])) <;> (try (refine hK1 _ ?_; clear hK1 K1)) <;> (try simp only [BN3] at hg))) | (refine awp_seq_k fun K hK => ?_) | ((first | refine awp_region ?_ | refine awp_draw (by kernel_rfl) ?_ | refine awp_block ?_ | refine awp_exit ?_ | refine awp_skip ?_ | refine awp_ret ?_); (try simp only [NB, simprocAttr])))
      all_goals simp only [EndP, FinP, resA, resL, resA1, lastV, lastA, lastAs, pur, purs, take_app, List.take_length, S1, simprocAttr, T2, T3, T4, T22, T23, T25, T35, T51, T53, T55, T58, T83, Nat.le_add_right, Nat.le_refl]
    | true =>
      cases h3 : (f.src == f.dst) with
      | true =>
        have e : twoB ns fl f = false := by unfold twoB; rw [h1, h2, h3]; rfl
        rw [e]
        refine acalls_pure (rl := []) mixed Tryd.func58 rfl (rs := [.tmp 4]) rfl Tryd.ntmps58 (by simp) ?_
        repeat' (first | ((first | refine aops_nil ?_ | refine aqops_nil ?_); (try simp only [NB])) | ((repeat ((fail_if_success (refine hK _ ?_)); clear hK K)); refine hK _ ?_; clear hK K) | ((first | refine aops_k fun K1 hK1 => ?_ | refine aqops_k fun K1 hK1 => ?_ | refine awp_cond_k fun A B hA hB => ?_); simp only [S1, simprocAttr, T2, T3, T4, T22, T23, T25, T35, T51, T53, T55, T58, T83, h1, h2, h3]; first | (refine hK1 _ ?_; clear hK1 K1) | ((first | refine hA ?_ | refine hB ?_); clear hA hB A B) | ((first | apply call_a E70 | apply call_q E70); exact (leads1_calls ns fl _ _ (by simp [get_app])); (refine hK1 _ ?_; clear hK1 K1)) | (refine join_x (v := ?_) (fun hg hk9 => ?_) ?_; rotate_left; (focus (try ((try simp only [BN] at hg); simp only [S1, simprocAttr, T2, T3, T4, T22, T23, T25, T35, T51, T53, T55, T58, T83, h1, h2, h3, hg] at hk9 ⊢)); first | exact hk9 | ((first | apply call_a E70 | apply call_q E70); exact (leads1_calls ns fl _ _ (by simp [get_app])); exact hk9)); (refine hK1 _ ?_; clear hK1 K1)) | (((first | (refine ⟨fun hg => hA ?_, fun hg => hB ?_⟩ <;> clear hA hB A B) | refine ⟨fun hg => ?_, fun hg => ?_⟩) <;> (try simp only [BN2] at hg) <;> (try simp only [hg, cond_true, cond_false])) <;> (try (refine hK1 _ ?_; clear hK1 K1)) <;> (try simp only [BN3] at hg))) | (refine awp_seq_k fun K hK => ?_) | ((first | refine awp_region ?_ | refine awp_draw (by kernel_rfl) ?_ | refine awp_block ?_ | refine awp_exit ?_ | refine awp_skip ?_ | refine awp_ret ?_); (try simp only [NB, simprocAttr])))
        all_goals simp only [EndP, FinP, resA, resL, resA1, lastV, lastA, lastAs, pur, purs, take_app, List.take_length, S1, simprocAttr, T2, T3, T4, T22, T23, T25, T35, T51, T53, T55, T58, T83, Nat.le_add_right, Nat.le_refl]
      | false =>
        obtain ⟨a1, a2⟩ := inB_iff.mp h1
        obtain ⟨k, hx⟩ : ∃ k, ns[f.src.toNat]? = some k := ⟨_, List.getElem?_eq_getElem (by omega)⟩
        have ek : kindAt ns f.src = k.kind := by unfold kindAt; rw [hx]
        have e0 : twoB ns fl f = (if splitsB ns fl f.src = true then (if f.els = true then noneB f.cond else ofB f.cond 2) else (!f.els && noneB f.cond)) := by
          unfold twoB
          rw [h1, h2, h3]; simp
        rw [e0]; unfold splitsB; rw [ek]
        have hx' := rowN hx
        cases hk : (k.kind == 5) with
        | false =>
          have hk' : (k.kind != 5) = true := by unfold bne; rw [hk]; rfl
          refine acalls_pure (rl := []) mixed Tryd.func58 rfl (rs := [.tmp 4]) rfl Tryd.ntmps58 (by simp) ?_
          repeat' (first | ((first | refine aops_nil ?_ | refine aqops_nil ?_); (try simp only [NB])) | ((repeat ((fail_if_success (refine hK _ ?_)); clear hK K)); refine hK _ ?_; clear hK K) | ((first | refine aops_k fun K1 hK1 => ?_ | refine aqops_k fun K1 hK1 => ?_ | refine awp_cond_k fun A B hA hB => ?_); simp only [S1, simprocAttr, T2, T3, T4, T22, T23, T25, T35, T51, T53, T55, T58, T83, h1, h2, h3, a1, hx', eN, hk, hk', List.length_map]; first | (refine hK1 _ ?_; clear hK1 K1) | ((first | refine hA ?_ | refine hB ?_); clear hA hB A B) | ((first | apply call_a E70 | apply call_q E70); exact (leads1_calls ns fl _ _ (by simp [get_app])); (refine hK1 _ ?_; clear hK1 K1)) | ((first | apply call_a E69 | apply call_q E69); exact (none_calls f.cond _); (refine hK1 _ ?_; clear hK1 K1)) | (refine join_x (v := ?_) (fun hg hk9 => ?_) ?_; rotate_left; (focus (try ((try simp only [BN] at hg); simp only [S1, simprocAttr, T2, T3, T4, T22, T23, T25, T35, T51, T53, T55, T58, T83, h1, h2, h3, a1, hx', eN, hk, hk', List.length_map, hg] at hk9 ⊢)); first | exact hk9 | ((first | apply call_a E70 | apply call_q E70); exact (leads1_calls ns fl _ _ (by simp [get_app])); exact hk9) | ((first | apply call_a E69 | apply call_q E69); exact (none_calls f.cond _); exact hk9)); (refine hK1 _ ?_; clear hK1 K1)) | (((first | (refine ⟨fun hg => hA ?_, fun hg => hB ?_⟩ <;> clear hA hB A B) | refine ⟨fun hg => ?_, fun hg => ?_⟩) <;> (try simp only [BN2] at hg) <;> (try simp only [hg, cond_true, cond_false])) <;> (try (refine hK1 _ ?_; clear hK1 K1)) <;> (try simp only [BN3] at hg))) | (refine awp_seq_k fun K hK => ?_) | ((first | refine awp_region ?_ | refine awp_draw (by kernel_rfl) ?_ | refine awp_block ?_ | refine awp_exit ?_ | refine awp_skip ?_ | refine awp_ret ?_); (try simp only [NB, simprocAttr])))
          all_goals simp only [EndP, FinP, resA, resL, resA1, lastV, lastA, lastAs, pur, purs, take_app, List.take_length, S1, simprocAttr, T2, T3, T4, T22, T23, T25, T35, T51, T53, T55, T58, T83, Nat.le_add_right, Nat.le_refl]
          all_goals simp_all
        | true =>
          have hk' : (k.kind != 5) = false := by unfold bne; rw [hk]; rfl
          cases ho : decide (2 ≤ ((outsN fl f.src).length : Int)) with
          | false =>
            have ho' : decide (((outsN fl f.src).length : Int) < 2) = true := by simp at ho ⊢; omega
            refine acalls_pure (rl := []) mixed Tryd.func58 rfl (rs := [.tmp 4]) rfl Tryd.ntmps58 (by simp) ?_
            repeat' (first | ((first | refine aops_nil ?_ | refine aqops_nil ?_); (try simp only [NB])) | ((repeat ((fail_if_success (refine hK _ ?_)); clear hK K)); refine hK _ ?_; clear hK K) | ((first | refine aops_k fun K1 hK1 => ?_ | refine aqops_k fun K1 hK1 => ?_ | refine awp_cond_k fun A B hA hB => ?_); simp only [S1, simprocAttr, T2, T3, T4, T22, T23, T25, T35, T51, T53, T55, T58, T83, h1, h2, h3, a1, hx', eN, hk, hk', ho, ho', List.length_map]; first | (refine hK1 _ ?_; clear hK1 K1) | ((first | refine hA ?_ | refine hB ?_); clear hA hB A B) | ((first | apply call_a E70 | apply call_q E70); exact (leads1_calls ns fl _ _ (by simp [get_app])); (refine hK1 _ ?_; clear hK1 K1)) | ((first | apply call_a E25 | apply call_q E25); exact (outs_calls _ fl hl _ _); (refine hK1 _ ?_; clear hK1 K1)) | ((first | apply call_a E69 | apply call_q E69); exact (none_calls f.cond _); (refine hK1 _ ?_; clear hK1 K1)) | (refine join_x (v := ?_) (fun hg hk9 => ?_) ?_; rotate_left; (focus (try ((try simp only [BN] at hg); simp only [S1, simprocAttr, T2, T3, T4, T22, T23, T25, T35, T51, T53, T55, T58, T83, h1, h2, h3, a1, hx', eN, hk, hk', ho, ho', List.length_map, hg] at hk9 ⊢)); first | exact hk9 | ((first | apply call_a E70 | apply call_q E70); exact (leads1_calls ns fl _ _ (by simp [get_app])); exact hk9) | ((first | apply call_a E25 | apply call_q E25); exact (outs_calls _ fl hl _ _); exact hk9) | ((first | apply call_a E69 | apply call_q E69); exact (none_calls f.cond _); exact hk9)); (refine hK1 _ ?_; clear hK1 K1)) | (((first | (refine ⟨fun hg => hA ?_, fun hg => hB ?_⟩ <;> clear hA hB A B) | refine ⟨fun hg => ?_, fun hg => ?_⟩) <;> (try simp only [BN2] at hg) <;> (try simp only [hg, cond_true, cond_false])) <;> (try (refine hK1 _ ?_; clear hK1 K1)) <;> (try simp only [BN3] at hg))) | (refine awp_seq_k fun K hK => ?_) | ((first | refine awp_region ?_ | refine awp_draw (by kernel_rfl) ?_ | refine awp_block ?_ | refine awp_exit ?_ | refine awp_skip ?_ | refine awp_ret ?_); (try simp only [NB, simprocAttr])))
            all_goals simp only [EndP, FinP, resA, resL, resA1, lastV, lastA, lastAs, pur, purs, take_app, List.take_length, S1, simprocAttr, T2, T3, T4, T22, T23, T25, T35, T51, T53, T55, T58, T83, Nat.le_add_right, Nat.le_refl]
            all_goals simp_all
          | true =>
            have ho' : decide (((outsN fl f.src).length : Int) < 2) = false := by simp at ho ⊢; omega
            refine acalls_pure (rl := []) mixed Tryd.func58 rfl (rs := [.tmp 4]) rfl Tryd.ntmps58 (by simp) ?_
            repeat' (first | ((first | refine aops_nil ?_ | refine aqops_nil ?_); (try simp only [NB])) | ((repeat ((fail_if_success (refine hK _ ?_)); clear hK K)); refine hK _ ?_; clear hK K) | ((first | refine aops_k fun K1 hK1 => ?_ | refine aqops_k fun K1 hK1 => ?_ | refine awp_cond_k fun A B hA hB => ?_); simp only [S1, simprocAttr, T2, T3, T4, T22, T23, T25, T35, T51, T53, T55, T58, T83, h1, h2, h3, a1, hx', eN, hk, hk', ho, ho', List.length_map]; first | (refine hK1 _ ?_; clear hK1 K1) | ((first | refine hA ?_ | refine hB ?_); clear hA hB A B) | ((first | apply call_a E70 | apply call_q E70); exact (leads1_calls ns fl _ _ (by simp [get_app])); (refine hK1 _ ?_; clear hK1 K1)) | ((first | apply call_a E25 | apply call_q E25); exact (outs_calls _ fl hl _ _); (refine hK1 _ ?_; clear hK1 K1)) | ((first | apply call_a E68 | apply call_q E68); exact (of_term ht _ _); (refine hK1 _ ?_; clear hK1 K1)) | ((first | apply call_a E69 | apply call_q E69); exact (none_calls f.cond _); (refine hK1 _ ?_; clear hK1 K1)) | (refine join_x (v := ?_) (fun hg hk9 => ?_) ?_; rotate_left; (focus (try ((try simp only [BN] at hg); simp only [S1, simprocAttr, T2, T3, T4, T22, T23, T25, T35, T51, T53, T55, T58, T83, h1, h2, h3, a1, hx', eN, hk, hk', ho, ho', List.length_map, hg] at hk9 ⊢)); first | exact hk9 | ((first | apply call_a E70 | apply call_q E70); exact (leads1_calls ns fl _ _ (by simp [get_app])); exact hk9) | ((first | apply call_a E25 | apply call_q E25); exact (outs_calls _ fl hl _ _); exact hk9) | ((first | apply call_a E68 | apply call_q E68); exact (of_term ht _ _); exact hk9) | ((first | apply call_a E69 | apply call_q E69); exact (none_calls f.cond _); exact hk9)); (refine hK1 _ ?_; clear hK1 K1)) | (((first | (refine ⟨fun hg => hA ?_, fun hg => hB ?_⟩ <;> clear hA hB A B) | refine ⟨fun hg => ?_, fun hg => ?_⟩) <;> (try simp only [BN2] at hg) <;> (try simp only [hg, cond_true, cond_false])) <;> (try (refine hK1 _ ?_; clear hK1 K1)) <;> (try simp only [BN3] at hg))) | (refine awp_seq_k fun K hK => ?_) | ((first | refine awp_region ?_ | refine awp_draw (by kernel_rfl) ?_ | refine awp_block ?_ | refine awp_exit ?_ | refine awp_skip ?_ | refine awp_ret ?_); (try simp only [NB, simprocAttr])))
            all_goals simp only [EndP, FinP, resA, resL, resA1, lastV, lastA, lastAs, pur, purs, take_app, List.take_length, S1, simprocAttr, T2, T3, T4, T22, T23, T25, T35, T51, T53, T55, T58, T83, Nat.le_add_right, Nat.le_refl]
            all_goals simp_all
end Go.Proofs.YtlophgkgmhcagaaDoor.AM
end

section
set_option linter.unusedVariables false
set_option linter.unusedSimpArgs false
set_option maxRecDepth 4000
set_option maxHeartbeats 4000000
namespace Go.Proofs.YtlophgkgmhcagaaDoor.AM
open Go Go.Proofs
attribute [local irreducible] awp aops aqops aeops arun
variable {G : Nat → Option (List PV)}

section
variable {P : Program} {rl : List String} {h : Heap}
/-- A loop whose state is told by anything, and that ends because a number grows less. -/
theorem awp_whileG {σ : Type} {c : Code} {Q : Exit → St → Prop} {s : St} (m : σ → Nat) (nt : Nat) (l : σ → List (Nat × AV)) (L : σ → List (Option Blk)) (p : σ → Prop) (x0 : σ) (hi : Ghost P G h s ⟨frL (l x0), nt, h ++ L x0⟩) (hp : p x0)
    (hb : ∀ x, p x → ∀ K : St → Prop, (∀ s', (∃ y, m y < m x ∧ p y ∧ Sub h s' (l y) (L y) nt) → K s') → awp P G rl h c (thenA K Q) ⟨frL (l x), nt, h ++ L x⟩) : awp P G rl h (.loop c) Q s := by
  refine awp_loop (fun n s => ∃ x, p x ∧ n = m x ∧ s = ⟨frL (l x), nt, h ++ L x⟩) (m x0) _ hi ⟨x0, hp, rfl, rfl⟩ fun n s hI => ?_
  obtain ⟨x, h1, rfl, rfl⟩ := hI
  refine hb x h1 _ fun s' hs => ?_
  obtain ⟨y, h2, h3, h4⟩ := hs
  exact ⟨m y, _, h2, h4.ghost, y, h3, rfl, rfl⟩
theorem awp_while {σ : Type} {c : Code} {Q : Exit → St → Prop} {s : St} (m : σ → Nat) (nt : Nat) (l : σ → List (Nat × AV)) (L : σ → List (Option Blk)) (p : σ → Prop) (x0 : σ) (hi : Sub h s (l x0) (L x0) nt) (hp : p x0)
    (hb : ∀ x, p x → ∀ K : St → Prop, (∀ s', (∃ y, m y < m x ∧ p y ∧ Sub h s' (l y) (L y) nt) → K s') → awp P G rl h c (thenA K Q) ⟨frL (l x), nt, h ++ L x⟩) : awp P G rl h (.loop c) Q s :=
  awp_whileG m nt l L p x0 hi.ghost hp hb
end

def edgeB (back : Bool) (fl : List Fl) : List (Nat × Nat) := if back = true then (esF fl).map Prod.swap else esF fl

abbrev nI (n : Nat) : AV := .p (.int .i64 (n : Int))

theorem avlts_nats (m : Nat) (l : List Nat) : avlts m (l.map nI) := by
  induction l with
  | nil => trivial
  | cons x r ih => exact ⟨trivial, ih⟩
theorem dropQ (pre : List Nat) (x : Nat) (rest : List Nat) : ((pre ++ x :: rest).map nI).drop pre.length = .p (.int .i64 (x : Int)) :: rest.map nI := by
  rw [List.map_append, List.drop_left' (by simp)]; rfl
theorem dropQ2 (pre todo : List Nat) : ((pre ++ todo).map nI).drop pre.length = todo.map nI := by
  rw [List.map_append, List.drop_left' (by simp)]
theorem nexts_take {es : List (Nat × Nat)} {j u v : Nat} (h : es[j]? = some (u, v)) (x : Nat) : nexts (es.take (j + 1)) x = nexts (es.take j) x ++ (if u = x then [v] else []) := by
  unfold nexts
  rw [List.take_add_one, h]
  simp only [Option.toList_some, List.filter_append, List.map_append]
  by_cases e : u = x <;> simp [e]

theorem edgeB_in {n : Nat} {fl : List Fl} (hd : InN n fl) (back : Bool) : ∀ e ∈ edgeB back fl, e.2 < n := by
  intro e he
  unfold edgeB at he
  split at he
  · simp only [esF, List.map_map, List.mem_map, Function.comp] at he
    obtain ⟨f, hf, rfl⟩ := he
    have := hd f hf
    simp only [Prod.swap]; omega
  · simp only [esF, List.mem_map] at he
    obtain ⟨f, hf, rfl⟩ := he
    have := hd f hf
    simp only; omega

structure Qu where
  seen : List Bool
  pre : List Nat
  todo : List Nat
  g : Nat
structure Qi where
  j : Nat
  pre : List Nat
  todo : List Nat
  g : Nat

theorem met_calls (ns : List Nd) (hn : ns.length ≤ 100) (fl : List Fl) (hl : fl.length ≤ 100) (hd : InN ns.length fl) (i : Int) (hi0 : 0 ≤ i) (hi1 : i < (ns.length : Int)) (back : Bool) (h : Heap) :
    ACalls Tryd.prog G 60 [aNet ns fl, .i i, .b back] h (fun r h' => r = aB (rchL (edgeB back fl) ns.length i.toNat) ∧ h' = h) := by
  obtain ⟨a, rfl⟩ := Int.eq_ofNat_of_zero_le hi0
  have hel : (edgeB back fl).length = fl.length := by unfold edgeB; split <;> simp [esF]
  have g1 : (0 : Int) ≤ (ns.length : Int) := by omega
  have g2 : (ns.length : Int) ≤ 16777216 := by omega
  have g3 : ((ns.length : Int) = 0) = False := eq_false (by omega)
  have r1 : (["net.go:137"].contains "net.go:137") = true := by decide
  have r2 : (["net.go:137"].contains "net.go:148") = false := by decide
  have r3 : (["net.go:137"].contains "net.go:150") = false := by decide
  refine acalls_pure (rl := ["net.go:137"]) mixed Tryd.func60 rfl (rs := [.tmp 6]) rfl Tryd.ntmps60 (by simp) ?_
  refine awp_seq_k fun K hK => ?_
  repeat' (first | ((first | refine aops_nil ?_ | refine aqops_nil ?_); (try simp only [NB]); ((repeat ((fail_if_success (refine hK _ ?_)); clear hK K)); refine hK _ ?_; clear hK K)) | ((first | refine aops_k fun K1 hK1 => ?_ | refine aqops_k fun K1 hK1 => ?_ | refine awp_cond_k fun A B hA hB => ?_); simp only [S1, simprocAttr, T2, T3, T4, T22, T23, T25, T35, T51, T53, T55, T58, T92]; first | (refine hK1 _ ?_; clear hK1 K1) | ((first | refine hA ?_ | refine hB ?_); clear hA hB A B) | (refine join_x (v := ?_) (fun hg hk9 => ?_) ?_; rotate_left; (focus (try ((try simp only [BN] at hg); simp only [S1, simprocAttr, T2, T3, T4, T22, T23, T25, T35, T51, T53, T55, T58, T92, hg] at hk9 ⊢)); first | exact hk9); (refine hK1 _ ?_; clear hK1 K1)) | (((first | (refine ⟨fun hg => hA ?_, fun hg => hB ?_⟩ <;> clear hA hB A B) | refine ⟨fun hg => ?_, fun hg => ?_⟩) <;> (try simp only [BN2] at hg) <;> (try simp only [hg, cond_true, cond_false])) <;> (try (refine hK1 _ ?_; clear hK1 K1)) <;> (try simp only [BN3] at hg))) | (fail) | ((first | refine awp_region ?_ | refine awp_draw (by kernel_rfl) ?_ | refine awp_block ?_ | refine awp_exit ?_ | refine awp_skip ?_ | refine awp_ret ?_); (try simp only [NB, simprocAttr]); (try ((repeat ((fail_if_success (refine hK _ ?_)); clear hK K)); refine hK _ ?_; clear hK K))))
  refine awp_seq_k fun K hK => ?_
  repeat' (first | ((first | refine aops_nil ?_ | refine aqops_nil ?_); (try simp only [NB]); ((repeat ((fail_if_success (refine hK _ ?_)); clear hK K)); refine hK _ ?_; clear hK K)) | ((first | refine aops_k fun K1 hK1 => ?_ | refine aqops_k fun K1 hK1 => ?_ | refine awp_cond_k fun A B hA hB => ?_); simp only [S1, simprocAttr, T2, T3, T4, T22, T23, T25, T35, T51, T53, T55, T58, T92, List.length_map, g1, g2, g3, flat_one, rep_bools, Int.toNat_natCast, List.map_cons, List.map_nil]; first | (refine hK1 _ ?_; clear hK1 K1) | ((first | refine hA ?_ | refine hB ?_); clear hA hB A B) | (refine join_x (v := ?_) (fun hg hk9 => ?_) ?_; rotate_left; (focus (try ((try simp only [BN] at hg); simp only [S1, simprocAttr, T2, T3, T4, T22, T23, T25, T35, T51, T53, T55, T58, T92, List.length_map, g1, g2, g3, flat_one, rep_bools, Int.toNat_natCast, List.map_cons, List.map_nil, hg] at hk9 ⊢)); first | exact hk9); (refine hK1 _ ?_; clear hK1 K1)) | (((first | (refine ⟨fun hg => hA ?_, fun hg => hB ?_⟩ <;> clear hA hB A B) | refine ⟨fun hg => ?_, fun hg => ?_⟩) <;> (try simp only [BN2] at hg) <;> (try simp only [hg, cond_true, cond_false])) <;> (try (refine hK1 _ ?_; clear hK1 K1)) <;> (try simp only [BN3] at hg))) | (fail) | ((first | refine awp_region ?_ | refine awp_draw (by kernel_rfl) ?_ | refine awp_block ?_ | refine awp_exit ?_ | refine awp_skip ?_ | refine awp_ret ?_); (try simp only [NB, simprocAttr]); (try ((repeat ((fail_if_success (refine hK _ ?_)); clear hK K)); refine hK _ ?_; clear hK K))))
  refine awp_seq_k fun K hK => ?_
  repeat' (first | ((first | refine aops_nil ?_ | refine aqops_nil ?_); (try simp only [NB]); ((repeat ((fail_if_success (refine hK _ ?_)); clear hK K)); refine hK _ ?_; clear hK K)) | ((first | refine aops_k fun K1 hK1 => ?_ | refine aqops_k fun K1 hK1 => ?_ | refine awp_cond_k fun A B hA hB => ?_); simp only [S1, simprocAttr, T2, T3, T4, T22, T23, T25, T35, T51, T53, T55, T58, T92, r1]; first | (refine hK1 _ ?_; clear hK1 K1) | ((first | refine hA ?_ | refine hB ?_); clear hA hB A B) | (refine join_x (v := ?_) (fun hg hk9 => ?_) ?_; rotate_left; (focus (try ((try simp only [BN] at hg); simp only [S1, simprocAttr, T2, T3, T4, T22, T23, T25, T35, T51, T53, T55, T58, T92, r1, hg] at hk9 ⊢)); first | exact hk9); (refine hK1 _ ?_; clear hK1 K1)) | (((first | (refine ⟨fun hg => hA ?_, fun hg => hB ?_⟩ <;> clear hA hB A B) | refine ⟨fun hg => ?_, fun hg => ?_⟩) <;> (try simp only [BN2] at hg) <;> (try simp only [hg, cond_true, cond_false])) <;> (try (refine hK1 _ ?_; clear hK1 K1)) <;> (try simp only [BN3] at hg))) | (fail) | ((first | refine awp_region ?_ | refine awp_draw (by kernel_rfl) ?_ | refine awp_block ?_ | refine awp_exit ?_ | refine awp_skip ?_ | refine awp_ret ?_); (try simp only [NB, simprocAttr]); (try ((repeat ((fail_if_success (refine hK _ ?_)); clear hK K)); refine hK _ ?_; clear hK K))))
  refine awp_seq_k fun K hK => ?_
  repeat' (first | ((first | refine aops_nil ?_ | refine aqops_nil ?_); (try simp only [NB]); ((repeat ((fail_if_success (refine hK _ ?_)); clear hK K)); refine hK _ ?_; clear hK K)) | ((first | refine aops_k fun K1 hK1 => ?_ | refine aqops_k fun K1 hK1 => ?_ | refine awp_cond_k fun A B hA hB => ?_); simp only [S1, simprocAttr, T2, T3, T4, T22, T23, T25, T35, T51, T53, T55, T58, T92]; first | (refine hK1 _ ?_; clear hK1 K1) | ((first | refine hA ?_ | refine hB ?_); clear hA hB A B) | (refine join_x (v := ?_) (fun hg hk9 => ?_) ?_; rotate_left; (focus (try ((try simp only [BN] at hg); simp only [S1, simprocAttr, T2, T3, T4, T22, T23, T25, T35, T51, T53, T55, T58, T92, hg] at hk9 ⊢)); first | exact hk9); (refine hK1 _ ?_; clear hK1 K1)) | (((first | (refine ⟨fun hg => hA ?_, fun hg => hB ?_⟩ <;> clear hA hB A B) | refine ⟨fun hg => ?_, fun hg => ?_⟩) <;> (try simp only [BN2] at hg) <;> (try simp only [hg, cond_true, cond_false])) <;> (try (refine hK1 _ ?_; clear hK1 K1)) <;> (try simp only [BN3] at hg))) | (fail) | ((first | refine awp_region ?_ | refine awp_draw (by kernel_rfl) ?_ | refine awp_block ?_ | refine awp_exit ?_ | refine awp_skip ?_ | refine awp_ret ?_); (try simp only [NB, simprocAttr]); (try ((repeat ((fail_if_success (refine hK _ ?_)); clear hK K)); refine hK _ ?_; clear hK K))))
  refine awp_while (σ := Qu) (fun q => bfsM (edgeB back fl) q.seen q.todo) 69 (fun q => [(8, .ref (h.length + 2) q.g q.pre.length 1 q.todo.length), (7, .ref (h.length + 1) 0 0 1 ns.length), (3, .ptr h.length 0 0), (2, .b back)])
    (fun q => [some ⟨0, cNet ns fl⟩, some ⟨0, q.seen.map AV.b⟩, some ⟨q.g, (q.pre ++ q.todo).map nI⟩]) (fun q => Bfs (edgeB back fl) ns.length a q.seen q.todo ∧ bfsM (edgeB back fl) q.seen q.todo ≤ 20000) ⟨List.replicate ns.length false, [], [a], 0⟩ ?_ ?_ fun q hq K hK => ?_
  · refine ⟨rfl, ⟨[], by simp only [List.append_nil, List.nil_append, List.map_cons, List.map_nil]⟩, ?_, ⟨trivial, trivial, trivial⟩, avlts_bools _ _, avlts_nats _ _, trivial⟩
    simp only [keeps, avlt, avlts, blksLt, frL, upd_get, S1, simprocAttr, List.length_map, Int.natCast_zero, AV.p.injEq, PV.int.injEq, PV.bool.injEq, PV.sl.injEq] <;> (try and_intros) <;> (try assumption) <;> (try trivial) <;> (try omega)
  · refine ⟨Bfs.init, ?_⟩
    unfold bfsM
    rw [hel]
    simp only [List.length_replicate, List.length_singleton]
    have : (ns.length - (List.replicate ns.length false).count true) * (fl.length + 1) ≤ 100 * 101 := Nat.mul_le_mul (by omega) (by omega)
    omega
  obtain ⟨seen, pre, todo, g⟩ := q
  obtain ⟨hb, hm⟩ := hq
  simp only at hb hm
  cases todo with
  | nil =>
    have hz : decide ((0 : Int) < 0) = false := rfl
    repeat' (first | ((first | refine aops_nil ?_ | refine aqops_nil ?_); (try simp only [NB])) | ((repeat ((fail_if_success (refine hK _ ?_)); clear hK K)); refine hK _ ?_; clear hK K) | ((first | refine aops_k fun K1 hK1 => ?_ | refine aqops_k fun K1 hK1 => ?_ | refine awp_cond_k fun A B hA hB => ?_); simp only [S1, simprocAttr, T2, T3, T4, T22, T23, T25, T35, T51, T53, T55, T58, T92, List.length_nil, hz]; first | (refine hK1 _ ?_; clear hK1 K1) | ((first | refine hA ?_ | refine hB ?_); clear hA hB A B) | (refine join_x (v := ?_) (fun hg hk9 => ?_) ?_; rotate_left; (focus (try ((try simp only [BN] at hg); simp only [S1, simprocAttr, T2, T3, T4, T22, T23, T25, T35, T51, T53, T55, T58, T92, List.length_nil, hz, hg] at hk9 ⊢)); first | exact hk9); (refine hK1 _ ?_; clear hK1 K1)) | (((first | (refine ⟨fun hg => hA ?_, fun hg => hB ?_⟩ <;> clear hA hB A B) | refine ⟨fun hg => ?_, fun hg => ?_⟩) <;> (try simp only [BN2] at hg) <;> (try simp only [hg, cond_true, cond_false])) <;> (try (refine hK1 _ ?_; clear hK1 K1)) <;> (try simp only [BN3] at hg))) | (refine awp_seq_k fun K hK => ?_) | ((first | refine awp_region ?_ | refine awp_draw (by kernel_rfl) ?_ | refine awp_block ?_ | refine awp_exit ?_ | refine awp_skip ?_ | refine awp_ret ?_); (try simp only [NB, simprocAttr])))
    exact EndP_bools (.inr rfl) hb.len.symm rfl (by simp only [blkAt, get_app, List.getElem?_cons_succ, List.getElem?_cons_zero, if_true]) (by omega) (by simp) (by simp) (by rw [hb.done, Int.toNat_natCast])
  | cons x rest =>
    have hxn : x < ns.length := (hb.soundT x (by simp)).closed (p := fun i => i < ns.length) (by omega) fun e he _ => edgeB_in hd back e he
    have hx1 : (x : Int) < (ns.length : Int) := by omega
    have hx0 : (0 : Int) ≤ (x : Int) := by omega
    have hp0 : decide ((0 : Int) < ((rest.length + 1 : Nat) : Int)) = true := decide_eq_true (by omega)
    have hp1 : (0 : Int) < ((rest.length + 1 : Nat) : Int) := by omega
    have hp2 : 1 ≤ rest.length + 1 := by omega
    have hrl : rest.length ≤ 20000 := by unfold bfsM at hm; simp only [List.length_cons] at hm; omega
    obtain ⟨b, hsx⟩ : ∃ b, seen[x]? = some b := ⟨_, List.getElem?_eq_getElem (by rw [hb.len]; exact hxn)⟩
    have hdr := dropB hsx
    have hdq := dropQ pre x rest
    have hxs : x + 1 ≤ seen.length := by rw [hb.len]; exact hxn
    cases b with
    | true =>
      repeat' (first | ((first | refine aops_nil ?_ | refine aqops_nil ?_); (try simp only [NB])) | ((repeat ((fail_if_success (refine hK _ ?_)); clear hK K)); refine hK _ ?_; clear hK K) | ((first | refine aops_k fun K1 hK1 => ?_ | refine aqops_k fun K1 hK1 => ?_ | refine awp_cond_k fun A B hA hB => ?_); simp only [S1, simprocAttr, T2, T3, T4, T22, T23, T25, T35, T51, T53, T55, T58, T92, hp0, hp1, hp2, hx0, hx1, hdr, hdq, Nat.mul_one, Nat.zero_add, Nat.add_zero, Nat.le_refl, Nat.add_sub_cancel, Int.toNat_natCast, Int.toNat_zero]; first | (refine hK1 _ ?_; clear hK1 K1) | ((first | refine hA ?_ | refine hB ?_); clear hA hB A B) | (refine join_x (v := ?_) (fun hg hk9 => ?_) ?_; rotate_left; (focus (try ((try simp only [BN] at hg); simp only [S1, simprocAttr, T2, T3, T4, T22, T23, T25, T35, T51, T53, T55, T58, T92, hp0, hp1, hp2, hx0, hx1, hdr, hdq, Nat.mul_one, Nat.zero_add, Nat.add_zero, Nat.le_refl, Nat.add_sub_cancel, Int.toNat_natCast, Int.toNat_zero, hg] at hk9 ⊢)); first | exact hk9); (refine hK1 _ ?_; clear hK1 K1)) | (((first | (refine ⟨fun hg => hA ?_, fun hg => hB ?_⟩ <;> clear hA hB A B) | refine ⟨fun hg => ?_, fun hg => ?_⟩) <;> (try simp only [BN2] at hg) <;> (try simp only [hg, cond_true, cond_false])) <;> (try (refine hK1 _ ?_; clear hK1 K1)) <;> (try simp only [BN3] at hg))) | (refine awp_seq_k fun K hK => ?_) | ((first | refine awp_region ?_ | refine awp_draw (by kernel_rfl) ?_ | refine awp_block ?_ | refine awp_exit ?_ | refine awp_skip ?_ | refine awp_ret ?_); (try simp only [NB, simprocAttr])))
      all_goals refine ⟨⟨seen, pre ++ [x], rest, g⟩, bfsM_skip _ _ _ _, ⟨hb.skip hsx, Nat.le_trans (Nat.le_of_lt (bfsM_skip _ _ _ _)) hm⟩, ?_⟩
      all_goals simp only [List.length_append, List.length_cons, List.length_nil, Nat.zero_add, List.append_assoc, List.cons_append, List.nil_append]
      all_goals refine ⟨rfl, ⟨[], by simp only [List.append_nil]⟩, ?_, ⟨trivial, trivial, trivial⟩, avlts_bools _ _, avlts_nats _ _, trivial⟩
      all_goals simp only [keeps, avlt, avlts, blksLt, frL, upd_get, S1, simprocAttr, List.length_map, Int.natCast_zero, AV.p.injEq, PV.int.injEq, PV.bool.injEq, PV.sl.injEq] <;> (try and_intros) <;> (try assumption) <;> (try trivial) <;> (try omega)
    | false =>
      repeat' (first | ((first | refine aops_nil ?_ | refine aqops_nil ?_); (try simp only [NB])) | ((repeat ((fail_if_success (refine hK _ ?_)); clear hK K)); refine hK _ ?_; clear hK K) | ((first | refine aops_k fun K1 hK1 => ?_ | refine aqops_k fun K1 hK1 => ?_ | refine awp_cond_k fun A B hA hB => ?_); simp only [S1, simprocAttr, T2, T3, T4, T22, T23, T25, T35, T51, T53, T55, T58, T92, hp0, hp1, hp2, hx0, hx1, hxs, hdr, hdq, setB_b, List.length_map, Nat.mul_one, Nat.zero_add, Nat.add_zero, Nat.le_refl, Nat.add_sub_cancel, Int.toNat_natCast, Int.toNat_zero]; first | (refine hK1 _ ?_; clear hK1 K1) | ((first | refine hA ?_ | refine hB ?_); clear hA hB A B) | (refine join_x (v := ?_) (fun hg hk9 => ?_) ?_; rotate_left; (focus (try ((try simp only [BN] at hg); simp only [S1, simprocAttr, T2, T3, T4, T22, T23, T25, T35, T51, T53, T55, T58, T92, hp0, hp1, hp2, hx0, hx1, hxs, hdr, hdq, setB_b, List.length_map, Nat.mul_one, Nat.zero_add, Nat.add_zero, Nat.le_refl, Nat.add_sub_cancel, Int.toNat_natCast, Int.toNat_zero, hg] at hk9 ⊢)); first | exact hk9); (refine hK1 _ ?_; clear hK1 K1)) | (((first | (refine ⟨fun hg => hA ?_, fun hg => hB ?_⟩ <;> clear hA hB A B) | refine ⟨fun hg => ?_, fun hg => ?_⟩) <;> (try simp only [BN2] at hg) <;> (try simp only [hg, cond_true, cond_false])) <;> (try (refine hK1 _ ?_; clear hK1 K1)) <;> (try simp only [BN3] at hg))) | (refine awp_seq_k fun K hK => ?_) | ((first | refine awp_region ?_ | refine awp_draw (by kernel_rfl) ?_ | refine awp_block ?_ | refine awp_exit ?_ | refine awp_skip ?_ | refine awp_ret ?_); (try simp only [NB, simprocAttr])))
      refine awp_while (σ := Qi) (fun q => fl.length - q.j) 69 (fun q => [(36, .i q.j), (35, .i fl.length), (34, .p (.sl (fl.map eF))), (9, .i x), (8, .ref (h.length + 2) q.g q.pre.length 1 q.todo.length), (7, .ref (h.length + 1) 0 0 1 ns.length), (3, .ptr h.length 0 0), (2, .b back)])
        (fun q => [some ⟨0, cNet ns fl⟩, some ⟨0, (seen.set x true).map AV.b⟩, some ⟨q.g, (q.pre ++ q.todo).map nI⟩]) (fun q => q.j ≤ fl.length ∧ q.todo = rest ++ nexts ((edgeB back fl).take q.j) x) ⟨0, pre ++ [x], rest, g⟩ ?_ ?_ fun q hq K hK => ?_
      · simp only [List.length_append, List.length_cons, List.length_nil, Nat.zero_add, List.append_assoc, List.cons_append, List.nil_append]
        refine ⟨rfl, ⟨[], by simp only [List.append_nil]⟩, ?_, ⟨trivial, trivial, trivial⟩, avlts_bools _ _, avlts_nats _ _, trivial⟩
        simp only [keeps, avlt, avlts, blksLt, frL, upd_get, S1, simprocAttr, List.length_map, Int.natCast_zero, AV.p.injEq, PV.int.injEq, PV.bool.injEq, PV.sl.injEq] <;> (try and_intros) <;> (try assumption) <;> (try trivial) <;> (try omega)
      · exact ⟨Nat.zero_le _, by simp [nexts]⟩
      obtain ⟨j, qp, qt, qg⟩ := q
      obtain ⟨hj, hqt⟩ := hq
      simp only at hj hqt
      have hql : qt.length ≤ 20100 := by
        have := nexts_len ((edgeB back fl).take j) x
        rw [List.length_take] at this
        rw [hqt, List.length_append]; omega
      have hmax : qt.length + 1 ≤ maxCount := by unfold maxCount; omega
      rcases Nat.lt_or_ge j fl.length with hjl | hjg
      · obtain ⟨f, hx⟩ : ∃ k, fl[j]? = some k := ⟨_, List.getElem?_eq_getElem hjl⟩
        obtain ⟨⟨a1, a2⟩, b1, b2⟩ := hd f (List.mem_of_getElem? hx)
        obtain ⟨u, hu⟩ := Int.eq_ofNat_of_zero_le a1
        obtain ⟨v, hv⟩ := Int.eq_ofNat_of_zero_le b1
        have hmj : fl.length - (j + 1) < fl.length - j := by omega
        have hdq2 := dropQ2 qp qt
        cases back with
        | true =>
          have he : (edgeB true fl)[j]? = some (v, u) := by simp [edgeB, esF, hx, hu, hv]
          have hnt := nexts_take he x
          by_cases hvx : v = x
          · have hbe : (f.dst == (x : Int)) = true := by rw [hv, hvx]; simp
            rw [if_pos hvx] at hnt
            repeat' (first | ((first | refine aops_nil ?_ | refine aqops_nil ?_); (try simp only [NB])) | ((repeat ((fail_if_success (refine hK _ ?_)); clear hK K)); refine hK _ ?_; clear hK K) | ((first | refine aops_k fun K1 hK1 => ?_ | refine aqops_k fun K1 hK1 => ?_ | refine awp_cond_k fun A B hA hB => ?_); simp only [S1, simprocAttr, T2, T3, T4, T22, T23, T25, T35, T51, T53, T55, T58, T92, rowF hx, hitF hjl, nextF hl hjl, eF, hbe, r2, r3, hdq2, hmax, List.length_map, List.length_append, Nat.mul_one, Nat.zero_add, Nat.add_zero]; first | (refine hK1 _ ?_; clear hK1 K1) | ((first | refine hA ?_ | refine hB ?_); clear hA hB A B) | (refine join_x (v := ?_) (fun hg hk9 => ?_) ?_; rotate_left; (focus (try ((try simp only [BN] at hg); simp only [S1, simprocAttr, T2, T3, T4, T22, T23, T25, T35, T51, T53, T55, T58, T92, rowF hx, hitF hjl, nextF hl hjl, eF, hbe, r2, r3, hdq2, hmax, List.length_map, List.length_append, Nat.mul_one, Nat.zero_add, Nat.add_zero, hg] at hk9 ⊢)); first | exact hk9); (refine hK1 _ ?_; clear hK1 K1)) | (((first | (refine ⟨fun hg => hA ?_, fun hg => hB ?_⟩ <;> clear hA hB A B) | refine ⟨fun hg => ?_, fun hg => ?_⟩) <;> (try simp only [BN2] at hg) <;> (try simp only [hg, cond_true, cond_false])) <;> (try (refine hK1 _ ?_; clear hK1 K1)) <;> (try simp only [BN3] at hg))) | (refine awp_seq_k fun K hK => ?_) | ((first | refine awp_region ?_ | refine awp_draw (by kernel_rfl) ?_ | refine awp_block ?_ | refine awp_exit ?_ | refine awp_skip ?_ | refine awp_ret ?_); (try simp only [NB, simprocAttr])))
            all_goals refine ⟨⟨j + 1, [], qt ++ [u], qg + 1⟩, hmj, ⟨hjl, by simp only [hnt, hqt, List.append_assoc]⟩, ?_⟩
            all_goals simp only [hu, List.length_append, List.length_cons, List.length_nil, Nat.zero_add, List.nil_append, List.map_append, List.map_cons, List.map_nil]
            all_goals refine ⟨rfl, ⟨_, rfl⟩, ?_, ⟨trivial, trivial, trivial⟩, avlts_bools _ _, (by have := avlts_nats (h.length + 3) (qt ++ [u]); simpa using this), trivial⟩
            all_goals simp only [keeps, avlt, avlts, blksLt, frL, upd_get, S1, simprocAttr, List.length_map, Int.natCast_zero, AV.p.injEq, PV.int.injEq, PV.bool.injEq, PV.sl.injEq] <;> (try and_intros) <;> (try assumption) <;> (try trivial) <;> (try omega)
          · have hbe : (f.dst == (x : Int)) = false := by rw [hv]; simp; omega
            rw [if_neg hvx, List.append_nil] at hnt
            repeat' (first | ((first | refine aops_nil ?_ | refine aqops_nil ?_); (try simp only [NB])) | ((repeat ((fail_if_success (refine hK _ ?_)); clear hK K)); refine hK _ ?_; clear hK K) | ((first | refine aops_k fun K1 hK1 => ?_ | refine aqops_k fun K1 hK1 => ?_ | refine awp_cond_k fun A B hA hB => ?_); simp only [S1, simprocAttr, T2, T3, T4, T22, T23, T25, T35, T51, T53, T55, T58, T92, rowF hx, hitF hjl, nextF hl hjl, eF, hbe, List.length_map, Nat.mul_one, Nat.zero_add, Nat.add_zero]; first | (refine hK1 _ ?_; clear hK1 K1) | ((first | refine hA ?_ | refine hB ?_); clear hA hB A B) | (refine join_x (v := ?_) (fun hg hk9 => ?_) ?_; rotate_left; (focus (try ((try simp only [BN] at hg); simp only [S1, simprocAttr, T2, T3, T4, T22, T23, T25, T35, T51, T53, T55, T58, T92, rowF hx, hitF hjl, nextF hl hjl, eF, hbe, List.length_map, Nat.mul_one, Nat.zero_add, Nat.add_zero, hg] at hk9 ⊢)); first | exact hk9); (refine hK1 _ ?_; clear hK1 K1)) | (((first | (refine ⟨fun hg => hA ?_, fun hg => hB ?_⟩ <;> clear hA hB A B) | refine ⟨fun hg => ?_, fun hg => ?_⟩) <;> (try simp only [BN2] at hg) <;> (try simp only [hg, cond_true, cond_false])) <;> (try (refine hK1 _ ?_; clear hK1 K1)) <;> (try simp only [BN3] at hg))) | (refine awp_seq_k fun K hK => ?_) | ((first | refine awp_region ?_ | refine awp_draw (by kernel_rfl) ?_ | refine awp_block ?_ | refine awp_exit ?_ | refine awp_skip ?_ | refine awp_ret ?_); (try simp only [NB, simprocAttr])))
            all_goals refine ⟨⟨j + 1, qp, qt, qg⟩, hmj, ⟨hjl, by simp only [hnt, hqt]⟩, ?_⟩
            all_goals refine ⟨rfl, ⟨_, rfl⟩, ?_, ⟨trivial, trivial, trivial⟩, avlts_bools _ _, avlts_nats _ _, trivial⟩
            all_goals simp only [keeps, avlt, avlts, blksLt, frL, upd_get, S1, simprocAttr, List.length_map, Int.natCast_zero, AV.p.injEq, PV.int.injEq, PV.bool.injEq, PV.sl.injEq] <;> (try and_intros) <;> (try assumption) <;> (try trivial) <;> (try omega)
        | false =>
          have he : (edgeB false fl)[j]? = some (u, v) := by simp [edgeB, esF, hx, hu, hv]
          have hnt := nexts_take he x
          by_cases hvx : u = x
          · have hbe : (f.src == (x : Int)) = true := by rw [hu, hvx]; simp
            rw [if_pos hvx] at hnt
            repeat' (first | ((first | refine aops_nil ?_ | refine aqops_nil ?_); (try simp only [NB])) | ((repeat ((fail_if_success (refine hK _ ?_)); clear hK K)); refine hK _ ?_; clear hK K) | ((first | refine aops_k fun K1 hK1 => ?_ | refine aqops_k fun K1 hK1 => ?_ | refine awp_cond_k fun A B hA hB => ?_); simp only [S1, simprocAttr, T2, T3, T4, T22, T23, T25, T35, T51, T53, T55, T58, T92, rowF hx, hitF hjl, nextF hl hjl, eF, hbe, r2, r3, hdq2, hmax, List.length_map, List.length_append, Nat.mul_one, Nat.zero_add, Nat.add_zero]; first | (refine hK1 _ ?_; clear hK1 K1) | ((first | refine hA ?_ | refine hB ?_); clear hA hB A B) | (refine join_x (v := ?_) (fun hg hk9 => ?_) ?_; rotate_left; (focus (try ((try simp only [BN] at hg); simp only [S1, simprocAttr, T2, T3, T4, T22, T23, T25, T35, T51, T53, T55, T58, T92, rowF hx, hitF hjl, nextF hl hjl, eF, hbe, r2, r3, hdq2, hmax, List.length_map, List.length_append, Nat.mul_one, Nat.zero_add, Nat.add_zero, hg] at hk9 ⊢)); first | exact hk9); (refine hK1 _ ?_; clear hK1 K1)) | (((first | (refine ⟨fun hg => hA ?_, fun hg => hB ?_⟩ <;> clear hA hB A B) | refine ⟨fun hg => ?_, fun hg => ?_⟩) <;> (try simp only [BN2] at hg) <;> (try simp only [hg, cond_true, cond_false])) <;> (try (refine hK1 _ ?_; clear hK1 K1)) <;> (try simp only [BN3] at hg))) | (refine awp_seq_k fun K hK => ?_) | ((first | refine awp_region ?_ | refine awp_draw (by kernel_rfl) ?_ | refine awp_block ?_ | refine awp_exit ?_ | refine awp_skip ?_ | refine awp_ret ?_); (try simp only [NB, simprocAttr])))
            all_goals refine ⟨⟨j + 1, [], qt ++ [v], qg + 1⟩, hmj, ⟨hjl, by simp only [hnt, hqt, List.append_assoc]⟩, ?_⟩
            all_goals simp only [hv, List.length_append, List.length_cons, List.length_nil, Nat.zero_add, List.nil_append, List.map_append, List.map_cons, List.map_nil]
            all_goals refine ⟨rfl, ⟨_, rfl⟩, ?_, ⟨trivial, trivial, trivial⟩, avlts_bools _ _, (by have := avlts_nats (h.length + 3) (qt ++ [v]); simpa using this), trivial⟩
            all_goals simp only [keeps, avlt, avlts, blksLt, frL, upd_get, S1, simprocAttr, List.length_map, Int.natCast_zero, AV.p.injEq, PV.int.injEq, PV.bool.injEq, PV.sl.injEq] <;> (try and_intros) <;> (try assumption) <;> (try trivial) <;> (try omega)
          · have hbe : (f.src == (x : Int)) = false := by rw [hu]; simp; omega
            rw [if_neg hvx, List.append_nil] at hnt
            repeat' (first | ((first | refine aops_nil ?_ | refine aqops_nil ?_); (try simp only [NB])) | ((repeat ((fail_if_success (refine hK _ ?_)); clear hK K)); refine hK _ ?_; clear hK K) | ((first | refine aops_k fun K1 hK1 => ?_ | refine aqops_k fun K1 hK1 => ?_ | refine awp_cond_k fun A B hA hB => ?_); simp only [S1, simprocAttr, T2, T3, T4, T22, T23, T25, T35, T51, T53, T55, T58, T92, rowF hx, hitF hjl, nextF hl hjl, eF, hbe, List.length_map, Nat.mul_one, Nat.zero_add, Nat.add_zero]; first | (refine hK1 _ ?_; clear hK1 K1) | ((first | refine hA ?_ | refine hB ?_); clear hA hB A B) | (refine join_x (v := ?_) (fun hg hk9 => ?_) ?_; rotate_left; (focus (try ((try simp only [BN] at hg); simp only [S1, simprocAttr, T2, T3, T4, T22, T23, T25, T35, T51, T53, T55, T58, T92, rowF hx, hitF hjl, nextF hl hjl, eF, hbe, List.length_map, Nat.mul_one, Nat.zero_add, Nat.add_zero, hg] at hk9 ⊢)); first | exact hk9); (refine hK1 _ ?_; clear hK1 K1)) | (((first | (refine ⟨fun hg => hA ?_, fun hg => hB ?_⟩ <;> clear hA hB A B) | refine ⟨fun hg => ?_, fun hg => ?_⟩) <;> (try simp only [BN2] at hg) <;> (try simp only [hg, cond_true, cond_false])) <;> (try (refine hK1 _ ?_; clear hK1 K1)) <;> (try simp only [BN3] at hg))) | (refine awp_seq_k fun K hK => ?_) | ((first | refine awp_region ?_ | refine awp_draw (by kernel_rfl) ?_ | refine awp_block ?_ | refine awp_exit ?_ | refine awp_skip ?_ | refine awp_ret ?_); (try simp only [NB, simprocAttr])))
            all_goals refine ⟨⟨j + 1, qp, qt, qg⟩, hmj, ⟨hjl, by simp only [hnt, hqt]⟩, ?_⟩
            all_goals refine ⟨rfl, ⟨_, rfl⟩, ?_, ⟨trivial, trivial, trivial⟩, avlts_bools _ _, avlts_nats _ _, trivial⟩
            all_goals simp only [keeps, avlt, avlts, blksLt, frL, upd_get, S1, simprocAttr, List.length_map, Int.natCast_zero, AV.p.injEq, PV.int.injEq, PV.bool.injEq, PV.sl.injEq] <;> (try and_intros) <;> (try assumption) <;> (try trivial) <;> (try omega)
      · obtain rfl : j = fl.length := by omega
        have hfull : (edgeB back fl).take fl.length = edgeB back fl := List.take_of_length_le (by rw [hel]; exact Nat.le_refl _)
        rw [hfull] at hqt
        have hlt := bfsM_visit (es := edgeB back fl) (todo := rest) hsx
        have hvi := hb.visit hxn
        rw [← hqt] at hlt hvi
        repeat' (first | ((first | refine aops_nil ?_ | refine aqops_nil ?_); (try simp only [NB])) | ((repeat ((fail_if_success (refine hK _ ?_)); clear hK K)); refine hK _ ?_; clear hK K) | ((first | refine aops_k fun K1 hK1 => ?_ | refine aqops_k fun K1 hK1 => ?_ | refine awp_cond_k fun A B hA hB => ?_); simp only [S1, simprocAttr, T2, T3, T4, T22, T23, T25, T35, T51, T53, T55, T58, T92, endF]; first | (refine hK1 _ ?_; clear hK1 K1) | ((first | refine hA ?_ | refine hB ?_); clear hA hB A B) | (refine join_x (v := ?_) (fun hg hk9 => ?_) ?_; rotate_left; (focus (try ((try simp only [BN] at hg); simp only [S1, simprocAttr, T2, T3, T4, T22, T23, T25, T35, T51, T53, T55, T58, T92, endF, hg] at hk9 ⊢)); first | exact hk9); (refine hK1 _ ?_; clear hK1 K1)) | (((first | (refine ⟨fun hg => hA ?_, fun hg => hB ?_⟩ <;> clear hA hB A B) | refine ⟨fun hg => ?_, fun hg => ?_⟩) <;> (try simp only [BN2] at hg) <;> (try simp only [hg, cond_true, cond_false])) <;> (try (refine hK1 _ ?_; clear hK1 K1)) <;> (try simp only [BN3] at hg))) | (refine awp_seq_k fun K hK => ?_) | ((first | refine awp_region ?_ | refine awp_draw (by kernel_rfl) ?_ | refine awp_block ?_ | refine awp_exit ?_ | refine awp_skip ?_ | refine awp_ret ?_); (try simp only [NB, simprocAttr])))
        all_goals refine ⟨⟨seen.set x true, qp, qt, qg⟩, hlt, ⟨hvi, Nat.le_trans (Nat.le_of_lt hlt) hm⟩, ?_⟩
        all_goals refine ⟨rfl, ⟨_, rfl⟩, ?_, ⟨trivial, trivial, trivial⟩, avlts_bools _ _, avlts_nats _ _, trivial⟩
        all_goals simp only [keeps, avlt, avlts, blksLt, frL, upd_get, S1, simprocAttr, List.length_map, Int.natCast_zero, AV.p.injEq, PV.int.injEq, PV.bool.injEq, PV.sl.injEq] <;> (try and_intros) <;> (try assumption) <;> (try trivial) <;> (try omega)
end Go.Proofs.YtlophgkgmhcagaaDoor.AM
end
