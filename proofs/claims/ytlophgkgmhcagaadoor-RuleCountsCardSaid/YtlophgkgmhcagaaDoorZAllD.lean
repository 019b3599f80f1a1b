/- Proved here, in parts, for one law: Contracts: the program's rule 3 of a node. The abstract machine, part V: slices of rows that are handed back; a cell told otherwise. Contracts: places at which something is wrong. Contracts: what is asked of each place; the third rule; all places; the rule that is broken. Contracts: the third rule; all places; the rule that is broken. Contracts: all places at which a rule is broken; the first. Contracts: the rule that is broken, of the program. Plain: the first place. Contracts: the document's rule that is broken. Contracts: equal lists; one rule more. Plain: what a process is that is right; its rules. Contracts: the document's rules of a node, and all of a process. Contract: all rules of a process. Contract: all rules of a process, as the document tells them. Conditions: none. -/
import Derived.Test.YtlophgkgmhcagaaDoorZAllC

section
set_option linter.unusedVariables false
set_option linter.unusedSimpArgs false
set_option maxRecDepth 4000
set_option maxHeartbeats 4000000
namespace Go.Proofs.YtlophgkgmhcagaaDoor.AM
open Go Go.Proofs
attribute [local irreducible] awp aops aqops aeops arun
variable {G : Nat → Option (List PV)}

theorem linked_calls (ns : List Nd) (hn : ns.length ≤ 100) (fl : List Fl) (hl : fl.length ≤ 100) (hd : ∀ f ∈ fl, 0 ≤ f.dst ∧ f.dst < (ns.length : Int)) (i : Int) (hi0 : 0 ≤ i) (hi1 : i < (ns.length : Int)) (h : Heap) :
    ACalls Tryd.prog G 72 [aNet ns fl, .i i] h (fun r h' => r = .b (threeB ns fl i) ∧ h' = h) := by
  have hle : (outsN fl i).length ≤ 100 := Nat.le_trans (pickF_le _ _ _) hl
  obtain ⟨kd, hkd⟩ : ∃ k, ns[i.toNat]? = some k := ⟨_, List.getElem?_eq_getElem (by omega)⟩
  have hkd' := rowN hkd
  have ekd : kindAt ns i = kd.kind := by unfold kindAt; rw [hkd]
  refine acalls_pure (rl := []) mixed Tryd.func72 rfl (rs := [.tmp 4]) rfl Tryd.ntmps72 (by simp) ?_
  refine awp_seq_k fun K hK => ?_
  repeat' (first | ((first | refine aops_nil ?_ | refine aqops_nil ?_); (try simp only [NB]); ((repeat ((fail_if_success (refine hK _ ?_)); clear hK K)); refine hK _ ?_; clear hK K)) | ((first | refine aops_k fun K1 hK1 => ?_ | refine aqops_k fun K1 hK1 => ?_ | refine awp_cond_k fun A B hA hB => ?_); simp only [S1, simprocAttr, T2, T3, T4, T22, T23, T25, T35, T51, T53, T55, T58]; first | (refine hK1 _ ?_; clear hK1 K1) | ((first | refine hA ?_ | refine hB ?_); clear hA hB A B) | (refine join_x (v := ?_) (fun hg hk9 => ?_) ?_; rotate_left; (focus (try ((try simp only [BN] at hg); simp only [S1, simprocAttr, T2, T3, T4, T22, T23, T25, T35, T51, T53, T55, T58, hg] at hk9 ⊢)); first | exact hk9); (refine hK1 _ ?_; clear hK1 K1)) | (((first | (refine ⟨fun hg => hA ?_, fun hg => hB ?_⟩ <;> clear hA hB A B) | refine ⟨fun hg => ?_, fun hg => ?_⟩) <;> (try simp only [BN2] at hg) <;> (try simp only [hg, cond_true, cond_false])) <;> (try (refine hK1 _ ?_; clear hK1 K1)) <;> (try simp only [BN3] at hg))) | (fail) | ((first | refine awp_region ?_ | refine awp_draw (by kernel_rfl) ?_ | refine awp_block ?_ | refine awp_exit ?_ | refine awp_skip ?_ | refine awp_ret ?_); (try simp only [NB, simprocAttr]); (try ((repeat ((fail_if_success (refine hK _ ?_)); clear hK K)); refine hK _ ?_; clear hK K))))
  refine awp_seq_k fun K hK => ?_
  repeat' (first | ((first | refine aops_nil ?_ | refine aqops_nil ?_); (try simp only [NB]); ((repeat ((fail_if_success (refine hK _ ?_)); clear hK K)); refine hK _ ?_; clear hK K)) | ((first | refine aops_k fun K1 hK1 => ?_ | refine aqops_k fun K1 hK1 => ?_ | refine awp_cond_k fun A B hA hB => ?_); simp only [S1, simprocAttr, T2, T3, T4, T22, T23, T25, T35, T51, T53, T55, T58]; first | (refine hK1 _ ?_; clear hK1 K1) | ((first | refine hA ?_ | refine hB ?_); clear hA hB A B) | ((first | apply call_a E25 | apply call_q E25); exact (outs_calls _ fl hl _ _); (refine hK1 _ ?_; clear hK1 K1)) | (refine join_x (v := ?_) (fun hg hk9 => ?_) ?_; rotate_left; (focus (try ((try simp only [BN] at hg); simp only [S1, simprocAttr, T2, T3, T4, T22, T23, T25, T35, T51, T53, T55, T58, hg] at hk9 ⊢)); first | exact hk9 | ((first | apply call_a E25 | apply call_q E25); exact (outs_calls _ fl hl _ _); exact hk9)); (refine hK1 _ ?_; clear hK1 K1)) | (((first | (refine ⟨fun hg => hA ?_, fun hg => hB ?_⟩ <;> clear hA hB A B) | refine ⟨fun hg => ?_, fun hg => ?_⟩) <;> (try simp only [BN2] at hg) <;> (try simp only [hg, cond_true, cond_false])) <;> (try (refine hK1 _ ?_; clear hK1 K1)) <;> (try simp only [BN3] at hg))) | (fail) | ((first | refine awp_region ?_ | refine awp_draw (by kernel_rfl) ?_ | refine awp_block ?_ | refine awp_exit ?_ | refine awp_skip ?_ | refine awp_ret ?_); (try simp only [NB, simprocAttr]); (try ((repeat ((fail_if_success (refine hK _ ?_)); clear hK K)); refine hK _ ?_; clear hK K))))
  refine awp_seq_k fun K hK => ?_
  repeat' (first | ((first | refine aops_nil ?_ | refine aqops_nil ?_); (try simp only [NB]); ((repeat ((fail_if_success (refine hK _ ?_)); clear hK K)); refine hK _ ?_; clear hK K)) | ((first | refine aops_k fun K1 hK1 => ?_ | refine aqops_k fun K1 hK1 => ?_ | refine awp_cond_k fun A B hA hB => ?_); simp only [S1, simprocAttr, T2, T3, T4, T22, T23, T25, T35, T51, T53, T55, T58, List.length_map, hi0, hkd', eN]; first | (refine hK1 _ ?_; clear hK1 K1) | ((first | refine hA ?_ | refine hB ?_); clear hA hB A B) | ((first | apply call_a E24 | apply call_q E24); exact (ins_calls _ fl hl _ _); (refine hK1 _ ?_; clear hK1 K1)) | (refine join_x (v := ?_) (fun hg hk9 => ?_) ?_; rotate_left; (focus (try ((try simp only [BN] at hg); simp only [S1, simprocAttr, T2, T3, T4, T22, T23, T25, T35, T51, T53, T55, T58, List.length_map, hi0, hkd', eN, hg] at hk9 ⊢)); first | exact hk9 | ((first | apply call_a E24 | apply call_q E24); exact (ins_calls _ fl hl _ _); exact hk9)); (refine hK1 _ ?_; clear hK1 K1)) | (((first | (refine ⟨fun hg => hA ?_, fun hg => hB ?_⟩ <;> clear hA hB A B) | refine ⟨fun hg => ?_, fun hg => ?_⟩) <;> (try simp only [BN2] at hg) <;> (try simp only [hg, cond_true, cond_false])) <;> (try (refine hK1 _ ?_; clear hK1 K1)) <;> (try simp only [BN3] at hg))) | (fail) | ((first | refine awp_region ?_ | refine awp_draw (by kernel_rfl) ?_ | refine awp_block ?_ | refine awp_exit ?_ | refine awp_skip ?_ | refine awp_ret ?_); (try simp only [NB, simprocAttr]); (try ((repeat ((fail_if_success (refine hK _ ?_)); clear hK K)); refine hK _ ?_; clear hK K))))
  refine awp_seq_k fun K hK => ?_
  repeat' (first | ((first | refine aops_nil ?_ | refine aqops_nil ?_); (try simp only [NB]); ((repeat ((fail_if_success (refine hK _ ?_)); clear hK K)); refine hK _ ?_; clear hK K)) | ((first | refine aops_k fun K1 hK1 => ?_ | refine aqops_k fun K1 hK1 => ?_ | refine awp_cond_k fun A B hA hB => ?_); simp only [S1, simprocAttr, T2, T3, T4, T22, T23, T25, T35, T51, T53, T55, T58]; first | (refine hK1 _ ?_; clear hK1 K1) | ((first | refine hA ?_ | refine hB ?_); clear hA hB A B) | (refine join_x (v := ?_) (fun hg hk9 => ?_) ?_; rotate_left; (focus (try ((try simp only [BN] at hg); simp only [S1, simprocAttr, T2, T3, T4, T22, T23, T25, T35, T51, T53, T55, T58, hg] at hk9 ⊢)); first | exact hk9); (refine hK1 _ ?_; clear hK1 K1)) | (((first | (refine ⟨fun hg => hA ?_, fun hg => hB ?_⟩ <;> clear hA hB A B) | refine ⟨fun hg => ?_, fun hg => ?_⟩) <;> (try simp only [BN2] at hg) <;> (try simp only [hg, cond_true, cond_false])) <;> (try (refine hK1 _ ?_; clear hK1 K1)) <;> (try simp only [BN3] at hg))) | (fail) | ((first | refine awp_region ?_ | refine awp_draw (by kernel_rfl) ?_ | refine awp_block ?_ | refine awp_exit ?_ | refine awp_skip ?_ | refine awp_ret ?_); (try simp only [NB, simprocAttr]); (try ((repeat ((fail_if_success (refine hK _ ?_)); clear hK K)); refine hK _ ?_; clear hK K))))
  refine awp_seq_k fun K hK => ?_
  repeat' (first | ((first | refine aops_nil ?_ | refine aqops_nil ?_); (try simp only [NB]); ((repeat ((fail_if_success (refine hK _ ?_)); clear hK K)); refine hK _ ?_; clear hK K)) | ((first | refine aops_k fun K1 hK1 => ?_ | refine aqops_k fun K1 hK1 => ?_ | refine awp_cond_k fun A B hA hB => ?_); simp only [S1, simprocAttr, T2, T3, T4, T22, T23, T25, T35, T51, T53, T55, T58]; first | (refine hK1 _ ?_; clear hK1 K1) | ((first | refine hA ?_ | refine hB ?_); clear hA hB A B) | (refine join_x (v := ?_) (fun hg hk9 => ?_) ?_; rotate_left; (focus (try ((try simp only [BN] at hg); simp only [S1, simprocAttr, T2, T3, T4, T22, T23, T25, T35, T51, T53, T55, T58, hg] at hk9 ⊢)); first | exact hk9); (refine hK1 _ ?_; clear hK1 K1)) | (((first | (refine ⟨fun hg => hA ?_, fun hg => hB ?_⟩ <;> clear hA hB A B) | refine ⟨fun hg => ?_, fun hg => ?_⟩) <;> (try simp only [BN2] at hg) <;> (try simp only [hg, cond_true, cond_false])) <;> (try (refine hK1 _ ?_; clear hK1 K1)) <;> (try simp only [BN3] at hg))) | (fail) | ((first | refine awp_region ?_ | refine awp_draw (by kernel_rfl) ?_ | refine awp_block ?_ | refine awp_exit ?_ | refine awp_skip ?_ | refine awp_ret ?_); (try simp only [NB, simprocAttr]); (try ((repeat ((fail_if_success (refine hK _ ?_)); clear hK K)); refine hK _ ?_; clear hK K))))
  refine awp_seq_k fun K hK => ?_
  repeat' (first | ((first | refine aops_nil ?_ | refine aqops_nil ?_); (try simp only [NB])) | ((repeat ((fail_if_success (refine hK _ ?_)); clear hK K)); refine hK _ ?_; clear hK K) | ((first | refine aops_k fun K1 hK1 => ?_ | refine aqops_k fun K1 hK1 => ?_ | refine awp_cond_k fun A B hA hB => ?_); simp only [S1, simprocAttr, T2, T3, T4, T22, T23, T25, T35, T51, T53, T55, T58, List.length_map]; first | (refine hK1 _ ?_; clear hK1 K1) | ((first | refine hA ?_ | refine hB ?_); clear hA hB A B) | (refine join_x (v := ?_) (fun hg hk9 => ?_) ?_; rotate_left; (focus (try ((try simp only [BN] at hg); simp only [S1, simprocAttr, T2, T3, T4, T22, T23, T25, T35, T51, T53, T55, T58, List.length_map, hg] at hk9 ⊢)); first | exact hk9); (refine hK1 _ ?_; clear hK1 K1)) | (((first | (refine ⟨fun hg => hA ?_, fun hg => hB ?_⟩ <;> clear hA hB A B) | refine ⟨fun hg => ?_, fun hg => ?_⟩) <;> (try simp only [BN2] at hg) <;> (try simp only [hg, cond_true, cond_false])) <;> (try (refine hK1 _ ?_; clear hK1 K1)) <;> (try simp only [BN3] at hg))) | (refine awp_seq_k fun K hK => ?_) | ((first | refine awp_region ?_ | refine awp_draw (by kernel_rfl) ?_ | refine awp_block ?_ | refine awp_exit ?_ | refine awp_skip ?_ | refine awp_ret ?_); (try simp only [NB, simprocAttr])))
  refine awp_for (outsN fl i).length 122 (fun j => [(28, .i j), (27, .i (outsN fl i).length), (26, aI (outsN fl i)), (9, .b (cntB (othAt ns fl) (outsN fl i) j == 0)), (8, .i (cntB (elsAt fl) (outsN fl i) j)), (7, .i kd.kind), (6, .i (insN fl i).length), (5, aI (outsN fl i)), (2, .ptr h.length 0 0), (1, .i i)])
    (fun j => [some ⟨0, [.p (.sl (ns.map eN)), .p (.sl (fl.map eF))]⟩]) (fun j => True) ?_ trivial fun j hj hp K hK => ?_
  · (refine ⟨rfl, (by first | exact ⟨_, rfl⟩ | exact ⟨[], by simp⟩), ?_, ?_⟩ <;> simp only [keeps, avlt, avlts, blksLt, frL, upd_get, S1, simprocAttr, List.length_map, Int.natCast_zero, AV.p.injEq, PV.int.injEq, PV.bool.injEq, PV.sl.injEq] <;> (try and_intros) <;> (try assumption) <;> (try trivial) <;> (try omega))
  rcases Nat.lt_or_ge j (outsN fl i).length with hlt | hge
  · obtain ⟨x, hx⟩ : ∃ k, (outsN fl i)[j]? = some k := ⟨_, List.getElem?_eq_getElem hlt⟩
    obtain ⟨xi, f, hxi, rfl, hf, _⟩ := pickF_mem (List.mem_of_getElem? hx)
    obtain ⟨d1, d2⟩ := hd f (List.mem_of_getElem? hf)
    obtain ⟨kx, hkx⟩ : ∃ k, ns[f.dst.toNat]? = some k := ⟨_, List.getElem?_eq_getElem (by omega)⟩
    have hkx' := rowN hkx
    have hf' := rowF hf
    have x0 : (0 : Int) ≤ (xi : Int) := Int.natCast_nonneg _
    have s1 := cntB_step (p := elsAt fl) hx
    have s2 := cntB_step (p := othAt ns fl) hx
    have b1 := cntB_le (elsAt fl) (outsN fl i) j
    have e1 : elsAt fl (xi : Int) = f.els := by unfold elsAt; rw [Int.toNat_natCast, hf]
    have e2 : othAt ns fl (xi : Int) = (kx.kind != 8) := by unfold othAt; rw [Int.toNat_natCast, hf]; simp only [kindAt, hkx]
    rw [e1] at s1
    rw [e2] at s2
    have w1 := IntWalk.i64_in ((cntB (elsAt fl) (outsN fl i) j : Int) + 1) (by omega)
    have n1 := nextI (l := outsN fl i) (i := j) (by omega) hlt
    have s3 : (cntB (othAt ns fl) (outsN fl i) (j + 1) == 0) = ((cntB (othAt ns fl) (outsN fl i) j == 0) && (kx.kind == 8)) := by
      rw [s2, Bool.eq_iff_iff]
      by_cases h8 : kx.kind = 8 <;> simp [h8]
    cases h1 : f.els <;> simp only [h1, if_true, Bool.false_eq_true, if_false, Nat.add_zero] at s1
    all_goals (repeat' (first | ((first | refine aops_nil ?_ | refine aqops_nil ?_); (try simp only [NB])) | ((repeat ((fail_if_success (refine hK _ ?_)); clear hK K)); refine hK _ ?_; clear hK K) | ((first | refine aops_k fun K1 hK1 => ?_ | refine aqops_k fun K1 hK1 => ?_ | refine awp_cond_k fun A B hA hB => ?_); simp only [S1, simprocAttr, T2, T3, T4, T22, T23, T25, T35, T51, T53, T55, T58, rowI hx, hitI hlt, n1, eF, eN, hf', hkx', h1, d1, d2, x0, w1, Int.toNat_natCast, List.length_map]; first | (refine hK1 _ ?_; clear hK1 K1) | ((first | refine hA ?_ | refine hB ?_); clear hA hB A B) | (refine join_x (v := ?_) (fun hg hk9 => ?_) ?_; rotate_left; (focus (try ((try simp only [BN] at hg); simp only [S1, simprocAttr, T2, T3, T4, T22, T23, T25, T35, T51, T53, T55, T58, rowI hx, hitI hlt, n1, eF, eN, hf', hkx', h1, d1, d2, x0, w1, Int.toNat_natCast, List.length_map, hg] at hk9 ⊢)); first | exact hk9); (refine hK1 _ ?_; clear hK1 K1)) | (((first | (refine ⟨fun hg => hA ?_, fun hg => hB ?_⟩ <;> clear hA hB A B) | refine ⟨fun hg => ?_, fun hg => ?_⟩) <;> (try simp only [BN2] at hg) <;> (try simp only [hg, cond_true, cond_false])) <;> (try (refine hK1 _ ?_; clear hK1 K1)) <;> (try simp only [BN3] at hg))) | (refine awp_seq_k fun K hK => ?_) | ((first | refine awp_region ?_ | refine awp_draw (by kernel_rfl) ?_ | refine awp_block ?_ | refine awp_exit ?_ | refine awp_skip ?_ | refine awp_ret ?_); (try simp only [NB, simprocAttr]))))
    all_goals refine ⟨hlt, trivial, ?_⟩
    all_goals simp only [s1, s3]
    all_goals (refine ⟨rfl, (by first | exact ⟨_, rfl⟩ | exact ⟨[], by simp⟩), ?_, ?_⟩ <;> simp only [keeps, avlt, avlts, blksLt, frL, upd_get, S1, simprocAttr, List.length_map, Int.natCast_zero, AV.p.injEq, PV.int.injEq, PV.bool.injEq, PV.sl.injEq] <;> (try and_intros) <;> (try assumption) <;> (try trivial) <;> (try omega))
  · obtain rfl : j = (outsN fl i).length := by omega
    have e0 : threeB ns fl i = threeB ns fl i := rfl
    conv at e0 => rhs; unfold threeB
    rw [ekd] at e0
    by_cases k1 : kd.kind = 1
    · repeat' (first | ((first | refine aops_nil ?_ | refine aqops_nil ?_); (try simp only [NB])) | ((repeat ((fail_if_success (refine hK _ ?_)); clear hK K)); refine hK _ ?_; clear hK K) | ((first | refine aops_k fun K1 hK1 => ?_ | refine aqops_k fun K1 hK1 => ?_ | refine awp_cond_k fun A B hA hB => ?_); simp only [S1, simprocAttr, T2, T3, T4, T22, T23, T25, T35, T51, T53, T55, T58, endI, k1, List.length_map]; first | (refine hK1 _ ?_; clear hK1 K1) | ((first | refine hA ?_ | refine hB ?_); clear hA hB A B) | (refine join_x (v := ?_) (fun hg hk9 => ?_) ?_; rotate_left; (focus (try ((try simp only [BN] at hg); simp only [S1, simprocAttr, T2, T3, T4, T22, T23, T25, T35, T51, T53, T55, T58, endI, k1, List.length_map, hg] at hk9 ⊢)); first | exact hk9); (refine hK1 _ ?_; clear hK1 K1)) | (((first | (refine ⟨fun hg => hA ?_, fun hg => hB ?_⟩ <;> clear hA hB A B) | refine ⟨fun hg => ?_, fun hg => ?_⟩) <;> (try simp only [BN2] at hg) <;> (try simp only [hg, cond_true, cond_false])) <;> (try (refine hK1 _ ?_; clear hK1 K1)) <;> (try simp only [BN3] at hg))) | (refine awp_seq_k fun K hK => ?_) | ((first | refine awp_region ?_ | refine awp_draw (by kernel_rfl) ?_ | refine awp_block ?_ | refine awp_exit ?_ | refine awp_skip ?_ | refine awp_ret ?_); (try simp only [NB, simprocAttr])))
      all_goals simp only [EndP, FinP, resA, resL, resA1, lastV, lastA, lastAs, pur, purs, take_app, List.take_length, S1, simprocAttr, T2, T3, T4, T22, T23, T25, T35, T51, T53, T55, T58, Nat.le_add_right, Nat.le_refl]
      all_goals simp [e0, k1]
      all_goals (rw [Bool.eq_iff_iff]; simp only [Bool.or_eq_true, Bool.and_eq_true, beq_iff_eq, decide_eq_true_eq]; omega)
    by_cases k2 : kd.kind = 2
    · repeat' (first | ((first | refine aops_nil ?_ | refine aqops_nil ?_); (try simp only [NB])) | ((repeat ((fail_if_success (refine hK _ ?_)); clear hK K)); refine hK _ ?_; clear hK K) | ((first | refine aops_k fun K1 hK1 => ?_ | refine aqops_k fun K1 hK1 => ?_ | refine awp_cond_k fun A B hA hB => ?_); simp only [S1, simprocAttr, T2, T3, T4, T22, T23, T25, T35, T51, T53, T55, T58, endI, k2, List.length_map]; first | (refine hK1 _ ?_; clear hK1 K1) | ((first | refine hA ?_ | refine hB ?_); clear hA hB A B) | (refine join_x (v := ?_) (fun hg hk9 => ?_) ?_; rotate_left; (focus (try ((try simp only [BN] at hg); simp only [S1, simprocAttr, T2, T3, T4, T22, T23, T25, T35, T51, T53, T55, T58, endI, k2, List.length_map, hg] at hk9 ⊢)); first | exact hk9); (refine hK1 _ ?_; clear hK1 K1)) | (((first | (refine ⟨fun hg => hA ?_, fun hg => hB ?_⟩ <;> clear hA hB A B) | refine ⟨fun hg => ?_, fun hg => ?_⟩) <;> (try simp only [BN2] at hg) <;> (try simp only [hg, cond_true, cond_false])) <;> (try (refine hK1 _ ?_; clear hK1 K1)) <;> (try simp only [BN3] at hg))) | (refine awp_seq_k fun K hK => ?_) | ((first | refine awp_region ?_ | refine awp_draw (by kernel_rfl) ?_ | refine awp_block ?_ | refine awp_exit ?_ | refine awp_skip ?_ | refine awp_ret ?_); (try simp only [NB, simprocAttr])))
      all_goals simp only [EndP, FinP, resA, resL, resA1, lastV, lastA, lastAs, pur, purs, take_app, List.take_length, S1, simprocAttr, T2, T3, T4, T22, T23, T25, T35, T51, T53, T55, T58, Nat.le_add_right, Nat.le_refl]
      all_goals simp [e0, k2]
      all_goals (rw [Bool.eq_iff_iff]; simp only [Bool.or_eq_true, Bool.and_eq_true, beq_iff_eq, decide_eq_true_eq]; omega)
    by_cases k5 : kd.kind = 5
    · repeat' (first | ((first | refine aops_nil ?_ | refine aqops_nil ?_); (try simp only [NB])) | ((repeat ((fail_if_success (refine hK _ ?_)); clear hK K)); refine hK _ ?_; clear hK K) | ((first | refine aops_k fun K1 hK1 => ?_ | refine aqops_k fun K1 hK1 => ?_ | refine awp_cond_k fun A B hA hB => ?_); simp only [S1, simprocAttr, T2, T3, T4, T22, T23, T25, T35, T51, T53, T55, T58, endI, k5, List.length_map]; first | (refine hK1 _ ?_; clear hK1 K1) | ((first | refine hA ?_ | refine hB ?_); clear hA hB A B) | (refine join_x (v := ?_) (fun hg hk9 => ?_) ?_; rotate_left; (focus (try ((try simp only [BN] at hg); simp only [S1, simprocAttr, T2, T3, T4, T22, T23, T25, T35, T51, T53, T55, T58, endI, k5, List.length_map, hg] at hk9 ⊢)); first | exact hk9); (refine hK1 _ ?_; clear hK1 K1)) | (((first | (refine ⟨fun hg => hA ?_, fun hg => hB ?_⟩ <;> clear hA hB A B) | refine ⟨fun hg => ?_, fun hg => ?_⟩) <;> (try simp only [BN2] at hg) <;> (try simp only [hg, cond_true, cond_false])) <;> (try (refine hK1 _ ?_; clear hK1 K1)) <;> (try simp only [BN3] at hg))) | (refine awp_seq_k fun K hK => ?_) | ((first | refine awp_region ?_ | refine awp_draw (by kernel_rfl) ?_ | refine awp_block ?_ | refine awp_exit ?_ | refine awp_skip ?_ | refine awp_ret ?_); (try simp only [NB, simprocAttr])))
      all_goals simp only [EndP, FinP, resA, resL, resA1, lastV, lastA, lastAs, pur, purs, take_app, List.take_length, S1, simprocAttr, T2, T3, T4, T22, T23, T25, T35, T51, T53, T55, T58, Nat.le_add_right, Nat.le_refl]
      all_goals simp [e0, k5]
      all_goals (rw [Bool.eq_iff_iff]; simp only [Bool.or_eq_true, Bool.and_eq_true, beq_iff_eq, decide_eq_true_eq]; omega)
    by_cases k6 : kd.kind = 6
    · repeat' (first | ((first | refine aops_nil ?_ | refine aqops_nil ?_); (try simp only [NB])) | ((repeat ((fail_if_success (refine hK _ ?_)); clear hK K)); refine hK _ ?_; clear hK K) | ((first | refine aops_k fun K1 hK1 => ?_ | refine aqops_k fun K1 hK1 => ?_ | refine awp_cond_k fun A B hA hB => ?_); simp only [S1, simprocAttr, T2, T3, T4, T22, T23, T25, T35, T51, T53, T55, T58, endI, k6, List.length_map]; first | (refine hK1 _ ?_; clear hK1 K1) | ((first | refine hA ?_ | refine hB ?_); clear hA hB A B) | (refine join_x (v := ?_) (fun hg hk9 => ?_) ?_; rotate_left; (focus (try ((try simp only [BN] at hg); simp only [S1, simprocAttr, T2, T3, T4, T22, T23, T25, T35, T51, T53, T55, T58, endI, k6, List.length_map, hg] at hk9 ⊢)); first | exact hk9); (refine hK1 _ ?_; clear hK1 K1)) | (((first | (refine ⟨fun hg => hA ?_, fun hg => hB ?_⟩ <;> clear hA hB A B) | refine ⟨fun hg => ?_, fun hg => ?_⟩) <;> (try simp only [BN2] at hg) <;> (try simp only [hg, cond_true, cond_false])) <;> (try (refine hK1 _ ?_; clear hK1 K1)) <;> (try simp only [BN3] at hg))) | (refine awp_seq_k fun K hK => ?_) | ((first | refine awp_region ?_ | refine awp_draw (by kernel_rfl) ?_ | refine awp_block ?_ | refine awp_exit ?_ | refine awp_skip ?_ | refine awp_ret ?_); (try simp only [NB, simprocAttr])))
      all_goals simp only [EndP, FinP, resA, resL, resA1, lastV, lastA, lastAs, pur, purs, take_app, List.take_length, S1, simprocAttr, T2, T3, T4, T22, T23, T25, T35, T51, T53, T55, T58, Nat.le_add_right, Nat.le_refl]
      all_goals simp [e0, k6]
      all_goals (rw [Bool.eq_iff_iff]; simp only [Bool.or_eq_true, Bool.and_eq_true, beq_iff_eq, decide_eq_true_eq]; omega)
    by_cases k7 : kd.kind = 7
    · repeat' (first | ((first | refine aops_nil ?_ | refine aqops_nil ?_); (try simp only [NB])) | ((repeat ((fail_if_success (refine hK _ ?_)); clear hK K)); refine hK _ ?_; clear hK K) | ((first | refine aops_k fun K1 hK1 => ?_ | refine aqops_k fun K1 hK1 => ?_ | refine awp_cond_k fun A B hA hB => ?_); simp only [S1, simprocAttr, T2, T3, T4, T22, T23, T25, T35, T51, T53, T55, T58, endI, k7, List.length_map]; first | (refine hK1 _ ?_; clear hK1 K1) | ((first | refine hA ?_ | refine hB ?_); clear hA hB A B) | (refine join_x (v := ?_) (fun hg hk9 => ?_) ?_; rotate_left; (focus (try ((try simp only [BN] at hg); simp only [S1, simprocAttr, T2, T3, T4, T22, T23, T25, T35, T51, T53, T55, T58, endI, k7, List.length_map, hg] at hk9 ⊢)); first | exact hk9); (refine hK1 _ ?_; clear hK1 K1)) | (((first | (refine ⟨fun hg => hA ?_, fun hg => hB ?_⟩ <;> clear hA hB A B) | refine ⟨fun hg => ?_, fun hg => ?_⟩) <;> (try simp only [BN2] at hg) <;> (try simp only [hg, cond_true, cond_false])) <;> (try (refine hK1 _ ?_; clear hK1 K1)) <;> (try simp only [BN3] at hg))) | (refine awp_seq_k fun K hK => ?_) | ((first | refine awp_region ?_ | refine awp_draw (by kernel_rfl) ?_ | refine awp_block ?_ | refine awp_exit ?_ | refine awp_skip ?_ | refine awp_ret ?_); (try simp only [NB, simprocAttr])))
      all_goals simp only [EndP, FinP, resA, resL, resA1, lastV, lastA, lastAs, pur, purs, take_app, List.take_length, S1, simprocAttr, T2, T3, T4, T22, T23, T25, T35, T51, T53, T55, T58, Nat.le_add_right, Nat.le_refl]
      all_goals simp [e0, k7]
      all_goals (rw [Bool.eq_iff_iff]; simp only [Bool.or_eq_true, Bool.and_eq_true, beq_iff_eq, decide_eq_true_eq]; omega)
    · have f1 : (kd.kind == 1) = false := by simp [k1]
      have f2 : (kd.kind == 2) = false := by simp [k2]
      have f5 : (kd.kind == 5) = false := by simp [k5]
      have f6 : (kd.kind == 6) = false := by simp [k6]
      have f7 : (kd.kind == 7) = false := by simp [k7]
      repeat' (first | ((first | refine aops_nil ?_ | refine aqops_nil ?_); (try simp only [NB])) | ((repeat ((fail_if_success (refine hK _ ?_)); clear hK K)); refine hK _ ?_; clear hK K) | ((first | refine aops_k fun K1 hK1 => ?_ | refine aqops_k fun K1 hK1 => ?_ | refine awp_cond_k fun A B hA hB => ?_); simp only [S1, simprocAttr, T2, T3, T4, T22, T23, T25, T35, T51, T53, T55, T58, endI, f1, f2, f5, f6, f7, List.length_map]; first | (refine hK1 _ ?_; clear hK1 K1) | ((first | refine hA ?_ | refine hB ?_); clear hA hB A B) | (refine join_x (v := ?_) (fun hg hk9 => ?_) ?_; rotate_left; (focus (try ((try simp only [BN] at hg); simp only [S1, simprocAttr, T2, T3, T4, T22, T23, T25, T35, T51, T53, T55, T58, endI, f1, f2, f5, f6, f7, List.length_map, hg] at hk9 ⊢)); first | exact hk9); (refine hK1 _ ?_; clear hK1 K1)) | (((first | (refine ⟨fun hg => hA ?_, fun hg => hB ?_⟩ <;> clear hA hB A B) | refine ⟨fun hg => ?_, fun hg => ?_⟩) <;> (try simp only [BN2] at hg) <;> (try simp only [hg, cond_true, cond_false])) <;> (try (refine hK1 _ ?_; clear hK1 K1)) <;> (try simp only [BN3] at hg))) | (refine awp_seq_k fun K hK => ?_) | ((first | refine awp_region ?_ | refine awp_draw (by kernel_rfl) ?_ | refine awp_block ?_ | refine awp_exit ?_ | refine awp_skip ?_ | refine awp_ret ?_); (try simp only [NB, simprocAttr])))
      all_goals simp only [EndP, FinP, resA, resL, resA1, lastV, lastA, lastAs, pur, purs, take_app, List.take_length, S1, simprocAttr, T2, T3, T4, T22, T23, T25, T35, T51, T53, T55, T58, Nat.le_add_right, Nat.le_refl]
      all_goals simp [e0, k1, k2, k5, k6, k7]
      all_goals (rw [Bool.eq_iff_iff]; simp only [Bool.or_eq_true, Bool.and_eq_true, beq_iff_eq, decide_eq_true_eq]; omega)
end Go.Proofs.YtlophgkgmhcagaaDoor.AM
end

section
set_option linter.unusedVariables false
set_option linter.unusedSimpArgs false
namespace Go.Proofs.YtlophgkgmhcagaaDoor.AM
open Go

/-- Heaps that differ in what stands in blocks alone. -/
def Alike (h h' : Heap) : Prop := h'.length = h.length ∧ ∀ (b : Nat) (bk' : Blk), h'[b]? = some (some bk') → ∃ bk : Blk, h[b]? = some (some bk) ∧ bk.g = bk'.g ∧ (bk.cells = [] ↔ bk'.cells = [])

theorem own_alike {ι : Nat → Nat × Nat} {h h' : Heap} (ha : Alike h h') {k : Nat} (ho : own ι h' k) : own ι h k := by
  obtain ⟨b, bk', q1, q2, q3⟩ := ho
  obtain ⟨bk, p1, p2, p3⟩ := ha.2 b bk' q1
  exact ⟨b, bk, p1, fun e => q2 (p3.mp e), q3⟩

theorem VRel.alike {ι : Nat → Nat × Nat} {h h' : Heap} {w : World} {x : AV} {v : Value} (ha : Alike h h') (hx : VRel ι h w x v) : VRel ι h' w x v := by
  have lv : ∀ b g : Nat, liveAt h' b g → liveAt h b g := by
    rintro b g ⟨bk', q1, q2⟩
    obtain ⟨bk, p1, p2, p3⟩ := ha.2 b bk' q1
    exact ⟨bk, p1, by omega⟩
  have gg : ∀ b g : Nat, (∀ bk : Blk, h[b]? = some (some bk) → g ≤ bk.g) → ∀ bk : Blk, h'[b]? = some (some bk) → g ≤ bk.g := by
    intro b g hg bk' q1
    obtain ⟨bk, p1, p2, p3⟩ := ha.2 b bk' q1
    have := hg bk p1; omega
  have oo : ∀ k, k < w.heap.size → ¬ own ι h k → w.heap[k]? = w.heap[k]? ∧ ¬ own ι h' k := fun k _ ho => ⟨rfl, fun e => ho (own_alike ha e)⟩
  induction hx with
  | p x v hx => exact .p _ _ (hx.mono (Nat.le_refl _) oo)
  | agg cells vs hl hv ih => exact .agg _ _ hl ih
  | tup cells vs hl hv ih => exact .tup _ _ hl ih
  | fn f cells vs hl hv ih => exact .fn _ _ _ hl ih
  | ref b g off sz len A c hn hb hg hv =>
    refine .ref _ _ _ _ _ _ _ hn (by rw [ha.1]; exact hb) (gg b g hg) fun hl => ?_
    rcases hv (lv b g hl) with hz | ⟨hA, hle, ⟨bk0, q0, hne⟩, hcs⟩
    · exact .inl hz
    · obtain ⟨bk', q1, q2⟩ := hl
      obtain ⟨bk, p1, p2, p3⟩ := ha.2 b bk' q1
      rw [p1] at q0
      obtain rfl := Option.some.inj (Option.some.inj q0)
      exact .inr ⟨hA, hle, ⟨bk', q1, fun e => hne (p3.mpr e)⟩, hcs⟩
  | ptr b g off A hb hg hv => exact .ptr _ _ _ _ (by rw [ha.1]; exact hb) (gg b g hg) fun hl => hv (lv b g hl)
  | pin cells blk off hv => exact .pin _ _ _ (hv.mono (Nat.le_refl _) oo)

section
variable {P : Program} {G : Nat → Option (List PV)} {h0 : Heap} {s : St}

theorem alike_set {h : Heap} {b j : Nat} {bk : Blk} {x' : AV} (hb : h[b]? = some (some bk)) : Alike h (h.set b (some ⟨bk.g, bk.cells.set j x'⟩)) := by
  refine ⟨by simp, fun c bk' hc => ?_⟩
  rw [List.getElem?_set] at hc
  split at hc
  · rename_i e; subst e
    split at hc
    · obtain rfl := Option.some.inj (Option.some.inj hc)
      exact ⟨bk, hb, rfl, by simp only [← List.length_eq_zero_iff, List.length_set]⟩
    · cases hc
  · exact ⟨bk', hc, rfl, Iff.rfl⟩

/-- A cell of a block is told otherwise. -/
theorem Ghost.cell {b j : Nat} {bk : Blk} {x x' : AV} (hb : s.heap[b]? = some (some bk)) (hx : bk.cells[j]? = some x) (hv : ∀ ι w v, VRel ι s.heap w x v → VRel ι s.heap w x' v) (hbl : h0.length ≤ b) :
    Ghost P G h0 s ⟨s.fr, s.nt, s.heap.set b (some ⟨bk.g, bk.cells.set j x'⟩)⟩ := by
  intro ι a w ι0 w0 hS hs he
  have ha := alike_set (j := j) (x' := x') hb
  have hlo : ∀ (c : Nat) (bk' : Blk), (s.heap.set b (some ⟨bk.g, bk.cells.set j x'⟩))[c]? = some (some bk') → (c = b ∧ bk' = ⟨bk.g, bk.cells.set j x'⟩) ∨ s.heap[c]? = some (some bk') := by
    intro c bk' hc
    rw [List.getElem?_set] at hc
    split at hc
    · rename_i e
      split at hc
      · exact .inl ⟨e.symm, (Option.some.inj (Option.some.inj hc)).symm⟩
      · cases hc
    · exact .inr hc
  have oo : ∀ k, k < w.heap.size → ¬ own ι s.heap k → w.heap[k]? = w.heap[k]? ∧ ¬ own ι (s.heap.set b (some ⟨bk.g, bk.cells.set j x'⟩)) k := fun k _ ho => ⟨rfl, fun e => ho (own_alike ha e)⟩
  refine ⟨ι, ⟨⟨⟨fun c bk' hc hne => ?_, fun c c' k k' q1 q2 n1 n2 e => ?_⟩, fun g cells hg => (hs.hS.gr g cells hg).mono (Nat.le_refl _) oo⟩, fun k y hy => ?_, hs.nt, hs.df⟩, ?_⟩
  · rcases hlo c bk' hc with ⟨rfl, rfl⟩ | hc
    · have hne' : bk.cells ≠ [] := by
        intro e
        rw [e] at hx; simp at hx
      obtain ⟨cs, ty, p1, p2, p3⟩ := hs.hS.hr.blk c bk hb hne'
      refine ⟨cs, ty, p1, by simpa using p2, fun i y hy => ?_⟩
      simp only [List.getElem?_set] at hy
      split at hy
      · rename_i e; subst e
        split at hy
        · cases hy
          obtain ⟨v, r1, r2⟩ := p3 j x hx
          exact ⟨v, r1, (hv ι w v r2).alike ha⟩
        · cases hy
      · obtain ⟨v, r1, r2⟩ := p3 i y hy
        exact ⟨v, r1, r2.alike ha⟩
    · obtain ⟨cs, ty, p1, p2, p3⟩ := hs.hS.hr.blk c bk' hc hne
      exact ⟨cs, ty, p1, p2, fun i y hy => by obtain ⟨v, r1, r2⟩ := p3 i y hy; exact ⟨v, r1, r2.alike ha⟩⟩
  · obtain ⟨k0, p1, p2, p3⟩ := ha.2 c k q1
    obtain ⟨k1, r1, r2, r3⟩ := ha.2 c' k' q2
    exact hs.hS.hr.inj c c' k0 k1 p1 r1 (fun e => n1 (p3.mp e)) (fun e => n2 (r3.mp e)) e
  · obtain ⟨v, p1, p2⟩ := hs.fr k y hy
    exact ⟨v, p1, p2.alike ha⟩
  · refine ⟨he.size, fun k hk ho => ⟨(he.keep k hk ho).1, fun e => (he.keep k hk ho).2 (own_alike ha e)⟩, by rw [ha.1]; exact he.len, fun c bk' hc hq => ?_, he.os, he.output, he.tape⟩
    rcases hlo c bk' hq with ⟨rfl, _⟩ | hq
    · omega
    · exact he.gens c bk' hc hq

/-- A nil slice in a cell is told as a block of ours that is still empty. -/
theorem Ghost.adoptCell {b j : Nat} {bk : Blk} (sz : Nat) (hb : s.heap[b]? = some (some bk)) (hx : bk.cells[j]? = some (.p .nils)) (hbl : h0.length ≤ b) :
    Ghost P G h0 s ⟨s.fr, s.nt, (s.heap ++ [some ⟨0, []⟩] : Heap).set b (some ⟨bk.g, bk.cells.set j (.ref s.heap.length 0 0 sz 0)⟩)⟩ := by
  have hlt : b < s.heap.length := getElem?_lt hb
  refine (Ghost.lay (s := s)).trans (Ghost.cell (s := (⟨s.fr, s.nt, s.heap ++ [some ⟨0, []⟩]⟩ : St)) (b := b) (j := j) (bk := bk) (by rw [List.getElem?_append_left hlt]; exact hb) hx (fun ι w v hv => ?_) hbl)
  have := hv.nils_inv; subst this
  exact VRel.ref _ _ _ _ _ none 0 (by omega) (by simp) (fun bk hq => Nat.zero_le _) fun _ => Or.inl ⟨rfl, rfl⟩
end

/-! ### Rows -/

def flatE {α : Type} (e : α → List PV) (l : List α) : List PV := l.flatMap e

theorem flatE_len {α : Type} {e : α → List PV} {sz : Nat} (he : ∀ a, (e a).length = sz) : ∀ l : List α, (flatE e l).length = l.length * sz
  | [] => by simp [flatE]
  | x :: r => by
    have := flatE_len he r
    unfold flatE at this ⊢
    rw [List.flatMap_cons, List.length_append, this, he, List.length_cons, Nat.add_mul]; omega
theorem flatE_app {α : Type} (e : α → List PV) (l : List α) (a : α) : flatE e (l ++ [a]) = flatE e l ++ e a := by
  unfold flatE; rw [List.flatMap_append]; simp
theorem chunk_rowsE {α : Type} {e : α → List PV} {sz : Nat} (he : ∀ a, (e a).length = sz) : ∀ l : List α, chunk sz l.length (flatE e l) = l.map e
  | [] => rfl
  | x :: r => by
    have := chunk_rowsE he r
    have e1 : flatE e (x :: r) = e x ++ flatE e r := rfl
    rw [List.length_cons, chunk, e1, List.take_left' (he x), List.drop_left' (he x), this]; rfl
theorem purs_p (h : Heap) (n fuel : Nat) : ∀ l : List PV, (∀ x ∈ l, x ≠ .nils) → purs h n fuel (l.map AV.p) = some l
  | [], _ => by unfold purs; rfl
  | x :: r, hx => by
    have ih := purs_p h n fuel r fun y hy => hx y (by simp [hy])
    have h0 := hx x (by simp)
    simp only [List.map_cons]
    unfold purs
    rw [ih]
    have : pur h n fuel (AV.p x) = some x := by
      cases x with
      | nils => exact absurd rfl h0
      | _ => unfold pur; rfl
    rw [this]
theorem avlts_p (m : Nat) (l : List PV) : avlts m (l.map AV.p) := by
  induction l with
  | nil => trivial
  | cons x r ih => exact ⟨trivial, ih⟩

theorem pur_rows {α : Type} {e : α → List PV} {sz : Nat} (he : ∀ a, (e a).length = sz) (hz : ∀ a, ∀ x ∈ e a, x ≠ .nils) {h : Heap} {n fuel b g m : Nat} {l : List α} (hm : m = l.length) (hb : blkAt h b g = some ((flatE e l).map AV.p)) (hn : n ≤ b) :
    pur h n (fuel + 1) (.ref b g 0 sz m) = some (.sl (l.map e)) := by
  subst hm
  unfold pur
  by_cases h0 : l.length = 0
  · rw [if_pos h0]; have := List.eq_nil_of_length_eq_zero h0; subst this; rfl
  · rw [if_neg h0, hb]
    simp only [hn, true_and, Nat.zero_add, List.length_map, flatE_len he, Nat.le_refl, if_true, List.drop_zero]
    rw [List.take_of_length_le (by rw [List.length_map, flatE_len he]; exact Nat.le_refl _), purs_p _ _ _ _ (fun x hx => by
      unfold flatE at hx
      obtain ⟨a, _, ha⟩ := List.mem_flatMap.mp hx
      exact hz a x ha)]
    simp only [Option.map_some, chunk_rowsE he]

theorem EndP_rows {α : Type} {e : α → List PV} {sz : Nat} (he : ∀ a, (e a).length = sz) (hz : ∀ a, ∀ x ∈ e a, x ≠ .nils) {P : Program} {h : Heap} {K : AV → Prop} {x : Exit} {s : St} (hx : x = .normal ∨ x = .ret) {t b g m : Nat} {l : List α} (hm : m = l.length) (hf : s.fr t = some (.ref b g 0 sz m))
    (hb : blkAt s.heap b g = some ((flatE e l).map AV.p)) (hn : h.length ≤ b) (ht : s.heap.take h.length = h) (hle : h.length ≤ s.heap.length) (hk : K (.p (.sl (l.map e)))) : EndP P [.tmp t] h K x s := by
  have key : FinP P [.tmp t] h K s := by
    unfold FinP
    simp only [resA, resL, resA1, hf, lastV, lastA, pur_rows he hz hm hb hn, Option.map_some]
    exact ⟨ht, hle, hk⟩
  rcases hx with rfl | rfl <;> exact key

theorem EndP_rows2 {α : Type} {e : α → List PV} {sz : Nat} (he : ∀ a, (e a).length = sz) (hz : ∀ a, ∀ x ∈ e a, x ≠ .nils) {P : Program} {h : Heap} {K : AV → Prop} {x : Exit} {s : St} (hx : x = .normal ∨ x = .ret) {t t2 b g m : Nat} {l : List α} {y : Int} (hm : m = l.length) (hf : s.fr t = some (.ref b g 0 sz m)) (hf2 : s.fr t2 = some (.i y))
    (hb : blkAt s.heap b g = some ((flatE e l).map AV.p)) (hn : h.length ≤ b) (ht : s.heap.take h.length = h) (hle : h.length ≤ s.heap.length) (hk : K (.tup [.p (.sl (l.map e)), .i y])) : EndP P [.tmp t, .tmp t2] h K x s := by
  have key : FinP P [.tmp t, .tmp t2] h K s := by
    unfold FinP
    simp only [resA, resL, resA1, hf, hf2, lastV, lastAs, lastA, pur_rows he hz hm hb hn, pur, Option.map_some]
    exact ⟨ht, hle, hk⟩
  rcases hx with rfl | rfl <;> exact key

theorem FinK_tmp {P : Program} {h : Heap} {K : AV → Heap → Prop} {s : St} {t : Nat} {v : AV} (hf : s.fr t = some v) (hl : h.length ≤ s.heap.length) (hk : K v s.heap) : FinK P [.tmp t] h K s := by
  unfold FinK
  refine ⟨hl, ?_⟩
  simp only [resA, resL, resA1, hf]
  exact hk
theorem FinK_none {P : Program} {h : Heap} {K : AV → Heap → Prop} {s : St} (hl : h.length ≤ s.heap.length) (hk : K .undef s.heap) : FinK P [] h K s := by
  unfold FinK
  refine ⟨hl, ?_⟩
  simp only [resA, resL, resA1]
  exact hk
end Go.Proofs.YtlophgkgmhcagaaDoor.AM
end

section
set_option linter.unusedVariables false
set_option linter.unusedSimpArgs false
set_option maxRecDepth 4000
set_option maxHeartbeats 4000000
namespace Go.Proofs.YtlophgkgmhcagaaDoor.AM
open Go Go.Proofs
attribute [local irreducible] awp aops aqops aeops arun
variable {G : Nat → Option (List PV)}

def eQ (q : Int × Int) : List PV := [.int .i64 q.1, .int .i64 q.2]
abbrev aQ (l : List (Int × Int)) : AV := .p (.sl (l.map eQ))
def flatQ (l : List (Int × Int)) : List Int := l.flatMap fun q => [q.1, q.2]

theorem flatQ_len : ∀ l : List (Int × Int), (flatQ l).length = l.length * 2
  | [] => rfl
  | x :: r => by
    have := flatQ_len r
    unfold flatQ at this ⊢
    rw [List.flatMap_cons, List.length_append, this, List.length_cons]; simp only [List.length_cons, List.length_nil]; omega
theorem flatQ_app (l : List (Int × Int)) (a b : Int) : flatQ (l ++ [(a, b)]) = flatQ l ++ [a, b] := by
  unfold flatQ; rw [List.flatMap_append]; rfl

theorem chunk_pairs : ∀ l : List (Int × Int), chunk 2 l.length ((flatQ l).map (PV.int .i64)) = l.map eQ
  | [] => rfl
  | x :: r => by
    have := chunk_pairs r
    show chunk 2 (r.length + 1) ((flatQ (x :: r)).map (PV.int .i64)) = eQ x :: r.map eQ
    have e : flatQ (x :: r) = x.1 :: x.2 :: flatQ r := rfl
    rw [e, ← this]
    rfl

theorem pur_pairs {h : Heap} {n fuel b g m : Nat} {l : List (Int × Int)} (hm : m = l.length) (hb : blkAt h b g = some ((flatQ l).map AV.i)) (hn : n ≤ b) : pur h n (fuel + 1) (.ref b g 0 2 m) = some (.sl (l.map eQ)) := by
  subst hm
  unfold pur
  by_cases h0 : l.length = 0
  · rw [if_pos h0]; have := List.eq_nil_of_length_eq_zero h0; subst this; rfl
  · rw [if_neg h0, hb]
    simp only [hn, true_and, Nat.zero_add, List.length_map, flatQ_len, Nat.le_refl, if_true, List.drop_zero]
    rw [List.take_of_length_le (by rw [List.length_map, flatQ_len]; exact Nat.le_refl _), purs_ints]
    simp only [Option.map_some, chunk_pairs]

/-- All numbers below one at which something is wrong. -/
def plF (rule : Int) (p : Nat → Bool) (n : Nat) : List (Int × Int) := ((List.range n).filter p).map fun (i : Nat) => (rule, (i : Int))

theorem plF_succ (rule : Int) (p : Nat → Bool) (n : Nat) : plF rule p (n + 1) = plF rule p n ++ (if p n = true then [(rule, (n : Int))] else []) := by
  unfold plF
  rw [List.range_succ, List.filter_append, List.map_append]
  congr 1
  cases h : p n <;> simp [h]
theorem plF_le (rule : Int) (p : Nat → Bool) (n : Nat) : (plF rule p n).length ≤ n := by
  unfold plF
  rw [List.length_map]
  exact Nat.le_trans (List.length_filter_le _ _) (by simp)
theorem plF_head (rule : Int) (p : Nat → Bool) (n : Nat) : (plF rule p n).head? = ((List.range n).find? p).map fun (i : Nat) => (rule, (i : Int)) := by
  unfold plF
  rw [List.head?_map, List.head?_filter]

theorem nextK {n i : Nat} (hk : n ≤ 1000) (h : i < n) : IntKind.i64.wrap ((i : Int) + 1) = ((i + 1 : Nat) : Int) := by rw [IntWalk.i64_in _ (by omega)]; omega
theorem hitK {n i : Nat} (h : i < n) : decide ((i : Int) < (n : Int)) = true := by simp; omega
theorem endK {n : Nat} : decide ((n : Int) < (n : Int)) = false := by simp

theorem places_calls {f : FuncId} (hE : Enters Tryd.prog f) {caps : List AV} {p : Nat → Bool} (rule : Int) (n : Nat) (hn : n ≤ 100) (h : Heap) (hcap : avlts h.length caps)
    (hc : ∀ L, ∀ i : Nat, i < n → ACalls Tryd.prog G f (.i i :: caps) (h ++ L) (fun r h' => r = .b (p i) ∧ h' = h ++ L)) :
    ACalls Tryd.prog G 54 [.i rule, .i n, .fn f caps] h (fun r h' => r = .ref h.length (plF rule p n).length 0 2 (plF rule p n).length ∧ h' = h ++ [some ⟨(plF rule p n).length, (flatQ (plF rule p n)).map AV.i⟩]) := by
  refine Sim.evoKeep (rl := []) mixed Tryd.func54 rfl (by rw [Tryd.ntmps54]; simp) ?_
  rw [Tryd.ntmps54]
  refine awp_seq_k fun K hK => ?_
  repeat' (first | ((first | refine aops_nil ?_ | refine aqops_nil ?_); (try simp only [NB]); ((repeat ((fail_if_success (refine hK _ ?_)); clear hK K)); refine hK _ ?_; clear hK K)) | ((first | refine aops_k fun K1 hK1 => ?_ | refine aqops_k fun K1 hK1 => ?_ | refine awp_cond_k fun A B hA hB => ?_); simp only [S1, simprocAttr, T2, T3, T4, T22, T23, T25, T35, T51, T53, T55, T58, T83, T92, T101, T103]; first | (refine hK1 _ ?_; clear hK1 K1) | ((first | refine hA ?_ | refine hB ?_); clear hA hB A B) | (refine join_x (v := ?_) (fun hg hk9 => ?_) ?_; rotate_left; (focus (try ((try simp only [BN] at hg); simp only [S1, simprocAttr, T2, T3, T4, T22, T23, T25, T35, T51, T53, T55, T58, T83, T92, T101, T103, hg] at hk9 ⊢)); first | exact hk9); (refine hK1 _ ?_; clear hK1 K1)) | (((first | (refine ⟨fun hg => hA ?_, fun hg => hB ?_⟩ <;> clear hA hB A B) | refine ⟨fun hg => ?_, fun hg => ?_⟩) <;> (try simp only [BN2] at hg) <;> (try simp only [hg, cond_true, cond_false])) <;> (try (refine hK1 _ ?_; clear hK1 K1)) <;> (try simp only [BN3] at hg))) | (fail) | ((first | refine awp_region ?_ | refine awp_draw (by kernel_rfl) ?_ | refine awp_block ?_ | refine awp_exit ?_ | refine awp_skip ?_ | refine awp_ret ?_); (try simp only [NB, simprocAttr]); (try ((repeat ((fail_if_success (refine hK _ ?_)); clear hK K)); refine hK _ ?_; clear hK K))))
  refine awp_seq_k fun K hK => ?_
  repeat' (first | ((first | refine aops_nil ?_ | refine aqops_nil ?_); (try simp only [NB]); ((repeat ((fail_if_success (refine hK _ ?_)); clear hK K)); refine hK _ ?_; clear hK K)) | ((first | refine aops_k fun K1 hK1 => ?_ | refine aqops_k fun K1 hK1 => ?_ | refine awp_cond_k fun A B hA hB => ?_); simp only [S1, simprocAttr, T2, T3, T4, T22, T23, T25, T35, T51, T53, T55, T58, T83, T92, T101, T103]; first | (refine hK1 _ ?_; clear hK1 K1) | ((first | refine hA ?_ | refine hB ?_); clear hA hB A B) | (refine join_x (v := ?_) (fun hg hk9 => ?_) ?_; rotate_left; (focus (try ((try simp only [BN] at hg); simp only [S1, simprocAttr, T2, T3, T4, T22, T23, T25, T35, T51, T53, T55, T58, T83, T92, T101, T103, hg] at hk9 ⊢)); first | exact hk9); (refine hK1 _ ?_; clear hK1 K1)) | (((first | (refine ⟨fun hg => hA ?_, fun hg => hB ?_⟩ <;> clear hA hB A B) | refine ⟨fun hg => ?_, fun hg => ?_⟩) <;> (try simp only [BN2] at hg) <;> (try simp only [hg, cond_true, cond_false])) <;> (try (refine hK1 _ ?_; clear hK1 K1)) <;> (try simp only [BN3] at hg))) | (fail) | ((first | refine awp_region ?_ | refine awp_draw (by kernel_rfl) ?_ | refine awp_block ?_ | refine awp_exit ?_ | refine awp_skip ?_ | refine awp_ret ?_); (try simp only [NB, simprocAttr]); (try ((repeat ((fail_if_success (refine hK _ ?_)); clear hK K)); refine hK _ ?_; clear hK K))))
  refine awp_seq_k fun K hK => ?_
  repeat' (first | ((first | refine aops_nil ?_ | refine aqops_nil ?_); (try simp only [NB])) | ((repeat ((fail_if_success (refine hK _ ?_)); clear hK K)); refine hK _ ?_; clear hK K) | ((first | refine aops_k fun K1 hK1 => ?_ | refine aqops_k fun K1 hK1 => ?_ | refine awp_cond_k fun A B hA hB => ?_); simp only [S1, simprocAttr, T2, T3, T4, T22, T23, T25, T35, T51, T53, T55, T58, T83, T92, T101, T103]; first | (refine hK1 _ ?_; clear hK1 K1) | ((first | refine hA ?_ | refine hB ?_); clear hA hB A B) | (refine join_x (v := ?_) (fun hg hk9 => ?_) ?_; rotate_left; (focus (try ((try simp only [BN] at hg); simp only [S1, simprocAttr, T2, T3, T4, T22, T23, T25, T35, T51, T53, T55, T58, T83, T92, T101, T103, hg] at hk9 ⊢)); first | exact hk9); (refine hK1 _ ?_; clear hK1 K1)) | (((first | (refine ⟨fun hg => hA ?_, fun hg => hB ?_⟩ <;> clear hA hB A B) | refine ⟨fun hg => ?_, fun hg => ?_⟩) <;> (try simp only [BN2] at hg) <;> (try simp only [hg, cond_true, cond_false])) <;> (try (refine hK1 _ ?_; clear hK1 K1)) <;> (try simp only [BN3] at hg))) | (refine awp_seq_k fun K hK => ?_) | ((first | refine awp_region ?_ | refine awp_draw (by kernel_rfl) ?_ | refine awp_block ?_ | refine awp_exit ?_ | refine awp_skip ?_ | refine awp_ret ?_); (try simp only [NB, simprocAttr])))
  have hcap1 := avlts_mono (Nat.le_add_right h.length 1) caps hcap
  refine awp_forG n 24 (fun j => [(10, .i j), (9, .i n), (7, .ref h.length (plF rule p j).length 0 2 (plF rule p j).length), (2, .fn f caps), (0, .i rule)])
    (fun j => [some ⟨(plF rule p j).length, (flatQ (plF rule p j)).map AV.i⟩]) (fun j => True) ?_ trivial fun j hj hp K hK => ?_
  · refine (Ghost.adopt 7 2 rfl).trans (Sub.ghost ⟨rfl, ⟨[], by simp [plF, flatQ]⟩, ?_, ?_⟩)
    · simp only [keeps, avlt, plF, upd_get, frL, List.length_cons, List.length_nil]
      simp
      exact hcap1
    · simp [blksLt, avlts, avlt, plF, flatQ]
  rcases Nat.lt_or_ge j n with hlt | hge
  · have hck := fun L => hc L j hlt
    have hle := plF_le rule p j
    have hmax : (plF rule p j).length + 1 ≤ maxCount := by unfold maxCount; omega
    have e1 := plF_succ rule p j
    cases hq : p j with
    | false =>
      rw [hq] at hck
      rw [hq, if_neg (by decide), List.append_nil] at e1
      repeat' (first | ((first | refine aops_nil ?_ | refine aqops_nil ?_); (try simp only [NB])) | ((repeat ((fail_if_success (refine hK _ ?_)); clear hK K)); refine hK _ ?_; clear hK K) | ((first | refine aops_k fun K1 hK1 => ?_ | refine aqops_k fun K1 hK1 => ?_ | refine awp_cond_k fun A B hA hB => ?_); simp only [S1, simprocAttr, T2, T3, T4, T22, T23, T25, T35, T51, T53, T55, T58, T83, T92, T101, T103, hitK hlt, nextK (by omega : n ≤ 1000) hlt]; first | (refine hK1 _ ?_; clear hK1 K1) | ((first | refine hA ?_ | refine hB ?_); clear hA hB A B) | ((first | apply call_a hE | apply call_q hE); exact (hck _); (refine hK1 _ ?_; clear hK1 K1)) | (refine join_x (v := ?_) (fun hg hk9 => ?_) ?_; rotate_left; (focus (try ((try simp only [BN] at hg); simp only [S1, simprocAttr, T2, T3, T4, T22, T23, T25, T35, T51, T53, T55, T58, T83, T92, T101, T103, hitK hlt, nextK (by omega : n ≤ 1000) hlt, hg] at hk9 ⊢)); first | exact hk9 | ((first | apply call_a hE | apply call_q hE); exact (hck _); exact hk9)); (refine hK1 _ ?_; clear hK1 K1)) | (((first | (refine ⟨fun hg => hA ?_, fun hg => hB ?_⟩ <;> clear hA hB A B) | refine ⟨fun hg => ?_, fun hg => ?_⟩) <;> (try simp only [BN2] at hg) <;> (try simp only [hg, cond_true, cond_false])) <;> (try (refine hK1 _ ?_; clear hK1 K1)) <;> (try simp only [BN3] at hg))) | (refine awp_seq_k fun K hK => ?_) | ((first | refine awp_region ?_ | refine awp_draw (by kernel_rfl) ?_ | refine awp_block ?_ | refine awp_exit ?_ | refine awp_skip ?_ | refine awp_ret ?_); (try simp only [NB, simprocAttr])))
      all_goals refine ⟨hlt, trivial, ?_⟩
      all_goals simp only [e1]
      all_goals refine ⟨rfl, ⟨_, rfl⟩, ?_, avlts_ints _ _, trivial⟩
      all_goals simp only [keeps, avlt, avlts, blksLt, frL, upd_get, S1, simprocAttr, List.length_map, Int.natCast_zero, AV.p.injEq, PV.int.injEq, PV.bool.injEq, PV.sl.injEq] <;> (try and_intros) <;> (try assumption) <;> (try trivial) <;> (try omega)
    | true =>
      rw [hq] at hck
      rw [hq, if_pos rfl] at e1
      repeat' (first | ((first | refine aops_nil ?_ | refine aqops_nil ?_); (try simp only [NB])) | ((repeat ((fail_if_success (refine hK _ ?_)); clear hK K)); refine hK _ ?_; clear hK K) | ((first | refine aops_k fun K1 hK1 => ?_ | refine aqops_k fun K1 hK1 => ?_ | refine awp_cond_k fun A B hA hB => ?_); simp only [S1, simprocAttr, T2, T3, T4, T22, T23, T25, T35, T51, T53, T55, T58, T83, T92, T101, T103, hitK hlt, nextK (by omega : n ≤ 1000) hlt, flatQ_len, hmax, List.length_map, Nat.mul_one, Nat.zero_add]; first | (refine hK1 _ ?_; clear hK1 K1) | ((first | refine hA ?_ | refine hB ?_); clear hA hB A B) | ((first | apply call_a hE | apply call_q hE); exact (hck _); (refine hK1 _ ?_; clear hK1 K1)) | (refine join_x (v := ?_) (fun hg hk9 => ?_) ?_; rotate_left; (focus (try ((try simp only [BN] at hg); simp only [S1, simprocAttr, T2, T3, T4, T22, T23, T25, T35, T51, T53, T55, T58, T83, T92, T101, T103, hitK hlt, nextK (by omega : n ≤ 1000) hlt, flatQ_len, hmax, List.length_map, Nat.mul_one, Nat.zero_add, hg] at hk9 ⊢)); first | exact hk9 | ((first | apply call_a hE | apply call_q hE); exact (hck _); exact hk9)); (refine hK1 _ ?_; clear hK1 K1)) | (((first | (refine ⟨fun hg => hA ?_, fun hg => hB ?_⟩ <;> clear hA hB A B) | refine ⟨fun hg => ?_, fun hg => ?_⟩) <;> (try simp only [BN2] at hg) <;> (try simp only [hg, cond_true, cond_false])) <;> (try (refine hK1 _ ?_; clear hK1 K1)) <;> (try simp only [BN3] at hg))) | (refine awp_seq_k fun K hK => ?_) | ((first | refine awp_region ?_ | refine awp_draw (by kernel_rfl) ?_ | refine awp_block ?_ | refine awp_exit ?_ | refine awp_skip ?_ | refine awp_ret ?_); (try simp only [NB, simprocAttr])))
      all_goals refine ⟨hlt, trivial, ?_⟩
      all_goals simp only [e1, flatQ_app, List.length_append, List.map_append, List.length_cons, List.length_nil, List.map_cons, List.map_nil, Nat.zero_add]
      all_goals refine ⟨rfl, ⟨_, rfl⟩, ?_, ?_⟩
      · simp only [keeps, avlt, avlts, blksLt, frL, upd_get, S1, simprocAttr, List.length_map, Int.natCast_zero, AV.p.injEq, PV.int.injEq, PV.bool.injEq, PV.sl.injEq] <;> (try and_intros) <;> (try assumption) <;> (try trivial) <;> (try omega)
      · simp only [blksLt]; exact ⟨(by have := avlts_ints (h.length + 1) (flatQ (plF rule p j) ++ [rule, (j : Int)]); simpa using this), trivial⟩
  · obtain rfl : j = n := by omega
    repeat' (first | ((first | refine aops_nil ?_ | refine aqops_nil ?_); (try simp only [NB])) | ((repeat ((fail_if_success (refine hK _ ?_)); clear hK K)); refine hK _ ?_; clear hK K) | ((first | refine aops_k fun K1 hK1 => ?_ | refine aqops_k fun K1 hK1 => ?_ | refine awp_cond_k fun A B hA hB => ?_); simp only [S1, simprocAttr, T2, T3, T4, T22, T23, T25, T35, T51, T53, T55, T58, T83, T92, T101, T103, endK]; first | (refine hK1 _ ?_; clear hK1 K1) | ((first | refine hA ?_ | refine hB ?_); clear hA hB A B) | (refine join_x (v := ?_) (fun hg hk9 => ?_) ?_; rotate_left; (focus (try ((try simp only [BN] at hg); simp only [S1, simprocAttr, T2, T3, T4, T22, T23, T25, T35, T51, T53, T55, T58, T83, T92, T101, T103, endK, hg] at hk9 ⊢)); first | exact hk9); (refine hK1 _ ?_; clear hK1 K1)) | (((first | (refine ⟨fun hg => hA ?_, fun hg => hB ?_⟩ <;> clear hA hB A B) | refine ⟨fun hg => ?_, fun hg => ?_⟩) <;> (try simp only [BN2] at hg) <;> (try simp only [hg, cond_true, cond_false])) <;> (try (refine hK1 _ ?_; clear hK1 K1)) <;> (try simp only [BN3] at hg))) | (refine awp_seq_k fun K hK => ?_) | ((first | refine awp_region ?_ | refine awp_draw (by kernel_rfl) ?_ | refine awp_block ?_ | refine awp_exit ?_ | refine awp_skip ?_ | refine awp_ret ?_); (try simp only [NB, simprocAttr])))
    exact ⟨.inr trivial, FinK_tmp (t := 6) rfl (by simp) ⟨rfl, rfl⟩⟩
end Go.Proofs.YtlophgkgmhcagaaDoor.AM
end

section
set_option linter.unusedVariables false
set_option linter.unusedSimpArgs false
set_option maxRecDepth 4000
set_option maxHeartbeats 4000000
namespace Go.Proofs.YtlophgkgmhcagaaDoor.AM
open Go Go.Proofs
attribute [local irreducible] awp aops aqops aeops arun
variable {G : Nat → Option (List PV)}

/-- A process whose terms are gone through. -/
structure NetOk (ns : List Nd) (fl : List Fl) : Prop where
  n : ns.length ≤ 100
  f : fl.length ≤ 100
  tn : ∃ m, m ≤ 200 ∧ ∀ k ∈ ns, Tm.Ok m k.term
  tf : ∃ m, m ≤ 200 ∧ ∀ k ∈ fl, Tm.Ok m k.cond

def bad1 (ns : List Nd) (i : Nat) : Bool := match ns[i]? with | some k => !(oneB k.kind k.a k.term) | none => false
def bad2 (ns : List Nd) (fl : List Fl) (i : Nat) : Bool := match fl[i]? with | some f => !(twoB ns fl f) | none => false
def bad3 (ns : List Nd) (fl : List Fl) (i : Nat) : Bool := (!(threeB ns fl i) || (kindAt ns i == 1 && ((i : Int) != firstN ns 1))) || (kindAt ns i == 2 && ((i : Int) != firstN ns 2))
noncomputable def bad4 (ns : List Nd) (fl : List Fl) (i : Nat) : Bool :=
  !((rchL (edgeB false fl) ns.length (firstN ns 1).toNat)[i]?.getD false) || !((rchL (edgeB true fl) ns.length (firstN ns 2).toNat)[i]?.getD false)

theorem all1_calls (ns : List Nd) (fl : List Fl) (ok : NetOk ns fl) (i : Nat) (hi : i < ns.length) (H : Heap) {b g : Nat} (hb : H[b]? = some (some ⟨g, cNet ns fl⟩)) : ACalls Tryd.prog gW 55 [.i i, .ptr b g 0] H (fun r h' => r = .b (bad1 ns i) ∧ h' = H) := by
  obtain ⟨k, hk⟩ : ∃ k, ns[i]? = some k := ⟨_, List.getElem?_eq_getElem hi⟩
  obtain ⟨m, hm, ht⟩ := ok.tn
  have hk' := rowN hk
  have i0 : (0 : Int) ≤ (i : Int) := by omega
  have e : bad1 ns i = !(oneB k.kind k.a k.term) := by unfold bad1; rw [hk]
  rw [e]
  refine acalls_pure (rl := []) mixed Tryd.func55 rfl (rs := [.tmp 3]) rfl Tryd.ntmps55 (by simp) ?_
  repeat' (first | ((first | refine aops_nil ?_ | refine aqops_nil ?_); (try simp only [NB])) | ((repeat ((fail_if_success (refine hK _ ?_)); clear hK K)); refine hK _ ?_; clear hK K) | ((first | refine aops_k fun K1 hK1 => ?_ | refine aqops_k fun K1 hK1 => ?_ | refine awp_cond_k fun A B hA hB => ?_); simp only [S1, simprocAttr, T2, T3, T4, T22, T23, T25, T35, T51, T53, T55, T58, T83, T92, T101, T103, hb, app_get hb, i0, hk', eN, Int.toNat_natCast]; first | (refine hK1 _ ?_; clear hK1 K1) | ((first | refine hA ?_ | refine hB ?_); clear hA hB A B) | ((first | apply call_a E56 | apply call_q E56); exact (right_calls (ht k (List.mem_of_getElem? hk)) _ _ _); (refine hK1 _ ?_; clear hK1 K1)) | (refine join_x (v := ?_) (fun hg hk9 => ?_) ?_; rotate_left; (focus (try ((try simp only [BN] at hg); simp only [S1, simprocAttr, T2, T3, T4, T22, T23, T25, T35, T51, T53, T55, T58, T83, T92, T101, T103, hb, app_get hb, i0, hk', eN, Int.toNat_natCast, hg] at hk9 ⊢)); first | exact hk9 | ((first | apply call_a E56 | apply call_q E56); exact (right_calls (ht k (List.mem_of_getElem? hk)) _ _ _); exact hk9)); (refine hK1 _ ?_; clear hK1 K1)) | (((first | (refine ⟨fun hg => hA ?_, fun hg => hB ?_⟩ <;> clear hA hB A B) | refine ⟨fun hg => ?_, fun hg => ?_⟩) <;> (try simp only [BN2] at hg) <;> (try simp only [hg, cond_true, cond_false])) <;> (try (refine hK1 _ ?_; clear hK1 K1)) <;> (try simp only [BN3] at hg))) | (refine awp_seq_k fun K hK => ?_) | ((first | refine awp_region ?_ | refine awp_draw (by kernel_rfl) ?_ | refine awp_block ?_ | refine awp_exit ?_ | refine awp_skip ?_ | refine awp_ret ?_); (try simp only [NB, simprocAttr])))
  all_goals simp only [EndP, FinP, resA, resL, resA1, lastV, lastA, lastAs, pur, purs, take_app, List.take_length, S1, simprocAttr, T2, T3, T4, T22, T23, T25, T35, T51, T53, T55, T58, T83, T92, T101, T103, Nat.le_add_right, Nat.le_refl]

theorem all2_calls (ns : List Nd) (fl : List Fl) (ok : NetOk ns fl) (i : Nat) (hi : i < fl.length) (H : Heap) {b g : Nat} (hb : H[b]? = some (some ⟨g, cNet ns fl⟩)) : ACalls Tryd.prog gW 57 [.i i, .ptr b g 0] H (fun r h' => r = .b (bad2 ns fl i) ∧ h' = H) := by
  obtain ⟨k, hk⟩ : ∃ k, fl[i]? = some k := ⟨_, List.getElem?_eq_getElem hi⟩
  obtain ⟨m, hm, ht⟩ := ok.tf
  have hk' := rowF hk
  have i0 : (0 : Int) ≤ (i : Int) := by omega
  have e : bad2 ns fl i = !(twoB ns fl k) := by unfold bad2; rw [hk]
  rw [e]
  refine acalls_pure (rl := []) mixed Tryd.func57 rfl (rs := [.tmp 3]) rfl Tryd.ntmps57 (by simp) ?_
  repeat' (first | ((first | refine aops_nil ?_ | refine aqops_nil ?_); (try simp only [NB])) | ((repeat ((fail_if_success (refine hK _ ?_)); clear hK K)); refine hK _ ?_; clear hK K) | ((first | refine aops_k fun K1 hK1 => ?_ | refine aqops_k fun K1 hK1 => ?_ | refine awp_cond_k fun A B hA hB => ?_); simp only [S1, simprocAttr, T2, T3, T4, T22, T23, T25, T35, T51, T53, T55, T58, T83, T92, T101, T103, hb, app_get hb, i0, hk', eF, Int.toNat_natCast]; first | (refine hK1 _ ?_; clear hK1 K1) | ((first | refine hA ?_ | refine hB ?_); clear hA hB A B) | ((first | apply call_a E58 | apply call_q E58); exact (leads_calls ns ok.n fl ok.f k (ht k (List.mem_of_getElem? hk)) _); (refine hK1 _ ?_; clear hK1 K1)) | (refine join_x (v := ?_) (fun hg hk9 => ?_) ?_; rotate_left; (focus (try ((try simp only [BN] at hg); simp only [S1, simprocAttr, T2, T3, T4, T22, T23, T25, T35, T51, T53, T55, T58, T83, T92, T101, T103, hb, app_get hb, i0, hk', eF, Int.toNat_natCast, hg] at hk9 ⊢)); first | exact hk9 | ((first | apply call_a E58 | apply call_q E58); exact (leads_calls ns ok.n fl ok.f k (ht k (List.mem_of_getElem? hk)) _); exact hk9)); (refine hK1 _ ?_; clear hK1 K1)) | (((first | (refine ⟨fun hg => hA ?_, fun hg => hB ?_⟩ <;> clear hA hB A B) | refine ⟨fun hg => ?_, fun hg => ?_⟩) <;> (try simp only [BN2] at hg) <;> (try simp only [hg, cond_true, cond_false])) <;> (try (refine hK1 _ ?_; clear hK1 K1)) <;> (try simp only [BN3] at hg))) | (refine awp_seq_k fun K hK => ?_) | ((first | refine awp_region ?_ | refine awp_draw (by kernel_rfl) ?_ | refine awp_block ?_ | refine awp_exit ?_ | refine awp_skip ?_ | refine awp_ret ?_); (try simp only [NB, simprocAttr])))
  all_goals simp only [EndP, FinP, resA, resL, resA1, lastV, lastA, lastAs, pur, purs, take_app, List.take_length, S1, simprocAttr, T2, T3, T4, T22, T23, T25, T35, T51, T53, T55, T58, T83, T92, T101, T103, Nat.le_add_right, Nat.le_refl]

theorem third1_calls (ns : List Nd) (fl : List Fl) (ok : NetOk ns fl) (hd : InN ns.length fl) (i : Nat) (hi : i < ns.length) (H : Heap) {b g b1 g1 b2 g2 : Nat} (hb : H[b]? = some (some ⟨g, cNet ns fl⟩)) (hb1 : H[b1]? = some (some ⟨g1, [.i (firstN ns 1)]⟩)) (hb2 : H[b2]? = some (some ⟨g2, [.i (firstN ns 2)]⟩)) :
    ACalls Tryd.prog G 71 [.i i, .ptr b g 0, .ptr b1 g1 0, .ptr b2 g2 0] H (fun r h' => r = .b (bad3 ns fl i) ∧ h' = H) := by
  obtain ⟨k, hk⟩ : ∃ k, ns[i]? = some k := ⟨_, List.getElem?_eq_getElem hi⟩
  have hk' := rowN hk
  have i0 : (0 : Int) ≤ (i : Int) := by omega
  have e : kindAt ns i = k.kind := by unfold kindAt; rw [Int.toNat_natCast, hk]
  unfold bad3
  rw [e]
  refine acalls_pure (rl := []) mixed Tryd.func71 rfl (rs := [.tmp 5]) rfl Tryd.ntmps71 (by simp) ?_
  repeat' (first | ((first | refine aops_nil ?_ | refine aqops_nil ?_); (try simp only [NB])) | ((repeat ((fail_if_success (refine hK _ ?_)); clear hK K)); refine hK _ ?_; clear hK K) | ((first | refine aops_k fun K1 hK1 => ?_ | refine aqops_k fun K1 hK1 => ?_ | refine awp_cond_k fun A B hA hB => ?_); simp only [S1, simprocAttr, T2, T3, T4, T22, T23, T25, T35, T51, T53, T55, T58, T83, T92, T101, T103, hb, hb1, hb2, i0, hk', eN, Int.toNat_natCast]; first | (refine hK1 _ ?_; clear hK1 K1) | ((first | refine hA ?_ | refine hB ?_); clear hA hB A B) | ((first | apply call_a E72 | apply call_q E72); exact (linked_calls ns ok.n fl ok.f (fun f hf => (hd f hf).2) i i0 (by omega) _); (refine hK1 _ ?_; clear hK1 K1)) | (refine join_x (v := ?_) (fun hg hk9 => ?_) ?_; rotate_left; (focus (try ((try simp only [BN] at hg); simp only [S1, simprocAttr, T2, T3, T4, T22, T23, T25, T35, T51, T53, T55, T58, T83, T92, T101, T103, hb, hb1, hb2, i0, hk', eN, Int.toNat_natCast, hg] at hk9 ⊢)); first | exact hk9 | ((first | apply call_a E72 | apply call_q E72); exact (linked_calls ns ok.n fl ok.f (fun f hf => (hd f hf).2) i i0 (by omega) _); exact hk9)); (refine hK1 _ ?_; clear hK1 K1)) | (((first | (refine ⟨fun hg => hA ?_, fun hg => hB ?_⟩ <;> clear hA hB A B) | refine ⟨fun hg => ?_, fun hg => ?_⟩) <;> (try simp only [BN2] at hg) <;> (try simp only [hg, cond_true, cond_false])) <;> (try (refine hK1 _ ?_; clear hK1 K1)) <;> (try simp only [BN3] at hg))) | (refine awp_seq_k fun K hK => ?_) | ((first | refine awp_region ?_ | refine awp_draw (by kernel_rfl) ?_ | refine awp_block ?_ | refine awp_exit ?_ | refine awp_skip ?_ | refine awp_ret ?_); (try simp only [NB, simprocAttr])))
  all_goals simp only [EndP, FinP, resA, resL, resA1, lastV, lastA, lastAs, pur, purs, take_app, List.take_length, S1, simprocAttr, T2, T3, T4, T22, T23, T25, T35, T51, T53, T55, T58, T83, T92, T101, T103, Nat.le_add_right, Nat.le_refl]

theorem all3_calls (ns : List Nd) (fl : List Fl) (i : Nat) (hi : i < ns.length) (H : Heap) {b1 g1 b2 g2 : Nat} (hb1 : H[b1]? = some (some ⟨g1, [aB (rchL (edgeB false fl) ns.length (firstN ns 1).toNat)]⟩)) (hb2 : H[b2]? = some (some ⟨g2, [aB (rchL (edgeB true fl) ns.length (firstN ns 2).toNat)]⟩)) :
    ACalls Tryd.prog G 63 [.i i, .ptr b1 g1 0, .ptr b2 g2 0] H (fun r h' => r = .b (bad4 ns fl i) ∧ h' = H) := by
  have l1 := rchL_len (edgeB false fl) ns.length (firstN ns 1).toNat
  have l2 := rchL_len (edgeB true fl) ns.length (firstN ns 2).toNat
  have i0 : (0 : Int) ≤ (i : Int) := by omega
  unfold bad4
  generalize rchL (edgeB false fl) ns.length (firstN ns 1).toNat = a at *
  generalize rchL (edgeB true fl) ns.length (firstN ns 2).toNat = c at *
  obtain ⟨x, hx⟩ : ∃ x, a[i]? = some x := ⟨_, List.getElem?_eq_getElem (by omega)⟩
  obtain ⟨y, hy⟩ : ∃ x, c[i]? = some x := ⟨_, List.getElem?_eq_getElem (by omega)⟩
  have hx' : (a.map eB)[i]? = some [.bool x] := by simp [hx, eB]
  have hy' : (c.map eB)[i]? = some [.bool y] := by simp [hy, eB]
  rw [hx, hy]
  simp only [Option.getD_some]
  refine acalls_pure (rl := []) mixed Tryd.func63 rfl (rs := [.tmp 4]) rfl Tryd.ntmps63 (by simp) ?_
  repeat' (first | ((first | refine aops_nil ?_ | refine aqops_nil ?_); (try simp only [NB])) | ((repeat ((fail_if_success (refine hK _ ?_)); clear hK K)); refine hK _ ?_; clear hK K) | ((first | refine aops_k fun K1 hK1 => ?_ | refine aqops_k fun K1 hK1 => ?_ | refine awp_cond_k fun A B hA hB => ?_); simp only [S1, simprocAttr, T2, T3, T4, T22, T23, T25, T35, T51, T53, T55, T58, T83, T92, T101, T103, hb1, hb2, i0, hx', hy', Int.toNat_natCast]; first | (refine hK1 _ ?_; clear hK1 K1) | ((first | refine hA ?_ | refine hB ?_); clear hA hB A B) | (refine join_x (v := ?_) (fun hg hk9 => ?_) ?_; rotate_left; (focus (try ((try simp only [BN] at hg); simp only [S1, simprocAttr, T2, T3, T4, T22, T23, T25, T35, T51, T53, T55, T58, T83, T92, T101, T103, hb1, hb2, i0, hx', hy', Int.toNat_natCast, hg] at hk9 ⊢)); first | exact hk9); (refine hK1 _ ?_; clear hK1 K1)) | (((first | (refine ⟨fun hg => hA ?_, fun hg => hB ?_⟩ <;> clear hA hB A B) | refine ⟨fun hg => ?_, fun hg => ?_⟩) <;> (try simp only [BN2] at hg) <;> (try simp only [hg, cond_true, cond_false])) <;> (try (refine hK1 _ ?_; clear hK1 K1)) <;> (try simp only [BN3] at hg))) | (refine awp_seq_k fun K hK => ?_) | ((first | refine awp_region ?_ | refine awp_draw (by kernel_rfl) ?_ | refine awp_block ?_ | refine awp_exit ?_ | refine awp_skip ?_ | refine awp_ret ?_); (try simp only [NB, simprocAttr])))
  all_goals simp only [EndP, FinP, resA, resL, resA1, lastV, lastA, lastAs, pur, purs, take_app, List.take_length, S1, simprocAttr, T2, T3, T4, T22, T23, T25, T35, T51, T53, T55, T58, T83, T92, T101, T103, Nat.le_add_right, Nat.le_refl]
end Go.Proofs.YtlophgkgmhcagaaDoor.AM
end

section
set_option linter.unusedVariables false
set_option linter.unusedSimpArgs false
set_option maxRecDepth 4000
set_option maxHeartbeats 4000000
namespace Go.Proofs.YtlophgkgmhcagaaDoor.AM
open Go Go.Proofs
attribute [local irreducible] awp aops aqops aeops arun arunT
variable {G : Nat → Option (List PV)}

theorem EndP_pairs {P : Program} {h : Heap} {K : AV → Prop} {e : Exit} {s : St} (he : e = .normal ∨ e = .ret) {t b g m : Nat} {l : List (Int × Int)} (hm : m = l.length) (hf : s.fr t = some (.ref b g 0 2 m)) (hb : blkAt s.heap b g = some ((flatQ l).map AV.i)) (hn : h.length ≤ b)
    (ht : s.heap.take h.length = h) (hle : h.length ≤ s.heap.length) (hk : K (aQ l)) : EndP P [.tmp t] h K e s := by
  have key : FinP P [.tmp t] h K s := by
    unfold FinP
    simp only [resA, resL, resA1, hf, lastV, lastA, pur_pairs hm hb hn, Option.map_some]
    exact ⟨ht, hle, hk⟩
  rcases he with rfl | rfl <;> exact key

def noEnds (ns : List Nd) : Bool := decide (firstN ns 1 < 0) || decide (firstN ns 2 < 0)
def thirdN (ns : List Nd) (fl : List Fl) : List (Int × Int) := plF 3 (bad3 ns fl) ns.length ++ (if noEnds ns = true then [(3, (ns.length : Int))] else [])

theorem third_calls (ns : List Nd) (fl : List Fl) (ok : NetOk ns fl) (hd : InN ns.length fl) (h : Heap) : ACalls Tryd.prog G 59 [aNet ns fl] h (fun r h' => r = aQ (thirdN ns fl) ∧ h' = h) := by
  have hpl := places_calls (G := G) (f := 71) E71 (caps := [.ptr h.length 0 0, .ptr (h.length + 1) 1 0, .ptr (h.length + 2) 1 0]) (p := bad3 ns fl) 3 ns.length ok.n (h ++ [some ⟨0, cNet ns fl⟩, some ⟨1, [.i (firstN ns 1)]⟩, some ⟨1, [.i (firstN ns 2)]⟩]) (by simp [avlts, avlt])
    (fun L i hi => third1_calls ns fl ok hd i hi _ (b := h.length) (app_get (by simp [get_app0]) L) (app_get (by simp [get_app]) L) (app_get (by simp [get_app]) L))
  simp only [List.length_append, List.length_cons, List.length_nil, Nat.zero_add, Nat.reduceAdd, List.append_assoc, List.cons_append, List.nil_append] at hpl
  have hle := plF_le 3 (bad3 ns fl) ns.length
  have hn := ok.n
  have hmax : (plF 3 (bad3 ns fl) ns.length).length + 1 ≤ maxCount := by unfold maxCount; omega
  have a2 : h.length + 1 + 1 = h.length + 2 := rfl
  cases hne : noEnds ns with
  | false =>
    have e : thirdN ns fl = plF 3 (bad3 ns fl) ns.length := by unfold thirdN; rw [hne]; simp
    unfold noEnds at hne
    rw [e]
    refine acalls_pure (rl := []) mixed Tryd.func59 rfl (rs := [.tmp 2]) rfl Tryd.ntmps59 (by simp) ?_
    repeat' (first | ((first | refine aops_nil ?_ | refine aqops_nil ?_ | refine arun_nil ?_ | refine arunT_nil ?_); (try simp only [NB])) | ((repeat ((fail_if_success (refine hK _ ?_)); clear hK K)); refine hK _ ?_; clear hK K) | ((first | refine aops_k fun K1 hK1 => ?_ | refine aqops_k fun K1 hK1 => ?_ | refine arun_eff rfl rfl rfl fun K1 hK1 => ?_ | refine awp_cond_k fun A B hA hB => ?_); simp only [S1, simprocAttr, T2, T3, T4, T22, T23, T25, T35, T51, T53, T55, T58, T83, T92, T101, T103, List.length_map, hne, a2]; first | (refine hK1 _ ?_; clear hK1 K1) | ((first | refine hA ?_ | refine hB ?_); clear hA hB A B) | ((first | apply call_a E61 | apply call_q E61); exact (start_calls ns hn _ _); (refine hK1 _ ?_; clear hK1 K1)) | ((first | apply call_a E62 | apply call_q E62); exact (end_calls ns hn _ _); (refine hK1 _ ?_; clear hK1 K1)) | ((first | apply call_a E54 | apply call_q E54); exact hpl; (refine hK1 _ ?_; clear hK1 K1)) | (refine join_x (v := ?_) (fun hg hk9 => ?_) ?_; rotate_left; (focus (try ((try simp only [BN] at hg); simp only [S1, simprocAttr, T2, T3, T4, T22, T23, T25, T35, T51, T53, T55, T58, T83, T92, T101, T103, List.length_map, hne, a2, hg] at hk9 ⊢)); first | exact hk9 | ((first | apply call_a E61 | apply call_q E61); exact (start_calls ns hn _ _); exact hk9) | ((first | apply call_a E62 | apply call_q E62); exact (end_calls ns hn _ _); exact hk9) | ((first | apply call_a E54 | apply call_q E54); exact hpl; exact hk9)); (refine hK1 _ ?_; clear hK1 K1)) | (((first | (refine ⟨fun hg => hA ?_, fun hg => hB ?_⟩ <;> clear hA hB A B) | refine ⟨fun hg => ?_, fun hg => ?_⟩) <;> (try simp only [BN2] at hg) <;> (try simp only [hg, cond_true, cond_false])) <;> (try (refine hK1 _ ?_; clear hK1 K1)) <;> (try simp only [BN3] at hg))) | ((first | refine arun_q (v := ?_) rfl rfl rfl rfl (by decide) (fun R1 K1 hK1 => ?_) ?_ | refine arun_f (v := ?_) rfl rfl rfl (by decide) (fun K1 hK1 => ?_) ?_ | refine arunT_f (v := ?_) rfl rfl rfl (by decide) (fun K1 hK1 => ?_) ?_); rotate_left; (focus (simp only [S1, simprocAttr, T2, T3, T4, T22, T23, T25, T35, T51, T53, T55, T58, T83, T92, T101, T103, List.length_map, hne, a2]; first | (exact hK1 _ _ _) | ((first | apply call_a E61 | apply call_q E61); exact (start_calls ns hn _ _); exact hK1 _ _ _) | ((first | apply call_a E62 | apply call_q E62); exact (end_calls ns hn _ _); exact hK1 _ _ _) | ((first | apply call_a E54 | apply call_q E54); exact hpl; exact hK1 _ _ _)))) | (refine arun_tail rfl rfl rfl ?_) | ((first | refine arun_allocj (z := ?_) 0 rfl rfl rfl rfl (by decide) rfl ?_ ?_ | refine arun_allocj (z := ?_) 1 rfl rfl rfl rfl (by decide) rfl ?_ ?_ | refine arun_allocj (z := ?_) 2 rfl rfl rfl rfl (by decide) rfl ?_ ?_); rotate_left; (focus (simp only [S1, simprocAttr, T2, T3, T4, T22, T23, T25, T35, T51, T53, T55, T58, T83, T92, T101, T103, List.length_map, hne, a2, zeroB]; rfl))) | (refine awp_seq_k fun K hK => ?_) | (refine awp_drawR [0, 1, 2, 3, 4, 5, 6, 7] 2 rfl (by kernel_rfl) (by kernel_rfl) ?_) | ((first | refine awp_region ?_ | refine awp_draw (by kernel_rfl) ?_ | refine awp_block ?_ | refine awp_exit ?_ | refine awp_skip ?_ | refine awp_ret ?_); (try simp only [NB, simprocAttr])))
    exact EndP_pairs (.inr rfl) rfl rfl (by simp only [blkAt, get_app, List.getElem?_cons_succ, List.getElem?_cons_zero, if_true]) (by omega) (by simp) (by simp) rfl
  | true =>
    have e : thirdN ns fl = plF 3 (bad3 ns fl) ns.length ++ [(3, (ns.length : Int))] := by unfold thirdN; rw [hne]; simp
    unfold noEnds at hne
    rw [e]
    refine acalls_pure (rl := []) mixed Tryd.func59 rfl (rs := [.tmp 2]) rfl Tryd.ntmps59 (by simp) ?_
    repeat' (first | ((first | refine aops_nil ?_ | refine aqops_nil ?_ | refine arun_nil ?_ | refine arunT_nil ?_); (try simp only [NB])) | ((repeat ((fail_if_success (refine hK _ ?_)); clear hK K)); refine hK _ ?_; clear hK K) | ((first | refine aops_k fun K1 hK1 => ?_ | refine aqops_k fun K1 hK1 => ?_ | refine arun_eff rfl rfl rfl fun K1 hK1 => ?_ | refine awp_cond_k fun A B hA hB => ?_); simp only [S1, simprocAttr, T2, T3, T4, T22, T23, T25, T35, T51, T53, T55, T58, T83, T92, T101, T103, List.length_map, hne, a2, flatQ_len, hmax, Nat.mul_one, Nat.zero_add]; first | (refine hK1 _ ?_; clear hK1 K1) | ((first | refine hA ?_ | refine hB ?_); clear hA hB A B) | ((first | apply call_a E61 | apply call_q E61); exact (start_calls ns hn _ _); (refine hK1 _ ?_; clear hK1 K1)) | ((first | apply call_a E62 | apply call_q E62); exact (end_calls ns hn _ _); (refine hK1 _ ?_; clear hK1 K1)) | ((first | apply call_a E54 | apply call_q E54); exact hpl; (refine hK1 _ ?_; clear hK1 K1)) | (refine join_x (v := ?_) (fun hg hk9 => ?_) ?_; rotate_left; (focus (try ((try simp only [BN] at hg); simp only [S1, simprocAttr, T2, T3, T4, T22, T23, T25, T35, T51, T53, T55, T58, T83, T92, T101, T103, List.length_map, hne, a2, flatQ_len, hmax, Nat.mul_one, Nat.zero_add, hg] at hk9 ⊢)); first | exact hk9 | ((first | apply call_a E61 | apply call_q E61); exact (start_calls ns hn _ _); exact hk9) | ((first | apply call_a E62 | apply call_q E62); exact (end_calls ns hn _ _); exact hk9) | ((first | apply call_a E54 | apply call_q E54); exact hpl; exact hk9)); (refine hK1 _ ?_; clear hK1 K1)) | (((first | (refine ⟨fun hg => hA ?_, fun hg => hB ?_⟩ <;> clear hA hB A B) | refine ⟨fun hg => ?_, fun hg => ?_⟩) <;> (try simp only [BN2] at hg) <;> (try simp only [hg, cond_true, cond_false])) <;> (try (refine hK1 _ ?_; clear hK1 K1)) <;> (try simp only [BN3] at hg))) | ((first | refine arun_q (v := ?_) rfl rfl rfl rfl (by decide) (fun R1 K1 hK1 => ?_) ?_ | refine arun_f (v := ?_) rfl rfl rfl (by decide) (fun K1 hK1 => ?_) ?_ | refine arunT_f (v := ?_) rfl rfl rfl (by decide) (fun K1 hK1 => ?_) ?_); rotate_left; (focus (simp only [S1, simprocAttr, T2, T3, T4, T22, T23, T25, T35, T51, T53, T55, T58, T83, T92, T101, T103, List.length_map, hne, a2, flatQ_len, hmax, Nat.mul_one, Nat.zero_add]; first | (exact hK1 _ _ _) | ((first | apply call_a E61 | apply call_q E61); exact (start_calls ns hn _ _); exact hK1 _ _ _) | ((first | apply call_a E62 | apply call_q E62); exact (end_calls ns hn _ _); exact hK1 _ _ _) | ((first | apply call_a E54 | apply call_q E54); exact hpl; exact hK1 _ _ _)))) | (refine arun_tail rfl rfl rfl ?_) | ((first | refine arun_allocj (z := ?_) 0 rfl rfl rfl rfl (by decide) rfl ?_ ?_ | refine arun_allocj (z := ?_) 1 rfl rfl rfl rfl (by decide) rfl ?_ ?_ | refine arun_allocj (z := ?_) 2 rfl rfl rfl rfl (by decide) rfl ?_ ?_); rotate_left; (focus (simp only [S1, simprocAttr, T2, T3, T4, T22, T23, T25, T35, T51, T53, T55, T58, T83, T92, T101, T103, List.length_map, hne, a2, flatQ_len, hmax, Nat.mul_one, Nat.zero_add, zeroB]; rfl))) | (refine awp_seq_k fun K hK => ?_) | (refine awp_drawR [0, 1, 2, 3, 4, 5, 6, 7] 2 rfl (by kernel_rfl) (by kernel_rfl) ?_) | ((first | refine awp_region ?_ | refine awp_draw (by kernel_rfl) ?_ | refine awp_block ?_ | refine awp_exit ?_ | refine awp_skip ?_ | refine awp_ret ?_); (try simp only [NB, simprocAttr])))
    exact EndP_pairs (.inr rfl) (l := plF 3 (bad3 ns fl) ns.length ++ [(3, (ns.length : Int))]) (by simp) rfl (by simp only [blkAt, get_app, List.getElem?_cons_succ, List.getElem?_cons_zero, if_true, flatQ_app, List.map_append, List.map_cons, List.map_nil]) (by omega) (by simp) (by simp) rfl

theorem inB_of {n : Nat} {i : Int} (h : inB n i = true) : 0 ≤ i ∧ i < (n : Int) := inB_iff.mp h

theorem plF_nil {rule : Int} {p : Nat → Bool} {n : Nat} (h : plF rule p n = []) (i : Nat) (hi : i < n) : p i = false := by
  cases hp : p i with
  | false => rfl
  | true =>
    have : (rule, (i : Int)) ∈ plF rule p n := by
      unfold plF
      exact List.mem_map.mpr ⟨i, List.mem_filter.mpr ⟨List.mem_range.mpr hi, hp⟩, rfl⟩
    rw [h] at this; cases this

theorem bad2_in {ns : List Nd} {fl : List Fl} (h : plF 2 (bad2 ns fl) fl.length = []) : InN ns.length fl := by
  intro f hf
  obtain ⟨i, hi, e⟩ := List.mem_iff_getElem.mp hf
  have := plF_nil h i hi
  unfold bad2 at this
  rw [List.getElem?_eq_getElem hi, e] at this
  simp only [Bool.not_eq_false'] at this
  unfold twoB at this
  simp only [Bool.and_eq_true] at this
  obtain ⟨⟨⟨a, b⟩, _⟩, _⟩ := this
  exact ⟨inB_of a, inB_of b⟩

theorem findG_range {α : Type} (p : α → Bool) : ∀ (l : List α) (i : Nat), findG p l i = -1 ∨ ((i : Int) ≤ findG p l i ∧ findG p l i < (i : Int) + l.length)
  | [], i => .inl rfl
  | k :: r, i => by
    unfold findG
    split
    · right; simp only [List.length_cons]; omega
    · rcases findG_range p r (i + 1) with h | h
      · exact .inl h
      · right; simp only [List.length_cons]; omega

theorem ends_in {ns : List Nd} (h : noEnds ns = false) : (0 ≤ firstN ns 1 ∧ firstN ns 1 < (ns.length : Int)) ∧ 0 ≤ firstN ns 2 ∧ firstN ns 2 < (ns.length : Int) := by
  unfold noEnds at h
  simp only [Bool.or_eq_false_iff, decide_eq_false_iff_not] at h
  have a := findG_range (fun x : Nd => x.kind == 1) ns 0
  have b := findG_range (fun x : Nd => x.kind == 2) ns 0
  unfold firstN at *
  omega

/-- All places at which the first rule that is broken is. -/
noncomputable def allN (ns : List Nd) (fl : List Fl) : List (Int × Int) :=
  if (decide (24 < (ns.length : Int)) || decide (40 < (fl.length : Int))) = true then [(1, 0)]
  else if plF 1 (bad1 ns) ns.length ≠ [] then plF 1 (bad1 ns) ns.length
  else if plF 2 (bad2 ns fl) fl.length ≠ [] then plF 2 (bad2 ns fl) fl.length
  else if thirdN ns fl ≠ [] then thirdN ns fl
  else plF 4 (bad4 ns fl) ns.length
end Go.Proofs.YtlophgkgmhcagaaDoor.AM
end

section
set_option linter.unusedVariables false
set_option linter.unusedSimpArgs false
set_option maxRecDepth 4000


set_option maxHeartbeats 4000000
namespace Go.Proofs.YtlophgkgmhcagaaDoor.AM
open Go Go.Proofs
attribute [local irreducible] awp aops aqops aeops arun arunT
variable {G : Nat → Option (List PV)}

theorem len_pos {α : Type} {l : List α} (h : l ≠ []) : decide ((0 : Int) < (l.length : Int)) = true := by
  have : 0 < l.length := List.length_pos_iff.mpr h
  exact decide_eq_true (by omega)
theorem len_zero {α : Type} {l : List α} (h : l = []) : decide ((0 : Int) < (l.length : Int)) = false := by subst h; rfl

theorem All_calls (ns : List Nd) (fl : List Fl) (ok : NetOk ns fl) (h : Heap) : ACalls Tryd.prog gW 42 [aNet ns fl] h (fun r h' => r = aQ (allN ns fl) ∧ h' = h) := by
  have a3 : h.length + 3 + 1 = h.length + 4 := rfl
  have hn := ok.n
  have hl := ok.f
  have p1 := places_calls (G := gW) (f := 55) E55 (caps := [.ptr h.length 0 0]) (p := bad1 ns) 1 ns.length ok.n (h ++ [some ⟨0, cNet ns fl⟩]) (by simp [avlts, avlt])
    (fun L i hi => all1_calls ns fl ok i hi _ (b := h.length) (app_get (by simp [get_app0]) L))
  have p2 := fun b1 : Option Blk => places_calls (G := gW) (f := 57) E57 (caps := [.ptr h.length 0 0]) (p := bad2 ns fl) 2 fl.length ok.f (h ++ [some ⟨0, cNet ns fl⟩, b1]) (by simp [avlts, avlt])
    (fun L i hi => all2_calls ns fl ok i hi _ (b := h.length) (app_get (by simp [get_app0]) L))
  have p4 := fun b1 b2 : Option Blk => places_calls (G := gW) (f := 63) E63 (caps := [.ptr (h.length + 3) 1 0, .ptr (h.length + 4) 1 0]) (p := bad4 ns fl) 4 ns.length ok.n (h ++ [some ⟨0, cNet ns fl⟩, b1, b2, some ⟨1, [aB (rchL (edgeB false fl) ns.length (firstN ns 1).toNat)]⟩, some ⟨1, [aB (rchL (edgeB true fl) ns.length (firstN ns 2).toNat)]⟩]) (by simp [avlts, avlt])
    (fun L i hi => all3_calls ns fl i hi _ (app_get (by simp [get_app]) L) (app_get (by simp [get_app]) L))
  simp only [List.length_append, List.length_cons, List.length_nil, Nat.zero_add, Nat.reduceAdd, List.append_assoc, List.cons_append, List.nil_append] at p1 p2 p4
  by_cases hsz : (decide (24 < (ns.length : Int)) || decide (40 < (fl.length : Int))) = true
  · have e : allN ns fl = [(1, 0)] := by unfold allN; rw [if_pos hsz]
    rw [e]
    refine acalls_pure (rl := []) mixed Tryd.func42 rfl (rs := [.tmp 2]) rfl Tryd.ntmps42 (by simp) ?_
    repeat' (first | ((first | refine aops_nil ?_ | refine aqops_nil ?_); (try simp only [NB])) | ((repeat ((fail_if_success (refine hK _ ?_)); clear hK K)); refine hK _ ?_; clear hK K) | ((first | refine aops_k fun K1 hK1 => ?_ | refine aqops_k fun K1 hK1 => ?_ | refine awp_cond_k fun A B hA hB => ?_); simp only [S1, simprocAttr, T2, T3, T4, T22, T23, T25, T35, T51, T53, T55, T58, T83, T92, T101, T103, List.length_map, hsz]; first | (refine hK1 _ ?_; clear hK1 K1) | ((first | refine hA ?_ | refine hB ?_); clear hA hB A B) | (refine join_x (v := ?_) (fun hg hk9 => ?_) ?_; rotate_left; (focus (try ((try simp only [BN] at hg); simp only [S1, simprocAttr, T2, T3, T4, T22, T23, T25, T35, T51, T53, T55, T58, T83, T92, T101, T103, List.length_map, hsz, hg] at hk9 ⊢)); first | exact hk9); (refine hK1 _ ?_; clear hK1 K1)) | (((first | (refine ⟨fun hg => hA ?_, fun hg => hB ?_⟩ <;> clear hA hB A B) | refine ⟨fun hg => ?_, fun hg => ?_⟩) <;> (try simp only [BN2] at hg) <;> (try simp only [hg, cond_true, cond_false])) <;> (try (refine hK1 _ ?_; clear hK1 K1)) <;> (try simp only [BN3] at hg))) | (refine awp_seq_k fun K hK => ?_) | ((first | refine awp_region ?_ | refine awp_draw (by kernel_rfl) ?_ | refine awp_block ?_ | refine awp_exit ?_ | refine awp_skip ?_ | refine awp_ret ?_); (try simp only [NB, simprocAttr])))
    all_goals simp only [EndP, FinP, resA, resL, resA1, lastV, lastA, lastAs, pur, purs, take_app, List.take_length, S1, simprocAttr, T2, T3, T4, T22, T23, T25, T35, T51, T53, T55, T58, T83, T92, T101, T103, Nat.le_add_right, Nat.le_refl]
    all_goals rfl
  rw [Bool.not_eq_true] at hsz
  by_cases h1 : plF 1 (bad1 ns) ns.length = []
  case neg =>
    have e : allN ns fl = plF 1 (bad1 ns) ns.length := by unfold allN; rw [if_neg (by rw [hsz]; decide), if_pos h1]
    rw [e]
    have c1 := len_pos h1
    refine acalls_pure (rl := []) mixed Tryd.func42 rfl (rs := [.tmp 2]) rfl Tryd.ntmps42 (by simp) ?_
    repeat' (first | ((first | refine aops_nil ?_ | refine aqops_nil ?_); (try simp only [NB])) | ((repeat ((fail_if_success (refine hK _ ?_)); clear hK K)); refine hK _ ?_; clear hK K) | ((first | refine aops_k fun K1 hK1 => ?_ | refine aqops_k fun K1 hK1 => ?_ | refine awp_cond_k fun A B hA hB => ?_); simp only [S1, simprocAttr, T2, T3, T4, T22, T23, T25, T35, T51, T53, T55, T58, T83, T92, T101, T103, List.length_map, hsz, c1]; first | (refine hK1 _ ?_; clear hK1 K1) | ((first | refine hA ?_ | refine hB ?_); clear hA hB A B) | ((first | apply call_a E54 | apply call_q E54); exact p1; (refine hK1 _ ?_; clear hK1 K1)) | (refine join_x (v := ?_) (fun hg hk9 => ?_) ?_; rotate_left; (focus (try ((try simp only [BN] at hg); simp only [S1, simprocAttr, T2, T3, T4, T22, T23, T25, T35, T51, T53, T55, T58, T83, T92, T101, T103, List.length_map, hsz, c1, hg] at hk9 ⊢)); first | exact hk9 | ((first | apply call_a E54 | apply call_q E54); exact p1; exact hk9)); (refine hK1 _ ?_; clear hK1 K1)) | (((first | (refine ⟨fun hg => hA ?_, fun hg => hB ?_⟩ <;> clear hA hB A B) | refine ⟨fun hg => ?_, fun hg => ?_⟩) <;> (try simp only [BN2] at hg) <;> (try simp only [hg, cond_true, cond_false])) <;> (try (refine hK1 _ ?_; clear hK1 K1)) <;> (try simp only [BN3] at hg))) | (refine awp_seq_k fun K hK => ?_) | ((first | refine awp_region ?_ | refine awp_draw (by kernel_rfl) ?_ | refine awp_block ?_ | refine awp_exit ?_ | refine awp_skip ?_ | refine awp_ret ?_); (try simp only [NB, simprocAttr])))
    exact EndP_pairs (.inr rfl) rfl rfl (by simp only [blkAt, get_app, List.getElem?_cons_succ, List.getElem?_cons_zero, if_true]) (by omega) (by simp) (by simp) rfl
  have c1 := len_zero h1
  by_cases h2 : plF 2 (bad2 ns fl) fl.length = []
  case neg =>
    have e : allN ns fl = plF 2 (bad2 ns fl) fl.length := by unfold allN; rw [if_neg (by rw [hsz]; decide), if_neg (by simpa using h1), if_pos h2]
    rw [e]
    have c2 := len_pos h2
    refine acalls_pure (rl := []) mixed Tryd.func42 rfl (rs := [.tmp 2]) rfl Tryd.ntmps42 (by simp) ?_
    repeat' (first | ((first | refine aops_nil ?_ | refine aqops_nil ?_); (try simp only [NB])) | ((repeat ((fail_if_success (refine hK _ ?_)); clear hK K)); refine hK _ ?_; clear hK K) | ((first | refine aops_k fun K1 hK1 => ?_ | refine aqops_k fun K1 hK1 => ?_ | refine awp_cond_k fun A B hA hB => ?_); simp only [S1, simprocAttr, T2, T3, T4, T22, T23, T25, T35, T51, T53, T55, T58, T83, T92, T101, T103, List.length_map, hsz, c1, c2]; first | (refine hK1 _ ?_; clear hK1 K1) | ((first | refine hA ?_ | refine hB ?_); clear hA hB A B) | ((first | apply call_a E54 | apply call_q E54); exact p1; (refine hK1 _ ?_; clear hK1 K1)) | ((first | apply call_a E54 | apply call_q E54); exact (p2 _); (refine hK1 _ ?_; clear hK1 K1)) | (refine join_x (v := ?_) (fun hg hk9 => ?_) ?_; rotate_left; (focus (try ((try simp only [BN] at hg); simp only [S1, simprocAttr, T2, T3, T4, T22, T23, T25, T35, T51, T53, T55, T58, T83, T92, T101, T103, List.length_map, hsz, c1, c2, hg] at hk9 ⊢)); first | exact hk9 | ((first | apply call_a E54 | apply call_q E54); exact p1; exact hk9) | ((first | apply call_a E54 | apply call_q E54); exact (p2 _); exact hk9)); (refine hK1 _ ?_; clear hK1 K1)) | (((first | (refine ⟨fun hg => hA ?_, fun hg => hB ?_⟩ <;> clear hA hB A B) | refine ⟨fun hg => ?_, fun hg => ?_⟩) <;> (try simp only [BN2] at hg) <;> (try simp only [hg, cond_true, cond_false])) <;> (try (refine hK1 _ ?_; clear hK1 K1)) <;> (try simp only [BN3] at hg))) | (refine awp_seq_k fun K hK => ?_) | ((first | refine awp_region ?_ | refine awp_draw (by kernel_rfl) ?_ | refine awp_block ?_ | refine awp_exit ?_ | refine awp_skip ?_ | refine awp_ret ?_); (try simp only [NB, simprocAttr])))
    exact EndP_pairs (.inr rfl) rfl rfl (by simp only [blkAt, get_app, List.getElem?_cons_succ, List.getElem?_cons_zero, if_true]) (by omega) (by simp) (by simp) rfl
  have c2 := len_zero h2
  have hd := bad2_in h2
  by_cases h3 : thirdN ns fl = []
  case neg =>
    have e : allN ns fl = thirdN ns fl := by unfold allN; rw [if_neg (by rw [hsz]; decide), if_neg (by simpa using h1), if_neg (by simpa using h2), if_pos h3]
    rw [e]
    have c3 := len_pos h3
    refine acalls_pure (rl := []) mixed Tryd.func42 rfl (rs := [.tmp 2]) rfl Tryd.ntmps42 (by simp) ?_
    repeat' (first | ((first | refine aops_nil ?_ | refine aqops_nil ?_); (try simp only [NB])) | ((repeat ((fail_if_success (refine hK _ ?_)); clear hK K)); refine hK _ ?_; clear hK K) | ((first | refine aops_k fun K1 hK1 => ?_ | refine aqops_k fun K1 hK1 => ?_ | refine awp_cond_k fun A B hA hB => ?_); simp only [S1, simprocAttr, T2, T3, T4, T22, T23, T25, T35, T51, T53, T55, T58, T83, T92, T101, T103, List.length_map, hsz, c1, c2, c3]; first | (refine hK1 _ ?_; clear hK1 K1) | ((first | refine hA ?_ | refine hB ?_); clear hA hB A B) | ((first | apply call_a E54 | apply call_q E54); exact p1; (refine hK1 _ ?_; clear hK1 K1)) | ((first | apply call_a E54 | apply call_q E54); exact (p2 _); (refine hK1 _ ?_; clear hK1 K1)) | ((first | apply call_a E59 | apply call_q E59); exact (third_calls ns fl ok hd _); (refine hK1 _ ?_; clear hK1 K1)) | (refine join_x (v := ?_) (fun hg hk9 => ?_) ?_; rotate_left; (focus (try ((try simp only [BN] at hg); simp only [S1, simprocAttr, T2, T3, T4, T22, T23, T25, T35, T51, T53, T55, T58, T83, T92, T101, T103, List.length_map, hsz, c1, c2, c3, hg] at hk9 ⊢)); first | exact hk9 | ((first | apply call_a E54 | apply call_q E54); exact p1; exact hk9) | ((first | apply call_a E54 | apply call_q E54); exact (p2 _); exact hk9) | ((first | apply call_a E59 | apply call_q E59); exact (third_calls ns fl ok hd _); exact hk9)); (refine hK1 _ ?_; clear hK1 K1)) | (((first | (refine ⟨fun hg => hA ?_, fun hg => hB ?_⟩ <;> clear hA hB A B) | refine ⟨fun hg => ?_, fun hg => ?_⟩) <;> (try simp only [BN2] at hg) <;> (try simp only [hg, cond_true, cond_false])) <;> (try (refine hK1 _ ?_; clear hK1 K1)) <;> (try simp only [BN3] at hg))) | (refine awp_seq_k fun K hK => ?_) | ((first | refine awp_region ?_ | refine awp_draw (by kernel_rfl) ?_ | refine awp_block ?_ | refine awp_exit ?_ | refine awp_skip ?_ | refine awp_ret ?_); (try simp only [NB, simprocAttr])))
    all_goals simp only [EndP, FinP, resA, resL, resA1, lastV, lastA, lastAs, pur, purs, take_app, List.take_length, S1, simprocAttr, T2, T3, T4, T22, T23, T25, T35, T51, T53, T55, T58, T83, T92, T101, T103, Nat.le_add_right, Nat.le_refl]
  have c3 := len_zero h3
  have e : allN ns fl = plF 4 (bad4 ns fl) ns.length := by unfold allN; rw [if_neg (by rw [hsz]; decide), if_neg (by simpa using h1), if_neg (by simpa using h2), if_neg (by simpa using h3)]
  rw [e]
  have hne : noEnds ns = false := by
    unfold thirdN at h3
    cases hx : noEnds ns with
    | false => rfl
    | true => rw [hx] at h3; simp at h3
  obtain ⟨⟨s0, s1⟩, e0, e1⟩ := ends_in hne
  refine acalls_pure (rl := []) mixed Tryd.func42 rfl (rs := [.tmp 2]) rfl Tryd.ntmps42 (by simp) ?_
  repeat' (first | ((first | refine aops_nil ?_ | refine aqops_nil ?_ | refine arun_nil ?_ | refine arunT_nil ?_); (try simp only [NB])) | ((repeat ((fail_if_success (refine hK _ ?_)); clear hK K)); refine hK _ ?_; clear hK K) | ((first | refine aops_k fun K1 hK1 => ?_ | refine aqops_k fun K1 hK1 => ?_ | refine arun_eff rfl rfl rfl fun K1 hK1 => ?_ | refine awp_cond_k fun A B hA hB => ?_); simp only [S1, simprocAttr, T2, T3, T4, T22, T23, T25, T35, T51, T53, T55, T58, T83, T92, T101, T103, List.length_map, hsz, c1, c2, c3, a3]; first | (refine hK1 _ ?_; clear hK1 K1) | ((first | refine hA ?_ | refine hB ?_); clear hA hB A B) | ((first | apply call_a E54 | apply call_q E54); exact p1; (refine hK1 _ ?_; clear hK1 K1)) | ((first | apply call_a E54 | apply call_q E54); exact (p2 _); (refine hK1 _ ?_; clear hK1 K1)) | ((first | apply call_a E54 | apply call_q E54); exact (p4 _ _); (refine hK1 _ ?_; clear hK1 K1)) | ((first | apply call_a E59 | apply call_q E59); exact (third_calls ns fl ok hd _); (refine hK1 _ ?_; clear hK1 K1)) | ((first | apply call_a E61 | apply call_q E61); exact (start_calls ns hn _ _); (refine hK1 _ ?_; clear hK1 K1)) | ((first | apply call_a E62 | apply call_q E62); exact (end_calls ns hn _ _); (refine hK1 _ ?_; clear hK1 K1)) | ((first | apply call_a E60 | apply call_q E60); exact (met_calls ns hn fl hl hd _ s0 s1 false _); (refine hK1 _ ?_; clear hK1 K1)) | ((first | apply call_a E60 | apply call_q E60); exact (met_calls ns hn fl hl hd _ e0 e1 true _); (refine hK1 _ ?_; clear hK1 K1)) | (refine join_x (v := ?_) (fun hg hk9 => ?_) ?_; rotate_left; (focus (try ((try simp only [BN] at hg); simp only [S1, simprocAttr, T2, T3, T4, T22, T23, T25, T35, T51, T53, T55, T58, T83, T92, T101, T103, List.length_map, hsz, c1, c2, c3, a3, hg] at hk9 ⊢)); first | exact hk9 | ((first | apply call_a E54 | apply call_q E54); exact p1; exact hk9) | ((first | apply call_a E54 | apply call_q E54); exact (p2 _); exact hk9) | ((first | apply call_a E54 | apply call_q E54); exact (p4 _ _); exact hk9) | ((first | apply call_a E59 | apply call_q E59); exact (third_calls ns fl ok hd _); exact hk9) | ((first | apply call_a E61 | apply call_q E61); exact (start_calls ns hn _ _); exact hk9) | ((first | apply call_a E62 | apply call_q E62); exact (end_calls ns hn _ _); exact hk9) | ((first | apply call_a E60 | apply call_q E60); exact (met_calls ns hn fl hl hd _ s0 s1 false _); exact hk9) | ((first | apply call_a E60 | apply call_q E60); exact (met_calls ns hn fl hl hd _ e0 e1 true _); exact hk9)); (refine hK1 _ ?_; clear hK1 K1)) | (((first | (refine ⟨fun hg => hA ?_, fun hg => hB ?_⟩ <;> clear hA hB A B) | refine ⟨fun hg => ?_, fun hg => ?_⟩) <;> (try simp only [BN2] at hg) <;> (try simp only [hg, cond_true, cond_false])) <;> (try (refine hK1 _ ?_; clear hK1 K1)) <;> (try simp only [BN3] at hg))) | ((first | refine arun_q (v := ?_) rfl rfl rfl rfl (by decide) (fun R1 K1 hK1 => ?_) ?_ | refine arun_f (v := ?_) rfl rfl rfl (by decide) (fun K1 hK1 => ?_) ?_ | refine arunT_f (v := ?_) rfl rfl rfl (by decide) (fun K1 hK1 => ?_) ?_); rotate_left; (focus (simp only [S1, simprocAttr, T2, T3, T4, T22, T23, T25, T35, T51, T53, T55, T58, T83, T92, T101, T103, List.length_map, hsz, c1, c2, c3, a3]; first | (exact hK1 _ _ _) | ((first | apply call_a E54 | apply call_q E54); exact p1; exact hK1 _ _ _) | ((first | apply call_a E54 | apply call_q E54); exact (p2 _); exact hK1 _ _ _) | ((first | apply call_a E54 | apply call_q E54); exact (p4 _ _); exact hK1 _ _ _) | ((first | apply call_a E59 | apply call_q E59); exact (third_calls ns fl ok hd _); exact hK1 _ _ _) | ((first | apply call_a E61 | apply call_q E61); exact (start_calls ns hn _ _); exact hK1 _ _ _) | ((first | apply call_a E62 | apply call_q E62); exact (end_calls ns hn _ _); exact hK1 _ _ _) | ((first | apply call_a E60 | apply call_q E60); exact (met_calls ns hn fl hl hd _ s0 s1 false _); exact hK1 _ _ _) | ((first | apply call_a E60 | apply call_q E60); exact (met_calls ns hn fl hl hd _ e0 e1 true _); exact hK1 _ _ _)))) | (refine arun_tail rfl rfl rfl ?_) | ((first | refine arun_allocj (z := ?_) 0 rfl rfl rfl rfl (by decide) rfl ?_ ?_ | refine arun_allocj (z := ?_) 1 rfl rfl rfl rfl (by decide) rfl ?_ ?_ | refine arun_allocj (z := ?_) 2 rfl rfl rfl rfl (by decide) rfl ?_ ?_); rotate_left; (focus (simp only [S1, simprocAttr, T2, T3, T4, T22, T23, T25, T35, T51, T53, T55, T58, T83, T92, T101, T103, List.length_map, hsz, c1, c2, c3, a3, zeroB]; rfl))) | (refine awp_seq_k fun K hK => ?_) | (refine awp_drawR [0, 1, 2, 3, 4, 5, 6, 7, 8, 9, 10, 11] 2 rfl (by kernel_rfl) (by kernel_rfl) ?_) | ((first | refine awp_region ?_ | refine awp_draw (by kernel_rfl) ?_ | refine awp_block ?_ | refine awp_exit ?_ | refine awp_skip ?_ | refine awp_ret ?_); (try simp only [NB, simprocAttr])))
  exact EndP_pairs (.inr rfl) rfl rfl (by simp only [blkAt, get_app, List.getElem?_cons_succ, List.getElem?_cons_zero, if_true]) (by omega) (by simp) (by simp) rfl
end Go.Proofs.YtlophgkgmhcagaaDoor.AM
end

section
set_option linter.unusedVariables false
set_option linter.unusedSimpArgs false
set_option maxRecDepth 4000
set_option maxHeartbeats 4000000
namespace Go.Proofs.YtlophgkgmhcagaaDoor.AM
open Go Go.Proofs
attribute [local irreducible] awp aops aqops aeops arun arunT
variable {G : Nat → Option (List PV)}

/-- The rule that is broken, and where; 0: none is. -/
noncomputable def netN (ns : List Nd) (fl : List Fl) : Int × Int := (allN ns fl).head?.getD (0, 0)

theorem ne_of_head {α : Type} {l : List α} {x : α} (h : l.head? = some x) : l ≠ [] := by rintro rfl; cases h

theorem Check_calls (ns : List Nd) (fl : List Fl) (ok : NetOk ns fl) (h : Heap) : ACalls Tryd.prog gW 23 [aNet ns fl] h (fun r h' => r = .tup [.i (netN ns fl).1, .i (netN ns fl).2] ∧ h' = h) := by
  have ha := fun h => All_calls ns fl ok h
  unfold netN
  generalize allN ns fl = l at *
  cases hx : l.head? with
  | none =>
    have e : l = [] := by cases l with
      | nil => rfl
      | cons => cases hx
    have c : decide ((0 : Int) < 0) = false := rfl
    subst e
    refine acalls_pure (rl := []) mixed Tryd.func23 rfl (rs := [.tmp 2, .tmp 3]) rfl Tryd.ntmps23 (by simp) ?_
    repeat' (first | ((first | refine aops_nil ?_ | refine aqops_nil ?_); (try simp only [NB])) | ((repeat ((fail_if_success (refine hK _ ?_)); clear hK K)); refine hK _ ?_; clear hK K) | ((first | refine aops_k fun K1 hK1 => ?_ | refine aqops_k fun K1 hK1 => ?_ | refine awp_cond_k fun A B hA hB => ?_); simp only [S1, simprocAttr, T2, T3, T4, T22, T23, T25, T35, T51, T53, T55, T58, T92, T101, T103, List.length_map, List.length_nil, c]; first | (refine hK1 _ ?_; clear hK1 K1) | ((first | refine hA ?_ | refine hB ?_); clear hA hB A B) | ((first | apply call_a E42 | apply call_q E42); exact (ha _); (refine hK1 _ ?_; clear hK1 K1)) | (refine join_x (v := ?_) (fun hg hk9 => ?_) ?_; rotate_left; (focus (try ((try simp only [BN] at hg); simp only [S1, simprocAttr, T2, T3, T4, T22, T23, T25, T35, T51, T53, T55, T58, T92, T101, T103, List.length_map, List.length_nil, c, hg] at hk9 ⊢)); first | exact hk9 | ((first | apply call_a E42 | apply call_q E42); exact (ha _); exact hk9)); (refine hK1 _ ?_; clear hK1 K1)) | (((first | (refine ⟨fun hg => hA ?_, fun hg => hB ?_⟩ <;> clear hA hB A B) | refine ⟨fun hg => ?_, fun hg => ?_⟩) <;> (try simp only [BN2] at hg) <;> (try simp only [hg, cond_true, cond_false])) <;> (try (refine hK1 _ ?_; clear hK1 K1)) <;> (try simp only [BN3] at hg))) | (refine awp_seq_k fun K hK => ?_) | ((first | refine awp_region ?_ | refine awp_draw (by kernel_rfl) ?_ | refine awp_block ?_ | refine awp_exit ?_ | refine awp_skip ?_ | refine awp_ret ?_); (try simp only [NB, simprocAttr])))
    all_goals simp only [EndP, FinP, resA, resL, resA1, lastV, lastA, lastAs, pur, purs, take_app, List.take_length, S1, simprocAttr, T2, T3, T4, T22, T23, T25, T35, T51, T53, T55, T58, T92, T101, T103, Nat.le_add_right, Nat.le_refl]
    all_goals rfl
  | some x =>
    have c := len_pos (ne_of_head hx)
    have c0 : (0 : Int) ≤ 0 := Int.le_refl 0
    have hr : (l.map eQ)[0]? = some [.int .i64 x.1, .int .i64 x.2] := by rw [← List.head?_eq_getElem?, List.head?_map, hx]; rfl
    refine acalls_pure (rl := []) mixed Tryd.func23 rfl (rs := [.tmp 2, .tmp 3]) rfl Tryd.ntmps23 (by simp) ?_
    repeat' (first | ((first | refine aops_nil ?_ | refine aqops_nil ?_); (try simp only [NB])) | ((repeat ((fail_if_success (refine hK _ ?_)); clear hK K)); refine hK _ ?_; clear hK K) | ((first | refine aops_k fun K1 hK1 => ?_ | refine aqops_k fun K1 hK1 => ?_ | refine awp_cond_k fun A B hA hB => ?_); simp only [S1, simprocAttr, T2, T3, T4, T22, T23, T25, T35, T51, T53, T55, T58, T92, T101, T103, List.length_map, c, c0, hr]; first | (refine hK1 _ ?_; clear hK1 K1) | ((first | refine hA ?_ | refine hB ?_); clear hA hB A B) | ((first | apply call_a E42 | apply call_q E42); exact (ha _); (refine hK1 _ ?_; clear hK1 K1)) | (refine join_x (v := ?_) (fun hg hk9 => ?_) ?_; rotate_left; (focus (try ((try simp only [BN] at hg); simp only [S1, simprocAttr, T2, T3, T4, T22, T23, T25, T35, T51, T53, T55, T58, T92, T101, T103, List.length_map, c, c0, hr, hg] at hk9 ⊢)); first | exact hk9 | ((first | apply call_a E42 | apply call_q E42); exact (ha _); exact hk9)); (refine hK1 _ ?_; clear hK1 K1)) | (((first | (refine ⟨fun hg => hA ?_, fun hg => hB ?_⟩ <;> clear hA hB A B) | refine ⟨fun hg => ?_, fun hg => ?_⟩) <;> (try simp only [BN2] at hg) <;> (try simp only [hg, cond_true, cond_false])) <;> (try (refine hK1 _ ?_; clear hK1 K1)) <;> (try simp only [BN3] at hg))) | (refine awp_seq_k fun K hK => ?_) | ((first | refine awp_region ?_ | refine awp_draw (by kernel_rfl) ?_ | refine awp_block ?_ | refine awp_exit ?_ | refine awp_skip ?_ | refine awp_ret ?_); (try simp only [NB, simprocAttr])))
    all_goals simp only [EndP, FinP, resA, resL, resA1, lastV, lastA, lastAs, pur, purs, take_app, List.take_length, S1, simprocAttr, T2, T3, T4, T22, T23, T25, T35, T51, T53, T55, T58, T92, T101, T103, Nat.le_add_right, Nat.le_refl]
    all_goals rfl

theorem find_first {p : Nat → Bool} {n j : Nat} (h1 : ∀ i, i < j → p i = false) (h2 : p j = true) (hj : j < n) : (List.range n).find? p = some j := by
  rw [List.find?_range_eq_some]
  exact ⟨h2, List.mem_range.mpr hj, fun i hi => by rw [h1 i hi]; rfl⟩

theorem plF_first {rule : Int} {p : Nat → Bool} {n j : Nat} (h1 : ∀ i, i < j → p i = false) (h2 : p j = true) (hj : j < n) : (plF rule p n).head? = some (rule, (j : Int)) := by
  rw [plF_head, find_first h1 h2 hj]; rfl
theorem plF_none {rule : Int} {p : Nat → Bool} {n : Nat} (h1 : ∀ i, i < n → p i = false) : plF rule p n = [] := by
  unfold plF
  rw [List.filter_eq_nil_iff.mpr (fun i hi => by rw [h1 i (List.mem_range.mp hi)]; decide)]
  rfl
end Go.Proofs.YtlophgkgmhcagaaDoor.AM
end

section
set_option linter.unusedVariables false
set_option linter.unusedSimpArgs false
set_option maxRecDepth 4000
set_option maxHeartbeats 4000000
namespace Go.Proofs.YtlophgkgmhcagaaDoor.AM
open Go Go.Proofs
attribute [local irreducible] awp aops aqops aeops arun arunT
variable {G : Nat → Option (List PV)}

theorem findG_le {α : Type} {p : α → Bool} : ∀ {l : List α} {i j : Nat} {k : α}, l[j]? = some k → p k = true → findG p l i ≤ ((i + j : Nat) : Int) ∧ (i : Int) ≤ findG p l i
  | [], i, j, k, h, hp => by simp at h
  | x :: r, i, 0, k, h, hp => by
    simp at h; subst h
    unfold findG; rw [if_pos hp]; omega
  | x :: r, i, j + 1, k, h, hp => by
    unfold findG
    split
    · omega
    · have := findG_le (l := r) (i := i + 1) (j := j) (by simpa using h) hp
      omega

theorem first_le {ns : List Nd} {i : Nat} {k : Nd} {kind : Int} (h : ns[i]? = some k) (hk : (k.kind == kind) = true) : firstN ns kind ≤ (i : Int) := by
  have := (findG_le (p := fun x : Nd => x.kind == kind) (i := 0) h hk).1
  unfold firstN; omega

/-- Rule 3 at a place, as the document says it. -/
theorem bad3_eq {ns : List Nd} {fl : List Fl} {i : Nat} {k : Nd} (h : ns[i]? = some k) : bad3 ns fl i = ((!(threeB ns fl i) || (k.kind == 1 && decide (firstN ns 1 < (i : Int)))) || (k.kind == 2 && decide (firstN ns 2 < (i : Int)))) := by
  have e : kindAt ns i = k.kind := by unfold kindAt; rw [Int.toNat_natCast, h]
  have key : ∀ kind : Int, (k.kind == kind && ((i : Int) != firstN ns kind)) = (k.kind == kind && decide (firstN ns kind < (i : Int))) := by
    intro kind
    cases hk : (k.kind == kind) with
    | false => rfl
    | true =>
      have := first_le h hk
      simp only [Bool.true_and]
      rw [Bool.eq_iff_iff]; simp only [bne_iff_ne, decide_eq_true_eq]; omega
  unfold bad3
  rw [e, key, key]

theorem edge_true (fl : List Fl) : edgeB true fl = (esF fl).map Prod.swap := rfl
theorem edge_false (fl : List Fl) : edgeB false fl = esF fl := rfl

theorem bad4_eq {ns : List Nd} {fl : List Fl} {i : Nat} (hi : i < ns.length) (h2 : (firstN ns 2).toNat < ns.length) :
    bad4 ns fl i = (!((rchL (esF fl) ns.length (firstN ns 1).toNat)[i]?.getD false) || !((rchL (esF fl) ns.length i)[(firstN ns 2).toNat]?.getD false)) := by
  unfold bad4
  rw [edge_true, edge_false]
  congr 2
  have a := rchL_get (es := (esF fl).map Prod.swap) (n := ns.length) (a := (firstN ns 2).toNat) hi
  have b := rchL_get (es := esF fl) (n := ns.length) (a := i) h2
  rw [Rch.rev] at a
  have la := rchL_len ((esF fl).map Prod.swap) ns.length (firstN ns 2).toNat
  have lb := rchL_len (esF fl) ns.length i
  rw [List.getElem?_eq_getElem (by omega)] at a b ⊢
  rw [List.getElem?_eq_getElem (by omega)]
  simp only [Option.some.injEq, Option.getD_some] at a b ⊢
  rw [Bool.eq_iff_iff, a, b]

theorem netN_1 {ns : List Nd} {fl : List Fl} (h : (decide (24 < (ns.length : Int)) || decide (40 < (fl.length : Int))) = true) : netN ns fl = (1, 0) := by
  unfold netN allN; rw [if_pos h]; rfl
theorem netN_a {ns : List Nd} {fl : List Fl} (h : (decide (24 < (ns.length : Int)) || decide (40 < (fl.length : Int))) = false) {j : Nat} (h1 : ∀ i, i < j → bad1 ns i = false) (h2 : bad1 ns j = true) (hj : j < ns.length) : netN ns fl = (1, (j : Int)) := by
  have e := plF_first (rule := 1) h1 h2 hj
  unfold netN allN
  rw [if_neg (by rw [h]; decide), if_pos (ne_of_head e), e]; rfl
theorem netN_b {ns : List Nd} {fl : List Fl} (h : (decide (24 < (ns.length : Int)) || decide (40 < (fl.length : Int))) = false) (n1 : ∀ i, i < ns.length → bad1 ns i = false) {j : Nat} (h1 : ∀ i, i < j → bad2 ns fl i = false) (h2 : bad2 ns fl j = true) (hj : j < fl.length) : netN ns fl = (2, (j : Int)) := by
  have e := plF_first (rule := 2) h1 h2 hj
  unfold netN allN
  rw [if_neg (by rw [h]; decide), if_neg (by rw [plF_none n1]; simp), if_pos (ne_of_head e), e]; rfl
theorem netN_c {ns : List Nd} {fl : List Fl} (h : (decide (24 < (ns.length : Int)) || decide (40 < (fl.length : Int))) = false) (n1 : ∀ i, i < ns.length → bad1 ns i = false) (n2 : ∀ i, i < fl.length → bad2 ns fl i = false) {j : Nat} (h1 : ∀ i, i < j → bad3 ns fl i = false) (h2 : bad3 ns fl j = true) (hj : j < ns.length) : netN ns fl = (3, (j : Int)) := by
  have e := plF_first (rule := 3) h1 h2 hj
  have e2 : (thirdN ns fl).head? = some (3, (j : Int)) := by
    unfold thirdN; rw [List.head?_append, e]; rfl
  unfold netN allN
  rw [if_neg (by rw [h]; decide), if_neg (by rw [plF_none n1]; simp), if_neg (by rw [plF_none n2]; simp), if_pos (ne_of_head e2), e2]; rfl
theorem netN_d {ns : List Nd} {fl : List Fl} (h : (decide (24 < (ns.length : Int)) || decide (40 < (fl.length : Int))) = false) (n1 : ∀ i, i < ns.length → bad1 ns i = false) (n2 : ∀ i, i < fl.length → bad2 ns fl i = false) (n3 : ∀ i, i < ns.length → bad3 ns fl i = false) (hE : noEnds ns = true) : netN ns fl = (3, (ns.length : Int)) := by
  have e2 : thirdN ns fl = [(3, (ns.length : Int))] := by
    unfold thirdN; rw [plF_none n3, if_pos hE]; rfl
  unfold netN allN
  rw [if_neg (by rw [h]; decide), if_neg (by rw [plF_none n1]; simp), if_neg (by rw [plF_none n2]; simp), e2]; rfl
theorem netN_e {ns : List Nd} {fl : List Fl} (h : (decide (24 < (ns.length : Int)) || decide (40 < (fl.length : Int))) = false) (n1 : ∀ i, i < ns.length → bad1 ns i = false) (n2 : ∀ i, i < fl.length → bad2 ns fl i = false) (n3 : ∀ i, i < ns.length → bad3 ns fl i = false) (hE : noEnds ns = false) : netN ns fl = (plF 4 (bad4 ns fl) ns.length).head?.getD (0, 0) := by
  have e2 : thirdN ns fl = [] := by
    unfold thirdN; rw [plF_none n3, hE]; rfl
  unfold netN allN
  rw [if_neg (by rw [h]; decide), if_neg (by rw [plF_none n1]; simp), if_neg (by rw [plF_none n2]; simp), if_neg (by rw [e2]; simp)]

theorem stepF {p : Nat → Bool} {j : Nat} (h : ∀ i, i < j → p i = false) (hj : p j = false) : ∀ i, i < j + 1 → p i = false := fun i hi => by
  rcases Nat.lt_or_ge i j with h1 | h1
  · exact h i h1
  · obtain rfl : i = j := by omega
    exact hj

theorem rCheck_calls (ns : List Nd) (fl : List Fl) (ok : NetOk ns fl) (h : Heap) : ACalls Tryd.prog G 17 [aNet ns fl] h (fun r h' => r = .agg [.i (netN ns fl).1, .i (netN ns fl).2] ∧ h' = h) := by
  have hn := ok.n
  have hl := ok.f
  obtain ⟨m1, hm1, ht1⟩ := ok.tn
  obtain ⟨m2, hm2, ht2⟩ := ok.tf
  refine acalls_pure (rl := []) mixed Tryd.func17 rfl (rs := [.cell 2 49]) rfl Tryd.ntmps17 (by simp) ?_
  refine awp_seq_k fun K hK => ?_
  repeat' (first | ((first | refine aops_nil ?_ | refine aqops_nil ?_); (try simp only [NB]); ((repeat ((fail_if_success (refine hK _ ?_)); clear hK K)); refine hK _ ?_; clear hK K)) | ((first | refine aops_k fun K1 hK1 => ?_ | refine aqops_k fun K1 hK1 => ?_ | refine awp_cond_k fun A B hA hB => ?_); simp only [S1, simprocAttr, T2, T3, T4, T22, T23, T25, T35, T49, T51, T53, T55, T58, T92]; first | (refine hK1 _ ?_; clear hK1 K1) | ((first | refine hA ?_ | refine hB ?_); clear hA hB A B) | (refine join_x (v := ?_) (fun hg hk9 => ?_) ?_; rotate_left; (focus (try ((try simp only [BN] at hg); simp only [S1, simprocAttr, T2, T3, T4, T22, T23, T25, T35, T49, T51, T53, T55, T58, T92, hg] at hk9 ⊢)); first | exact hk9); (refine hK1 _ ?_; clear hK1 K1)) | (((first | (refine ⟨fun hg => hA ?_, fun hg => hB ?_⟩ <;> clear hA hB A B) | refine ⟨fun hg => ?_, fun hg => ?_⟩) <;> (try simp only [BN2] at hg) <;> (try simp only [hg, cond_true, cond_false])) <;> (try (refine hK1 _ ?_; clear hK1 K1)) <;> (try simp only [BN3] at hg))) | (fail) | ((first | refine awp_region ?_ | refine awp_draw (by kernel_rfl) ?_ | refine awp_block ?_ | refine awp_exit ?_ | refine awp_skip ?_ | refine awp_ret ?_); (try simp only [NB, simprocAttr]); (try ((repeat ((fail_if_success (refine hK _ ?_)); clear hK K)); refine hK _ ?_; clear hK K))))
  cases hsz : (decide (24 < (ns.length : Int)) || decide (40 < (fl.length : Int))) with
  | true =>
    rw [netN_1 hsz]
    repeat' (first | ((first | refine aops_nil ?_ | refine aqops_nil ?_); (try simp only [NB])) | ((repeat ((fail_if_success (refine hK _ ?_)); clear hK K)); refine hK _ ?_; clear hK K) | ((first | refine aops_k fun K1 hK1 => ?_ | refine aqops_k fun K1 hK1 => ?_ | refine awp_cond_k fun A B hA hB => ?_); simp only [S1, simprocAttr, T2, T3, T4, T22, T23, T25, T35, T49, T51, T53, T55, T58, T92, List.length_map, hsz]; first | (refine hK1 _ ?_; clear hK1 K1) | ((first | refine hA ?_ | refine hB ?_); clear hA hB A B) | (refine join_x (v := ?_) (fun hg hk9 => ?_) ?_; rotate_left; (focus (try ((try simp only [BN] at hg); simp only [S1, simprocAttr, T2, T3, T4, T22, T23, T25, T35, T49, T51, T53, T55, T58, T92, List.length_map, hsz, hg] at hk9 ⊢)); first | exact hk9); (refine hK1 _ ?_; clear hK1 K1)) | (((first | (refine ⟨fun hg => hA ?_, fun hg => hB ?_⟩ <;> clear hA hB A B) | refine ⟨fun hg => ?_, fun hg => ?_⟩) <;> (try simp only [BN2] at hg) <;> (try simp only [hg, cond_true, cond_false])) <;> (try (refine hK1 _ ?_; clear hK1 K1)) <;> (try simp only [BN3] at hg))) | (refine awp_seq_k fun K hK => ?_) | ((first | refine awp_region ?_ | refine awp_draw (by kernel_rfl) ?_ | refine awp_block ?_ | refine awp_exit ?_ | refine awp_skip ?_ | refine awp_ret ?_); (try simp only [NB, simprocAttr])))
    all_goals simp only [EndP, FinP, resA, resL, resA1, lastV, lastA, lastAs, pur, purs, take_app, List.take_length, S1, simprocAttr, T2, T3, T4, T22, T23, T25, T35, T49, T51, T53, T55, T58, T92, Nat.le_add_right, Nat.le_refl]
  | false =>
    repeat' (first | ((first | refine aops_nil ?_ | refine aqops_nil ?_); (try simp only [NB])) | ((repeat ((fail_if_success (refine hK _ ?_)); clear hK K)); refine hK _ ?_; clear hK K) | ((first | refine aops_k fun K1 hK1 => ?_ | refine aqops_k fun K1 hK1 => ?_ | refine awp_cond_k fun A B hA hB => ?_); simp only [S1, simprocAttr, T2, T3, T4, T22, T23, T25, T35, T49, T51, T53, T55, T58, T92, List.length_map, hsz]; first | (refine hK1 _ ?_; clear hK1 K1) | ((first | refine hA ?_ | refine hB ?_); clear hA hB A B) | (refine join_x (v := ?_) (fun hg hk9 => ?_) ?_; rotate_left; (focus (try ((try simp only [BN] at hg); simp only [S1, simprocAttr, T2, T3, T4, T22, T23, T25, T35, T49, T51, T53, T55, T58, T92, List.length_map, hsz, hg] at hk9 ⊢)); first | exact hk9); (refine hK1 _ ?_; clear hK1 K1)) | (((first | (refine ⟨fun hg => hA ?_, fun hg => hB ?_⟩ <;> clear hA hB A B) | refine ⟨fun hg => ?_, fun hg => ?_⟩) <;> (try simp only [BN2] at hg) <;> (try simp only [hg, cond_true, cond_false])) <;> (try (refine hK1 _ ?_; clear hK1 K1)) <;> (try simp only [BN3] at hg))) | (refine awp_seq_k fun K hK => ?_) | ((first | refine awp_region ?_ | refine awp_draw (by kernel_rfl) ?_ | refine awp_block ?_ | refine awp_exit ?_ | refine awp_skip ?_ | refine awp_ret ?_); (try simp only [NB, simprocAttr])))
    refine awp_for ns.length 131 (fun j => [(28, .i j), (27, .i ns.length), (26, .p (.sl (ns.map eN))), (2, .ptr (h.length + 1) 0 0), (1, .ptr h.length 0 0)])
      (fun j => [some ⟨0, cNet ns fl⟩, some ⟨0, [.i 0, .i 0]⟩]) (fun j => ∀ i, i < j → bad1 ns i = false) ?_ (fun i hi => by omega) fun j hj hp K hK => ?_
    · (refine ⟨rfl, (by first | exact ⟨_, rfl⟩ | exact ⟨[], by simp⟩), ?_, ?_⟩ <;> simp only [keeps, avlt, avlts, blksLt, frL, upd_get, S1, simprocAttr, List.length_map, Int.natCast_zero, AV.p.injEq, PV.int.injEq, PV.bool.injEq, PV.sl.injEq] <;> (try and_intros) <;> (try assumption) <;> (try trivial) <;> (try omega))
    rcases Nat.lt_or_ge j ns.length with hlt | hge
    · obtain ⟨k, hx⟩ : ∃ k, ns[j]? = some k := ⟨_, List.getElem?_eq_getElem hlt⟩
      have e : bad1 ns j = !(oneB k.kind k.a k.term) := by unfold bad1; rw [hx]
      have ho := fun h => one_calls (G := G) (ht1 k (List.mem_of_getElem? hx)) hm1 k.kind k.a h
      cases hq : oneB k.kind k.a k.term with
      | true =>
        rw [hq] at ho e
        repeat' (first | ((first | refine aops_nil ?_ | refine aqops_nil ?_); (try simp only [NB])) | ((repeat ((fail_if_success (refine hK _ ?_)); clear hK K)); refine hK _ ?_; clear hK K) | ((first | refine aops_k fun K1 hK1 => ?_ | refine aqops_k fun K1 hK1 => ?_ | refine awp_cond_k fun A B hA hB => ?_); simp only [S1, simprocAttr, T2, T3, T4, T22, T23, T25, T35, T49, T51, T53, T55, T58, T92, rowN hx, hitN hlt, nextN hn hlt, eN, List.length_map]; first | (refine hK1 _ ?_; clear hK1 K1) | ((first | refine hA ?_ | refine hB ?_); clear hA hB A B) | ((first | apply call_a E32 | apply call_q E32); exact (ho _); (refine hK1 _ ?_; clear hK1 K1)) | (refine join_x (v := ?_) (fun hg hk9 => ?_) ?_; rotate_left; (focus (try ((try simp only [BN] at hg); simp only [S1, simprocAttr, T2, T3, T4, T22, T23, T25, T35, T49, T51, T53, T55, T58, T92, rowN hx, hitN hlt, nextN hn hlt, eN, List.length_map, hg] at hk9 ⊢)); first | exact hk9 | ((first | apply call_a E32 | apply call_q E32); exact (ho _); exact hk9)); (refine hK1 _ ?_; clear hK1 K1)) | (((first | (refine ⟨fun hg => hA ?_, fun hg => hB ?_⟩ <;> clear hA hB A B) | refine ⟨fun hg => ?_, fun hg => ?_⟩) <;> (try simp only [BN2] at hg) <;> (try simp only [hg, cond_true, cond_false])) <;> (try (refine hK1 _ ?_; clear hK1 K1)) <;> (try simp only [BN3] at hg))) | (refine awp_seq_k fun K hK => ?_) | ((first | refine awp_region ?_ | refine awp_draw (by kernel_rfl) ?_ | refine awp_block ?_ | refine awp_exit ?_ | refine awp_skip ?_ | refine awp_ret ?_); (try simp only [NB, simprocAttr])))
        all_goals exact ⟨hlt, stepF hp e, by (refine ⟨rfl, (by first | exact ⟨_, rfl⟩ | exact ⟨[], by simp⟩), ?_, ?_⟩ <;> simp only [keeps, avlt, avlts, blksLt, frL, upd_get, S1, simprocAttr, List.length_map, Int.natCast_zero, AV.p.injEq, PV.int.injEq, PV.bool.injEq, PV.sl.injEq] <;> (try and_intros) <;> (try assumption) <;> (try trivial) <;> (try omega))⟩
      | false =>
        rw [hq] at ho e
        rw [netN_a hsz hp e hlt]
        repeat' (first | ((first | refine aops_nil ?_ | refine aqops_nil ?_); (try simp only [NB])) | ((repeat ((fail_if_success (refine hK _ ?_)); clear hK K)); refine hK _ ?_; clear hK K) | ((first | refine aops_k fun K1 hK1 => ?_ | refine aqops_k fun K1 hK1 => ?_ | refine awp_cond_k fun A B hA hB => ?_); simp only [S1, simprocAttr, T2, T3, T4, T22, T23, T25, T35, T49, T51, T53, T55, T58, T92, rowN hx, hitN hlt, nextN hn hlt, eN, List.length_map]; first | (refine hK1 _ ?_; clear hK1 K1) | ((first | refine hA ?_ | refine hB ?_); clear hA hB A B) | ((first | apply call_a E32 | apply call_q E32); exact (ho _); (refine hK1 _ ?_; clear hK1 K1)) | (refine join_x (v := ?_) (fun hg hk9 => ?_) ?_; rotate_left; (focus (try ((try simp only [BN] at hg); simp only [S1, simprocAttr, T2, T3, T4, T22, T23, T25, T35, T49, T51, T53, T55, T58, T92, rowN hx, hitN hlt, nextN hn hlt, eN, List.length_map, hg] at hk9 ⊢)); first | exact hk9 | ((first | apply call_a E32 | apply call_q E32); exact (ho _); exact hk9)); (refine hK1 _ ?_; clear hK1 K1)) | (((first | (refine ⟨fun hg => hA ?_, fun hg => hB ?_⟩ <;> clear hA hB A B) | refine ⟨fun hg => ?_, fun hg => ?_⟩) <;> (try simp only [BN2] at hg) <;> (try simp only [hg, cond_true, cond_false])) <;> (try (refine hK1 _ ?_; clear hK1 K1)) <;> (try simp only [BN3] at hg))) | (refine awp_seq_k fun K hK => ?_) | ((first | refine awp_region ?_ | refine awp_draw (by kernel_rfl) ?_ | refine awp_block ?_ | refine awp_exit ?_ | refine awp_skip ?_ | refine awp_ret ?_); (try simp only [NB, simprocAttr])))
        all_goals simp only [EndP, FinP, resA, resL, resA1, lastV, lastA, lastAs, pur, purs, take_app, List.take_length, S1, simprocAttr, T2, T3, T4, T22, T23, T25, T35, T49, T51, T53, T55, T58, T92, Nat.le_add_right, Nat.le_refl]
    have n1 : ∀ i, i < ns.length → bad1 ns i = false := fun i hi => hp i (by omega)
    obtain rfl : j = ns.length := by omega
    repeat' (first | ((first | refine aops_nil ?_ | refine aqops_nil ?_); (try simp only [NB])) | ((repeat ((fail_if_success (refine hK _ ?_)); clear hK K)); refine hK _ ?_; clear hK K) | ((first | refine aops_k fun K1 hK1 => ?_ | refine aqops_k fun K1 hK1 => ?_ | refine awp_cond_k fun A B hA hB => ?_); simp only [S1, simprocAttr, T2, T3, T4, T22, T23, T25, T35, T49, T51, T53, T55, T58, T92, endN, List.length_map]; first | (refine hK1 _ ?_; clear hK1 K1) | ((first | refine hA ?_ | refine hB ?_); clear hA hB A B) | (refine join_x (v := ?_) (fun hg hk9 => ?_) ?_; rotate_left; (focus (try ((try simp only [BN] at hg); simp only [S1, simprocAttr, T2, T3, T4, T22, T23, T25, T35, T49, T51, T53, T55, T58, T92, endN, List.length_map, hg] at hk9 ⊢)); first | exact hk9); (refine hK1 _ ?_; clear hK1 K1)) | (((first | (refine ⟨fun hg => hA ?_, fun hg => hB ?_⟩ <;> clear hA hB A B) | refine ⟨fun hg => ?_, fun hg => ?_⟩) <;> (try simp only [BN2] at hg) <;> (try simp only [hg, cond_true, cond_false])) <;> (try (refine hK1 _ ?_; clear hK1 K1)) <;> (try simp only [BN3] at hg))) | (refine awp_seq_k fun K hK => ?_) | ((first | refine awp_region ?_ | refine awp_draw (by kernel_rfl) ?_ | refine awp_block ?_ | refine awp_exit ?_ | refine awp_skip ?_ | refine awp_ret ?_); (try simp only [NB, simprocAttr])))
    refine awp_for fl.length 131 (fun j => [(42, .i j), (41, .i fl.length), (40, .p (.sl (fl.map eF))), (2, .ptr (h.length + 1) 0 0), (1, .ptr h.length 0 0)])
      (fun j => [some ⟨0, cNet ns fl⟩, some ⟨0, [.i 0, .i 0]⟩]) (fun j => ∀ i, i < j → bad2 ns fl i = false) ?_ (fun i hi => by omega) fun j hj hp K hK => ?_
    · (refine ⟨rfl, (by first | exact ⟨_, rfl⟩ | exact ⟨[], by simp⟩), ?_, ?_⟩ <;> simp only [keeps, avlt, avlts, blksLt, frL, upd_get, S1, simprocAttr, List.length_map, Int.natCast_zero, AV.p.injEq, PV.int.injEq, PV.bool.injEq, PV.sl.injEq] <;> (try and_intros) <;> (try assumption) <;> (try trivial) <;> (try omega))
    rcases Nat.lt_or_ge j fl.length with hlt | hge
    · obtain ⟨k, hx⟩ : ∃ k, fl[j]? = some k := ⟨_, List.getElem?_eq_getElem hlt⟩
      have e : bad2 ns fl j = !(twoB ns fl k) := by unfold bad2; rw [hx]
      have ho := fun h => two_calls (G := G) ns hn fl hl k (ht2 k (List.mem_of_getElem? hx)) hm2 h
      cases hq : twoB ns fl k with
      | true =>
        rw [hq] at ho e
        repeat' (first | ((first | refine aops_nil ?_ | refine aqops_nil ?_); (try simp only [NB])) | ((repeat ((fail_if_success (refine hK _ ?_)); clear hK K)); refine hK _ ?_; clear hK K) | ((first | refine aops_k fun K1 hK1 => ?_ | refine aqops_k fun K1 hK1 => ?_ | refine awp_cond_k fun A B hA hB => ?_); simp only [S1, simprocAttr, T2, T3, T4, T22, T23, T25, T35, T49, T51, T53, T55, T58, T92, rowF hx, hitF hlt, nextF hl hlt, eF, List.length_map]; first | (refine hK1 _ ?_; clear hK1 K1) | ((first | refine hA ?_ | refine hB ?_); clear hA hB A B) | ((first | apply call_a E33 | apply call_q E33); exact (ho _); (refine hK1 _ ?_; clear hK1 K1)) | (refine join_x (v := ?_) (fun hg hk9 => ?_) ?_; rotate_left; (focus (try ((try simp only [BN] at hg); simp only [S1, simprocAttr, T2, T3, T4, T22, T23, T25, T35, T49, T51, T53, T55, T58, T92, rowF hx, hitF hlt, nextF hl hlt, eF, List.length_map, hg] at hk9 ⊢)); first | exact hk9 | ((first | apply call_a E33 | apply call_q E33); exact (ho _); exact hk9)); (refine hK1 _ ?_; clear hK1 K1)) | (((first | (refine ⟨fun hg => hA ?_, fun hg => hB ?_⟩ <;> clear hA hB A B) | refine ⟨fun hg => ?_, fun hg => ?_⟩) <;> (try simp only [BN2] at hg) <;> (try simp only [hg, cond_true, cond_false])) <;> (try (refine hK1 _ ?_; clear hK1 K1)) <;> (try simp only [BN3] at hg))) | (refine awp_seq_k fun K hK => ?_) | ((first | refine awp_region ?_ | refine awp_draw (by kernel_rfl) ?_ | refine awp_block ?_ | refine awp_exit ?_ | refine awp_skip ?_ | refine awp_ret ?_); (try simp only [NB, simprocAttr])))
        all_goals exact ⟨hlt, stepF hp e, by (refine ⟨rfl, (by first | exact ⟨_, rfl⟩ | exact ⟨[], by simp⟩), ?_, ?_⟩ <;> simp only [keeps, avlt, avlts, blksLt, frL, upd_get, S1, simprocAttr, List.length_map, Int.natCast_zero, AV.p.injEq, PV.int.injEq, PV.bool.injEq, PV.sl.injEq] <;> (try and_intros) <;> (try assumption) <;> (try trivial) <;> (try omega))⟩
      | false =>
        rw [hq] at ho e
        rw [netN_b hsz n1 hp e hlt]
        repeat' (first | ((first | refine aops_nil ?_ | refine aqops_nil ?_); (try simp only [NB])) | ((repeat ((fail_if_success (refine hK _ ?_)); clear hK K)); refine hK _ ?_; clear hK K) | ((first | refine aops_k fun K1 hK1 => ?_ | refine aqops_k fun K1 hK1 => ?_ | refine awp_cond_k fun A B hA hB => ?_); simp only [S1, simprocAttr, T2, T3, T4, T22, T23, T25, T35, T49, T51, T53, T55, T58, T92, rowF hx, hitF hlt, nextF hl hlt, eF, List.length_map]; first | (refine hK1 _ ?_; clear hK1 K1) | ((first | refine hA ?_ | refine hB ?_); clear hA hB A B) | ((first | apply call_a E33 | apply call_q E33); exact (ho _); (refine hK1 _ ?_; clear hK1 K1)) | (refine join_x (v := ?_) (fun hg hk9 => ?_) ?_; rotate_left; (focus (try ((try simp only [BN] at hg); simp only [S1, simprocAttr, T2, T3, T4, T22, T23, T25, T35, T49, T51, T53, T55, T58, T92, rowF hx, hitF hlt, nextF hl hlt, eF, List.length_map, hg] at hk9 ⊢)); first | exact hk9 | ((first | apply call_a E33 | apply call_q E33); exact (ho _); exact hk9)); (refine hK1 _ ?_; clear hK1 K1)) | (((first | (refine ⟨fun hg => hA ?_, fun hg => hB ?_⟩ <;> clear hA hB A B) | refine ⟨fun hg => ?_, fun hg => ?_⟩) <;> (try simp only [BN2] at hg) <;> (try simp only [hg, cond_true, cond_false])) <;> (try (refine hK1 _ ?_; clear hK1 K1)) <;> (try simp only [BN3] at hg))) | (refine awp_seq_k fun K hK => ?_) | ((first | refine awp_region ?_ | refine awp_draw (by kernel_rfl) ?_ | refine awp_block ?_ | refine awp_exit ?_ | refine awp_skip ?_ | refine awp_ret ?_); (try simp only [NB, simprocAttr])))
        all_goals simp only [EndP, FinP, resA, resL, resA1, lastV, lastA, lastAs, pur, purs, take_app, List.take_length, S1, simprocAttr, T2, T3, T4, T22, T23, T25, T35, T49, T51, T53, T55, T58, T92, Nat.le_add_right, Nat.le_refl]
    have n2 : ∀ i, i < fl.length → bad2 ns fl i = false := fun i hi => hp i (by omega)
    have hd := bad2_in (plF_none (rule := 2) n2)
    obtain rfl : j = fl.length := by omega
    repeat' (first | ((first | refine aops_nil ?_ | refine aqops_nil ?_); (try simp only [NB])) | ((repeat ((fail_if_success (refine hK _ ?_)); clear hK K)); refine hK _ ?_; clear hK K) | ((first | refine aops_k fun K1 hK1 => ?_ | refine aqops_k fun K1 hK1 => ?_ | refine awp_cond_k fun A B hA hB => ?_); simp only [S1, simprocAttr, T2, T3, T4, T22, T23, T25, T35, T49, T51, T53, T55, T58, T92, endF, List.length_map]; first | (refine hK1 _ ?_; clear hK1 K1) | ((first | refine hA ?_ | refine hB ?_); clear hA hB A B) | ((first | apply call_a E34 | apply call_q E34); exact (first_calls ns hn _ _ _); (refine hK1 _ ?_; clear hK1 K1)) | (refine join_x (v := ?_) (fun hg hk9 => ?_) ?_; rotate_left; (focus (try ((try simp only [BN] at hg); simp only [S1, simprocAttr, T2, T3, T4, T22, T23, T25, T35, T49, T51, T53, T55, T58, T92, endF, List.length_map, hg] at hk9 ⊢)); first | exact hk9 | ((first | apply call_a E34 | apply call_q E34); exact (first_calls ns hn _ _ _); exact hk9)); (refine hK1 _ ?_; clear hK1 K1)) | (((first | (refine ⟨fun hg => hA ?_, fun hg => hB ?_⟩ <;> clear hA hB A B) | refine ⟨fun hg => ?_, fun hg => ?_⟩) <;> (try simp only [BN2] at hg) <;> (try simp only [hg, cond_true, cond_false])) <;> (try (refine hK1 _ ?_; clear hK1 K1)) <;> (try simp only [BN3] at hg))) | (refine awp_seq_k fun K hK => ?_) | ((first | refine awp_region ?_ | refine awp_draw (by kernel_rfl) ?_ | refine awp_block ?_ | refine awp_exit ?_ | refine awp_skip ?_ | refine awp_ret ?_); (try simp only [NB, simprocAttr])))
    refine awp_for ns.length 131 (fun j => [(61, .i j), (60, .i ns.length), (59, .p (.sl (ns.map eN))), (8, .i (firstN ns 2)), (7, .i (firstN ns 1)), (2, .ptr (h.length + 1) 0 0), (1, .ptr h.length 0 0)])
      (fun j => [some ⟨0, cNet ns fl⟩, some ⟨0, [.i 0, .i 0]⟩]) (fun j => ∀ i, i < j → bad3 ns fl i = false) ?_ (fun i hi => by omega) fun j hj hp K hK => ?_
    · (refine ⟨rfl, (by first | exact ⟨_, rfl⟩ | exact ⟨[], by simp⟩), ?_, ?_⟩ <;> simp only [keeps, avlt, avlts, blksLt, frL, upd_get, S1, simprocAttr, List.length_map, Int.natCast_zero, AV.p.injEq, PV.int.injEq, PV.bool.injEq, PV.sl.injEq] <;> (try and_intros) <;> (try assumption) <;> (try trivial) <;> (try omega))
    rcases Nat.lt_or_ge j ns.length with hlt | hge
    · obtain ⟨k, hx⟩ : ∃ k, ns[j]? = some k := ⟨_, List.getElem?_eq_getElem hlt⟩
      have e := bad3_eq (fl := fl) hx
      have ho := fun h => three_calls (G := G) ns hn fl hl (fun f hf => (hd f hf).2) j (by omega) (by omega) h
      cases hq : bad3 ns fl j with
      | false =>
        rw [hq] at e
        repeat' (first | ((first | refine aops_nil ?_ | refine aqops_nil ?_); (try simp only [NB])) | ((repeat ((fail_if_success (refine hK _ ?_)); clear hK K)); refine hK _ ?_; clear hK K) | ((first | refine aops_k fun K1 hK1 => ?_ | refine aqops_k fun K1 hK1 => ?_ | refine awp_cond_k fun A B hA hB => ?_); simp only [S1, simprocAttr, T2, T3, T4, T22, T23, T25, T35, T49, T51, T53, T55, T58, T92, rowN hx, hitN hlt, nextN hn hlt, eN, List.length_map, e.symm]; first | (refine hK1 _ ?_; clear hK1 K1) | ((first | refine hA ?_ | refine hB ?_); clear hA hB A B) | ((first | apply call_a E35 | apply call_q E35); exact (ho _); (refine hK1 _ ?_; clear hK1 K1)) | (refine join_x (v := ?_) (fun hg hk9 => ?_) ?_; rotate_left; (focus (try ((try simp only [BN] at hg); simp only [S1, simprocAttr, T2, T3, T4, T22, T23, T25, T35, T49, T51, T53, T55, T58, T92, rowN hx, hitN hlt, nextN hn hlt, eN, List.length_map, e.symm, hg] at hk9 ⊢)); first | exact hk9 | ((first | apply call_a E35 | apply call_q E35); exact (ho _); exact hk9)); (refine hK1 _ ?_; clear hK1 K1)) | (((first | (refine ⟨fun hg => hA ?_, fun hg => hB ?_⟩ <;> clear hA hB A B) | refine ⟨fun hg => ?_, fun hg => ?_⟩) <;> (try simp only [BN2] at hg) <;> (try simp only [hg, cond_true, cond_false])) <;> (try (refine hK1 _ ?_; clear hK1 K1)) <;> (try simp only [BN3] at hg))) | (refine awp_seq_k fun K hK => ?_) | ((first | refine awp_region ?_ | refine awp_draw (by kernel_rfl) ?_ | refine awp_block ?_ | refine awp_exit ?_ | refine awp_skip ?_ | refine awp_ret ?_); (try simp only [NB, simprocAttr])))
        all_goals exact ⟨hlt, stepF hp hq, by (refine ⟨rfl, (by first | exact ⟨_, rfl⟩ | exact ⟨[], by simp⟩), ?_, ?_⟩ <;> simp only [keeps, avlt, avlts, blksLt, frL, upd_get, S1, simprocAttr, List.length_map, Int.natCast_zero, AV.p.injEq, PV.int.injEq, PV.bool.injEq, PV.sl.injEq] <;> (try and_intros) <;> (try assumption) <;> (try trivial) <;> (try omega))⟩
      | true =>
        rw [hq] at e
        rw [netN_c hsz n1 n2 hp hq hlt]
        repeat' (first | ((first | refine aops_nil ?_ | refine aqops_nil ?_); (try simp only [NB])) | ((repeat ((fail_if_success (refine hK _ ?_)); clear hK K)); refine hK _ ?_; clear hK K) | ((first | refine aops_k fun K1 hK1 => ?_ | refine aqops_k fun K1 hK1 => ?_ | refine awp_cond_k fun A B hA hB => ?_); simp only [S1, simprocAttr, T2, T3, T4, T22, T23, T25, T35, T49, T51, T53, T55, T58, T92, rowN hx, hitN hlt, nextN hn hlt, eN, List.length_map, e.symm]; first | (refine hK1 _ ?_; clear hK1 K1) | ((first | refine hA ?_ | refine hB ?_); clear hA hB A B) | ((first | apply call_a E35 | apply call_q E35); exact (ho _); (refine hK1 _ ?_; clear hK1 K1)) | (refine join_x (v := ?_) (fun hg hk9 => ?_) ?_; rotate_left; (focus (try ((try simp only [BN] at hg); simp only [S1, simprocAttr, T2, T3, T4, T22, T23, T25, T35, T49, T51, T53, T55, T58, T92, rowN hx, hitN hlt, nextN hn hlt, eN, List.length_map, e.symm, hg] at hk9 ⊢)); first | exact hk9 | ((first | apply call_a E35 | apply call_q E35); exact (ho _); exact hk9)); (refine hK1 _ ?_; clear hK1 K1)) | (((first | (refine ⟨fun hg => hA ?_, fun hg => hB ?_⟩ <;> clear hA hB A B) | refine ⟨fun hg => ?_, fun hg => ?_⟩) <;> (try simp only [BN2] at hg) <;> (try simp only [hg, cond_true, cond_false])) <;> (try (refine hK1 _ ?_; clear hK1 K1)) <;> (try simp only [BN3] at hg))) | (refine awp_seq_k fun K hK => ?_) | ((first | refine awp_region ?_ | refine awp_draw (by kernel_rfl) ?_ | refine awp_block ?_ | refine awp_exit ?_ | refine awp_skip ?_ | refine awp_ret ?_); (try simp only [NB, simprocAttr])))
        all_goals simp only [EndP, FinP, resA, resL, resA1, lastV, lastA, lastAs, pur, purs, take_app, List.take_length, S1, simprocAttr, T2, T3, T4, T22, T23, T25, T35, T49, T51, T53, T55, T58, T92, Nat.le_add_right, Nat.le_refl]
    have n3 : ∀ i, i < ns.length → bad3 ns fl i = false := fun i hi => hp i (by omega)
    obtain rfl : j = ns.length := by omega
    cases hE : noEnds ns with
    | true =>
      have er := netN_d hsz n1 n2 n3 hE
      unfold noEnds at hE
      repeat' (first | ((first | refine aops_nil ?_ | refine aqops_nil ?_); (try simp only [NB])) | ((repeat ((fail_if_success (refine hK _ ?_)); clear hK K)); refine hK _ ?_; clear hK K) | ((first | refine aops_k fun K1 hK1 => ?_ | refine aqops_k fun K1 hK1 => ?_ | refine awp_cond_k fun A B hA hB => ?_); simp only [S1, simprocAttr, T2, T3, T4, T22, T23, T25, T35, T49, T51, T53, T55, T58, T92, endN, hE, List.length_map]; first | (refine hK1 _ ?_; clear hK1 K1) | ((first | refine hA ?_ | refine hB ?_); clear hA hB A B) | (refine join_x (v := ?_) (fun hg hk9 => ?_) ?_; rotate_left; (focus (try ((try simp only [BN] at hg); simp only [S1, simprocAttr, T2, T3, T4, T22, T23, T25, T35, T49, T51, T53, T55, T58, T92, endN, hE, List.length_map, hg] at hk9 ⊢)); first | exact hk9); (refine hK1 _ ?_; clear hK1 K1)) | (((first | (refine ⟨fun hg => hA ?_, fun hg => hB ?_⟩ <;> clear hA hB A B) | refine ⟨fun hg => ?_, fun hg => ?_⟩) <;> (try simp only [BN2] at hg) <;> (try simp only [hg, cond_true, cond_false])) <;> (try (refine hK1 _ ?_; clear hK1 K1)) <;> (try simp only [BN3] at hg))) | (refine awp_seq_k fun K hK => ?_) | ((first | refine awp_region ?_ | refine awp_draw (by kernel_rfl) ?_ | refine awp_block ?_ | refine awp_exit ?_ | refine awp_skip ?_ | refine awp_ret ?_); (try simp only [NB, simprocAttr])))
      all_goals simp only [EndP, FinP, resA, resL, resA1, lastV, lastA, lastAs, pur, purs, take_app, List.take_length, S1, simprocAttr, T2, T3, T4, T22, T23, T25, T35, T49, T51, T53, T55, T58, T92, Nat.le_add_right, Nat.le_refl]
      all_goals rw [er]
    | false =>
      have hen := netN_e hsz n1 n2 n3 hE
      obtain ⟨⟨s0, s1⟩, e0, e1⟩ := ends_in hE
      unfold noEnds at hE
      repeat' (first | ((first | refine aops_nil ?_ | refine aqops_nil ?_); (try simp only [NB])) | ((repeat ((fail_if_success (refine hK _ ?_)); clear hK K)); refine hK _ ?_; clear hK K) | ((first | refine aops_k fun K1 hK1 => ?_ | refine aqops_k fun K1 hK1 => ?_ | refine awp_cond_k fun A B hA hB => ?_); simp only [S1, simprocAttr, T2, T3, T4, T22, T23, T25, T35, T49, T51, T53, T55, T58, T92, endN, hE, List.length_map]; first | (refine hK1 _ ?_; clear hK1 K1) | ((first | refine hA ?_ | refine hB ?_); clear hA hB A B) | ((first | apply call_a E36 | apply call_q E36); exact (Reach_calls ns hn fl hl hd _ s0 s1 _); (refine hK1 _ ?_; clear hK1 K1)) | (refine join_x (v := ?_) (fun hg hk9 => ?_) ?_; rotate_left; (focus (try ((try simp only [BN] at hg); simp only [S1, simprocAttr, T2, T3, T4, T22, T23, T25, T35, T49, T51, T53, T55, T58, T92, endN, hE, List.length_map, hg] at hk9 ⊢)); first | exact hk9 | ((first | apply call_a E36 | apply call_q E36); exact (Reach_calls ns hn fl hl hd _ s0 s1 _); exact hk9)); (refine hK1 _ ?_; clear hK1 K1)) | (((first | (refine ⟨fun hg => hA ?_, fun hg => hB ?_⟩ <;> clear hA hB A B) | refine ⟨fun hg => ?_, fun hg => ?_⟩) <;> (try simp only [BN2] at hg) <;> (try simp only [hg, cond_true, cond_false])) <;> (try (refine hK1 _ ?_; clear hK1 K1)) <;> (try simp only [BN3] at hg))) | (refine awp_seq_k fun K hK => ?_) | ((first | refine awp_region ?_ | refine awp_draw (by kernel_rfl) ?_ | refine awp_block ?_ | refine awp_exit ?_ | refine awp_skip ?_ | refine awp_ret ?_); (try simp only [NB, simprocAttr])))
      refine awp_for ns.length 131 (fun j => [(109, .i j), (108, .i ns.length), (107, .p (.sl (ns.map eN))), (11, aB (rchL (esF fl) ns.length (firstN ns 1).toNat)), (8, .i (firstN ns 2)), (7, .i (firstN ns 1)), (2, .ptr (h.length + 1) 0 0), (1, .ptr h.length 0 0)])
        (fun j => [some ⟨0, cNet ns fl⟩, some ⟨0, [.i 0, .i 0]⟩]) (fun j => ∀ i, i < j → bad4 ns fl i = false) ?_ (fun i hi => by omega) fun j hj hp K hK => ?_
      · (refine ⟨rfl, (by first | exact ⟨_, rfl⟩ | exact ⟨[], by simp⟩), ?_, ?_⟩ <;> simp only [keeps, avlt, avlts, blksLt, frL, upd_get, S1, simprocAttr, List.length_map, Int.natCast_zero, AV.p.injEq, PV.int.injEq, PV.bool.injEq, PV.sl.injEq] <;> (try and_intros) <;> (try assumption) <;> (try trivial) <;> (try omega))
      rcases Nat.lt_or_ge j ns.length with hlt | hge
      · have e := bad4_eq (fl := fl) hlt (by omega)
        have la := rchL_len (esF fl) ns.length (firstN ns 1).toNat
        have lb := rchL_len (esF fl) ns.length j
        have j0 : (0 : Int) ≤ (j : Int) := by omega
        have ho := fun h => Reach_calls (G := G) ns hn fl hl hd j j0 (by omega) h
        rw [Int.toNat_natCast] at ho
        obtain ⟨x, hx⟩ : ∃ x, (rchL (esF fl) ns.length (firstN ns 1).toNat)[j]? = some x := ⟨_, List.getElem?_eq_getElem (by omega)⟩
        obtain ⟨y, hy⟩ : ∃ x, (rchL (esF fl) ns.length j)[(firstN ns 2).toNat]? = some x := ⟨_, List.getElem?_eq_getElem (by omega)⟩
        rw [hx, hy] at e
        simp only [Option.getD_some] at e
        have hx' : ((rchL (esF fl) ns.length (firstN ns 1).toNat).map eB)[j]? = some [.bool x] := by simp [hx, eB]
        have hy' : ((rchL (esF fl) ns.length j).map eB)[(firstN ns 2).toNat]? = some [.bool y] := by simp [hy, eB]
        cases hq : bad4 ns fl j with
        | false =>
          rw [hq] at e
          repeat' (first | ((first | refine aops_nil ?_ | refine aqops_nil ?_); (try simp only [NB])) | ((repeat ((fail_if_success (refine hK _ ?_)); clear hK K)); refine hK _ ?_; clear hK K) | ((first | refine aops_k fun K1 hK1 => ?_ | refine aqops_k fun K1 hK1 => ?_ | refine awp_cond_k fun A B hA hB => ?_); simp only [S1, simprocAttr, T2, T3, T4, T22, T23, T25, T35, T49, T51, T53, T55, T58, T92, hitN hlt, nextN hn hlt, hx', hy', j0, e0, Int.toNat_natCast, List.length_map, e.symm]; first | (refine hK1 _ ?_; clear hK1 K1) | ((first | refine hA ?_ | refine hB ?_); clear hA hB A B) | ((first | apply call_a E36 | apply call_q E36); exact (ho _); (refine hK1 _ ?_; clear hK1 K1)) | (refine join_x (v := ?_) (fun hg hk9 => ?_) ?_; rotate_left; (focus (try ((try simp only [BN] at hg); simp only [S1, simprocAttr, T2, T3, T4, T22, T23, T25, T35, T49, T51, T53, T55, T58, T92, hitN hlt, nextN hn hlt, hx', hy', j0, e0, Int.toNat_natCast, List.length_map, e.symm, hg] at hk9 ⊢)); first | exact hk9 | ((first | apply call_a E36 | apply call_q E36); exact (ho _); exact hk9)); (refine hK1 _ ?_; clear hK1 K1)) | (((first | (refine ⟨fun hg => hA ?_, fun hg => hB ?_⟩ <;> clear hA hB A B) | refine ⟨fun hg => ?_, fun hg => ?_⟩) <;> (try simp only [BN2] at hg) <;> (try simp only [hg, cond_true, cond_false])) <;> (try (refine hK1 _ ?_; clear hK1 K1)) <;> (try simp only [BN3] at hg))) | (refine awp_seq_k fun K hK => ?_) | ((first | refine awp_region ?_ | refine awp_draw (by kernel_rfl) ?_ | refine awp_block ?_ | refine awp_exit ?_ | refine awp_skip ?_ | refine awp_ret ?_); (try simp only [NB, simprocAttr])))
          all_goals exact ⟨hlt, stepF hp hq, by (refine ⟨rfl, (by first | exact ⟨_, rfl⟩ | exact ⟨[], by simp⟩), ?_, ?_⟩ <;> simp only [keeps, avlt, avlts, blksLt, frL, upd_get, S1, simprocAttr, List.length_map, Int.natCast_zero, AV.p.injEq, PV.int.injEq, PV.bool.injEq, PV.sl.injEq] <;> (try and_intros) <;> (try assumption) <;> (try trivial) <;> (try omega))⟩
        | true =>
          have er : netN ns fl = (4, (j : Int)) := by rw [hen, plF_first hp hq hlt]; rfl
          rw [hq] at e
          rw [er]
          repeat' (first | ((first | refine aops_nil ?_ | refine aqops_nil ?_); (try simp only [NB])) | ((repeat ((fail_if_success (refine hK _ ?_)); clear hK K)); refine hK _ ?_; clear hK K) | ((first | refine aops_k fun K1 hK1 => ?_ | refine aqops_k fun K1 hK1 => ?_ | refine awp_cond_k fun A B hA hB => ?_); simp only [S1, simprocAttr, T2, T3, T4, T22, T23, T25, T35, T49, T51, T53, T55, T58, T92, hitN hlt, nextN hn hlt, hx', hy', j0, e0, Int.toNat_natCast, List.length_map, e.symm]; first | (refine hK1 _ ?_; clear hK1 K1) | ((first | refine hA ?_ | refine hB ?_); clear hA hB A B) | ((first | apply call_a E36 | apply call_q E36); exact (ho _); (refine hK1 _ ?_; clear hK1 K1)) | (refine join_x (v := ?_) (fun hg hk9 => ?_) ?_; rotate_left; (focus (try ((try simp only [BN] at hg); simp only [S1, simprocAttr, T2, T3, T4, T22, T23, T25, T35, T49, T51, T53, T55, T58, T92, hitN hlt, nextN hn hlt, hx', hy', j0, e0, Int.toNat_natCast, List.length_map, e.symm, hg] at hk9 ⊢)); first | exact hk9 | ((first | apply call_a E36 | apply call_q E36); exact (ho _); exact hk9)); (refine hK1 _ ?_; clear hK1 K1)) | (((first | (refine ⟨fun hg => hA ?_, fun hg => hB ?_⟩ <;> clear hA hB A B) | refine ⟨fun hg => ?_, fun hg => ?_⟩) <;> (try simp only [BN2] at hg) <;> (try simp only [hg, cond_true, cond_false])) <;> (try (refine hK1 _ ?_; clear hK1 K1)) <;> (try simp only [BN3] at hg))) | (refine awp_seq_k fun K hK => ?_) | ((first | refine awp_region ?_ | refine awp_draw (by kernel_rfl) ?_ | refine awp_block ?_ | refine awp_exit ?_ | refine awp_skip ?_ | refine awp_ret ?_); (try simp only [NB, simprocAttr])))
          all_goals simp only [EndP, FinP, resA, resL, resA1, lastV, lastA, lastAs, pur, purs, take_app, List.take_length, S1, simprocAttr, T2, T3, T4, T22, T23, T25, T35, T49, T51, T53, T55, T58, T92, Nat.le_add_right, Nat.le_refl]
      obtain rfl : j = ns.length := by omega
      have er : netN ns fl = (0, 0) := by rw [hen, plF_none hp]; rfl
      repeat' (first | ((first | refine aops_nil ?_ | refine aqops_nil ?_); (try simp only [NB])) | ((repeat ((fail_if_success (refine hK _ ?_)); clear hK K)); refine hK _ ?_; clear hK K) | ((first | refine aops_k fun K1 hK1 => ?_ | refine aqops_k fun K1 hK1 => ?_ | refine awp_cond_k fun A B hA hB => ?_); simp only [S1, simprocAttr, T2, T3, T4, T22, T23, T25, T35, T49, T51, T53, T55, T58, T92, endN]; first | (refine hK1 _ ?_; clear hK1 K1) | ((first | refine hA ?_ | refine hB ?_); clear hA hB A B) | (refine join_x (v := ?_) (fun hg hk9 => ?_) ?_; rotate_left; (focus (try ((try simp only [BN] at hg); simp only [S1, simprocAttr, T2, T3, T4, T22, T23, T25, T35, T49, T51, T53, T55, T58, T92, endN, hg] at hk9 ⊢)); first | exact hk9); (refine hK1 _ ?_; clear hK1 K1)) | (((first | (refine ⟨fun hg => hA ?_, fun hg => hB ?_⟩ <;> clear hA hB A B) | refine ⟨fun hg => ?_, fun hg => ?_⟩) <;> (try simp only [BN2] at hg) <;> (try simp only [hg, cond_true, cond_false])) <;> (try (refine hK1 _ ?_; clear hK1 K1)) <;> (try simp only [BN3] at hg))) | (refine awp_seq_k fun K hK => ?_) | ((first | refine awp_region ?_ | refine awp_draw (by kernel_rfl) ?_ | refine awp_block ?_ | refine awp_exit ?_ | refine awp_skip ?_ | refine awp_ret ?_); (try simp only [NB, simprocAttr])))
      all_goals simp only [EndP, FinP, resA, resL, resA1, lastV, lastA, lastAs, pur, purs, take_app, List.take_length, S1, simprocAttr, T2, T3, T4, T22, T23, T25, T35, T49, T51, T53, T55, T58, T92, Nat.le_add_right, Nat.le_refl]
      all_goals rw [er]
end Go.Proofs.YtlophgkgmhcagaaDoor.AM
end

section
set_option linter.unusedVariables false
set_option linter.unusedSimpArgs false
set_option maxRecDepth 4000
set_option maxHeartbeats 4000000
namespace Go.Proofs.YtlophgkgmhcagaaDoor.AM
open Go Go.Proofs
attribute [local irreducible] awp aops aqops aeops arun arunT
variable {G : Nat → Option (List PV)}

theorem Ints_calls (a b : List Int) (ha : a.length ≤ 200) (h : Heap) : ACalls Tryd.prog G 11 [aI a, aI b] h (fun r h' => r = .b (decide (a = b)) ∧ h' = h) := by
  refine acalls_pure (rl := []) mixed Tryd.func11 rfl (rs := [.tmp 4]) rfl Tryd.ntmps11 (by simp) ?_
  repeat' (first | ((first | refine aops_nil ?_ | refine aqops_nil ?_); (try simp only [NB])) | ((repeat ((fail_if_success (refine hK _ ?_)); clear hK K)); refine hK _ ?_; clear hK K) | ((first | refine aops_k fun K1 hK1 => ?_ | refine aqops_k fun K1 hK1 => ?_ | refine awp_cond_k fun A B hA hB => ?_); simp only [S1, simprocAttr, T2, T3, T4, T28, T35, T37, T77, T79, List.length_map]; first | (refine hK1 _ ?_; clear hK1 K1) | ((first | refine hA ?_ | refine hB ?_); clear hA hB A B) | (refine join_x (v := ?_) (fun hg hk9 => ?_) ?_; rotate_left; (focus (try ((try simp only [BN] at hg); simp only [S1, simprocAttr, T2, T3, T4, T28, T35, T37, T77, T79, List.length_map, hg] at hk9 ⊢)); first | exact hk9); (refine hK1 _ ?_; clear hK1 K1)) | (((first | (refine ⟨fun hg => hA ?_, fun hg => hB ?_⟩ <;> clear hA hB A B) | refine ⟨fun hg => ?_, fun hg => ?_⟩) <;> (try simp only [BN2] at hg) <;> (try simp only [hg, cond_true, cond_false])) <;> (try (refine hK1 _ ?_; clear hK1 K1)) <;> (try simp only [BN3] at hg))) | (refine awp_seq_k fun K hK => ?_) | ((first | refine awp_region ?_ | refine awp_draw (by kernel_rfl) ?_ | refine awp_block ?_ | refine awp_exit ?_ | refine awp_skip ?_ | refine awp_ret ?_); (try simp only [NB, simprocAttr])))
  refine awp_for a.length 32 (fun i => [(8, .i i), (7, .i a.length), (1, aI b), (0, aI a)]) (fun i => []) (fun i => ∀ k, k < i → b[k]? = a[k]?) ?_ (fun k hk => by omega) fun i hi hp K hK => ?_
  · (refine ⟨rfl, (by first | exact ⟨_, rfl⟩ | exact ⟨[], by simp⟩), ?_, ?_⟩ <;> simp only [keeps, avlt, avlts, blksLt, frL, upd_get, S1, simprocAttr, List.length_map, Int.natCast_zero, AV.p.injEq, PV.int.injEq, PV.bool.injEq, PV.sl.injEq] <;> (try and_intros) <;> (try assumption) <;> (try trivial) <;> (try omega))
  rcases Nat.lt_or_ge i a.length with hlt | hge
  · obtain ⟨x, hx⟩ : ∃ k, a[i]? = some k := ⟨_, List.getElem?_eq_getElem hlt⟩
    have i0 : (0 : Int) ≤ (i : Int) := by omega
    cases hb : b[i]? with
    | none =>
      have hl : b.length ≤ i := List.getElem?_eq_none_iff.mp hb
      have f1 : decide ((b.length : Int) ≤ (i : Int)) = true := decide_eq_true (by omega)
      have hne : decide (a = b) = false := decide_eq_false (by rintro rfl; rw [hb] at hx; cases hx)
      repeat' (first | ((first | refine aops_nil ?_ | refine aqops_nil ?_); (try simp only [NB])) | ((repeat ((fail_if_success (refine hK _ ?_)); clear hK K)); refine hK _ ?_; clear hK K) | ((first | refine aops_k fun K1 hK1 => ?_ | refine aqops_k fun K1 hK1 => ?_ | refine awp_cond_k fun A B hA hB => ?_); simp only [S1, simprocAttr, T2, T3, T4, T28, T35, T37, T77, T79, rowI hx, hitI hlt, nextI ha hlt, f1, i0, Int.toNat_natCast, List.length_map]; first | (refine hK1 _ ?_; clear hK1 K1) | ((first | refine hA ?_ | refine hB ?_); clear hA hB A B) | (refine join_x (v := ?_) (fun hg hk9 => ?_) ?_; rotate_left; (focus (try ((try simp only [BN] at hg); simp only [S1, simprocAttr, T2, T3, T4, T28, T35, T37, T77, T79, rowI hx, hitI hlt, nextI ha hlt, f1, i0, Int.toNat_natCast, List.length_map, hg] at hk9 ⊢)); first | exact hk9); (refine hK1 _ ?_; clear hK1 K1)) | (((first | (refine ⟨fun hg => hA ?_, fun hg => hB ?_⟩ <;> clear hA hB A B) | refine ⟨fun hg => ?_, fun hg => ?_⟩) <;> (try simp only [BN2] at hg) <;> (try simp only [hg, cond_true, cond_false])) <;> (try (refine hK1 _ ?_; clear hK1 K1)) <;> (try simp only [BN3] at hg))) | (refine awp_seq_k fun K hK => ?_) | ((first | refine awp_region ?_ | refine awp_draw (by kernel_rfl) ?_ | refine awp_block ?_ | refine awp_exit ?_ | refine awp_skip ?_ | refine awp_ret ?_); (try simp only [NB, simprocAttr])))
      all_goals simp only [EndP, FinP, resA, resL, resA1, lastV, lastA, lastAs, pur, purs, take_app, List.take_length, S1, simprocAttr, T2, T3, T4, T28, T35, T37, T77, T79, Nat.le_add_right, Nat.le_refl]
      all_goals simp [hne]
    | some y =>
      have hl : i < b.length := (List.getElem?_eq_some_iff.mp hb).1
      have f1 : decide ((b.length : Int) ≤ (i : Int)) = false := decide_eq_false (by omega)
      cases hxy : (x != y) with
      | true =>
        have hne : decide (a = b) = false := decide_eq_false (by
          rintro rfl
          rw [hb] at hx; cases hx
          simp at hxy)
        repeat' (first | ((first | refine aops_nil ?_ | refine aqops_nil ?_); (try simp only [NB])) | ((repeat ((fail_if_success (refine hK _ ?_)); clear hK K)); refine hK _ ?_; clear hK K) | ((first | refine aops_k fun K1 hK1 => ?_ | refine aqops_k fun K1 hK1 => ?_ | refine awp_cond_k fun A B hA hB => ?_); simp only [S1, simprocAttr, T2, T3, T4, T28, T35, T37, T77, T79, rowI hx, rowI hb, hitI hlt, nextI ha hlt, f1, hxy, i0, Int.toNat_natCast, List.length_map]; first | (refine hK1 _ ?_; clear hK1 K1) | ((first | refine hA ?_ | refine hB ?_); clear hA hB A B) | (refine join_x (v := ?_) (fun hg hk9 => ?_) ?_; rotate_left; (focus (try ((try simp only [BN] at hg); simp only [S1, simprocAttr, T2, T3, T4, T28, T35, T37, T77, T79, rowI hx, rowI hb, hitI hlt, nextI ha hlt, f1, hxy, i0, Int.toNat_natCast, List.length_map, hg] at hk9 ⊢)); first | exact hk9); (refine hK1 _ ?_; clear hK1 K1)) | (((first | (refine ⟨fun hg => hA ?_, fun hg => hB ?_⟩ <;> clear hA hB A B) | refine ⟨fun hg => ?_, fun hg => ?_⟩) <;> (try simp only [BN2] at hg) <;> (try simp only [hg, cond_true, cond_false])) <;> (try (refine hK1 _ ?_; clear hK1 K1)) <;> (try simp only [BN3] at hg))) | (refine awp_seq_k fun K hK => ?_) | ((first | refine awp_region ?_ | refine awp_draw (by kernel_rfl) ?_ | refine awp_block ?_ | refine awp_exit ?_ | refine awp_skip ?_ | refine awp_ret ?_); (try simp only [NB, simprocAttr])))
        all_goals simp only [EndP, FinP, resA, resL, resA1, lastV, lastA, lastAs, pur, purs, take_app, List.take_length, S1, simprocAttr, T2, T3, T4, T28, T35, T37, T77, T79, Nat.le_add_right, Nat.le_refl]
        all_goals simp [hne]
      | false =>
        have exy : x = y := by simpa using hxy
        repeat' (first | ((first | refine aops_nil ?_ | refine aqops_nil ?_); (try simp only [NB])) | ((repeat ((fail_if_success (refine hK _ ?_)); clear hK K)); refine hK _ ?_; clear hK K) | ((first | refine aops_k fun K1 hK1 => ?_ | refine aqops_k fun K1 hK1 => ?_ | refine awp_cond_k fun A B hA hB => ?_); simp only [S1, simprocAttr, T2, T3, T4, T28, T35, T37, T77, T79, rowI hx, rowI hb, hitI hlt, nextI ha hlt, f1, hxy, i0, Int.toNat_natCast, List.length_map]; first | (refine hK1 _ ?_; clear hK1 K1) | ((first | refine hA ?_ | refine hB ?_); clear hA hB A B) | (refine join_x (v := ?_) (fun hg hk9 => ?_) ?_; rotate_left; (focus (try ((try simp only [BN] at hg); simp only [S1, simprocAttr, T2, T3, T4, T28, T35, T37, T77, T79, rowI hx, rowI hb, hitI hlt, nextI ha hlt, f1, hxy, i0, Int.toNat_natCast, List.length_map, hg] at hk9 ⊢)); first | exact hk9); (refine hK1 _ ?_; clear hK1 K1)) | (((first | (refine ⟨fun hg => hA ?_, fun hg => hB ?_⟩ <;> clear hA hB A B) | refine ⟨fun hg => ?_, fun hg => ?_⟩) <;> (try simp only [BN2] at hg) <;> (try simp only [hg, cond_true, cond_false])) <;> (try (refine hK1 _ ?_; clear hK1 K1)) <;> (try simp only [BN3] at hg))) | (refine awp_seq_k fun K hK => ?_) | ((first | refine awp_region ?_ | refine awp_draw (by kernel_rfl) ?_ | refine awp_block ?_ | refine awp_exit ?_ | refine awp_skip ?_ | refine awp_ret ?_); (try simp only [NB, simprocAttr])))
        all_goals refine ⟨hlt, fun k hk => ?_, by (refine ⟨rfl, (by first | exact ⟨_, rfl⟩ | exact ⟨[], by simp⟩), ?_, ?_⟩ <;> simp only [keeps, avlt, avlts, blksLt, frL, upd_get, S1, simprocAttr, List.length_map, Int.natCast_zero, AV.p.injEq, PV.int.injEq, PV.bool.injEq, PV.sl.injEq] <;> (try and_intros) <;> (try assumption) <;> (try trivial) <;> (try omega))⟩
        all_goals
          rcases Nat.lt_or_ge k i with h1 | h1
          · exact hp k h1
          · obtain rfl : k = i := by omega
            rw [hb, hx, exy]
  · obtain rfl : i = a.length := by omega
    have key : ((a.length : Int) == (b.length : Int)) = decide (a = b) := by
      rw [Bool.eq_iff_iff]
      simp only [beq_iff_eq, decide_eq_true_eq]
      constructor
      · intro e
        apply List.ext_getElem?
        intro k
        rcases Nat.lt_or_ge k a.length with h1 | h1
        · exact (hp k h1).symm
        · rw [List.getElem?_eq_none h1, List.getElem?_eq_none (by omega)]
      · rintro rfl; rfl
    repeat' (first | ((first | refine aops_nil ?_ | refine aqops_nil ?_); (try simp only [NB])) | ((repeat ((fail_if_success (refine hK _ ?_)); clear hK K)); refine hK _ ?_; clear hK K) | ((first | refine aops_k fun K1 hK1 => ?_ | refine aqops_k fun K1 hK1 => ?_ | refine awp_cond_k fun A B hA hB => ?_); simp only [S1, simprocAttr, T2, T3, T4, T28, T35, T37, T77, T79, endI, List.length_map, key]; first | (refine hK1 _ ?_; clear hK1 K1) | ((first | refine hA ?_ | refine hB ?_); clear hA hB A B) | (refine join_x (v := ?_) (fun hg hk9 => ?_) ?_; rotate_left; (focus (try ((try simp only [BN] at hg); simp only [S1, simprocAttr, T2, T3, T4, T28, T35, T37, T77, T79, endI, List.length_map, key, hg] at hk9 ⊢)); first | exact hk9); (refine hK1 _ ?_; clear hK1 K1)) | (((first | (refine ⟨fun hg => hA ?_, fun hg => hB ?_⟩ <;> clear hA hB A B) | refine ⟨fun hg => ?_, fun hg => ?_⟩) <;> (try simp only [BN2] at hg) <;> (try simp only [hg, cond_true, cond_false])) <;> (try (refine hK1 _ ?_; clear hK1 K1)) <;> (try simp only [BN3] at hg))) | (refine awp_seq_k fun K hK => ?_) | ((first | refine awp_region ?_ | refine awp_draw (by kernel_rfl) ?_ | refine awp_block ?_ | refine awp_exit ?_ | refine awp_skip ?_ | refine awp_ret ?_); (try simp only [NB, simprocAttr])))
    all_goals simp only [EndP, FinP, resA, resL, resA1, lastV, lastA, lastAs, pur, purs, take_app, List.take_length, S1, simprocAttr, T2, T3, T4, T28, T35, T37, T77, T79, Nat.le_add_right, Nat.le_refl]

structure Ru where
  kind : Int
  node : Int
  needs : List Int
  gives : List Int

def eRu (r : Ru) : List PV := [.int .i64 r.kind, .int .i64 r.node, .sl (r.needs.map eI), .sl (r.gives.map eI)]
abbrev aRu (r : Ru) : AV := .agg [.i r.kind, .i r.node, aI r.needs, aI r.gives]
theorem eRu_len (r : Ru) : (eRu r).length = 4 := rfl
theorem eRu_ok (r : Ru) : ∀ x ∈ eRu r, x ≠ .nils := by
  intro x hx
  simp only [eRu, List.mem_cons, List.not_mem_nil, or_false] at hx
  rcases hx with rfl | rfl | rfl | rfl <;> exact fun e => by cases e
/-- The cells of rules. -/
def cRu (l : List Ru) : List AV := (flatE eRu l).map AV.p
theorem cRu_len (l : List Ru) : (cRu l).length = l.length * 4 := by unfold cRu; rw [List.length_map, flatE_len eRu_len]
theorem cRu_app (l : List Ru) (r : Ru) : cRu (l ++ [r]) = cRu l ++ [.i r.kind, .i r.node, aI r.needs, aI r.gives] := by
  unfold cRu; rw [flatE_app, List.map_append]; rfl
theorem avlts_cRu (m : Nat) (l : List Ru) : avlts m (cRu l) := avlts_p _ _

/-- A maker, and its rules so far. -/
def mkB (lb : Nat) (l : List Ru) : Option Blk := some ⟨0, [.ref lb l.length 0 4 l.length]⟩
def ruB (l : List Ru) : Option Blk := some ⟨l.length, cRu l⟩

theorem maker_calls (l : List Ru) (hl : l.length ≤ 100000) (r : Ru) (h : Heap) (A : Option Blk) (L : Heap) :
    ACalls Tryd.prog G 26 [.ptr (h.length + 1) 0 0, .i r.kind, .i r.node, aI r.needs, aI r.gives] (h ++ (A :: mkB (h.length + 2) l :: ruB l :: L)) (fun x h' => x = .undef ∧ h' = h ++ (A :: mkB (h.length + 2) (l ++ [r]) :: ruB (l ++ [r]) :: L)) := by
  refine Sim.evoKeep (rl := []) mixed Tryd.func26 rfl (by rw [Tryd.ntmps26]; simp) ?_
  rw [Tryd.ntmps26]
  have hmax : l.length + 1 ≤ maxCount := by unfold maxCount; omega
  have e1 : (l ++ [r]).length = l.length + 1 := by simp
  unfold mkB ruB
  repeat' (first | ((first | refine aops_nil ?_ | refine aqops_nil ?_); (try simp only [NB])) | ((repeat ((fail_if_success (refine hK _ ?_)); clear hK K)); refine hK _ ?_; clear hK K) | ((first | refine aops_k fun K1 hK1 => ?_ | refine aqops_k fun K1 hK1 => ?_ | refine awp_cond_k fun A B hA hB => ?_); simp only [S1, simprocAttr, T2, T3, T4, T28, T35, T37, T77, T79, cRu_len, hmax, Nat.zero_add]; first | (refine hK1 _ ?_; clear hK1 K1) | ((first | refine hA ?_ | refine hB ?_); clear hA hB A B) | (refine join_x (v := ?_) (fun hg hk9 => ?_) ?_; rotate_left; (focus (try ((try simp only [BN] at hg); simp only [S1, simprocAttr, T2, T3, T4, T28, T35, T37, T77, T79, cRu_len, hmax, Nat.zero_add, hg] at hk9 ⊢)); first | exact hk9); (refine hK1 _ ?_; clear hK1 K1)) | (((first | (refine ⟨fun hg => hA ?_, fun hg => hB ?_⟩ <;> clear hA hB A B) | refine ⟨fun hg => ?_, fun hg => ?_⟩) <;> (try simp only [BN2] at hg) <;> (try simp only [hg, cond_true, cond_false])) <;> (try (refine hK1 _ ?_; clear hK1 K1)) <;> (try simp only [BN3] at hg))) | (refine awp_seq_k fun K hK => ?_) | ((first | refine awp_region ?_ | refine awp_draw (by kernel_rfl) ?_ | refine awp_block ?_ | refine awp_exit ?_ | refine awp_skip ?_ | refine awp_ret ?_); (try simp only [NB, simprocAttr])))
  refine ⟨.inl trivial, FinK_none (by simp) ⟨rfl, ?_⟩⟩
  rw [e1, cRu_app]
end Go.Proofs.YtlophgkgmhcagaaDoor.AM
end

section
set_option linter.unusedVariables false
set_option linter.unusedSimpArgs false
namespace Go.Proofs.YtlophgkgmhcagaaDoor.AM
open Go Go.Proofs

/-- No rule is broken. -/
structure Right (ns : List Nd) (fl : List Fl) : Prop where
  n : ns.length ≤ 24
  f : fl.length ≤ 40
  b1 : ∀ i, i < ns.length → bad1 ns i = false
  b2 : ∀ i, i < fl.length → bad2 ns fl i = false
  b3 : ∀ i, i < ns.length → bad3 ns fl i = false
  ends : noEnds ns = false
  b4 : ∀ i, i < ns.length → bad4 ns fl i = false

theorem plF_fst {rule : Int} {p : Nat → Bool} {n : Nat} {x : Int × Int} (h : (plF rule p n).head? = some x) : x.1 = rule := by
  have hm := List.mem_of_head? h
  unfold plF at hm
  obtain ⟨i, _, rfl⟩ := List.mem_map.mp hm
  rfl
theorem head_none {α : Type} {l : List α} (h : l.head? = none) : l = [] := by
  cases l with
  | nil => rfl
  | cons => cases h

theorem Right.of {ns : List Nd} {fl : List Fl} (h : (netN ns fl).1 = 0) : Right ns fl := by
  have key : ∀ (rule : Int) (l : List (Int × Int)), rule ≠ 0 → (∀ x, l.head? = some x → x.1 = rule) → (l.head?.getD (0, 0)).1 = 0 → l = [] := by
    intro rule l hr hl h0
    cases hx : l.head? with
    | none => exact head_none hx
    | some x =>
      rw [hx] at h0
      have := hl x hx
      simp only [Option.getD_some] at h0
      omega
  unfold netN allN at h
  split at h
  · simp at h
  rename_i hs
  split at h
  · rename_i h1; exact absurd (key 1 _ (by decide) (fun x hx => plF_fst hx) h) h1
  rename_i h1
  split at h
  · rename_i h2; exact absurd (key 2 _ (by decide) (fun x hx => plF_fst hx) h) h2
  rename_i h2
  split at h
  · rename_i h3
    refine absurd (key 3 _ (by decide) (fun x hx => ?_) h) h3
    unfold thirdN at hx
    rw [List.head?_append] at hx
    cases hq : (plF 3 (bad3 ns fl) ns.length).head? with
    | some y => rw [hq] at hx; cases hx; exact plF_fst hq
    | none =>
      rw [hq] at hx
      split at hx
      · cases hx; rfl
      · cases hx
  rename_i h3
  have h4 := key 4 _ (by decide) (fun x hx => plF_fst hx) h
  rw [Decidable.not_not] at h1 h2 h3
  have h3' : plF 3 (bad3 ns fl) ns.length = [] ∧ noEnds ns = false := by
    unfold thirdN at h3
    rw [List.append_eq_nil_iff] at h3
    refine ⟨h3.1, ?_⟩
    cases hq : noEnds ns with
    | false => rfl
    | true => rw [hq] at h3; simp at h3
  simp only [Bool.or_eq_true, decide_eq_true_eq, not_or] at hs
  exact ⟨by omega, by omega, plF_nil h1, plF_nil h2, plF_nil h3'.1, h3'.2, plF_nil h4⟩

theorem Right.isIn {ns : List Nd} {fl : List Fl} (h : Right ns fl) : InN ns.length fl := bad2_in (plF_none (rule := 2) h.b2)
theorem Right.three {ns : List Nd} {fl : List Fl} (h : Right ns fl) {i : Nat} (hi : i < ns.length) : threeB ns fl i = true := by
  have := h.b3 i hi
  unfold bad3 at this
  simp only [Bool.or_eq_false_iff, Bool.not_eq_false'] at this
  exact this.1.1
theorem Right.netOk {ns : List Nd} {fl : List Fl} (h : Right ns fl) : (netN ns fl).1 = 0 := by
  rw [netN_e (by simp; have := h.n; have := h.f; omega) h.b1 h.b2 h.b3 h.ends, plF_none h.b4]; rfl

def dstAt (fl : List Fl) (x : Int) : Int := match fl[x.toNat]? with | some f => f.dst | none => 0

def ruOf (fl : List Fl) (i : Nat) (kind : Int) : List Ru :=
  if kind = 1 then []
  else if kind = 7 then (outsN fl i).map fun f => ⟨3, i, insN fl i, outsN fl (dstAt fl f)⟩
  else if kind = 8 then [⟨3, i, insN fl i, outsN fl i⟩]
  else if kind = 5 then (if 1 < (outsN fl i).length then (outsN fl i).map fun f => ⟨2, i, insN fl i, [f]⟩ else (insN fl i).map fun f => ⟨1, i, [f], [(outsN fl i).headD 0]⟩)
  else [⟨1, i, insN fl i, outsN fl i⟩]

/-- The rules of the first nodes. -/
def ruTo (ns : List Nd) (fl : List Fl) : Nat → List Ru
  | 0 => []
  | j + 1 => ruTo ns fl j ++ ruOf fl j (kindAt ns j)

theorem insN_le (fl : List Fl) (i : Int) : (insN fl i).length ≤ fl.length := pickF_le _ _ _
theorem outsN_le (fl : List Fl) (i : Int) : (outsN fl i).length ≤ fl.length := pickF_le _ _ _

theorem ruOf_le (fl : List Fl) (i : Nat) (kind : Int) : (ruOf fl i kind).length ≤ fl.length + 1 := by
  have a := insN_le fl i
  have b := outsN_le fl i
  unfold ruOf
  repeat' split
  all_goals simp only [List.length_nil, List.length_map, List.length_cons]
  all_goals omega
theorem ruTo_le (ns : List Nd) (fl : List Fl) : ∀ j, (ruTo ns fl j).length ≤ j * (fl.length + 1)
  | 0 => by simp [ruTo]
  | j + 1 => by
    have a := ruTo_le ns fl j
    have b := ruOf_le fl j (kindAt ns j)
    rw [ruTo, List.length_append, Nat.add_mul]
    omega

theorem kind_of {ns : List Nd} {i : Nat} {k : Nd} (h : ns[i]? = some k) : kindAt ns i = k.kind := by unfold kindAt; rw [Int.toNat_natCast, h]

/-- What an Xor of a right process has. -/
theorem Right.xor {ns : List Nd} {fl : List Fl} (h : Right ns fl) {i : Nat} (hi : i < ns.length) (hk : kindAt ns i = 5) : ((insN fl i).length = 1 ∧ 2 ≤ (outsN fl i).length) ∨ (2 ≤ (insN fl i).length ∧ (outsN fl i).length = 1) := by
  have := h.three hi
  unfold threeB at this
  simp only [hk] at this
  simp only [Int.reduceEq, reduceIte, Bool.or_eq_true, Bool.and_eq_true, beq_iff_eq, decide_eq_true_eq] at this
  omega
end Go.Proofs.YtlophgkgmhcagaaDoor.AM
end

section
set_option linter.unusedVariables false
set_option linter.unusedSimpArgs false
set_option maxRecDepth 4000
set_option maxHeartbeats 4000000
namespace Go.Proofs.YtlophgkgmhcagaaDoor.AM
open Go Go.Proofs
attribute [local irreducible] awp aops aqops aeops arun arunT
variable {G : Nat → Option (List PV)}

def kindX (fl : List Fl) (j : Nat) : Int := if 1 < (outsN fl j).length then 2 else 1
def rowX (fl : List Fl) (j : Nat) (a : Int) : List Ru := (outsN fl j).map fun b => ⟨kindX fl j, j, [a], [b]⟩
def accX (fl : List Fl) (j : Nat) : Nat → List Ru
  | 0 => []
  | i + 1 => match (insN fl j)[i]? with
    | some a => accX fl j i ++ rowX fl j a
    | none => accX fl j i

/-- A node's rules, as the document tells them. -/
def nodeD (fl : List Fl) (i : Nat) (kind : Int) : List Ru :=
  if kind = 1 then []
  else if kind = 5 then accX fl i (insN fl i).length
  else if kind = 7 then (outsN fl i).map fun f => ⟨3, i, insN fl i, outsN fl (dstAt fl f)⟩
  else if kind = 8 then [⟨3, i, insN fl i, outsN fl i⟩]
  else [⟨1, i, insN fl i, outsN fl i⟩]

theorem accX_one {fl : List Fl} {j : Nat} {a : Int} (h : insN fl j = [a]) : accX fl j 1 = rowX fl j a := by
  simp [accX, h]
theorem accX_row {fl : List Fl} {j : Nat} {o : Int} (h : outsN fl j = [o]) : ∀ i, i ≤ (insN fl j).length → accX fl j i = ((insN fl j).take i).map fun f => ⟨1, j, [f], [o]⟩
  | 0, _ => by simp [accX]
  | i + 1, hi => by
    obtain ⟨a, ha⟩ : ∃ a, (insN fl j)[i]? = some a := ⟨_, List.getElem?_eq_getElem hi⟩
    rw [accX, ha, List.take_add_one, ha, List.map_append, accX_row h i (by omega)]
    simp [rowX, kindX, h]

theorem nodeD_eq {ns : List Nd} {fl : List Fl} (hR : Right ns fl) {i : Nat} (hi : i < ns.length) : nodeD fl i (kindAt ns i) = ruOf fl i (kindAt ns i) := by
  unfold nodeD ruOf
  by_cases k1 : kindAt ns i = 1
  · rw [if_pos k1, if_pos k1]
  rw [if_neg k1, if_neg k1]
  by_cases k5 : kindAt ns i = 5
  · rw [if_pos k5, if_neg (by omega), if_neg (by omega), if_pos k5]
    rcases hR.xor hi k5 with ⟨h1, h2⟩ | ⟨h1, h2⟩
    · rw [if_pos (by omega)]
      match hx : insN fl i, h1 with
      | [a], _ =>
        rw [List.length_singleton, accX_one hx]
        unfold rowX kindX
        rw [if_pos (by omega)]
    · rw [if_neg (by omega)]
      match hx : outsN fl i, h2 with
      | [o], _ =>
        rw [accX_row hx _ (Nat.le_refl _), List.take_length]
        rfl
  · rw [if_neg k5]
    by_cases k7 : kindAt ns i = 7
    · rw [if_pos k7, if_pos k7]
    · rw [if_neg k7, if_neg k7, if_neg (c := kindAt ns i = 5) k5]

theorem accX_le (fl : List Fl) (j : Nat) : ∀ i, (accX fl j i).length ≤ i * fl.length
  | 0 => by simp [accX]
  | i + 1 => by
    have a := accX_le fl j i
    have b := outsN_le fl j
    unfold accX
    split
    · rw [List.length_append, Nat.add_mul]
      unfold rowX; rw [List.length_map]; omega
    · rw [Nat.add_mul]; omega

theorem ruB_app (l : List Ru) (r : Ru) : ruB (l ++ [r]) = some ⟨l.length + 1, cRu l ++ [.i r.kind, .i r.node, aI r.needs, aI r.gives]⟩ := by
  unfold ruB; rw [cRu_app]; simp
theorem avlts_ruB (m : Nat) (l : List Ru) (a b : Int) (x y : List Int) : avlts m (cRu l ++ [.i a, .i b, aI x, aI y]) := by
  have := avlts_cRu m (l ++ [⟨a, b, x, y⟩])
  rwa [cRu_app] at this

theorem node_calls (ns : List Nd) (fl : List Fl) (ok : NetOk ns fl) (hd : InN ns.length fl) (j : Nat) (hj : j < ns.length) (h : Heap) :
    ACalls Tryd.prog G 27 [aNet ns fl, .i j] h (fun r h' => r = .p (.sl ((nodeD fl j (kindAt ns j)).map eRu)) ∧ h' = h) := by
  have hn := ok.n
  have hl := ok.f
  have hol := outsN_le fl j
  have hil := insN_le fl j
  obtain ⟨k, hx⟩ : ∃ k, ns[j]? = some k := ⟨_, List.getElem?_eq_getElem hj⟩
  have hx' := rowN hx
  have j0 : (0 : Int) ≤ (j : Int) := by omega
  rw [kind_of hx]
  by_cases k1 : k.kind = 1
  · have ro : nodeD fl j k.kind = [] := by unfold nodeD; rw [if_pos k1]
    rw [ro]
    refine acalls_pure (rl := []) mixed Tryd.func27 rfl (rs := [.tmp 4]) rfl Tryd.ntmps27 (by simp) ?_
    repeat' (first | ((first | refine aops_nil ?_ | refine aqops_nil ?_); (try simp only [NB])) | ((repeat ((fail_if_success (refine hK _ ?_)); clear hK K)); refine hK _ ?_; clear hK K) | ((first | refine aops_k fun K1 hK1 => ?_ | refine aqops_k fun K1 hK1 => ?_ | refine awp_cond_k fun A B hA hB => ?_); simp only [S1, simprocAttr, T2, T3, T4, T22, T23, T25, T32, T35, T38, T49, T51, T53, T55, T58, hx', j0, eN, k1, Int.toNat_natCast, List.length_map]; first | (refine hK1 _ ?_; clear hK1 K1) | ((first | refine hA ?_ | refine hB ?_); clear hA hB A B) | ((first | apply call_a E18 | apply call_q E18); exact (rIns_calls _ fl hl _ _); (refine hK1 _ ?_; clear hK1 K1)) | ((first | apply call_a E19 | apply call_q E19); exact (rOuts_calls _ fl hl _ _); (refine hK1 _ ?_; clear hK1 K1)) | (refine join_x (v := ?_) (fun hg hk9 => ?_) ?_; rotate_left; (focus (try ((try simp only [BN] at hg); simp only [S1, simprocAttr, T2, T3, T4, T22, T23, T25, T32, T35, T38, T49, T51, T53, T55, T58, hx', j0, eN, k1, Int.toNat_natCast, List.length_map, hg] at hk9 ⊢)); first | exact hk9 | ((first | apply call_a E18 | apply call_q E18); exact (rIns_calls _ fl hl _ _); exact hk9) | ((first | apply call_a E19 | apply call_q E19); exact (rOuts_calls _ fl hl _ _); exact hk9)); (refine hK1 _ ?_; clear hK1 K1)) | (((first | (refine ⟨fun hg => hA ?_, fun hg => hB ?_⟩ <;> clear hA hB A B) | refine ⟨fun hg => ?_, fun hg => ?_⟩) <;> (try simp only [BN2] at hg) <;> (try simp only [hg, cond_true, cond_false])) <;> (try (refine hK1 _ ?_; clear hK1 K1)) <;> (try simp only [BN3] at hg))) | (refine awp_seq_k fun K hK => ?_) | ((first | refine awp_region ?_ | refine awp_draw (by kernel_rfl) ?_ | refine awp_block ?_ | refine awp_exit ?_ | refine awp_skip ?_ | refine awp_ret ?_); (try simp only [NB, simprocAttr])))
    all_goals simp only [EndP, FinP, resA, resL, resA1, lastV, lastA, lastAs, pur, purs, take_app, List.take_length, S1, simprocAttr, T2, T3, T4, T22, T23, T25, T32, T35, T38, T49, T51, T53, T55, T58, Nat.le_add_right, Nat.le_refl]
    all_goals rfl
  have f1 : (k.kind == 1) = false := by simp [k1]
  by_cases k5 : k.kind = 5
  · have ro : nodeD fl j k.kind = accX fl j (insN fl j).length := by unfold nodeD; rw [if_neg k1, if_pos k5]
    rw [ro]
    refine acalls_pure (rl := []) mixed Tryd.func27 rfl (rs := [.tmp 4]) rfl Tryd.ntmps27 (by simp) ?_
    repeat' (first | ((first | refine aops_nil ?_ | refine aqops_nil ?_); (try simp only [NB])) | ((repeat ((fail_if_success (refine hK _ ?_)); clear hK K)); refine hK _ ?_; clear hK K) | ((first | refine aops_k fun K1 hK1 => ?_ | refine aqops_k fun K1 hK1 => ?_ | refine awp_cond_k fun A B hA hB => ?_); simp only [S1, simprocAttr, T2, T3, T4, T22, T23, T25, T32, T35, T38, T49, T51, T53, T55, T58, hx', j0, eN, k5, Int.toNat_natCast, List.length_map]; first | (refine hK1 _ ?_; clear hK1 K1) | ((first | refine hA ?_ | refine hB ?_); clear hA hB A B) | ((first | apply call_a E18 | apply call_q E18); exact (rIns_calls _ fl hl _ _); (refine hK1 _ ?_; clear hK1 K1)) | ((first | apply call_a E19 | apply call_q E19); exact (rOuts_calls _ fl hl _ _); (refine hK1 _ ?_; clear hK1 K1)) | (refine join_x (v := ?_) (fun hg hk9 => ?_) ?_; rotate_left; (focus (try ((try simp only [BN] at hg); simp only [S1, simprocAttr, T2, T3, T4, T22, T23, T25, T32, T35, T38, T49, T51, T53, T55, T58, hx', j0, eN, k5, Int.toNat_natCast, List.length_map, hg] at hk9 ⊢)); first | exact hk9 | ((first | apply call_a E18 | apply call_q E18); exact (rIns_calls _ fl hl _ _); exact hk9) | ((first | apply call_a E19 | apply call_q E19); exact (rOuts_calls _ fl hl _ _); exact hk9)); (refine hK1 _ ?_; clear hK1 K1)) | (((first | (refine ⟨fun hg => hA ?_, fun hg => hB ?_⟩ <;> clear hA hB A B) | refine ⟨fun hg => ?_, fun hg => ?_⟩) <;> (try simp only [BN2] at hg) <;> (try simp only [hg, cond_true, cond_false])) <;> (try (refine hK1 _ ?_; clear hK1 K1)) <;> (try simp only [BN3] at hg))) | (refine awp_seq_k fun K hK => ?_) | ((first | refine awp_region ?_ | refine awp_draw (by kernel_rfl) ?_ | refine awp_block ?_ | refine awp_exit ?_ | refine awp_skip ?_ | refine awp_ret ?_); (try simp only [NB, simprocAttr])))
    refine awp_forG (insN fl j).length 95 (fun i => [(33, .i i), (32, .i (insN fl j).length), (31, aI (insN fl j)), (7, .ref (h.length + 1) (accX fl j i).length 0 4 (accX fl j i).length), (6, aI (outsN fl j)), (1, .i j)])
      (fun i => [some ⟨0, cNet ns fl⟩, ruB (accX fl j i)]) (fun i => True) ?_ trivial fun i hi hp K hK => ?_
    · refine (Ghost.adopt 7 4 rfl).trans (Sub.ghost ⟨rfl, ⟨[], by simp only [List.append_nil, List.append_assoc, List.cons_append, List.nil_append]; rfl⟩, ?_, ⟨trivial, trivial, trivial⟩, avlts_cRu _ _, trivial⟩)
      simp only [keeps, avlt, accX, upd_get, frL, List.length_cons, List.length_nil]
      simp
    rcases Nat.lt_or_ge i (insN fl j).length with hlti | hgei
    · obtain ⟨a, hai⟩ : ∃ x, (insN fl j)[i]? = some x := ⟨_, List.getElem?_eq_getElem hlti⟩
      have ea : accX fl j (i + 1) = accX fl j i ++ rowX fl j a := by rw [accX, hai]
      repeat' (first | ((first | refine aops_nil ?_ | refine aqops_nil ?_); (try simp only [NB])) | ((repeat ((fail_if_success (refine hK _ ?_)); clear hK K)); refine hK _ ?_; clear hK K) | ((first | refine aops_k fun K1 hK1 => ?_ | refine aqops_k fun K1 hK1 => ?_ | refine awp_cond_k fun A B hA hB => ?_); simp only [S1, simprocAttr, T2, T3, T4, T22, T23, T25, T32, T35, T38, T49, T51, T53, T55, T58, rowI hai, hitI hlti, nextI (by omega) hlti, List.length_map]; first | (refine hK1 _ ?_; clear hK1 K1) | ((first | refine hA ?_ | refine hB ?_); clear hA hB A B) | (refine join_x (v := ?_) (fun hg hk9 => ?_) ?_; rotate_left; (focus (try ((try simp only [BN] at hg); simp only [S1, simprocAttr, T2, T3, T4, T22, T23, T25, T32, T35, T38, T49, T51, T53, T55, T58, rowI hai, hitI hlti, nextI (by omega) hlti, List.length_map, hg] at hk9 ⊢)); first | exact hk9); (refine hK1 _ ?_; clear hK1 K1)) | (((first | (refine ⟨fun hg => hA ?_, fun hg => hB ?_⟩ <;> clear hA hB A B) | refine ⟨fun hg => ?_, fun hg => ?_⟩) <;> (try simp only [BN2] at hg) <;> (try simp only [hg, cond_true, cond_false])) <;> (try (refine hK1 _ ?_; clear hK1 K1)) <;> (try simp only [BN3] at hg))) | (refine awp_seq_k fun K hK => ?_) | ((first | refine awp_region ?_ | refine awp_draw (by kernel_rfl) ?_ | refine awp_block ?_ | refine awp_exit ?_ | refine awp_skip ?_ | refine awp_ret ?_); (try simp only [NB, simprocAttr])))
      let FB := fun b : Int => (⟨kindX fl j, j, [a], [b]⟩ : Ru)
      refine awp_for (outsN fl j).length 95 (fun i2 => [(39, .i i2), (38, .i (outsN fl j).length), (37, aI (outsN fl j)), (33, .i i), (32, .i (insN fl j).length), (31, aI (insN fl j)), (9, .i a), (7, .ref (h.length + 1) (accX fl j i ++ ((outsN fl j).take i2).map FB).length 0 4 (accX fl j i ++ ((outsN fl j).take i2).map FB).length), (6, aI (outsN fl j)), (1, .i j)])
        (fun i2 => [some ⟨0, cNet ns fl⟩, ruB (accX fl j i ++ ((outsN fl j).take i2).map FB)]) (fun i2 => True) ?_ trivial fun i2 hi2 hp2 K hK => ?_
      · simp only [List.take_zero, List.map_nil, List.append_nil]
        refine ⟨rfl, ⟨_, rfl⟩, ?_, ⟨trivial, trivial, trivial⟩, avlts_cRu _ _, trivial⟩
        simp only [keeps, avlt, avlts, blksLt, frL, upd_get, S1, simprocAttr, List.length_map, Int.natCast_zero, AV.p.injEq, PV.int.injEq, PV.bool.injEq, PV.sl.injEq] <;> (try and_intros) <;> (try assumption) <;> (try trivial) <;> (try omega)
      rcases Nat.lt_or_ge i2 (outsN fl j).length with hlt2 | hge2
      · obtain ⟨b, hbi⟩ : ∃ x, (outsN fl j)[i2]? = some x := ⟨_, List.getElem?_eq_getElem hlt2⟩
        have et : ((outsN fl j).take (i2 + 1)).map FB = ((outsN fl j).take i2).map FB ++ [FB b] := by rw [List.take_add_one, hbi, List.map_append]; rfl
        have hll : (accX fl j i ++ ((outsN fl j).take i2).map FB).length + 1 ≤ maxCount := by
          have h1 := accX_le fl j i
          have h2 : i * fl.length ≤ 100 * 100 := Nat.mul_le_mul (by omega) (by omega)
          unfold maxCount
          rw [List.length_append, List.length_map, List.length_take]; omega
        generalize hacc : accX fl j i ++ ((outsN fl j).take i2).map FB = acc at *
        have en : accX fl j i ++ ((outsN fl j).take (i2 + 1)).map FB = acc ++ [FB b] := by rw [et, ← List.append_assoc, hacc]
        by_cases hs : 1 < (outsN fl j).length
        · have hs' : decide ((1 : Int) < ((outsN fl j).length : Int)) = true := decide_eq_true (by omega)
          have efb : FB b = ⟨2, j, [a], [b]⟩ := by simp only [FB, kindX, if_pos hs]
          repeat' (first | ((first | refine aops_nil ?_ | refine aqops_nil ?_); (try simp only [NB])) | ((repeat ((fail_if_success (refine hK _ ?_)); clear hK K)); refine hK _ ?_; clear hK K) | ((first | refine aops_k fun K1 hK1 => ?_ | refine aqops_k fun K1 hK1 => ?_ | refine awp_cond_k fun A B hA hB => ?_); simp only [S1, simprocAttr, T2, T3, T4, T22, T23, T25, T32, T35, T38, T49, T51, T53, T55, T58, rowI hbi, hitI hlt2, nextI (by omega) hlt2, hs', ruB, cRu_len, hll, Nat.zero_add, List.length_map]; first | (refine hK1 _ ?_; clear hK1 K1) | ((first | refine hA ?_ | refine hB ?_); clear hA hB A B) | (refine join_x (v := ?_) (fun hg hk9 => ?_) ?_; rotate_left; (focus (try ((try simp only [BN] at hg); simp only [S1, simprocAttr, T2, T3, T4, T22, T23, T25, T32, T35, T38, T49, T51, T53, T55, T58, rowI hbi, hitI hlt2, nextI (by omega) hlt2, hs', ruB, cRu_len, hll, Nat.zero_add, List.length_map, hg] at hk9 ⊢)); first | exact hk9); (refine hK1 _ ?_; clear hK1 K1)) | (((first | (refine ⟨fun hg => hA ?_, fun hg => hB ?_⟩ <;> clear hA hB A B) | refine ⟨fun hg => ?_, fun hg => ?_⟩) <;> (try simp only [BN2] at hg) <;> (try simp only [hg, cond_true, cond_false])) <;> (try (refine hK1 _ ?_; clear hK1 K1)) <;> (try simp only [BN3] at hg))) | (refine awp_seq_k fun K hK => ?_) | ((first | refine awp_region ?_ | refine awp_draw (by kernel_rfl) ?_ | refine awp_block ?_ | refine awp_exit ?_ | refine awp_skip ?_ | refine awp_ret ?_); (try simp only [NB, simprocAttr])))
          all_goals refine ⟨hlt2, trivial, ?_⟩
          all_goals simp only [en, efb, ruB_app, List.length_append, List.length_cons, List.length_nil, Nat.zero_add]
          all_goals refine ⟨rfl, ⟨_, rfl⟩, ?_, ⟨trivial, trivial, trivial⟩, avlts_ruB _ _ _ _ _ _, trivial⟩
          all_goals simp only [keeps, avlt, avlts, blksLt, frL, upd_get, S1, simprocAttr, List.length_map, Int.natCast_zero, AV.p.injEq, PV.int.injEq, PV.bool.injEq, PV.sl.injEq] <;> (try and_intros) <;> (try assumption) <;> (try trivial) <;> (try omega)
        · have hs' : decide ((1 : Int) < ((outsN fl j).length : Int)) = false := decide_eq_false (by omega)
          have efb : FB b = ⟨1, j, [a], [b]⟩ := by simp only [FB, kindX, if_neg hs]
          repeat' (first | ((first | refine aops_nil ?_ | refine aqops_nil ?_); (try simp only [NB])) | ((repeat ((fail_if_success (refine hK _ ?_)); clear hK K)); refine hK _ ?_; clear hK K) | ((first | refine aops_k fun K1 hK1 => ?_ | refine aqops_k fun K1 hK1 => ?_ | refine awp_cond_k fun A B hA hB => ?_); simp only [S1, simprocAttr, T2, T3, T4, T22, T23, T25, T32, T35, T38, T49, T51, T53, T55, T58, rowI hbi, hitI hlt2, nextI (by omega) hlt2, hs', ruB, cRu_len, hll, Nat.zero_add, List.length_map]; first | (refine hK1 _ ?_; clear hK1 K1) | ((first | refine hA ?_ | refine hB ?_); clear hA hB A B) | (refine join_x (v := ?_) (fun hg hk9 => ?_) ?_; rotate_left; (focus (try ((try simp only [BN] at hg); simp only [S1, simprocAttr, T2, T3, T4, T22, T23, T25, T32, T35, T38, T49, T51, T53, T55, T58, rowI hbi, hitI hlt2, nextI (by omega) hlt2, hs', ruB, cRu_len, hll, Nat.zero_add, List.length_map, hg] at hk9 ⊢)); first | exact hk9); (refine hK1 _ ?_; clear hK1 K1)) | (((first | (refine ⟨fun hg => hA ?_, fun hg => hB ?_⟩ <;> clear hA hB A B) | refine ⟨fun hg => ?_, fun hg => ?_⟩) <;> (try simp only [BN2] at hg) <;> (try simp only [hg, cond_true, cond_false])) <;> (try (refine hK1 _ ?_; clear hK1 K1)) <;> (try simp only [BN3] at hg))) | (refine awp_seq_k fun K hK => ?_) | ((first | refine awp_region ?_ | refine awp_draw (by kernel_rfl) ?_ | refine awp_block ?_ | refine awp_exit ?_ | refine awp_skip ?_ | refine awp_ret ?_); (try simp only [NB, simprocAttr])))
          all_goals refine ⟨hlt2, trivial, ?_⟩
          all_goals simp only [en, efb, ruB_app, List.length_append, List.length_cons, List.length_nil, Nat.zero_add]
          all_goals refine ⟨rfl, ⟨_, rfl⟩, ?_, ⟨trivial, trivial, trivial⟩, avlts_ruB _ _ _ _ _ _, trivial⟩
          all_goals simp only [keeps, avlt, avlts, blksLt, frL, upd_get, S1, simprocAttr, List.length_map, Int.natCast_zero, AV.p.injEq, PV.int.injEq, PV.bool.injEq, PV.sl.injEq] <;> (try and_intros) <;> (try assumption) <;> (try trivial) <;> (try omega)
      · obtain rfl : i2 = (outsN fl j).length := by omega
        repeat' (first | ((first | refine aops_nil ?_ | refine aqops_nil ?_); (try simp only [NB])) | ((repeat ((fail_if_success (refine hK _ ?_)); clear hK K)); refine hK _ ?_; clear hK K) | ((first | refine aops_k fun K1 hK1 => ?_ | refine aqops_k fun K1 hK1 => ?_ | refine awp_cond_k fun A B hA hB => ?_); simp only [S1, simprocAttr, T2, T3, T4, T22, T23, T25, T32, T35, T38, T49, T51, T53, T55, T58, endI, nextI (by omega) hlti]; first | (refine hK1 _ ?_; clear hK1 K1) | ((first | refine hA ?_ | refine hB ?_); clear hA hB A B) | (refine join_x (v := ?_) (fun hg hk9 => ?_) ?_; rotate_left; (focus (try ((try simp only [BN] at hg); simp only [S1, simprocAttr, T2, T3, T4, T22, T23, T25, T32, T35, T38, T49, T51, T53, T55, T58, endI, nextI (by omega) hlti, hg] at hk9 ⊢)); first | exact hk9); (refine hK1 _ ?_; clear hK1 K1)) | (((first | (refine ⟨fun hg => hA ?_, fun hg => hB ?_⟩ <;> clear hA hB A B) | refine ⟨fun hg => ?_, fun hg => ?_⟩) <;> (try simp only [BN2] at hg) <;> (try simp only [hg, cond_true, cond_false])) <;> (try (refine hK1 _ ?_; clear hK1 K1)) <;> (try simp only [BN3] at hg))) | (refine awp_seq_k fun K hK => ?_) | ((first | refine awp_region ?_ | refine awp_draw (by kernel_rfl) ?_ | refine awp_block ?_ | refine awp_exit ?_ | refine awp_skip ?_ | refine awp_ret ?_); (try simp only [NB, simprocAttr])))
        all_goals refine ⟨hlti, trivial, ?_⟩
        all_goals simp only [ea, rowX, List.take_length]
        all_goals refine ⟨rfl, ⟨_, rfl⟩, ?_, ⟨trivial, trivial, trivial⟩, avlts_cRu _ _, trivial⟩
        all_goals simp only [keeps, avlt, avlts, blksLt, frL, upd_get, S1, simprocAttr, List.length_map, Int.natCast_zero, AV.p.injEq, PV.int.injEq, PV.bool.injEq, PV.sl.injEq] <;> (try and_intros) <;> (try assumption) <;> (try trivial) <;> (try omega)
    · obtain rfl : i = (insN fl j).length := by omega
      repeat' (first | ((first | refine aops_nil ?_ | refine aqops_nil ?_); (try simp only [NB])) | ((repeat ((fail_if_success (refine hK _ ?_)); clear hK K)); refine hK _ ?_; clear hK K) | ((first | refine aops_k fun K1 hK1 => ?_ | refine aqops_k fun K1 hK1 => ?_ | refine awp_cond_k fun A B hA hB => ?_); simp only [S1, simprocAttr, T2, T3, T4, T22, T23, T25, T32, T35, T38, T49, T51, T53, T55, T58, endI]; first | (refine hK1 _ ?_; clear hK1 K1) | ((first | refine hA ?_ | refine hB ?_); clear hA hB A B) | (refine join_x (v := ?_) (fun hg hk9 => ?_) ?_; rotate_left; (focus (try ((try simp only [BN] at hg); simp only [S1, simprocAttr, T2, T3, T4, T22, T23, T25, T32, T35, T38, T49, T51, T53, T55, T58, endI, hg] at hk9 ⊢)); first | exact hk9); (refine hK1 _ ?_; clear hK1 K1)) | (((first | (refine ⟨fun hg => hA ?_, fun hg => hB ?_⟩ <;> clear hA hB A B) | refine ⟨fun hg => ?_, fun hg => ?_⟩) <;> (try simp only [BN2] at hg) <;> (try simp only [hg, cond_true, cond_false])) <;> (try (refine hK1 _ ?_; clear hK1 K1)) <;> (try simp only [BN3] at hg))) | (refine awp_seq_k fun K hK => ?_) | ((first | refine awp_region ?_ | refine awp_draw (by kernel_rfl) ?_ | refine awp_block ?_ | refine awp_exit ?_ | refine awp_skip ?_ | refine awp_ret ?_); (try simp only [NB, simprocAttr])))
      exact EndP_rows eRu_len eRu_ok (.inr rfl) (l := accX fl j (insN fl j).length) rfl rfl (by simp only [ruB, cRu, blkAt, get_app, List.getElem?_cons_succ, List.getElem?_cons_zero, if_true]) (by omega) (by simp) (by simp) rfl
  have f5 : (k.kind == 5) = false := by simp [k5]
  by_cases k7 : k.kind = 7
  · let FE := fun x : Int => (⟨3, j, insN fl j, outsN fl (dstAt fl x)⟩ : Ru)
    have ro : nodeD fl j k.kind = (outsN fl j).map FE := by unfold nodeD; rw [if_neg k1, if_neg k5, if_pos k7]
    rw [ro]
    refine acalls_pure (rl := []) mixed Tryd.func27 rfl (rs := [.tmp 4]) rfl Tryd.ntmps27 (by simp) ?_
    repeat' (first | ((first | refine aops_nil ?_ | refine aqops_nil ?_); (try simp only [NB])) | ((repeat ((fail_if_success (refine hK _ ?_)); clear hK K)); refine hK _ ?_; clear hK K) | ((first | refine aops_k fun K1 hK1 => ?_ | refine aqops_k fun K1 hK1 => ?_ | refine awp_cond_k fun A B hA hB => ?_); simp only [S1, simprocAttr, T2, T3, T4, T22, T23, T25, T32, T35, T38, T49, T51, T53, T55, T58, hx', j0, eN, k7, Int.toNat_natCast, List.length_map]; first | (refine hK1 _ ?_; clear hK1 K1) | ((first | refine hA ?_ | refine hB ?_); clear hA hB A B) | ((first | apply call_a E18 | apply call_q E18); exact (rIns_calls _ fl hl _ _); (refine hK1 _ ?_; clear hK1 K1)) | ((first | apply call_a E19 | apply call_q E19); exact (rOuts_calls _ fl hl _ _); (refine hK1 _ ?_; clear hK1 K1)) | (refine join_x (v := ?_) (fun hg hk9 => ?_) ?_; rotate_left; (focus (try ((try simp only [BN] at hg); simp only [S1, simprocAttr, T2, T3, T4, T22, T23, T25, T32, T35, T38, T49, T51, T53, T55, T58, hx', j0, eN, k7, Int.toNat_natCast, List.length_map, hg] at hk9 ⊢)); first | exact hk9 | ((first | apply call_a E18 | apply call_q E18); exact (rIns_calls _ fl hl _ _); exact hk9) | ((first | apply call_a E19 | apply call_q E19); exact (rOuts_calls _ fl hl _ _); exact hk9)); (refine hK1 _ ?_; clear hK1 K1)) | (((first | (refine ⟨fun hg => hA ?_, fun hg => hB ?_⟩ <;> clear hA hB A B) | refine ⟨fun hg => ?_, fun hg => ?_⟩) <;> (try simp only [BN2] at hg) <;> (try simp only [hg, cond_true, cond_false])) <;> (try (refine hK1 _ ?_; clear hK1 K1)) <;> (try simp only [BN3] at hg))) | (refine awp_seq_k fun K hK => ?_) | ((first | refine awp_region ?_ | refine awp_draw (by kernel_rfl) ?_ | refine awp_block ?_ | refine awp_exit ?_ | refine awp_skip ?_ | refine awp_ret ?_); (try simp only [NB, simprocAttr])))
    refine awp_forG (outsN fl j).length 95 (fun i => [(63, .i i), (62, .i (outsN fl j).length), (61, aI (outsN fl j)), (7, .ref (h.length + 1) (((outsN fl j).take i).map FE).length 0 4 (((outsN fl j).take i).map FE).length), (5, aI (insN fl j)), (2, .ptr h.length 0 0), (1, .i j)])
      (fun i => [some ⟨0, cNet ns fl⟩, ruB (((outsN fl j).take i).map FE)]) (fun i => True) ?_ trivial fun i hi hp K hK => ?_
    · refine (Ghost.adopt 7 4 rfl).trans (Sub.ghost ⟨rfl, ⟨[], by simp only [List.append_nil, List.append_assoc, List.cons_append, List.nil_append, List.take_zero, List.map_nil]; rfl⟩, ?_, ⟨trivial, trivial, trivial⟩, avlts_cRu _ _, trivial⟩)
      simp only [keeps, avlt, List.take_zero, List.map_nil, upd_get, frL, List.length_cons, List.length_nil]
      simp
    rcases Nat.lt_or_ge i (outsN fl j).length with hlti | hgei
    · obtain ⟨x, hxi⟩ : ∃ x, (outsN fl j)[i]? = some x := ⟨_, List.getElem?_eq_getElem hlti⟩
      obtain ⟨xi, f, hxl, rfl, hf, _⟩ := pickF_mem (List.mem_of_getElem? hxi)
      have x0 : (0 : Int) ≤ (xi : Int) := by omega
      have hf' := rowF hf
      have ed : dstAt fl (xi : Int) = f.dst := by unfold dstAt; rw [Int.toNat_natCast, hf]
      have et : ((outsN fl j).take (i + 1)).map FE = ((outsN fl j).take i).map FE ++ [⟨3, j, insN fl j, outsN fl f.dst⟩] := by
        rw [List.take_add_one, hxi, List.map_append]
        simp only [FE, ed, Option.toList_some, List.map_cons, List.map_nil]
      have hll : (((outsN fl j).take i).map FE).length + 1 ≤ maxCount := by
        unfold maxCount; rw [List.length_map, List.length_take]; omega
      generalize hacc : ((outsN fl j).take i).map FE = acc at *
      repeat' (first | ((first | refine aops_nil ?_ | refine aqops_nil ?_ | refine arun_nil ?_ | refine arunT_nil ?_); (try simp only [NB])) | ((repeat ((fail_if_success (refine hK _ ?_)); clear hK K)); refine hK _ ?_; clear hK K) | ((first | refine aops_k fun K1 hK1 => ?_ | refine aqops_k fun K1 hK1 => ?_ | refine arun_eff rfl rfl rfl fun K1 hK1 => ?_ | refine awp_cond_k fun A B hA hB => ?_); simp only [S1, simprocAttr, T2, T3, T4, T22, T23, T25, T32, T35, T38, T49, T51, T53, T55, T58, rowI hxi, hitI hlti, nextI (by omega) hlti, hf', eF, x0, ruB, cRu_len, hll, Nat.zero_add, Int.toNat_natCast, List.length_map]; first | (refine hK1 _ ?_; clear hK1 K1) | ((first | refine hA ?_ | refine hB ?_); clear hA hB A B) | ((first | apply call_a E18 | apply call_q E18); exact (rIns_calls _ fl hl _ _); (refine hK1 _ ?_; clear hK1 K1)) | ((first | apply call_a E19 | apply call_q E19); exact (rOuts_calls _ fl hl _ _); (refine hK1 _ ?_; clear hK1 K1)) | (refine join_x (v := ?_) (fun hg hk9 => ?_) ?_; rotate_left; (focus (try ((try simp only [BN] at hg); simp only [S1, simprocAttr, T2, T3, T4, T22, T23, T25, T32, T35, T38, T49, T51, T53, T55, T58, rowI hxi, hitI hlti, nextI (by omega) hlti, hf', eF, x0, ruB, cRu_len, hll, Nat.zero_add, Int.toNat_natCast, List.length_map, hg] at hk9 ⊢)); first | exact hk9 | ((first | apply call_a E18 | apply call_q E18); exact (rIns_calls _ fl hl _ _); exact hk9) | ((first | apply call_a E19 | apply call_q E19); exact (rOuts_calls _ fl hl _ _); exact hk9)); (refine hK1 _ ?_; clear hK1 K1)) | (((first | (refine ⟨fun hg => hA ?_, fun hg => hB ?_⟩ <;> clear hA hB A B) | refine ⟨fun hg => ?_, fun hg => ?_⟩) <;> (try simp only [BN2] at hg) <;> (try simp only [hg, cond_true, cond_false])) <;> (try (refine hK1 _ ?_; clear hK1 K1)) <;> (try simp only [BN3] at hg))) | ((first | refine arun_q (v := ?_) rfl rfl rfl rfl (by decide) (fun R1 K1 hK1 => ?_) ?_ | refine arun_f (v := ?_) rfl rfl rfl (by decide) (fun K1 hK1 => ?_) ?_ | refine arunT_f (v := ?_) rfl rfl rfl (by decide) (fun K1 hK1 => ?_) ?_); rotate_left; (focus (simp only [S1, simprocAttr, T2, T3, T4, T22, T23, T25, T32, T35, T38, T49, T51, T53, T55, T58, rowI hxi, hitI hlti, nextI (by omega) hlti, hf', eF, x0, ruB, cRu_len, hll, Nat.zero_add, Int.toNat_natCast, List.length_map]; first | (exact hK1 _ _ _) | ((first | apply call_a E18 | apply call_q E18); exact (rIns_calls _ fl hl _ _); exact hK1 _ _ _) | ((first | apply call_a E19 | apply call_q E19); exact (rOuts_calls _ fl hl _ _); exact hK1 _ _ _)))) | (refine arun_tail rfl rfl rfl ?_) | ((first | refine arun_allocj (z := ?_) 0 rfl rfl rfl rfl (by decide) rfl ?_ ?_ | refine arun_allocj (z := ?_) 1 rfl rfl rfl rfl (by decide) rfl ?_ ?_ | refine arun_allocj (z := ?_) 2 rfl rfl rfl rfl (by decide) rfl ?_ ?_); rotate_left; (focus (simp only [S1, simprocAttr, T2, T3, T4, T22, T23, T25, T32, T35, T38, T49, T51, T53, T55, T58, rowI hxi, hitI hlti, nextI (by omega) hlti, hf', eF, x0, ruB, cRu_len, hll, Nat.zero_add, Int.toNat_natCast, List.length_map, zeroB]; rfl))) | (refine awp_seq_k fun K hK => ?_) | (refine awp_drawR [0, 1, 2, 3, 4, 5, 6, 7, 8, 9, 10, 11, 12, 13, 14] 0 rfl (by kernel_rfl) (by kernel_rfl) ?_) | ((first | refine awp_region ?_ | refine awp_draw (by kernel_rfl) ?_ | refine awp_block ?_ | refine awp_exit ?_ | refine awp_skip ?_ | refine awp_ret ?_); (try simp only [NB, simprocAttr])))
      all_goals refine ⟨hlti, trivial, ?_⟩
      all_goals simp only [et, ruB_app, List.length_append, List.length_cons, List.length_nil, Nat.zero_add]
      all_goals refine ⟨rfl, ⟨_, rfl⟩, ?_, ⟨trivial, trivial, trivial⟩, avlts_ruB _ _ _ _ _ _, trivial⟩
      all_goals simp only [keeps, avlt, avlts, blksLt, frL, upd_get, S1, simprocAttr, List.length_map, Int.natCast_zero, AV.p.injEq, PV.int.injEq, PV.bool.injEq, PV.sl.injEq] <;> (try and_intros) <;> (try assumption) <;> (try trivial) <;> (try omega)
    · obtain rfl : i = (outsN fl j).length := by omega
      repeat' (first | ((first | refine aops_nil ?_ | refine aqops_nil ?_); (try simp only [NB])) | ((repeat ((fail_if_success (refine hK _ ?_)); clear hK K)); refine hK _ ?_; clear hK K) | ((first | refine aops_k fun K1 hK1 => ?_ | refine aqops_k fun K1 hK1 => ?_ | refine awp_cond_k fun A B hA hB => ?_); simp only [S1, simprocAttr, T2, T3, T4, T22, T23, T25, T32, T35, T38, T49, T51, T53, T55, T58, endI]; first | (refine hK1 _ ?_; clear hK1 K1) | ((first | refine hA ?_ | refine hB ?_); clear hA hB A B) | (refine join_x (v := ?_) (fun hg hk9 => ?_) ?_; rotate_left; (focus (try ((try simp only [BN] at hg); simp only [S1, simprocAttr, T2, T3, T4, T22, T23, T25, T32, T35, T38, T49, T51, T53, T55, T58, endI, hg] at hk9 ⊢)); first | exact hk9); (refine hK1 _ ?_; clear hK1 K1)) | (((first | (refine ⟨fun hg => hA ?_, fun hg => hB ?_⟩ <;> clear hA hB A B) | refine ⟨fun hg => ?_, fun hg => ?_⟩) <;> (try simp only [BN2] at hg) <;> (try simp only [hg, cond_true, cond_false])) <;> (try (refine hK1 _ ?_; clear hK1 K1)) <;> (try simp only [BN3] at hg))) | (refine awp_seq_k fun K hK => ?_) | ((first | refine awp_region ?_ | refine awp_draw (by kernel_rfl) ?_ | refine awp_block ?_ | refine awp_exit ?_ | refine awp_skip ?_ | refine awp_ret ?_); (try simp only [NB, simprocAttr])))
      refine EndP_rows eRu_len eRu_ok (.inr rfl) (l := (outsN fl j).map FE) (by rw [List.take_length]) rfl (by simp only [List.take_length, ruB, cRu, blkAt, get_app, List.getElem?_cons_succ, List.getElem?_cons_zero, if_true]) (by omega) (by simp) (by simp) rfl
  have f7 : (k.kind == 7) = false := by simp [k7]
  by_cases k8 : k.kind = 8
  · have ro : nodeD fl j k.kind = [⟨3, j, insN fl j, outsN fl j⟩] := by unfold nodeD; rw [if_neg k1, if_neg k5, if_neg k7, if_pos k8]
    rw [ro]
    refine acalls_pure (rl := []) mixed Tryd.func27 rfl (rs := [.tmp 4]) rfl Tryd.ntmps27 (by simp) ?_
    repeat' (first | ((first | refine aops_nil ?_ | refine aqops_nil ?_); (try simp only [NB])) | ((repeat ((fail_if_success (refine hK _ ?_)); clear hK K)); refine hK _ ?_; clear hK K) | ((first | refine aops_k fun K1 hK1 => ?_ | refine aqops_k fun K1 hK1 => ?_ | refine awp_cond_k fun A B hA hB => ?_); simp only [S1, simprocAttr, T2, T3, T4, T22, T23, T25, T32, T35, T38, T49, T51, T53, T55, T58, hx', j0, eN, k8, Int.toNat_natCast, List.length_map]; first | (refine hK1 _ ?_; clear hK1 K1) | ((first | refine hA ?_ | refine hB ?_); clear hA hB A B) | ((first | apply call_a E18 | apply call_q E18); exact (rIns_calls _ fl hl _ _); (refine hK1 _ ?_; clear hK1 K1)) | ((first | apply call_a E19 | apply call_q E19); exact (rOuts_calls _ fl hl _ _); (refine hK1 _ ?_; clear hK1 K1)) | (refine join_x (v := ?_) (fun hg hk9 => ?_) ?_; rotate_left; (focus (try ((try simp only [BN] at hg); simp only [S1, simprocAttr, T2, T3, T4, T22, T23, T25, T32, T35, T38, T49, T51, T53, T55, T58, hx', j0, eN, k8, Int.toNat_natCast, List.length_map, hg] at hk9 ⊢)); first | exact hk9 | ((first | apply call_a E18 | apply call_q E18); exact (rIns_calls _ fl hl _ _); exact hk9) | ((first | apply call_a E19 | apply call_q E19); exact (rOuts_calls _ fl hl _ _); exact hk9)); (refine hK1 _ ?_; clear hK1 K1)) | (((first | (refine ⟨fun hg => hA ?_, fun hg => hB ?_⟩ <;> clear hA hB A B) | refine ⟨fun hg => ?_, fun hg => ?_⟩) <;> (try simp only [BN2] at hg) <;> (try simp only [hg, cond_true, cond_false])) <;> (try (refine hK1 _ ?_; clear hK1 K1)) <;> (try simp only [BN3] at hg))) | (refine awp_seq_k fun K hK => ?_) | ((first | refine awp_region ?_ | refine awp_draw (by kernel_rfl) ?_ | refine awp_block ?_ | refine awp_exit ?_ | refine awp_skip ?_ | refine awp_ret ?_); (try simp only [NB, simprocAttr])))
    all_goals simp only [EndP, FinP, resA, resL, resA1, lastV, lastA, lastAs, pur, purs, take_app, List.take_length, S1, simprocAttr, T2, T3, T4, T22, T23, T25, T32, T35, T38, T49, T51, T53, T55, T58, Nat.le_add_right, Nat.le_refl]
    all_goals rfl
  have f8 : (k.kind == 8) = false := by simp [k8]
  have ro : nodeD fl j k.kind = [⟨1, j, insN fl j, outsN fl j⟩] := by unfold nodeD; rw [if_neg k1, if_neg k5, if_neg k7, if_neg k8]
  rw [ro]
  refine acalls_pure (rl := []) mixed Tryd.func27 rfl (rs := [.tmp 4]) rfl Tryd.ntmps27 (by simp) ?_
  repeat' (first | ((first | refine aops_nil ?_ | refine aqops_nil ?_); (try simp only [NB])) | ((repeat ((fail_if_success (refine hK _ ?_)); clear hK K)); refine hK _ ?_; clear hK K) | ((first | refine aops_k fun K1 hK1 => ?_ | refine aqops_k fun K1 hK1 => ?_ | refine awp_cond_k fun A B hA hB => ?_); simp only [S1, simprocAttr, T2, T3, T4, T22, T23, T25, T32, T35, T38, T49, T51, T53, T55, T58, hx', j0, eN, f1, f5, f7, f8, Int.toNat_natCast, List.length_map]; first | (refine hK1 _ ?_; clear hK1 K1) | ((first | refine hA ?_ | refine hB ?_); clear hA hB A B) | ((first | apply call_a E18 | apply call_q E18); exact (rIns_calls _ fl hl _ _); (refine hK1 _ ?_; clear hK1 K1)) | ((first | apply call_a E19 | apply call_q E19); exact (rOuts_calls _ fl hl _ _); (refine hK1 _ ?_; clear hK1 K1)) | (refine join_x (v := ?_) (fun hg hk9 => ?_) ?_; rotate_left; (focus (try ((try simp only [BN] at hg); simp only [S1, simprocAttr, T2, T3, T4, T22, T23, T25, T32, T35, T38, T49, T51, T53, T55, T58, hx', j0, eN, f1, f5, f7, f8, Int.toNat_natCast, List.length_map, hg] at hk9 ⊢)); first | exact hk9 | ((first | apply call_a E18 | apply call_q E18); exact (rIns_calls _ fl hl _ _); exact hk9) | ((first | apply call_a E19 | apply call_q E19); exact (rOuts_calls _ fl hl _ _); exact hk9)); (refine hK1 _ ?_; clear hK1 K1)) | (((first | (refine ⟨fun hg => hA ?_, fun hg => hB ?_⟩ <;> clear hA hB A B) | refine ⟨fun hg => ?_, fun hg => ?_⟩) <;> (try simp only [BN2] at hg) <;> (try simp only [hg, cond_true, cond_false])) <;> (try (refine hK1 _ ?_; clear hK1 K1)) <;> (try simp only [BN3] at hg))) | (refine awp_seq_k fun K hK => ?_) | ((first | refine awp_region ?_ | refine awp_draw (by kernel_rfl) ?_ | refine awp_block ?_ | refine awp_exit ?_ | refine awp_skip ?_ | refine awp_ret ?_); (try simp only [NB, simprocAttr])))
  all_goals simp only [EndP, FinP, resA, resL, resA1, lastV, lastA, lastAs, pur, purs, take_app, List.take_length, S1, simprocAttr, T2, T3, T4, T22, T23, T25, T32, T35, T38, T49, T51, T53, T55, T58, Nat.le_add_right, Nat.le_refl]
  all_goals rfl
end Go.Proofs.YtlophgkgmhcagaaDoor.AM
end

section
set_option linter.unusedVariables false
set_option linter.unusedSimpArgs false
set_option maxRecDepth 4000
set_option maxHeartbeats 4000000
namespace Go.Proofs.YtlophgkgmhcagaaDoor.AM
open Go Go.Proofs
attribute [local irreducible] awp aops aqops aeops arun arunT
variable {G : Nat → Option (List PV)}

abbrev aRus (l : List Ru) : AV := .p (.sl (l.map eRu))
noncomputable def allRu (ns : List Nd) (fl : List Fl) : List Ru × Int := if (netN ns fl).1 = 0 then (ruTo ns fl ns.length, 0) else ([], 4)


theorem Ghost.maker {P : Program} {h : Heap} {s : St} {A : Option Blk} (hh : s.heap = h ++ [A, some ⟨0, [.p .nils]⟩]) : Ghost P G h s ⟨s.fr, s.nt, h ++ [A, mkB (h.length + 2) [], ruB []]⟩ := by
  have := Ghost.adoptCell (P := P) (G := G) (h0 := h) (s := s) (b := h.length + 1) (j := 0) (bk := ⟨0, [.p .nils]⟩) 4 (by rw [hh]; simp [get_app]) rfl (by omega)
  rw [hh] at this
  simp only [List.length_append, List.length_cons, List.length_nil, List.append_assoc, List.cons_append, List.nil_append, set_app, List.set_cons_succ, List.set_cons_zero, Nat.zero_add, Nat.reduceAdd] at this
  exact this

theorem rAll_calls (ns : List Nd) (fl : List Fl) (ok : NetOk ns fl) (h : Heap) : ACalls Tryd.prog gW 9 [aNet ns fl] h (fun r h' => r = .tup [aRus (allRu ns fl).1, .i (allRu ns fl).2] ∧ h' = h) := by
  have hc := fun h => Check_calls ns fl ok h
  by_cases h0 : (netN ns fl).1 = 0
  case neg =>
    have e : allRu ns fl = ([], 4) := by unfold allRu; rw [if_neg h0]
    have f0 : ((netN ns fl).1 != 0) = true := by simpa using h0
    rw [e]
    refine acalls_pure (rl := []) mixed Tryd.func9 rfl (rs := [.tmp 2, .tmp 3]) rfl Tryd.ntmps9 (by simp) ?_
    repeat' (first | ((first | refine aops_nil ?_ | refine aqops_nil ?_); (try simp only [NB])) | ((repeat ((fail_if_success (refine hK _ ?_)); clear hK K)); refine hK _ ?_; clear hK K) | ((first | refine aops_k fun K1 hK1 => ?_ | refine aqops_k fun K1 hK1 => ?_ | refine awp_cond_k fun A B hA hB => ?_); simp only [S1, simprocAttr, T2, T3, T4, T22, T23, T25, T28, T29, T35, T37, T51, T53, T55, T58, T77, T79, f0]; first | (refine hK1 _ ?_; clear hK1 K1) | ((first | refine hA ?_ | refine hB ?_); clear hA hB A B) | ((first | apply call_a E23 | apply call_q E23); exact (hc _); (refine hK1 _ ?_; clear hK1 K1)) | (refine join_x (v := ?_) (fun hg hk9 => ?_) ?_; rotate_left; (focus (try ((try simp only [BN] at hg); simp only [S1, simprocAttr, T2, T3, T4, T22, T23, T25, T28, T29, T35, T37, T51, T53, T55, T58, T77, T79, f0, hg] at hk9 ⊢)); first | exact hk9 | ((first | apply call_a E23 | apply call_q E23); exact (hc _); exact hk9)); (refine hK1 _ ?_; clear hK1 K1)) | (((first | (refine ⟨fun hg => hA ?_, fun hg => hB ?_⟩ <;> clear hA hB A B) | refine ⟨fun hg => ?_, fun hg => ?_⟩) <;> (try simp only [BN2] at hg) <;> (try simp only [hg, cond_true, cond_false])) <;> (try (refine hK1 _ ?_; clear hK1 K1)) <;> (try simp only [BN3] at hg))) | (refine awp_seq_k fun K hK => ?_) | ((first | refine awp_region ?_ | refine awp_draw (by kernel_rfl) ?_ | refine awp_block ?_ | refine awp_exit ?_ | refine awp_skip ?_ | refine awp_ret ?_); (try simp only [NB, simprocAttr])))
    all_goals simp only [EndP, FinP, resA, resL, resA1, lastV, lastA, lastAs, pur, purs, take_app, List.take_length, S1, simprocAttr, T2, T3, T4, T22, T23, T25, T28, T29, T35, T37, T51, T53, T55, T58, T77, T79, Nat.le_add_right, Nat.le_refl]
    all_goals rfl
  have e : allRu ns fl = (ruTo ns fl ns.length, 0) := by unfold allRu; rw [if_pos h0]
  have f0 : ((netN ns fl).1 != 0) = false := by simpa using h0
  have hR := Right.of h0
  have hd := hR.isIn
  have hn := ok.n
  have hl := ok.f
  rw [e]
  refine acalls_pure (rl := []) mixed Tryd.func9 rfl (rs := [.tmp 2, .tmp 3]) rfl Tryd.ntmps9 (by simp) ?_
  repeat' (first | ((first | refine aops_nil ?_ | refine aqops_nil ?_); (try simp only [NB])) | ((repeat ((fail_if_success (refine hK _ ?_)); clear hK K)); refine hK _ ?_; clear hK K) | ((first | refine aops_k fun K1 hK1 => ?_ | refine aqops_k fun K1 hK1 => ?_ | refine awp_cond_k fun A B hA hB => ?_); simp only [S1, simprocAttr, T2, T3, T4, T22, T23, T25, T28, T29, T35, T37, T51, T53, T55, T58, T77, T79, f0, List.length_map]; first | (refine hK1 _ ?_; clear hK1 K1) | ((first | refine hA ?_ | refine hB ?_); clear hA hB A B) | ((first | apply call_a E23 | apply call_q E23); exact (hc _); (refine hK1 _ ?_; clear hK1 K1)) | (refine join_x (v := ?_) (fun hg hk9 => ?_) ?_; rotate_left; (focus (try ((try simp only [BN] at hg); simp only [S1, simprocAttr, T2, T3, T4, T22, T23, T25, T28, T29, T35, T37, T51, T53, T55, T58, T77, T79, f0, List.length_map, hg] at hk9 ⊢)); first | exact hk9 | ((first | apply call_a E23 | apply call_q E23); exact (hc _); exact hk9)); (refine hK1 _ ?_; clear hK1 K1)) | (((first | (refine ⟨fun hg => hA ?_, fun hg => hB ?_⟩ <;> clear hA hB A B) | refine ⟨fun hg => ?_, fun hg => ?_⟩) <;> (try simp only [BN2] at hg) <;> (try simp only [hg, cond_true, cond_false])) <;> (try (refine hK1 _ ?_; clear hK1 K1)) <;> (try simp only [BN3] at hg))) | (refine awp_seq_k fun K hK => ?_) | ((first | refine awp_region ?_ | refine awp_draw (by kernel_rfl) ?_ | refine awp_block ?_ | refine awp_exit ?_ | refine awp_skip ?_ | refine awp_ret ?_); (try simp only [NB, simprocAttr])))
  refine awp_forG ns.length 132 (fun j => [(29, .i j), (28, .i ns.length), (27, .p (.sl (ns.map eN))), (6, .ptr (h.length + 1) 0 0), (1, .ptr h.length 0 0)])
    (fun j => [some ⟨0, cNet ns fl⟩, mkB (h.length + 2) (ruTo ns fl j), ruB (ruTo ns fl j)]) (fun j => True) ?_ trivial fun j hj hp K hK => ?_
  · refine (Ghost.maker (A := some ⟨0, cNet ns fl⟩) rfl).trans (Sub.ghost ⟨rfl, ⟨[], by simp only [List.append_nil]; rfl⟩, ?_, ⟨trivial, trivial, trivial⟩, ⟨by simp only [avlt, List.length_cons, List.length_nil]; omega, trivial⟩, avlts_cRu _ _, trivial⟩)
    simp only [keeps, avlt, avlts, blksLt, frL, upd_get, S1, simprocAttr, List.length_map, Int.natCast_zero, AV.p.injEq, PV.int.injEq, PV.bool.injEq, PV.sl.injEq] <;> (try and_intros) <;> (try assumption) <;> (try trivial) <;> (try omega)
  rcases Nat.lt_or_ge j ns.length with hlt | hge
  · obtain ⟨k, hx⟩ : ∃ k, ns[j]? = some k := ⟨_, List.getElem?_eq_getElem hlt⟩
    have ek := kind_of hx
    have ej : ruTo ns fl (j + 1) = ruTo ns fl j ++ ruOf fl j k.kind := by rw [ruTo, ek]
    have hol := outsN_le fl j
    have hil := insN_le fl j
    have hl0 : (ruTo ns fl j).length ≤ 100000 := by
      have h1 := ruTo_le ns fl j
      have h2 : j * (fl.length + 1) ≤ 100 * 101 := Nat.mul_le_mul (by omega) (by omega)
      omega
    let FE := fun x : Int => (⟨3, j, insN fl j, outsN fl (dstAt fl x)⟩ : Ru)
    let FS := fun x : Int => (⟨2, j, insN fl j, [x]⟩ : Ru)
    by_cases k1 : k.kind = 1
    · have ro : ruOf fl j k.kind = [] := by unfold ruOf; rw [if_pos k1]
      repeat' (first | ((first | refine aops_nil ?_ | refine aqops_nil ?_); (try simp only [NB])) | ((repeat ((fail_if_success (refine hK _ ?_)); clear hK K)); refine hK _ ?_; clear hK K) | ((first | refine aops_k fun K1 hK1 => ?_ | refine aqops_k fun K1 hK1 => ?_ | refine awp_cond_k fun A B hA hB => ?_); simp only [S1, simprocAttr, T2, T3, T4, T22, T23, T25, T28, T29, T35, T37, T51, T53, T55, T58, T77, T79, rowN hx, hitN hlt, nextN hn hlt, eN, k1, List.length_map]; first | (refine hK1 _ ?_; clear hK1 K1) | ((first | refine hA ?_ | refine hB ?_); clear hA hB A B) | ((first | apply call_a E24 | apply call_q E24); exact (ins_calls _ fl hl _ _); (refine hK1 _ ?_; clear hK1 K1)) | ((first | apply call_a E25 | apply call_q E25); exact (outs_calls _ fl hl _ _); (refine hK1 _ ?_; clear hK1 K1)) | (refine join_x (v := ?_) (fun hg hk9 => ?_) ?_; rotate_left; (focus (try ((try simp only [BN] at hg); simp only [S1, simprocAttr, T2, T3, T4, T22, T23, T25, T28, T29, T35, T37, T51, T53, T55, T58, T77, T79, rowN hx, hitN hlt, nextN hn hlt, eN, k1, List.length_map, hg] at hk9 ⊢)); first | exact hk9 | ((first | apply call_a E24 | apply call_q E24); exact (ins_calls _ fl hl _ _); exact hk9) | ((first | apply call_a E25 | apply call_q E25); exact (outs_calls _ fl hl _ _); exact hk9)); (refine hK1 _ ?_; clear hK1 K1)) | (((first | (refine ⟨fun hg => hA ?_, fun hg => hB ?_⟩ <;> clear hA hB A B) | refine ⟨fun hg => ?_, fun hg => ?_⟩) <;> (try simp only [BN2] at hg) <;> (try simp only [hg, cond_true, cond_false])) <;> (try (refine hK1 _ ?_; clear hK1 K1)) <;> (try simp only [BN3] at hg))) | (refine awp_seq_k fun K hK => ?_) | ((first | refine awp_region ?_ | refine awp_draw (by kernel_rfl) ?_ | refine awp_block ?_ | refine awp_exit ?_ | refine awp_skip ?_ | refine awp_ret ?_); (try simp only [NB, simprocAttr])))
      all_goals refine ⟨hlt, trivial, ?_⟩
      all_goals simp only [ej, ro, List.append_nil]
      all_goals refine ⟨rfl, ⟨_, rfl⟩, ?_, ⟨trivial, trivial, trivial⟩, ⟨by simp only [avlt, List.length_cons, List.length_nil]; omega, trivial⟩, avlts_cRu _ _, trivial⟩
      all_goals simp only [keeps, avlt, avlts, blksLt, frL, upd_get, S1, simprocAttr, List.length_map, Int.natCast_zero, AV.p.injEq, PV.int.injEq, PV.bool.injEq, PV.sl.injEq] <;> (try and_intros) <;> (try assumption) <;> (try trivial) <;> (try omega)
    have f1 : (k.kind == 1) = false := by simp [k1]
    by_cases k7 : k.kind = 7
    · have ro : ruOf fl j k.kind = (outsN fl j).map FE := by unfold ruOf; rw [if_neg k1, if_pos k7]
      repeat' (first | ((first | refine aops_nil ?_ | refine aqops_nil ?_); (try simp only [NB])) | ((repeat ((fail_if_success (refine hK _ ?_)); clear hK K)); refine hK _ ?_; clear hK K) | ((first | refine aops_k fun K1 hK1 => ?_ | refine aqops_k fun K1 hK1 => ?_ | refine awp_cond_k fun A B hA hB => ?_); simp only [S1, simprocAttr, T2, T3, T4, T22, T23, T25, T28, T29, T35, T37, T51, T53, T55, T58, T77, T79, rowN hx, hitN hlt, nextN hn hlt, eN, k7, List.length_map]; first | (refine hK1 _ ?_; clear hK1 K1) | ((first | refine hA ?_ | refine hB ?_); clear hA hB A B) | ((first | apply call_a E24 | apply call_q E24); exact (ins_calls _ fl hl _ _); (refine hK1 _ ?_; clear hK1 K1)) | ((first | apply call_a E25 | apply call_q E25); exact (outs_calls _ fl hl _ _); (refine hK1 _ ?_; clear hK1 K1)) | (refine join_x (v := ?_) (fun hg hk9 => ?_) ?_; rotate_left; (focus (try ((try simp only [BN] at hg); simp only [S1, simprocAttr, T2, T3, T4, T22, T23, T25, T28, T29, T35, T37, T51, T53, T55, T58, T77, T79, rowN hx, hitN hlt, nextN hn hlt, eN, k7, List.length_map, hg] at hk9 ⊢)); first | exact hk9 | ((first | apply call_a E24 | apply call_q E24); exact (ins_calls _ fl hl _ _); exact hk9) | ((first | apply call_a E25 | apply call_q E25); exact (outs_calls _ fl hl _ _); exact hk9)); (refine hK1 _ ?_; clear hK1 K1)) | (((first | (refine ⟨fun hg => hA ?_, fun hg => hB ?_⟩ <;> clear hA hB A B) | refine ⟨fun hg => ?_, fun hg => ?_⟩) <;> (try simp only [BN2] at hg) <;> (try simp only [hg, cond_true, cond_false])) <;> (try (refine hK1 _ ?_; clear hK1 K1)) <;> (try simp only [BN3] at hg))) | (refine awp_seq_k fun K hK => ?_) | ((first | refine awp_region ?_ | refine awp_draw (by kernel_rfl) ?_ | refine awp_block ?_ | refine awp_exit ?_ | refine awp_skip ?_ | refine awp_ret ?_); (try simp only [NB, simprocAttr])))
      refine awp_for (outsN fl j).length 132 (fun i => [(55, .i i), (54, .i (outsN fl j).length), (53, aI (outsN fl j))] ++ [(29, .i j), (28, .i ns.length), (27, .p (.sl (ns.map eN))), (7, .i j), (6, .ptr (h.length + 1) 0 0), (1, .ptr h.length 0 0)])
        (fun i => [some ⟨0, cNet ns fl⟩, mkB (h.length + 2) (ruTo ns fl j ++ ((outsN fl j).take i).map FE), ruB (ruTo ns fl j ++ ((outsN fl j).take i).map FE)]) (fun i => True) ?_ trivial fun i hi hp K hK => ?_
      · simp only [List.take_zero, List.map_nil, List.append_nil]
        refine ⟨rfl, ⟨_, rfl⟩, ?_, ⟨trivial, trivial, trivial⟩, ⟨by simp only [avlt, List.length_cons, List.length_nil]; omega, trivial⟩, avlts_cRu _ _, trivial⟩
        simp only [keeps, avlt, avlts, blksLt, frL, upd_get, S1, simprocAttr, List.length_map, Int.natCast_zero, AV.p.injEq, PV.int.injEq, PV.bool.injEq, PV.sl.injEq] <;> (try and_intros) <;> (try assumption) <;> (try trivial) <;> (try omega)
      rcases Nat.lt_or_ge i (outsN fl j).length with hlti | hgei
      · obtain ⟨x, hxi⟩ : ∃ x, (outsN fl j)[i]? = some x := ⟨_, List.getElem?_eq_getElem hlti⟩
        have et : ((outsN fl j).take (i + 1)).map FE = ((outsN fl j).take i).map FE ++ [FE x] := by rw [List.take_add_one, hxi, List.map_append]; rfl
        have hll : (ruTo ns fl j ++ ((outsN fl j).take i).map FE).length ≤ 100000 := by
          have h1 := ruTo_le ns fl j
          have h2 : j * (fl.length + 1) ≤ 100 * 101 := Nat.mul_le_mul (by omega) (by omega)
          rw [List.length_append, List.length_map, List.length_take]; omega
        obtain ⟨xi, f, hxl, rfl, hf, _⟩ := pickF_mem (List.mem_of_getElem? hxi)
        have x0 : (0 : Int) ≤ (xi : Int) := by omega
        have hf' := rowF hf
        have ed : dstAt fl (xi : Int) = f.dst := by unfold dstAt; rw [Int.toNat_natCast, hf]
        have eF1 : FE (xi : Int) = ⟨3, j, insN fl j, outsN fl f.dst⟩ := by simp only [FE, ed]
        rw [eF1] at et
        repeat' (first | ((first | refine aops_nil ?_ | refine aqops_nil ?_ | refine arun_nil ?_ | refine arunT_nil ?_); (try simp only [NB])) | ((repeat ((fail_if_success (refine hK _ ?_)); clear hK K)); refine hK _ ?_; clear hK K) | ((first | refine aops_k fun K1 hK1 => ?_ | refine aqops_k fun K1 hK1 => ?_ | refine arun_eff rfl rfl rfl fun K1 hK1 => ?_ | refine awp_cond_k fun A B hA hB => ?_); simp only [S1, simprocAttr, T2, T3, T4, T22, T23, T25, T28, T29, T35, T37, T51, T53, T55, T58, T77, T79, rowI hxi, hitI hlti, nextI (by omega) hlti, hf', eF, x0, Int.toNat_natCast, List.length_map]; first | (refine hK1 _ ?_; clear hK1 K1) | ((first | refine hA ?_ | refine hB ?_); clear hA hB A B) | ((first | apply call_a E24 | apply call_q E24); exact (ins_calls _ fl hl _ _); (refine hK1 _ ?_; clear hK1 K1)) | ((first | apply call_a E25 | apply call_q E25); exact (outs_calls _ fl hl _ _); (refine hK1 _ ?_; clear hK1 K1)) | ((first | apply call_a E26 | apply call_q E26); exact (maker_calls _ hll ⟨3, j, insN fl j, outsN fl f.dst⟩ h _ _); (refine hK1 _ ?_; clear hK1 K1)) | (refine join_x (v := ?_) (fun hg hk9 => ?_) ?_; rotate_left; (focus (try ((try simp only [BN] at hg); simp only [S1, simprocAttr, T2, T3, T4, T22, T23, T25, T28, T29, T35, T37, T51, T53, T55, T58, T77, T79, rowI hxi, hitI hlti, nextI (by omega) hlti, hf', eF, x0, Int.toNat_natCast, List.length_map, hg] at hk9 ⊢)); first | exact hk9 | ((first | apply call_a E24 | apply call_q E24); exact (ins_calls _ fl hl _ _); exact hk9) | ((first | apply call_a E25 | apply call_q E25); exact (outs_calls _ fl hl _ _); exact hk9) | ((first | apply call_a E26 | apply call_q E26); exact (maker_calls _ hll ⟨3, j, insN fl j, outsN fl f.dst⟩ h _ _); exact hk9)); (refine hK1 _ ?_; clear hK1 K1)) | (((first | (refine ⟨fun hg => hA ?_, fun hg => hB ?_⟩ <;> clear hA hB A B) | refine ⟨fun hg => ?_, fun hg => ?_⟩) <;> (try simp only [BN2] at hg) <;> (try simp only [hg, cond_true, cond_false])) <;> (try (refine hK1 _ ?_; clear hK1 K1)) <;> (try simp only [BN3] at hg))) | ((first | refine arun_q (v := ?_) rfl rfl rfl rfl (by decide) (fun R1 K1 hK1 => ?_) ?_ | refine arun_f (v := ?_) rfl rfl rfl (by decide) (fun K1 hK1 => ?_) ?_ | refine arunT_f (v := ?_) rfl rfl rfl (by decide) (fun K1 hK1 => ?_) ?_); rotate_left; (focus (simp only [S1, simprocAttr, T2, T3, T4, T22, T23, T25, T28, T29, T35, T37, T51, T53, T55, T58, T77, T79, rowI hxi, hitI hlti, nextI (by omega) hlti, hf', eF, x0, Int.toNat_natCast, List.length_map]; first | (exact hK1 _ _ _) | ((first | apply call_a E24 | apply call_q E24); exact (ins_calls _ fl hl _ _); exact hK1 _ _ _) | ((first | apply call_a E25 | apply call_q E25); exact (outs_calls _ fl hl _ _); exact hK1 _ _ _) | ((first | apply call_a E26 | apply call_q E26); exact (maker_calls _ hll ⟨3, j, insN fl j, outsN fl f.dst⟩ h _ _); exact hK1 _ _ _)))) | (refine arun_tail rfl rfl rfl ?_) | ((first | refine arun_allocj (z := ?_) 0 rfl rfl rfl rfl (by decide) rfl ?_ ?_ | refine arun_allocj (z := ?_) 1 rfl rfl rfl rfl (by decide) rfl ?_ ?_ | refine arun_allocj (z := ?_) 2 rfl rfl rfl rfl (by decide) rfl ?_ ?_); rotate_left; (focus (simp only [S1, simprocAttr, T2, T3, T4, T22, T23, T25, T28, T29, T35, T37, T51, T53, T55, T58, T77, T79, rowI hxi, hitI hlti, nextI (by omega) hlti, hf', eF, x0, Int.toNat_natCast, List.length_map, zeroB]; rfl))) | (refine awp_seq_k fun K hK => ?_) | (refine awp_drawR [0, 1, 2, 3, 4, 5, 6, 7, 8, 9, 10, 11, 12, 13] 0 rfl (by kernel_rfl) (by kernel_rfl) ?_) | ((first | refine awp_region ?_ | refine awp_draw (by kernel_rfl) ?_ | refine awp_block ?_ | refine awp_exit ?_ | refine awp_skip ?_ | refine awp_ret ?_); (try simp only [NB, simprocAttr])))
        all_goals refine ⟨hlti, trivial, ?_⟩
        all_goals simp only [et, ← List.append_assoc]
        all_goals refine ⟨rfl, ⟨_, rfl⟩, ?_, ⟨trivial, trivial, trivial⟩, ⟨by simp only [avlt, List.length_cons, List.length_nil]; omega, trivial⟩, avlts_cRu _ _, trivial⟩
        all_goals simp only [keeps, avlt, avlts, blksLt, frL, upd_get, S1, simprocAttr, List.length_map, Int.natCast_zero, AV.p.injEq, PV.int.injEq, PV.bool.injEq, PV.sl.injEq] <;> (try and_intros) <;> (try assumption) <;> (try trivial) <;> (try omega)
      · obtain rfl : i = (outsN fl j).length := by omega
        repeat' (first | ((first | refine aops_nil ?_ | refine aqops_nil ?_); (try simp only [NB])) | ((repeat ((fail_if_success (refine hK _ ?_)); clear hK K)); refine hK _ ?_; clear hK K) | ((first | refine aops_k fun K1 hK1 => ?_ | refine aqops_k fun K1 hK1 => ?_ | refine awp_cond_k fun A B hA hB => ?_); simp only [S1, simprocAttr, T2, T3, T4, T22, T23, T25, T28, T29, T35, T37, T51, T53, T55, T58, T77, T79, endI, nextN hn hlt]; first | (refine hK1 _ ?_; clear hK1 K1) | ((first | refine hA ?_ | refine hB ?_); clear hA hB A B) | (refine join_x (v := ?_) (fun hg hk9 => ?_) ?_; rotate_left; (focus (try ((try simp only [BN] at hg); simp only [S1, simprocAttr, T2, T3, T4, T22, T23, T25, T28, T29, T35, T37, T51, T53, T55, T58, T77, T79, endI, nextN hn hlt, hg] at hk9 ⊢)); first | exact hk9); (refine hK1 _ ?_; clear hK1 K1)) | (((first | (refine ⟨fun hg => hA ?_, fun hg => hB ?_⟩ <;> clear hA hB A B) | refine ⟨fun hg => ?_, fun hg => ?_⟩) <;> (try simp only [BN2] at hg) <;> (try simp only [hg, cond_true, cond_false])) <;> (try (refine hK1 _ ?_; clear hK1 K1)) <;> (try simp only [BN3] at hg))) | (refine awp_seq_k fun K hK => ?_) | ((first | refine awp_region ?_ | refine awp_draw (by kernel_rfl) ?_ | refine awp_block ?_ | refine awp_exit ?_ | refine awp_skip ?_ | refine awp_ret ?_); (try simp only [NB, simprocAttr])))
        all_goals refine ⟨hlt, trivial, ?_⟩
        all_goals simp only [ej, ro, List.take_length]
        all_goals refine ⟨rfl, ⟨_, rfl⟩, ?_, ⟨trivial, trivial, trivial⟩, ⟨by simp only [avlt, List.length_cons, List.length_nil]; omega, trivial⟩, avlts_cRu _ _, trivial⟩
        all_goals simp only [keeps, avlt, avlts, blksLt, frL, upd_get, S1, simprocAttr, List.length_map, Int.natCast_zero, AV.p.injEq, PV.int.injEq, PV.bool.injEq, PV.sl.injEq] <;> (try and_intros) <;> (try assumption) <;> (try trivial) <;> (try omega)
    have f7 : (k.kind == 7) = false := by simp [k7]
    by_cases k8 : k.kind = 8
    · have ro : ruOf fl j k.kind = [⟨3, j, insN fl j, outsN fl j⟩] := by unfold ruOf; rw [if_neg k1, if_neg k7, if_pos k8]
      repeat' (first | ((first | refine aops_nil ?_ | refine aqops_nil ?_); (try simp only [NB])) | ((repeat ((fail_if_success (refine hK _ ?_)); clear hK K)); refine hK _ ?_; clear hK K) | ((first | refine aops_k fun K1 hK1 => ?_ | refine aqops_k fun K1 hK1 => ?_ | refine awp_cond_k fun A B hA hB => ?_); simp only [S1, simprocAttr, T2, T3, T4, T22, T23, T25, T28, T29, T35, T37, T51, T53, T55, T58, T77, T79, rowN hx, hitN hlt, nextN hn hlt, eN, k8, List.length_map]; first | (refine hK1 _ ?_; clear hK1 K1) | ((first | refine hA ?_ | refine hB ?_); clear hA hB A B) | ((first | apply call_a E24 | apply call_q E24); exact (ins_calls _ fl hl _ _); (refine hK1 _ ?_; clear hK1 K1)) | ((first | apply call_a E25 | apply call_q E25); exact (outs_calls _ fl hl _ _); (refine hK1 _ ?_; clear hK1 K1)) | ((first | apply call_a E26 | apply call_q E26); exact (maker_calls _ hl0 ⟨3, j, insN fl j, outsN fl j⟩ h _ _); (refine hK1 _ ?_; clear hK1 K1)) | (refine join_x (v := ?_) (fun hg hk9 => ?_) ?_; rotate_left; (focus (try ((try simp only [BN] at hg); simp only [S1, simprocAttr, T2, T3, T4, T22, T23, T25, T28, T29, T35, T37, T51, T53, T55, T58, T77, T79, rowN hx, hitN hlt, nextN hn hlt, eN, k8, List.length_map, hg] at hk9 ⊢)); first | exact hk9 | ((first | apply call_a E24 | apply call_q E24); exact (ins_calls _ fl hl _ _); exact hk9) | ((first | apply call_a E25 | apply call_q E25); exact (outs_calls _ fl hl _ _); exact hk9) | ((first | apply call_a E26 | apply call_q E26); exact (maker_calls _ hl0 ⟨3, j, insN fl j, outsN fl j⟩ h _ _); exact hk9)); (refine hK1 _ ?_; clear hK1 K1)) | (((first | (refine ⟨fun hg => hA ?_, fun hg => hB ?_⟩ <;> clear hA hB A B) | refine ⟨fun hg => ?_, fun hg => ?_⟩) <;> (try simp only [BN2] at hg) <;> (try simp only [hg, cond_true, cond_false])) <;> (try (refine hK1 _ ?_; clear hK1 K1)) <;> (try simp only [BN3] at hg))) | (refine awp_seq_k fun K hK => ?_) | ((first | refine awp_region ?_ | refine awp_draw (by kernel_rfl) ?_ | refine awp_block ?_ | refine awp_exit ?_ | refine awp_skip ?_ | refine awp_ret ?_); (try simp only [NB, simprocAttr])))
      all_goals refine ⟨hlt, trivial, ?_⟩
      all_goals simp only [ej, ro]
      all_goals refine ⟨rfl, ⟨_, rfl⟩, ?_, ⟨trivial, trivial, trivial⟩, ⟨by simp only [avlt, List.length_cons, List.length_nil]; omega, trivial⟩, avlts_cRu _ _, trivial⟩
      all_goals simp only [keeps, avlt, avlts, blksLt, frL, upd_get, S1, simprocAttr, List.length_map, Int.natCast_zero, AV.p.injEq, PV.int.injEq, PV.bool.injEq, PV.sl.injEq] <;> (try and_intros) <;> (try assumption) <;> (try trivial) <;> (try omega)
    have f8 : (k.kind == 8) = false := by simp [k8]
    by_cases k5 : k.kind = 5
    · by_cases hs : 1 < (outsN fl j).length
      · have ro : ruOf fl j k.kind = (outsN fl j).map FS := by unfold ruOf; rw [if_neg k1, if_neg k7, if_neg k8, if_pos k5, if_pos hs]
        have hs' : decide ((1 : Int) < ((outsN fl j).length : Int)) = true := decide_eq_true (by omega)
        repeat' (first | ((first | refine aops_nil ?_ | refine aqops_nil ?_); (try simp only [NB])) | ((repeat ((fail_if_success (refine hK _ ?_)); clear hK K)); refine hK _ ?_; clear hK K) | ((first | refine aops_k fun K1 hK1 => ?_ | refine aqops_k fun K1 hK1 => ?_ | refine awp_cond_k fun A B hA hB => ?_); simp only [S1, simprocAttr, T2, T3, T4, T22, T23, T25, T28, T29, T35, T37, T51, T53, T55, T58, T77, T79, rowN hx, hitN hlt, nextN hn hlt, eN, k5, hs', List.length_map]; first | (refine hK1 _ ?_; clear hK1 K1) | ((first | refine hA ?_ | refine hB ?_); clear hA hB A B) | ((first | apply call_a E24 | apply call_q E24); exact (ins_calls _ fl hl _ _); (refine hK1 _ ?_; clear hK1 K1)) | ((first | apply call_a E25 | apply call_q E25); exact (outs_calls _ fl hl _ _); (refine hK1 _ ?_; clear hK1 K1)) | (refine join_x (v := ?_) (fun hg hk9 => ?_) ?_; rotate_left; (focus (try ((try simp only [BN] at hg); simp only [S1, simprocAttr, T2, T3, T4, T22, T23, T25, T28, T29, T35, T37, T51, T53, T55, T58, T77, T79, rowN hx, hitN hlt, nextN hn hlt, eN, k5, hs', List.length_map, hg] at hk9 ⊢)); first | exact hk9 | ((first | apply call_a E24 | apply call_q E24); exact (ins_calls _ fl hl _ _); exact hk9) | ((first | apply call_a E25 | apply call_q E25); exact (outs_calls _ fl hl _ _); exact hk9)); (refine hK1 _ ?_; clear hK1 K1)) | (((first | (refine ⟨fun hg => hA ?_, fun hg => hB ?_⟩ <;> clear hA hB A B) | refine ⟨fun hg => ?_, fun hg => ?_⟩) <;> (try simp only [BN2] at hg) <;> (try simp only [hg, cond_true, cond_false])) <;> (try (refine hK1 _ ?_; clear hK1 K1)) <;> (try simp only [BN3] at hg))) | (refine awp_seq_k fun K hK => ?_) | ((first | refine awp_region ?_ | refine awp_draw (by kernel_rfl) ?_ | refine awp_block ?_ | refine awp_exit ?_ | refine awp_skip ?_ | refine awp_ret ?_); (try simp only [NB, simprocAttr])))
        refine awp_for (outsN fl j).length 132 (fun i => [(94, .i i), (93, .i (outsN fl j).length), (92, aI (outsN fl j))] ++ [(29, .i j), (28, .i ns.length), (27, .p (.sl (ns.map eN))), (7, .i j), (6, .ptr (h.length + 1) 0 0), (1, .ptr h.length 0 0)])
          (fun i => [some ⟨0, cNet ns fl⟩, mkB (h.length + 2) (ruTo ns fl j ++ ((outsN fl j).take i).map FS), ruB (ruTo ns fl j ++ ((outsN fl j).take i).map FS)]) (fun i => True) ?_ trivial fun i hi hp K hK => ?_
        · simp only [List.take_zero, List.map_nil, List.append_nil]
          refine ⟨rfl, ⟨_, rfl⟩, ?_, ⟨trivial, trivial, trivial⟩, ⟨by simp only [avlt, List.length_cons, List.length_nil]; omega, trivial⟩, avlts_cRu _ _, trivial⟩
          simp only [keeps, avlt, avlts, blksLt, frL, upd_get, S1, simprocAttr, List.length_map, Int.natCast_zero, AV.p.injEq, PV.int.injEq, PV.bool.injEq, PV.sl.injEq] <;> (try and_intros) <;> (try assumption) <;> (try trivial) <;> (try omega)
        rcases Nat.lt_or_ge i (outsN fl j).length with hlti | hgei
        · obtain ⟨x, hxi⟩ : ∃ x, (outsN fl j)[i]? = some x := ⟨_, List.getElem?_eq_getElem hlti⟩
          have et : ((outsN fl j).take (i + 1)).map FS = ((outsN fl j).take i).map FS ++ [FS x] := by rw [List.take_add_one, hxi, List.map_append]; rfl
          have hll : (ruTo ns fl j ++ ((outsN fl j).take i).map FS).length ≤ 100000 := by
            have h1 := ruTo_le ns fl j
            have h2 : j * (fl.length + 1) ≤ 100 * 101 := Nat.mul_le_mul (by omega) (by omega)
            rw [List.length_append, List.length_map, List.length_take]; omega
          repeat' (first | ((first | refine aops_nil ?_ | refine aqops_nil ?_); (try simp only [NB])) | ((repeat ((fail_if_success (refine hK _ ?_)); clear hK K)); refine hK _ ?_; clear hK K) | ((first | refine aops_k fun K1 hK1 => ?_ | refine aqops_k fun K1 hK1 => ?_ | refine awp_cond_k fun A B hA hB => ?_); simp only [S1, simprocAttr, T2, T3, T4, T22, T23, T25, T28, T29, T35, T37, T51, T53, T55, T58, T77, T79, rowI hxi, hitI hlti, nextI (by omega) hlti, List.length_map]; first | (refine hK1 _ ?_; clear hK1 K1) | ((first | refine hA ?_ | refine hB ?_); clear hA hB A B) | ((first | apply call_a E24 | apply call_q E24); exact (ins_calls _ fl hl _ _); (refine hK1 _ ?_; clear hK1 K1)) | ((first | apply call_a E25 | apply call_q E25); exact (outs_calls _ fl hl _ _); (refine hK1 _ ?_; clear hK1 K1)) | ((first | apply call_a E26 | apply call_q E26); exact (maker_calls _ hll ⟨2, j, insN fl j, [x]⟩ h _ _); (refine hK1 _ ?_; clear hK1 K1)) | (refine join_x (v := ?_) (fun hg hk9 => ?_) ?_; rotate_left; (focus (try ((try simp only [BN] at hg); simp only [S1, simprocAttr, T2, T3, T4, T22, T23, T25, T28, T29, T35, T37, T51, T53, T55, T58, T77, T79, rowI hxi, hitI hlti, nextI (by omega) hlti, List.length_map, hg] at hk9 ⊢)); first | exact hk9 | ((first | apply call_a E24 | apply call_q E24); exact (ins_calls _ fl hl _ _); exact hk9) | ((first | apply call_a E25 | apply call_q E25); exact (outs_calls _ fl hl _ _); exact hk9) | ((first | apply call_a E26 | apply call_q E26); exact (maker_calls _ hll ⟨2, j, insN fl j, [x]⟩ h _ _); exact hk9)); (refine hK1 _ ?_; clear hK1 K1)) | (((first | (refine ⟨fun hg => hA ?_, fun hg => hB ?_⟩ <;> clear hA hB A B) | refine ⟨fun hg => ?_, fun hg => ?_⟩) <;> (try simp only [BN2] at hg) <;> (try simp only [hg, cond_true, cond_false])) <;> (try (refine hK1 _ ?_; clear hK1 K1)) <;> (try simp only [BN3] at hg))) | (refine awp_seq_k fun K hK => ?_) | ((first | refine awp_region ?_ | refine awp_draw (by kernel_rfl) ?_ | refine awp_block ?_ | refine awp_exit ?_ | refine awp_skip ?_ | refine awp_ret ?_); (try simp only [NB, simprocAttr])))
          all_goals refine ⟨hlti, trivial, ?_⟩
          all_goals simp only [et, ← List.append_assoc]
          all_goals refine ⟨rfl, ⟨_, rfl⟩, ?_, ⟨trivial, trivial, trivial⟩, ⟨by simp only [avlt, List.length_cons, List.length_nil]; omega, trivial⟩, avlts_cRu _ _, trivial⟩
          all_goals simp only [keeps, avlt, avlts, blksLt, frL, upd_get, S1, simprocAttr, List.length_map, Int.natCast_zero, AV.p.injEq, PV.int.injEq, PV.bool.injEq, PV.sl.injEq] <;> (try and_intros) <;> (try assumption) <;> (try trivial) <;> (try omega)
        · obtain rfl : i = (outsN fl j).length := by omega
          repeat' (first | ((first | refine aops_nil ?_ | refine aqops_nil ?_); (try simp only [NB])) | ((repeat ((fail_if_success (refine hK _ ?_)); clear hK K)); refine hK _ ?_; clear hK K) | ((first | refine aops_k fun K1 hK1 => ?_ | refine aqops_k fun K1 hK1 => ?_ | refine awp_cond_k fun A B hA hB => ?_); simp only [S1, simprocAttr, T2, T3, T4, T22, T23, T25, T28, T29, T35, T37, T51, T53, T55, T58, T77, T79, endI, nextN hn hlt]; first | (refine hK1 _ ?_; clear hK1 K1) | ((first | refine hA ?_ | refine hB ?_); clear hA hB A B) | (refine join_x (v := ?_) (fun hg hk9 => ?_) ?_; rotate_left; (focus (try ((try simp only [BN] at hg); simp only [S1, simprocAttr, T2, T3, T4, T22, T23, T25, T28, T29, T35, T37, T51, T53, T55, T58, T77, T79, endI, nextN hn hlt, hg] at hk9 ⊢)); first | exact hk9); (refine hK1 _ ?_; clear hK1 K1)) | (((first | (refine ⟨fun hg => hA ?_, fun hg => hB ?_⟩ <;> clear hA hB A B) | refine ⟨fun hg => ?_, fun hg => ?_⟩) <;> (try simp only [BN2] at hg) <;> (try simp only [hg, cond_true, cond_false])) <;> (try (refine hK1 _ ?_; clear hK1 K1)) <;> (try simp only [BN3] at hg))) | (refine awp_seq_k fun K hK => ?_) | ((first | refine awp_region ?_ | refine awp_draw (by kernel_rfl) ?_ | refine awp_block ?_ | refine awp_exit ?_ | refine awp_skip ?_ | refine awp_ret ?_); (try simp only [NB, simprocAttr])))
          all_goals refine ⟨hlt, trivial, ?_⟩
          all_goals simp only [ej, ro, List.take_length]
          all_goals refine ⟨rfl, ⟨_, rfl⟩, ?_, ⟨trivial, trivial, trivial⟩, ⟨by simp only [avlt, List.length_cons, List.length_nil]; omega, trivial⟩, avlts_cRu _ _, trivial⟩
          all_goals simp only [keeps, avlt, avlts, blksLt, frL, upd_get, S1, simprocAttr, List.length_map, Int.natCast_zero, AV.p.injEq, PV.int.injEq, PV.bool.injEq, PV.sl.injEq] <;> (try and_intros) <;> (try assumption) <;> (try trivial) <;> (try omega)
      · have hxor := hR.xor hlt (by rw [ek]; exact k5)
        have hs' : decide ((1 : Int) < ((outsN fl j).length : Int)) = false := decide_eq_false (by omega)
        obtain ⟨o, ho⟩ : ∃ o, (outsN fl j)[0]? = some o := ⟨_, List.getElem?_eq_getElem (by omega)⟩
        have ho1 : ((outsN fl j).map eI)[0]? = some [.int .i64 o] := by simp [ho, eI]
        have o0 : (0 : Int) ≤ 0 := Int.le_refl 0
        have ohd : (outsN fl j).headD 0 = o := by rw [List.headD_eq_head?_getD, List.head?_eq_getElem?, ho]; rfl
        let FJ := fun x : Int => (⟨1, j, [x], [o]⟩ : Ru)
        have ro : ruOf fl j k.kind = (insN fl j).map FJ := by unfold ruOf; rw [if_neg k1, if_neg k7, if_neg k8, if_pos k5, if_neg hs, ohd]
        repeat' (first | ((first | refine aops_nil ?_ | refine aqops_nil ?_); (try simp only [NB])) | ((repeat ((fail_if_success (refine hK _ ?_)); clear hK K)); refine hK _ ?_; clear hK K) | ((first | refine aops_k fun K1 hK1 => ?_ | refine aqops_k fun K1 hK1 => ?_ | refine awp_cond_k fun A B hA hB => ?_); simp only [S1, simprocAttr, T2, T3, T4, T22, T23, T25, T28, T29, T35, T37, T51, T53, T55, T58, T77, T79, rowN hx, hitN hlt, nextN hn hlt, eN, k5, hs', List.length_map]; first | (refine hK1 _ ?_; clear hK1 K1) | ((first | refine hA ?_ | refine hB ?_); clear hA hB A B) | ((first | apply call_a E24 | apply call_q E24); exact (ins_calls _ fl hl _ _); (refine hK1 _ ?_; clear hK1 K1)) | ((first | apply call_a E25 | apply call_q E25); exact (outs_calls _ fl hl _ _); (refine hK1 _ ?_; clear hK1 K1)) | (refine join_x (v := ?_) (fun hg hk9 => ?_) ?_; rotate_left; (focus (try ((try simp only [BN] at hg); simp only [S1, simprocAttr, T2, T3, T4, T22, T23, T25, T28, T29, T35, T37, T51, T53, T55, T58, T77, T79, rowN hx, hitN hlt, nextN hn hlt, eN, k5, hs', List.length_map, hg] at hk9 ⊢)); first | exact hk9 | ((first | apply call_a E24 | apply call_q E24); exact (ins_calls _ fl hl _ _); exact hk9) | ((first | apply call_a E25 | apply call_q E25); exact (outs_calls _ fl hl _ _); exact hk9)); (refine hK1 _ ?_; clear hK1 K1)) | (((first | (refine ⟨fun hg => hA ?_, fun hg => hB ?_⟩ <;> clear hA hB A B) | refine ⟨fun hg => ?_, fun hg => ?_⟩) <;> (try simp only [BN2] at hg) <;> (try simp only [hg, cond_true, cond_false])) <;> (try (refine hK1 _ ?_; clear hK1 K1)) <;> (try simp only [BN3] at hg))) | (refine awp_seq_k fun K hK => ?_) | ((first | refine awp_region ?_ | refine awp_draw (by kernel_rfl) ?_ | refine awp_block ?_ | refine awp_exit ?_ | refine awp_skip ?_ | refine awp_ret ?_); (try simp only [NB, simprocAttr])))
        refine awp_for (insN fl j).length 132 (fun i => [(113, .i i), (112, .i (insN fl j).length), (111, aI (insN fl j))] ++ [(10, aI (outsN fl j))] ++ [(29, .i j), (28, .i ns.length), (27, .p (.sl (ns.map eN))), (7, .i j), (6, .ptr (h.length + 1) 0 0), (1, .ptr h.length 0 0)])
          (fun i => [some ⟨0, cNet ns fl⟩, mkB (h.length + 2) (ruTo ns fl j ++ ((insN fl j).take i).map FJ), ruB (ruTo ns fl j ++ ((insN fl j).take i).map FJ)]) (fun i => True) ?_ trivial fun i hi hp K hK => ?_
        · simp only [List.take_zero, List.map_nil, List.append_nil]
          refine ⟨rfl, ⟨_, rfl⟩, ?_, ⟨trivial, trivial, trivial⟩, ⟨by simp only [avlt, List.length_cons, List.length_nil]; omega, trivial⟩, avlts_cRu _ _, trivial⟩
          simp only [keeps, avlt, avlts, blksLt, frL, upd_get, S1, simprocAttr, List.length_map, Int.natCast_zero, AV.p.injEq, PV.int.injEq, PV.bool.injEq, PV.sl.injEq] <;> (try and_intros) <;> (try assumption) <;> (try trivial) <;> (try omega)
        rcases Nat.lt_or_ge i (insN fl j).length with hlti | hgei
        · obtain ⟨x, hxi⟩ : ∃ x, (insN fl j)[i]? = some x := ⟨_, List.getElem?_eq_getElem hlti⟩
          have et : ((insN fl j).take (i + 1)).map FJ = ((insN fl j).take i).map FJ ++ [FJ x] := by rw [List.take_add_one, hxi, List.map_append]; rfl
          have hll : (ruTo ns fl j ++ ((insN fl j).take i).map FJ).length ≤ 100000 := by
            have h1 := ruTo_le ns fl j
            have h2 : j * (fl.length + 1) ≤ 100 * 101 := Nat.mul_le_mul (by omega) (by omega)
            rw [List.length_append, List.length_map, List.length_take]; omega
          repeat' (first | ((first | refine aops_nil ?_ | refine aqops_nil ?_); (try simp only [NB])) | ((repeat ((fail_if_success (refine hK _ ?_)); clear hK K)); refine hK _ ?_; clear hK K) | ((first | refine aops_k fun K1 hK1 => ?_ | refine aqops_k fun K1 hK1 => ?_ | refine awp_cond_k fun A B hA hB => ?_); simp only [S1, simprocAttr, T2, T3, T4, T22, T23, T25, T28, T29, T35, T37, T51, T53, T55, T58, T77, T79, rowI hxi, hitI hlti, nextI (by omega) hlti, List.length_map, ho1, o0]; first | (refine hK1 _ ?_; clear hK1 K1) | ((first | refine hA ?_ | refine hB ?_); clear hA hB A B) | ((first | apply call_a E26 | apply call_q E26); exact (maker_calls _ hll ⟨1, j, [x], [o]⟩ h _ _); (refine hK1 _ ?_; clear hK1 K1)) | (refine join_x (v := ?_) (fun hg hk9 => ?_) ?_; rotate_left; (focus (try ((try simp only [BN] at hg); simp only [S1, simprocAttr, T2, T3, T4, T22, T23, T25, T28, T29, T35, T37, T51, T53, T55, T58, T77, T79, rowI hxi, hitI hlti, nextI (by omega) hlti, List.length_map, ho1, o0, hg] at hk9 ⊢)); first | exact hk9 | ((first | apply call_a E26 | apply call_q E26); exact (maker_calls _ hll ⟨1, j, [x], [o]⟩ h _ _); exact hk9)); (refine hK1 _ ?_; clear hK1 K1)) | (((first | (refine ⟨fun hg => hA ?_, fun hg => hB ?_⟩ <;> clear hA hB A B) | refine ⟨fun hg => ?_, fun hg => ?_⟩) <;> (try simp only [BN2] at hg) <;> (try simp only [hg, cond_true, cond_false])) <;> (try (refine hK1 _ ?_; clear hK1 K1)) <;> (try simp only [BN3] at hg))) | (refine awp_seq_k fun K hK => ?_) | ((first | refine awp_region ?_ | refine awp_draw (by kernel_rfl) ?_ | refine awp_block ?_ | refine awp_exit ?_ | refine awp_skip ?_ | refine awp_ret ?_); (try simp only [NB, simprocAttr])))
          all_goals refine ⟨hlti, trivial, ?_⟩
          all_goals simp only [et, ← List.append_assoc]
          all_goals refine ⟨rfl, ⟨_, rfl⟩, ?_, ⟨trivial, trivial, trivial⟩, ⟨by simp only [avlt, List.length_cons, List.length_nil]; omega, trivial⟩, avlts_cRu _ _, trivial⟩
          all_goals simp only [keeps, avlt, avlts, blksLt, frL, upd_get, S1, simprocAttr, List.length_map, Int.natCast_zero, AV.p.injEq, PV.int.injEq, PV.bool.injEq, PV.sl.injEq] <;> (try and_intros) <;> (try assumption) <;> (try trivial) <;> (try omega)
        · obtain rfl : i = (insN fl j).length := by omega
          repeat' (first | ((first | refine aops_nil ?_ | refine aqops_nil ?_); (try simp only [NB])) | ((repeat ((fail_if_success (refine hK _ ?_)); clear hK K)); refine hK _ ?_; clear hK K) | ((first | refine aops_k fun K1 hK1 => ?_ | refine aqops_k fun K1 hK1 => ?_ | refine awp_cond_k fun A B hA hB => ?_); simp only [S1, simprocAttr, T2, T3, T4, T22, T23, T25, T28, T29, T35, T37, T51, T53, T55, T58, T77, T79, endI, nextN hn hlt]; first | (refine hK1 _ ?_; clear hK1 K1) | ((first | refine hA ?_ | refine hB ?_); clear hA hB A B) | (refine join_x (v := ?_) (fun hg hk9 => ?_) ?_; rotate_left; (focus (try ((try simp only [BN] at hg); simp only [S1, simprocAttr, T2, T3, T4, T22, T23, T25, T28, T29, T35, T37, T51, T53, T55, T58, T77, T79, endI, nextN hn hlt, hg] at hk9 ⊢)); first | exact hk9); (refine hK1 _ ?_; clear hK1 K1)) | (((first | (refine ⟨fun hg => hA ?_, fun hg => hB ?_⟩ <;> clear hA hB A B) | refine ⟨fun hg => ?_, fun hg => ?_⟩) <;> (try simp only [BN2] at hg) <;> (try simp only [hg, cond_true, cond_false])) <;> (try (refine hK1 _ ?_; clear hK1 K1)) <;> (try simp only [BN3] at hg))) | (refine awp_seq_k fun K hK => ?_) | ((first | refine awp_region ?_ | refine awp_draw (by kernel_rfl) ?_ | refine awp_block ?_ | refine awp_exit ?_ | refine awp_skip ?_ | refine awp_ret ?_); (try simp only [NB, simprocAttr])))
          all_goals refine ⟨hlt, trivial, ?_⟩
          all_goals simp only [ej, ro, List.take_length]
          all_goals refine ⟨rfl, ⟨_, rfl⟩, ?_, ⟨trivial, trivial, trivial⟩, ⟨by simp only [avlt, List.length_cons, List.length_nil]; omega, trivial⟩, avlts_cRu _ _, trivial⟩
          all_goals simp only [keeps, avlt, avlts, blksLt, frL, upd_get, S1, simprocAttr, List.length_map, Int.natCast_zero, AV.p.injEq, PV.int.injEq, PV.bool.injEq, PV.sl.injEq] <;> (try and_intros) <;> (try assumption) <;> (try trivial) <;> (try omega)
    have f5 : (k.kind == 5) = false := by simp [k5]
    · have ro : ruOf fl j k.kind = [⟨1, j, insN fl j, outsN fl j⟩] := by unfold ruOf; rw [if_neg k1, if_neg k7, if_neg k8, if_neg k5]
      repeat' (first | ((first | refine aops_nil ?_ | refine aqops_nil ?_); (try simp only [NB])) | ((repeat ((fail_if_success (refine hK _ ?_)); clear hK K)); refine hK _ ?_; clear hK K) | ((first | refine aops_k fun K1 hK1 => ?_ | refine aqops_k fun K1 hK1 => ?_ | refine awp_cond_k fun A B hA hB => ?_); simp only [S1, simprocAttr, T2, T3, T4, T22, T23, T25, T28, T29, T35, T37, T51, T53, T55, T58, T77, T79, rowN hx, hitN hlt, nextN hn hlt, eN, f1, f7, f8, f5, List.length_map]; first | (refine hK1 _ ?_; clear hK1 K1) | ((first | refine hA ?_ | refine hB ?_); clear hA hB A B) | ((first | apply call_a E24 | apply call_q E24); exact (ins_calls _ fl hl _ _); (refine hK1 _ ?_; clear hK1 K1)) | ((first | apply call_a E25 | apply call_q E25); exact (outs_calls _ fl hl _ _); (refine hK1 _ ?_; clear hK1 K1)) | ((first | apply call_a E26 | apply call_q E26); exact (maker_calls _ hl0 ⟨1, j, insN fl j, outsN fl j⟩ h _ _); (refine hK1 _ ?_; clear hK1 K1)) | (refine join_x (v := ?_) (fun hg hk9 => ?_) ?_; rotate_left; (focus (try ((try simp only [BN] at hg); simp only [S1, simprocAttr, T2, T3, T4, T22, T23, T25, T28, T29, T35, T37, T51, T53, T55, T58, T77, T79, rowN hx, hitN hlt, nextN hn hlt, eN, f1, f7, f8, f5, List.length_map, hg] at hk9 ⊢)); first | exact hk9 | ((first | apply call_a E24 | apply call_q E24); exact (ins_calls _ fl hl _ _); exact hk9) | ((first | apply call_a E25 | apply call_q E25); exact (outs_calls _ fl hl _ _); exact hk9) | ((first | apply call_a E26 | apply call_q E26); exact (maker_calls _ hl0 ⟨1, j, insN fl j, outsN fl j⟩ h _ _); exact hk9)); (refine hK1 _ ?_; clear hK1 K1)) | (((first | (refine ⟨fun hg => hA ?_, fun hg => hB ?_⟩ <;> clear hA hB A B) | refine ⟨fun hg => ?_, fun hg => ?_⟩) <;> (try simp only [BN2] at hg) <;> (try simp only [hg, cond_true, cond_false])) <;> (try (refine hK1 _ ?_; clear hK1 K1)) <;> (try simp only [BN3] at hg))) | (refine awp_seq_k fun K hK => ?_) | ((first | refine awp_region ?_ | refine awp_draw (by kernel_rfl) ?_ | refine awp_block ?_ | refine awp_exit ?_ | refine awp_skip ?_ | refine awp_ret ?_); (try simp only [NB, simprocAttr])))
      all_goals refine ⟨hlt, trivial, ?_⟩
      all_goals simp only [ej, ro]
      all_goals refine ⟨rfl, ⟨_, rfl⟩, ?_, ⟨trivial, trivial, trivial⟩, ⟨by simp only [avlt, List.length_cons, List.length_nil]; omega, trivial⟩, avlts_cRu _ _, trivial⟩
      all_goals simp only [keeps, avlt, avlts, blksLt, frL, upd_get, S1, simprocAttr, List.length_map, Int.natCast_zero, AV.p.injEq, PV.int.injEq, PV.bool.injEq, PV.sl.injEq] <;> (try and_intros) <;> (try assumption) <;> (try trivial) <;> (try omega)
  · obtain rfl : j = ns.length := by omega
    repeat' (first | ((first | refine aops_nil ?_ | refine aqops_nil ?_); (try simp only [NB])) | ((repeat ((fail_if_success (refine hK _ ?_)); clear hK K)); refine hK _ ?_; clear hK K) | ((first | refine aops_k fun K1 hK1 => ?_ | refine aqops_k fun K1 hK1 => ?_ | refine awp_cond_k fun A B hA hB => ?_); simp only [S1, simprocAttr, T2, T3, T4, T22, T23, T25, T28, T29, T35, T37, T51, T53, T55, T58, T77, T79, endN]; first | (refine hK1 _ ?_; clear hK1 K1) | ((first | refine hA ?_ | refine hB ?_); clear hA hB A B) | (refine join_x (v := ?_) (fun hg hk9 => ?_) ?_; rotate_left; (focus (try ((try simp only [BN] at hg); simp only [S1, simprocAttr, T2, T3, T4, T22, T23, T25, T28, T29, T35, T37, T51, T53, T55, T58, T77, T79, endN, hg] at hk9 ⊢)); first | exact hk9); (refine hK1 _ ?_; clear hK1 K1)) | (((first | (refine ⟨fun hg => hA ?_, fun hg => hB ?_⟩ <;> clear hA hB A B) | refine ⟨fun hg => ?_, fun hg => ?_⟩) <;> (try simp only [BN2] at hg) <;> (try simp only [hg, cond_true, cond_false])) <;> (try (refine hK1 _ ?_; clear hK1 K1)) <;> (try simp only [BN3] at hg))) | (refine awp_seq_k fun K hK => ?_) | ((first | refine awp_region ?_ | refine awp_draw (by kernel_rfl) ?_ | refine awp_block ?_ | refine awp_exit ?_ | refine awp_skip ?_ | refine awp_ret ?_); (try simp only [NB, simprocAttr])))
    exact EndP_rows2 eRu_len eRu_ok (.inr rfl) (l := ruTo ns fl ns.length) rfl rfl rfl (by simp only [ruB, cRu, blkAt, get_app, List.getElem?_cons_succ, List.getElem?_cons_zero, if_true]) (by omega) (by simp) (by simp) rfl
end Go.Proofs.YtlophgkgmhcagaaDoor.AM
end

section
set_option linter.unusedVariables false
set_option linter.unusedSimpArgs false
set_option maxRecDepth 4000
set_option maxHeartbeats 4000000
namespace Go.Proofs.YtlophgkgmhcagaaDoor.AM
open Go Go.Proofs
attribute [local irreducible] awp aops aqops aeops arun arunT
variable {G : Nat → Option (List PV)}

theorem rows_all (l : List Ru) : ((l.map eRu).all fun r => r.length == 4) = true := by
  rw [List.all_eq_true]
  intro x hx
  obtain ⟨r, _, rfl⟩ := List.mem_map.mp hx
  rfl
theorem rows_flat (l : List Ru) : ((l.map eRu).flatMap id).map AV.p = cRu l := by
  unfold cRu flatE
  rw [List.flatMap_map]; rfl
theorem cRu_cat (a b : List Ru) : cRu (a ++ b) = cRu a ++ cRu b := by
  unfold cRu flatE; rw [List.flatMap_append, List.map_append]

structure Qg where
  j : Nat
  g : Nat

theorem rAllD_calls (ns : List Nd) (fl : List Fl) (ok : NetOk ns fl) (h : Heap) : ACalls Tryd.prog G 10 [aNet ns fl] h (fun r h' => r = .tup [aRus (allRu ns fl).1, .i (allRu ns fl).2] ∧ h' = h) := by
  have hc := fun h => rCheck_calls (G := G) ns fl ok h
  by_cases h0 : (netN ns fl).1 = 0
  case neg =>
    have e : allRu ns fl = ([], 4) := by unfold allRu; rw [if_neg h0]
    have f0 : ((netN ns fl).1 != 0) = true := by simpa using h0
    rw [e]
    refine acalls_pure (rl := []) mixed Tryd.func10 rfl (rs := [.tmp 2, .tmp 3]) rfl Tryd.ntmps10 (by simp) ?_
    repeat' (first | ((first | refine aops_nil ?_ | refine aqops_nil ?_); (try simp only [NB])) | ((repeat ((fail_if_success (refine hK _ ?_)); clear hK K)); refine hK _ ?_; clear hK K) | ((first | refine aops_k fun K1 hK1 => ?_ | refine aqops_k fun K1 hK1 => ?_ | refine awp_cond_k fun A B hA hB => ?_); simp only [S1, simprocAttr, T2, T3, T4, T22, T23, T25, T32, T35, T38, T49, T51, T53, T55, T58, f0]; first | (refine hK1 _ ?_; clear hK1 K1) | ((first | refine hA ?_ | refine hB ?_); clear hA hB A B) | ((first | apply call_a E17 | apply call_q E17); exact (hc _); (refine hK1 _ ?_; clear hK1 K1)) | (refine join_x (v := ?_) (fun hg hk9 => ?_) ?_; rotate_left; (focus (try ((try simp only [BN] at hg); simp only [S1, simprocAttr, T2, T3, T4, T22, T23, T25, T32, T35, T38, T49, T51, T53, T55, T58, f0, hg] at hk9 ⊢)); first | exact hk9 | ((first | apply call_a E17 | apply call_q E17); exact (hc _); exact hk9)); (refine hK1 _ ?_; clear hK1 K1)) | (((first | (refine ⟨fun hg => hA ?_, fun hg => hB ?_⟩ <;> clear hA hB A B) | refine ⟨fun hg => ?_, fun hg => ?_⟩) <;> (try simp only [BN2] at hg) <;> (try simp only [hg, cond_true, cond_false])) <;> (try (refine hK1 _ ?_; clear hK1 K1)) <;> (try simp only [BN3] at hg))) | (refine awp_seq_k fun K hK => ?_) | ((first | refine awp_region ?_ | refine awp_draw (by kernel_rfl) ?_ | refine awp_block ?_ | refine awp_exit ?_ | refine awp_skip ?_ | refine awp_ret ?_); (try simp only [NB, simprocAttr])))
    all_goals simp only [EndP, FinP, resA, resL, resA1, lastV, lastA, lastAs, pur, purs, take_app, List.take_length, S1, simprocAttr, T2, T3, T4, T22, T23, T25, T32, T35, T38, T49, T51, T53, T55, T58, Nat.le_add_right, Nat.le_refl]
    all_goals rfl
  have e : allRu ns fl = (ruTo ns fl ns.length, 0) := by unfold allRu; rw [if_pos h0]
  have f0 : ((netN ns fl).1 != 0) = false := by simpa using h0
  have hR := Right.of h0
  have hd := hR.isIn
  have hn := ok.n
  have hl := ok.f
  rw [e]
  refine acalls_pure (rl := []) mixed Tryd.func10 rfl (rs := [.tmp 2, .tmp 3]) rfl Tryd.ntmps10 (by simp) ?_
  repeat' (first | ((first | refine aops_nil ?_ | refine aqops_nil ?_); (try simp only [NB])) | ((repeat ((fail_if_success (refine hK _ ?_)); clear hK K)); refine hK _ ?_; clear hK K) | ((first | refine aops_k fun K1 hK1 => ?_ | refine aqops_k fun K1 hK1 => ?_ | refine awp_cond_k fun A B hA hB => ?_); simp only [S1, simprocAttr, T2, T3, T4, T22, T23, T25, T32, T35, T38, T49, T51, T53, T55, T58, f0, List.length_map]; first | (refine hK1 _ ?_; clear hK1 K1) | ((first | refine hA ?_ | refine hB ?_); clear hA hB A B) | ((first | apply call_a E17 | apply call_q E17); exact (hc _); (refine hK1 _ ?_; clear hK1 K1)) | (refine join_x (v := ?_) (fun hg hk9 => ?_) ?_; rotate_left; (focus (try ((try simp only [BN] at hg); simp only [S1, simprocAttr, T2, T3, T4, T22, T23, T25, T32, T35, T38, T49, T51, T53, T55, T58, f0, List.length_map, hg] at hk9 ⊢)); first | exact hk9 | ((first | apply call_a E17 | apply call_q E17); exact (hc _); exact hk9)); (refine hK1 _ ?_; clear hK1 K1)) | (((first | (refine ⟨fun hg => hA ?_, fun hg => hB ?_⟩ <;> clear hA hB A B) | refine ⟨fun hg => ?_, fun hg => ?_⟩) <;> (try simp only [BN2] at hg) <;> (try simp only [hg, cond_true, cond_false])) <;> (try (refine hK1 _ ?_; clear hK1 K1)) <;> (try simp only [BN3] at hg))) | (refine awp_seq_k fun K hK => ?_) | ((first | refine awp_region ?_ | refine awp_draw (by kernel_rfl) ?_ | refine awp_block ?_ | refine awp_exit ?_ | refine awp_skip ?_ | refine awp_ret ?_); (try simp only [NB, simprocAttr])))
  refine awp_whileG (σ := Qg) (fun q => ns.length - q.j) 23 (fun q => [(13, .i q.j), (12, .i ns.length), (4, .ref (h.length + 1) q.g 0 4 (ruTo ns fl q.j).length), (1, .ptr h.length 0 0)])
    (fun q => [some ⟨0, cNet ns fl⟩, some ⟨q.g, cRu (ruTo ns fl q.j)⟩]) (fun q => q.j ≤ ns.length) ⟨0, 0⟩ ?_ (Nat.zero_le _) fun q hj K hK => ?_
  · refine (Ghost.adopt 4 4 rfl).trans (Sub.ghost ⟨rfl, ⟨[], by simp only [List.append_nil, List.append_assoc, List.cons_append, List.nil_append]; rfl⟩, ?_, ⟨trivial, trivial, trivial⟩, avlts_cRu _ _, trivial⟩)
    simp [keeps, avlt, upd, ruTo]
  obtain ⟨j, g⟩ := q
  simp only at hj
  rcases Nat.lt_or_ge j ns.length with hlt | hge
  · have hnd := fun h => node_calls (G := G) ns fl ok hd j hlt h
    rw [nodeD_eq hR hlt] at hnd
    have ej : ruTo ns fl (j + 1) = ruTo ns fl j ++ ruOf fl j (kindAt ns j) := by rw [ruTo]
    have hmax : (ruTo ns fl j).length + (ruOf fl j (kindAt ns j)).length ≤ maxCount := by
      have h1 := ruTo_le ns fl j
      have h2 : j * (fl.length + 1) ≤ 100 * 101 := Nat.mul_le_mul (by omega) (by omega)
      have h3 := ruOf_le fl j (kindAt ns j)
      unfold maxCount; omega
    generalize hl2 : ruOf fl j (kindAt ns j) = l2 at *
    by_cases hz : l2.length = 0
    · have hnil : l2 = [] := List.eq_nil_of_length_eq_zero hz
      rw [hnil] at ej hnd
      have sf : (([] : List Ru).map eRu).length = 0 := rfl
      repeat' (first | ((first | refine aops_nil ?_ | refine aqops_nil ?_); (try simp only [NB])) | ((repeat ((fail_if_success (refine hK _ ?_)); clear hK K)); refine hK _ ?_; clear hK K) | ((first | refine aops_k fun K1 hK1 => ?_ | refine aqops_k fun K1 hK1 => ?_ | refine awp_cond_k fun A B hA hB => ?_); simp only [S1, simprocAttr, T2, T3, T4, T22, T23, T25, T32, T35, T38, T49, T51, T53, T55, T58, hitN hlt, nextN hn hlt, List.length_map, List.map_nil, List.length_nil, List.all_nil, List.flatMap_nil]; first | (refine hK1 _ ?_; clear hK1 K1) | ((first | refine hA ?_ | refine hB ?_); clear hA hB A B) | ((first | apply call_a E27 | apply call_q E27); exact (hnd _); (refine hK1 _ ?_; clear hK1 K1)) | (refine join_x (v := ?_) (fun hg hk9 => ?_) ?_; rotate_left; (focus (try ((try simp only [BN] at hg); simp only [S1, simprocAttr, T2, T3, T4, T22, T23, T25, T32, T35, T38, T49, T51, T53, T55, T58, hitN hlt, nextN hn hlt, List.length_map, List.map_nil, List.length_nil, List.all_nil, List.flatMap_nil, hg] at hk9 ⊢)); first | exact hk9 | ((first | apply call_a E27 | apply call_q E27); exact (hnd _); exact hk9)); (refine hK1 _ ?_; clear hK1 K1)) | (((first | (refine ⟨fun hg => hA ?_, fun hg => hB ?_⟩ <;> clear hA hB A B) | refine ⟨fun hg => ?_, fun hg => ?_⟩) <;> (try simp only [BN2] at hg) <;> (try simp only [hg, cond_true, cond_false])) <;> (try (refine hK1 _ ?_; clear hK1 K1)) <;> (try simp only [BN3] at hg))) | (refine awp_seq_k fun K hK => ?_) | ((first | refine awp_region ?_ | refine awp_draw (by kernel_rfl) ?_ | refine awp_block ?_ | refine awp_exit ?_ | refine awp_skip ?_ | refine awp_ret ?_); (try simp only [NB, simprocAttr])))
      all_goals refine ⟨⟨j + 1, g⟩, by simp only; omega, hlt, ?_⟩
      all_goals simp only [ej, List.append_nil, cRu_cat, List.length_append]
      all_goals refine ⟨rfl, ⟨_, rfl⟩, ?_, ⟨trivial, trivial, trivial⟩, avlts_cRu _ _, trivial⟩
      all_goals simp only [keeps, avlt, avlts, blksLt, frL, upd_get, S1, simprocAttr, List.length_map, Int.natCast_zero, AV.p.injEq, PV.int.injEq, PV.bool.injEq, PV.sl.injEq] <;> (try and_intros) <;> (try assumption) <;> (try trivial) <;> (try omega)
    · have hz1 : (l2.length = 0) = False := eq_false hz
      have hz2 : (l2.length ≠ 0) = True := eq_true hz
      have ra := rows_all l2
      have rf := rows_flat l2
      repeat' (first | ((first | refine aops_nil ?_ | refine aqops_nil ?_); (try simp only [NB])) | ((repeat ((fail_if_success (refine hK _ ?_)); clear hK K)); refine hK _ ?_; clear hK K) | ((first | refine aops_k fun K1 hK1 => ?_ | refine aqops_k fun K1 hK1 => ?_ | refine awp_cond_k fun A B hA hB => ?_); simp only [S1, simprocAttr, T2, T3, T4, T22, T23, T25, T32, T35, T38, T49, T51, T53, T55, T58, hitN hlt, nextN hn hlt, List.length_map, hz1, hz2, ra, rf, cRu_len, hmax, Nat.zero_add]; first | (refine hK1 _ ?_; clear hK1 K1) | ((first | refine hA ?_ | refine hB ?_); clear hA hB A B) | ((first | apply call_a E27 | apply call_q E27); exact (hnd _); (refine hK1 _ ?_; clear hK1 K1)) | (refine join_x (v := ?_) (fun hg hk9 => ?_) ?_; rotate_left; (focus (try ((try simp only [BN] at hg); simp only [S1, simprocAttr, T2, T3, T4, T22, T23, T25, T32, T35, T38, T49, T51, T53, T55, T58, hitN hlt, nextN hn hlt, List.length_map, hz1, hz2, ra, rf, cRu_len, hmax, Nat.zero_add, hg] at hk9 ⊢)); first | exact hk9 | ((first | apply call_a E27 | apply call_q E27); exact (hnd _); exact hk9)); (refine hK1 _ ?_; clear hK1 K1)) | (((first | (refine ⟨fun hg => hA ?_, fun hg => hB ?_⟩ <;> clear hA hB A B) | refine ⟨fun hg => ?_, fun hg => ?_⟩) <;> (try simp only [BN2] at hg) <;> (try simp only [hg, cond_true, cond_false])) <;> (try (refine hK1 _ ?_; clear hK1 K1)) <;> (try simp only [BN3] at hg))) | (refine awp_seq_k fun K hK => ?_) | ((first | refine awp_region ?_ | refine awp_draw (by kernel_rfl) ?_ | refine awp_block ?_ | refine awp_exit ?_ | refine awp_skip ?_ | refine awp_ret ?_); (try simp only [NB, simprocAttr])))
      all_goals refine ⟨⟨j + 1, g + 1⟩, by simp only; omega, hlt, ?_⟩
      all_goals simp only [ej, List.append_nil, cRu_cat, List.length_append]
      all_goals refine ⟨rfl, ⟨_, rfl⟩, ?_, ⟨trivial, trivial, trivial⟩, (by rw [← cRu_cat]; exact avlts_cRu _ _), trivial⟩
      all_goals simp only [keeps, avlt, avlts, blksLt, frL, upd_get, S1, simprocAttr, List.length_map, Int.natCast_zero, AV.p.injEq, PV.int.injEq, PV.bool.injEq, PV.sl.injEq] <;> (try and_intros) <;> (try assumption) <;> (try trivial) <;> (try omega)
  · obtain rfl : j = ns.length := by omega
    repeat' (first | ((first | refine aops_nil ?_ | refine aqops_nil ?_); (try simp only [NB])) | ((repeat ((fail_if_success (refine hK _ ?_)); clear hK K)); refine hK _ ?_; clear hK K) | ((first | refine aops_k fun K1 hK1 => ?_ | refine aqops_k fun K1 hK1 => ?_ | refine awp_cond_k fun A B hA hB => ?_); simp only [S1, simprocAttr, T2, T3, T4, T22, T23, T25, T32, T35, T38, T49, T51, T53, T55, T58, endN]; first | (refine hK1 _ ?_; clear hK1 K1) | ((first | refine hA ?_ | refine hB ?_); clear hA hB A B) | (refine join_x (v := ?_) (fun hg hk9 => ?_) ?_; rotate_left; (focus (try ((try simp only [BN] at hg); simp only [S1, simprocAttr, T2, T3, T4, T22, T23, T25, T32, T35, T38, T49, T51, T53, T55, T58, endN, hg] at hk9 ⊢)); first | exact hk9); (refine hK1 _ ?_; clear hK1 K1)) | (((first | (refine ⟨fun hg => hA ?_, fun hg => hB ?_⟩ <;> clear hA hB A B) | refine ⟨fun hg => ?_, fun hg => ?_⟩) <;> (try simp only [BN2] at hg) <;> (try simp only [hg, cond_true, cond_false])) <;> (try (refine hK1 _ ?_; clear hK1 K1)) <;> (try simp only [BN3] at hg))) | (refine awp_seq_k fun K hK => ?_) | ((first | refine awp_region ?_ | refine awp_draw (by kernel_rfl) ?_ | refine awp_block ?_ | refine awp_exit ?_ | refine awp_skip ?_ | refine awp_ret ?_); (try simp only [NB, simprocAttr])))
    exact EndP_rows2 eRu_len eRu_ok (.inr rfl) (l := ruTo ns fl ns.length) rfl rfl rfl (by simp only [cRu, blkAt, get_app, List.getElem?_cons_succ, List.getElem?_cons_zero, if_true]) (by omega) (by simp) (by simp) rfl
end Go.Proofs.YtlophgkgmhcagaaDoor.AM
end
