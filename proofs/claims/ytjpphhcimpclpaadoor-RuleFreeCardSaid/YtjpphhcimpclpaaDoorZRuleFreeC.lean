/- Proved here, in parts, for one law: Contracts: the document's flows that lead to a node, and from it. Contracts: the program's flows that lead to a node, and from it. Contracts: the first node of a kind. Plain: what is led to, round by round and breadth first. Contracts: rule 2 of a flow (both). Contracts: the document's rule 3 of a node. Contracts: what is led to, round by round. Contracts: the program's rule 2 of a flow. Contracts: what is met, breadth first. Contracts: the program's rule 3 of a node. The abstract machine, part V: slices of rows that are handed back; a cell told otherwise. Contracts: places at which something is wrong. Contracts: what is asked of each place; the third rule; all places; the rule that is broken. Contracts: the third rule; all places; the rule that is broken. Conditions: none. -/
import Derived.Test.YtjpphhcimpclpaaDoorZRuleFreeB

section
set_option linter.unusedVariables false
set_option linter.unusedSimpArgs false
set_option maxRecDepth 4000
set_option maxHeartbeats 4000000
namespace Go.Proofs.YtjpphhcimpclpaaDoor.AM
open Go Go.Proofs
set_option linter.defProp false in
def TTNeE := And.intro T2 (And.intro T3 (And.intro T4 (And.intro T23 (And.intro T25 (And.intro T40 (And.intro T56 (And.intro T58 T71)))))))
attribute [local irreducible] awp aops aqops aeops arun
variable {G : Nat → Option (List PV)}

theorem avlts_ints (m : Nat) (l : List Int) : avlts m (l.map AV.i) := avlts_all _ fun x hx => by
  simp only [List.mem_map] at hx
  obtain ⟨i, _, rfl⟩ := hx
  exact ⟨_, rfl⟩

theorem chunk_ints : ∀ l : List Int, chunk 1 l.length (l.map (PV.int .i64)) = l.map eI
  | [] => rfl
  | x :: r => by simp only [List.length_cons, List.map_cons, chunk, List.take_succ_cons, List.take_zero, List.drop_succ_cons, List.drop_zero, chunk_ints r, eI]

theorem pur_ints {h : Heap} {n fuel b g : Nat} {l : List Int} (hb : blkAt h b g = some (l.map AV.i)) (hn : n ≤ b) : pur h n (fuel + 1) (.ref b g 0 1 l.length) = some (.sl (l.map eI)) := by
  unfold pur
  by_cases h0 : l.length = 0
  · rw [if_pos h0]; have := List.eq_nil_of_length_eq_zero h0; subst this; rfl
  · rw [if_neg h0, hb]
    simp only [hn, true_and, Nat.zero_add, Nat.mul_one, List.length_map, Nat.le_refl, if_true, List.drop_zero]
    rw [List.take_of_length_le (by simp), purs_ints]
    simp only [Option.map_some, chunk_ints]

theorem EndP_ints {P : Program} {h : Heap} {K : AV → Prop} {e : Exit} {s : St} (he : e = .normal ∨ e = .ret) {t b g : Nat} {l : List Int} (hf : s.fr t = some (.ref b g 0 1 l.length)) (hb : blkAt s.heap b g = some (l.map AV.i)) (hn : h.length ≤ b)
    (ht : s.heap.take h.length = h) (hle : h.length ≤ s.heap.length) (hk : K (aI l)) : EndP P [.tmp t] h K e s := by
  have key : FinP P [.tmp t] h K s := by
    unfold FinP
    simp only [resA, resL, resA1, hf, lastV, lastA, pur_ints hb hn, Option.map_some]
    exact ⟨ht, hle, hk⟩
  rcases he with rfl | rfl <;> exact key

theorem rIns_calls (nodes : List (List PV)) (fl : List Fl) (hl : fl.length ≤ 100) (i : Int) (h : Heap) : ACalls Tryd.prog G 43 [.agg [.p (.sl nodes), .p (.sl (fl.map eF))], .i i] h (fun r h' => r = aI (insN fl i) ∧ h' = h) := by
  refine acalls_pure (rl := []) mixed Tryd.func43 rfl (rs := [.tmp 4]) rfl Tryd.ntmps43 (by simp) ?_
  refine awp_seq_k fun K hK => ?_
  repeat' (first | ((first | refine aops_nil ?_ | refine aqops_nil ?_); (try simp only [NB]); ((repeat ((fail_if_success (refine hK _ ?_)); clear hK K)); refine hK _ ?_; clear hK K)) | ((first | refine aops_k fun K1 hK1 => ?_ | refine aqops_k fun K1 hK1 => ?_ | refine awp_cond_k fun A B hA hB => ?_); simp only [S1, simprocAttr, TTNeE]; first | (refine hK1 _ ?_; clear hK1 K1) | ((first | refine hA ?_ | refine hB ?_); clear hA hB A B) | (((first | (refine ⟨fun hg => hA ?_, fun hg => hB ?_⟩ <;> clear hA hB A B) | refine ⟨fun hg => ?_, fun hg => ?_⟩) <;> (try simp only [BN2] at hg) <;> (try simp only [hg, cond_true, cond_false])) <;> (try (refine hK1 _ ?_; clear hK1 K1)) <;> (try simp only [BN3] at hg))) | (fail) | ((first | refine awp_region ?_ | refine awp_draw (by kernel_rfl) ?_ | refine awp_block ?_ | refine awp_exit ?_ | refine awp_skip ?_ | refine awp_ret ?_); (try simp only [NB, simprocAttr]); (try ((repeat ((fail_if_success (refine hK _ ?_)); clear hK K)); refine hK _ ?_; clear hK K))))
  refine awp_seq_k fun K hK => ?_
  repeat' (first | ((first | refine aops_nil ?_ | refine aqops_nil ?_); (try simp only [NB]); ((repeat ((fail_if_success (refine hK _ ?_)); clear hK K)); refine hK _ ?_; clear hK K)) | ((first | refine aops_k fun K1 hK1 => ?_ | refine aqops_k fun K1 hK1 => ?_ | refine awp_cond_k fun A B hA hB => ?_); simp only [S1, simprocAttr, TTNeE]; first | (refine hK1 _ ?_; clear hK1 K1) | ((first | refine hA ?_ | refine hB ?_); clear hA hB A B) | (((first | (refine ⟨fun hg => hA ?_, fun hg => hB ?_⟩ <;> clear hA hB A B) | refine ⟨fun hg => ?_, fun hg => ?_⟩) <;> (try simp only [BN2] at hg) <;> (try simp only [hg, cond_true, cond_false])) <;> (try (refine hK1 _ ?_; clear hK1 K1)) <;> (try simp only [BN3] at hg))) | (fail) | ((first | refine awp_region ?_ | refine awp_draw (by kernel_rfl) ?_ | refine awp_block ?_ | refine awp_exit ?_ | refine awp_skip ?_ | refine awp_ret ?_); (try simp only [NB, simprocAttr]); (try ((repeat ((fail_if_success (refine hK _ ?_)); clear hK K)); refine hK _ ?_; clear hK K))))
  refine awp_seq_k fun K hK => ?_
  repeat' (first | ((first | refine aops_nil ?_ | refine aqops_nil ?_); (try simp only [NB])) | ((repeat ((fail_if_success (refine hK _ ?_)); clear hK K)); refine hK _ ?_; clear hK K) | ((first | refine aops_k fun K1 hK1 => ?_ | refine aqops_k fun K1 hK1 => ?_ | refine awp_cond_k fun A B hA hB => ?_); simp only [S1, simprocAttr, TTNeE, List.length_map]; first | (refine hK1 _ ?_; clear hK1 K1) | ((first | refine hA ?_ | refine hB ?_); clear hA hB A B) | (((first | (refine ⟨fun hg => hA ?_, fun hg => hB ?_⟩ <;> clear hA hB A B) | refine ⟨fun hg => ?_, fun hg => ?_⟩) <;> (try simp only [BN2] at hg) <;> (try simp only [hg, cond_true, cond_false])) <;> (try (refine hK1 _ ?_; clear hK1 K1)) <;> (try simp only [BN3] at hg))) | (refine awp_seq_k fun K hK => ?_) | ((first | refine awp_region ?_ | refine awp_draw (by kernel_rfl) ?_ | refine awp_block ?_ | refine awp_exit ?_ | refine awp_skip ?_ | refine awp_ret ?_); (try simp only [NB, simprocAttr])))
  let q := fun f : Fl => f.dst == i
  refine awp_forG fl.length 26 (fun j => [(11, .i j), (10, .i fl.length), (9, .p (.sl (fl.map eF))), (1, .i i), (5, .ref (h.length + 1) (pickF q fl j).length 0 1 (pickF q fl j).length)])
    (fun j => [some ⟨0, [.p (.sl nodes), .p (.sl (fl.map eF))]⟩, some ⟨(pickF q fl j).length, (pickF q fl j).map AV.i⟩]) (fun j => True) ?_ trivial fun j hj hp K hK => ?_
  · refine (Ghost.adopt 5 1 rfl).trans (Sub.ghost ⟨rfl, ⟨[], by simp [pickF]⟩, ?_, ?_⟩)
    · simp [keeps, upd, avlt, pickF]
    · simp [blksLt, avlts, avlt, pickF]
  rcases Nat.lt_or_ge j fl.length with hlt | hge
  · obtain ⟨k, hx⟩ : ∃ k, fl[j]? = some k := ⟨_, List.getElem?_eq_getElem hlt⟩
    have hle := pickF_le q fl j
    have hmax : (pickF q fl j).length + 1 ≤ maxCount := by unfold maxCount; omega
    cases hq : q k with
    | false =>
      have f1 : (k.dst == i) = false := hq
      have e1 : pickF q fl (j + 1) = pickF q fl j := by simp only [pickF, hx, hq]; rfl
      repeat' (first | ((first | refine aops_nil ?_ | refine aqops_nil ?_); (try simp only [NB])) | ((repeat ((fail_if_success (refine hK _ ?_)); clear hK K)); refine hK _ ?_; clear hK K) | ((first | refine aops_k fun K1 hK1 => ?_ | refine aqops_k fun K1 hK1 => ?_ | refine awp_cond_k fun A B hA hB => ?_); simp only [S1, simprocAttr, TTNeE, rowF hx, hitF hlt, nextF hl hlt, eF, f1, List.length_map]; first | (refine hK1 _ ?_; clear hK1 K1) | ((first | refine hA ?_ | refine hB ?_); clear hA hB A B) | (((first | (refine ⟨fun hg => hA ?_, fun hg => hB ?_⟩ <;> clear hA hB A B) | refine ⟨fun hg => ?_, fun hg => ?_⟩) <;> (try simp only [BN2] at hg) <;> (try simp only [hg, cond_true, cond_false])) <;> (try (refine hK1 _ ?_; clear hK1 K1)) <;> (try simp only [BN3] at hg))) | (refine awp_seq_k fun K hK => ?_) | ((first | refine awp_region ?_ | refine awp_draw (by kernel_rfl) ?_ | refine awp_block ?_ | refine awp_exit ?_ | refine awp_skip ?_ | refine awp_ret ?_); (try simp only [NB, simprocAttr])))
      all_goals refine ⟨hlt, trivial, ?_⟩
      all_goals simp only [e1]
      all_goals refine ⟨rfl, ⟨_, rfl⟩, ?_, ?_⟩
      · simp only [keeps, avlt, avlts, blksLt, frL, upd_get, S1, simprocAttr, List.length_map, Int.natCast_zero, AV.p.injEq, PV.int.injEq, PV.bool.injEq, PV.sl.injEq] <;> (try and_intros) <;> (try assumption) <;> (try trivial) <;> (try omega)
      · simp only [blksLt, avlts, avlt]; exact ⟨⟨trivial, trivial, trivial⟩, avlts_ints _ _, trivial⟩
    | true =>
      have f1 : (k.dst == i) = true := hq
      have e1 : pickF q fl (j + 1) = pickF q fl j ++ [(j : Int)] := by simp only [pickF, hx, hq]; rfl
      repeat' (first | ((first | refine aops_nil ?_ | refine aqops_nil ?_); (try simp only [NB])) | ((repeat ((fail_if_success (refine hK _ ?_)); clear hK K)); refine hK _ ?_; clear hK K) | ((first | refine aops_k fun K1 hK1 => ?_ | refine aqops_k fun K1 hK1 => ?_ | refine awp_cond_k fun A B hA hB => ?_); simp only [S1, simprocAttr, TTNeE, rowF hx, hitF hlt, nextF hl hlt, eF, f1, List.length_map, hmax, Nat.mul_one, Nat.zero_add]; first | (refine hK1 _ ?_; clear hK1 K1) | ((first | refine hA ?_ | refine hB ?_); clear hA hB A B) | (((first | (refine ⟨fun hg => hA ?_, fun hg => hB ?_⟩ <;> clear hA hB A B) | refine ⟨fun hg => ?_, fun hg => ?_⟩) <;> (try simp only [BN2] at hg) <;> (try simp only [hg, cond_true, cond_false])) <;> (try (refine hK1 _ ?_; clear hK1 K1)) <;> (try simp only [BN3] at hg))) | (refine awp_seq_k fun K hK => ?_) | ((first | refine awp_region ?_ | refine awp_draw (by kernel_rfl) ?_ | refine awp_block ?_ | refine awp_exit ?_ | refine awp_skip ?_ | refine awp_ret ?_); (try simp only [NB, simprocAttr])))
      all_goals refine ⟨hlt, trivial, ?_⟩
      all_goals simp only [e1, List.length_append, List.map_append, List.length_cons, List.length_nil, List.map_cons, List.map_nil, Nat.zero_add]
      all_goals refine ⟨rfl, ⟨_, rfl⟩, ?_, ?_⟩
      · simp only [keeps, avlt, avlts, blksLt, frL, upd_get, S1, simprocAttr, List.length_map, Int.natCast_zero, AV.p.injEq, PV.int.injEq, PV.bool.injEq, PV.sl.injEq] <;> (try and_intros) <;> (try assumption) <;> (try trivial) <;> (try omega)
      · simp only [blksLt, avlts, avlt]; exact ⟨⟨trivial, trivial, trivial⟩, (by have := avlts_ints (h.length + 2) (pickF q fl j ++ [(j : Int)]); simpa using this), trivial⟩
  · obtain rfl : j = fl.length := by omega
    repeat' (first | ((first | refine aops_nil ?_ | refine aqops_nil ?_); (try simp only [NB])) | ((repeat ((fail_if_success (refine hK _ ?_)); clear hK K)); refine hK _ ?_; clear hK K) | ((first | refine aops_k fun K1 hK1 => ?_ | refine aqops_k fun K1 hK1 => ?_ | refine awp_cond_k fun A B hA hB => ?_); simp only [S1, simprocAttr, TTNeE, endF]; first | (refine hK1 _ ?_; clear hK1 K1) | ((first | refine hA ?_ | refine hB ?_); clear hA hB A B) | (((first | (refine ⟨fun hg => hA ?_, fun hg => hB ?_⟩ <;> clear hA hB A B) | refine ⟨fun hg => ?_, fun hg => ?_⟩) <;> (try simp only [BN2] at hg) <;> (try simp only [hg, cond_true, cond_false])) <;> (try (refine hK1 _ ?_; clear hK1 K1)) <;> (try simp only [BN3] at hg))) | (refine awp_seq_k fun K hK => ?_) | ((first | refine awp_region ?_ | refine awp_draw (by kernel_rfl) ?_ | refine awp_block ?_ | refine awp_exit ?_ | refine awp_skip ?_ | refine awp_ret ?_); (try simp only [NB, simprocAttr])))
    exact EndP_ints (.inr rfl) rfl (by simp only [blkAt, get_app, List.getElem?_cons_succ, List.getElem?_cons_zero, if_true]) (by omega) (by simp) (by simp) rfl
theorem rOuts_calls (nodes : List (List PV)) (fl : List Fl) (hl : fl.length ≤ 100) (i : Int) (h : Heap) : ACalls Tryd.prog G 44 [.agg [.p (.sl nodes), .p (.sl (fl.map eF))], .i i] h (fun r h' => r = aI (outsN fl i) ∧ h' = h) := by
  refine acalls_pure (rl := []) mixed Tryd.func44 rfl (rs := [.tmp 4]) rfl Tryd.ntmps44 (by simp) ?_
  refine awp_seq_k fun K hK => ?_
  repeat' (first | ((first | refine aops_nil ?_ | refine aqops_nil ?_); (try simp only [NB]); ((repeat ((fail_if_success (refine hK _ ?_)); clear hK K)); refine hK _ ?_; clear hK K)) | ((first | refine aops_k fun K1 hK1 => ?_ | refine aqops_k fun K1 hK1 => ?_ | refine awp_cond_k fun A B hA hB => ?_); simp only [S1, simprocAttr, TTNeE]; first | (refine hK1 _ ?_; clear hK1 K1) | ((first | refine hA ?_ | refine hB ?_); clear hA hB A B) | (((first | (refine ⟨fun hg => hA ?_, fun hg => hB ?_⟩ <;> clear hA hB A B) | refine ⟨fun hg => ?_, fun hg => ?_⟩) <;> (try simp only [BN2] at hg) <;> (try simp only [hg, cond_true, cond_false])) <;> (try (refine hK1 _ ?_; clear hK1 K1)) <;> (try simp only [BN3] at hg))) | (fail) | ((first | refine awp_region ?_ | refine awp_draw (by kernel_rfl) ?_ | refine awp_block ?_ | refine awp_exit ?_ | refine awp_skip ?_ | refine awp_ret ?_); (try simp only [NB, simprocAttr]); (try ((repeat ((fail_if_success (refine hK _ ?_)); clear hK K)); refine hK _ ?_; clear hK K))))
  refine awp_seq_k fun K hK => ?_
  repeat' (first | ((first | refine aops_nil ?_ | refine aqops_nil ?_); (try simp only [NB]); ((repeat ((fail_if_success (refine hK _ ?_)); clear hK K)); refine hK _ ?_; clear hK K)) | ((first | refine aops_k fun K1 hK1 => ?_ | refine aqops_k fun K1 hK1 => ?_ | refine awp_cond_k fun A B hA hB => ?_); simp only [S1, simprocAttr, TTNeE]; first | (refine hK1 _ ?_; clear hK1 K1) | ((first | refine hA ?_ | refine hB ?_); clear hA hB A B) | (((first | (refine ⟨fun hg => hA ?_, fun hg => hB ?_⟩ <;> clear hA hB A B) | refine ⟨fun hg => ?_, fun hg => ?_⟩) <;> (try simp only [BN2] at hg) <;> (try simp only [hg, cond_true, cond_false])) <;> (try (refine hK1 _ ?_; clear hK1 K1)) <;> (try simp only [BN3] at hg))) | (fail) | ((first | refine awp_region ?_ | refine awp_draw (by kernel_rfl) ?_ | refine awp_block ?_ | refine awp_exit ?_ | refine awp_skip ?_ | refine awp_ret ?_); (try simp only [NB, simprocAttr]); (try ((repeat ((fail_if_success (refine hK _ ?_)); clear hK K)); refine hK _ ?_; clear hK K))))
  refine awp_seq_k fun K hK => ?_
  repeat' (first | ((first | refine aops_nil ?_ | refine aqops_nil ?_); (try simp only [NB])) | ((repeat ((fail_if_success (refine hK _ ?_)); clear hK K)); refine hK _ ?_; clear hK K) | ((first | refine aops_k fun K1 hK1 => ?_ | refine aqops_k fun K1 hK1 => ?_ | refine awp_cond_k fun A B hA hB => ?_); simp only [S1, simprocAttr, TTNeE, List.length_map]; first | (refine hK1 _ ?_; clear hK1 K1) | ((first | refine hA ?_ | refine hB ?_); clear hA hB A B) | (((first | (refine ⟨fun hg => hA ?_, fun hg => hB ?_⟩ <;> clear hA hB A B) | refine ⟨fun hg => ?_, fun hg => ?_⟩) <;> (try simp only [BN2] at hg) <;> (try simp only [hg, cond_true, cond_false])) <;> (try (refine hK1 _ ?_; clear hK1 K1)) <;> (try simp only [BN3] at hg))) | (refine awp_seq_k fun K hK => ?_) | ((first | refine awp_region ?_ | refine awp_draw (by kernel_rfl) ?_ | refine awp_block ?_ | refine awp_exit ?_ | refine awp_skip ?_ | refine awp_ret ?_); (try simp only [NB, simprocAttr])))
  let q := fun f : Fl => f.src == i
  refine awp_forG fl.length 26 (fun j => [(11, .i j), (10, .i fl.length), (9, .p (.sl (fl.map eF))), (1, .i i), (5, .ref (h.length + 1) (pickF q fl j).length 0 1 (pickF q fl j).length)])
    (fun j => [some ⟨0, [.p (.sl nodes), .p (.sl (fl.map eF))]⟩, some ⟨(pickF q fl j).length, (pickF q fl j).map AV.i⟩]) (fun j => True) ?_ trivial fun j hj hp K hK => ?_
  · refine (Ghost.adopt 5 1 rfl).trans (Sub.ghost ⟨rfl, ⟨[], by simp [pickF]⟩, ?_, ?_⟩)
    · simp [keeps, upd, avlt, pickF]
    · simp [blksLt, avlts, avlt, pickF]
  rcases Nat.lt_or_ge j fl.length with hlt | hge
  · obtain ⟨k, hx⟩ : ∃ k, fl[j]? = some k := ⟨_, List.getElem?_eq_getElem hlt⟩
    have hle := pickF_le q fl j
    have hmax : (pickF q fl j).length + 1 ≤ maxCount := by unfold maxCount; omega
    cases hq : q k with
    | false =>
      have f1 : (k.src == i) = false := hq
      have e1 : pickF q fl (j + 1) = pickF q fl j := by simp only [pickF, hx, hq]; rfl
      repeat' (first | ((first | refine aops_nil ?_ | refine aqops_nil ?_); (try simp only [NB])) | ((repeat ((fail_if_success (refine hK _ ?_)); clear hK K)); refine hK _ ?_; clear hK K) | ((first | refine aops_k fun K1 hK1 => ?_ | refine aqops_k fun K1 hK1 => ?_ | refine awp_cond_k fun A B hA hB => ?_); simp only [S1, simprocAttr, TTNeE, rowF hx, hitF hlt, nextF hl hlt, eF, f1, List.length_map]; first | (refine hK1 _ ?_; clear hK1 K1) | ((first | refine hA ?_ | refine hB ?_); clear hA hB A B) | (((first | (refine ⟨fun hg => hA ?_, fun hg => hB ?_⟩ <;> clear hA hB A B) | refine ⟨fun hg => ?_, fun hg => ?_⟩) <;> (try simp only [BN2] at hg) <;> (try simp only [hg, cond_true, cond_false])) <;> (try (refine hK1 _ ?_; clear hK1 K1)) <;> (try simp only [BN3] at hg))) | (refine awp_seq_k fun K hK => ?_) | ((first | refine awp_region ?_ | refine awp_draw (by kernel_rfl) ?_ | refine awp_block ?_ | refine awp_exit ?_ | refine awp_skip ?_ | refine awp_ret ?_); (try simp only [NB, simprocAttr])))
      all_goals refine ⟨hlt, trivial, ?_⟩
      all_goals simp only [e1]
      all_goals refine ⟨rfl, ⟨_, rfl⟩, ?_, ?_⟩
      · simp only [keeps, avlt, avlts, blksLt, frL, upd_get, S1, simprocAttr, List.length_map, Int.natCast_zero, AV.p.injEq, PV.int.injEq, PV.bool.injEq, PV.sl.injEq] <;> (try and_intros) <;> (try assumption) <;> (try trivial) <;> (try omega)
      · simp only [blksLt, avlts, avlt]; exact ⟨⟨trivial, trivial, trivial⟩, avlts_ints _ _, trivial⟩
    | true =>
      have f1 : (k.src == i) = true := hq
      have e1 : pickF q fl (j + 1) = pickF q fl j ++ [(j : Int)] := by simp only [pickF, hx, hq]; rfl
      repeat' (first | ((first | refine aops_nil ?_ | refine aqops_nil ?_); (try simp only [NB])) | ((repeat ((fail_if_success (refine hK _ ?_)); clear hK K)); refine hK _ ?_; clear hK K) | ((first | refine aops_k fun K1 hK1 => ?_ | refine aqops_k fun K1 hK1 => ?_ | refine awp_cond_k fun A B hA hB => ?_); simp only [S1, simprocAttr, TTNeE, rowF hx, hitF hlt, nextF hl hlt, eF, f1, List.length_map, hmax, Nat.mul_one, Nat.zero_add]; first | (refine hK1 _ ?_; clear hK1 K1) | ((first | refine hA ?_ | refine hB ?_); clear hA hB A B) | (((first | (refine ⟨fun hg => hA ?_, fun hg => hB ?_⟩ <;> clear hA hB A B) | refine ⟨fun hg => ?_, fun hg => ?_⟩) <;> (try simp only [BN2] at hg) <;> (try simp only [hg, cond_true, cond_false])) <;> (try (refine hK1 _ ?_; clear hK1 K1)) <;> (try simp only [BN3] at hg))) | (refine awp_seq_k fun K hK => ?_) | ((first | refine awp_region ?_ | refine awp_draw (by kernel_rfl) ?_ | refine awp_block ?_ | refine awp_exit ?_ | refine awp_skip ?_ | refine awp_ret ?_); (try simp only [NB, simprocAttr])))
      all_goals refine ⟨hlt, trivial, ?_⟩
      all_goals simp only [e1, List.length_append, List.map_append, List.length_cons, List.length_nil, List.map_cons, List.map_nil, Nat.zero_add]
      all_goals refine ⟨rfl, ⟨_, rfl⟩, ?_, ?_⟩
      · simp only [keeps, avlt, avlts, blksLt, frL, upd_get, S1, simprocAttr, List.length_map, Int.natCast_zero, AV.p.injEq, PV.int.injEq, PV.bool.injEq, PV.sl.injEq] <;> (try and_intros) <;> (try assumption) <;> (try trivial) <;> (try omega)
      · simp only [blksLt, avlts, avlt]; exact ⟨⟨trivial, trivial, trivial⟩, (by have := avlts_ints (h.length + 2) (pickF q fl j ++ [(j : Int)]); simpa using this), trivial⟩
  · obtain rfl : j = fl.length := by omega
    repeat' (first | ((first | refine aops_nil ?_ | refine aqops_nil ?_); (try simp only [NB])) | ((repeat ((fail_if_success (refine hK _ ?_)); clear hK K)); refine hK _ ?_; clear hK K) | ((first | refine aops_k fun K1 hK1 => ?_ | refine aqops_k fun K1 hK1 => ?_ | refine awp_cond_k fun A B hA hB => ?_); simp only [S1, simprocAttr, TTNeE, endF]; first | (refine hK1 _ ?_; clear hK1 K1) | ((first | refine hA ?_ | refine hB ?_); clear hA hB A B) | (((first | (refine ⟨fun hg => hA ?_, fun hg => hB ?_⟩ <;> clear hA hB A B) | refine ⟨fun hg => ?_, fun hg => ?_⟩) <;> (try simp only [BN2] at hg) <;> (try simp only [hg, cond_true, cond_false])) <;> (try (refine hK1 _ ?_; clear hK1 K1)) <;> (try simp only [BN3] at hg))) | (refine awp_seq_k fun K hK => ?_) | ((first | refine awp_region ?_ | refine awp_draw (by kernel_rfl) ?_ | refine awp_block ?_ | refine awp_exit ?_ | refine awp_skip ?_ | refine awp_ret ?_); (try simp only [NB, simprocAttr])))
    exact EndP_ints (.inr rfl) rfl (by simp only [blkAt, get_app, List.getElem?_cons_succ, List.getElem?_cons_zero, if_true]) (by omega) (by simp) (by simp) rfl
end Go.Proofs.YtjpphhcimpclpaaDoor.AM
end

section
set_option linter.unusedVariables false
set_option linter.unusedSimpArgs false
set_option maxRecDepth 4000
set_option maxHeartbeats 4000000
namespace Go.Proofs.YtjpphhcimpclpaaDoor.AM
open Go Go.Proofs
set_option linter.defProp false in
def TTNeF := And.intro T2 (And.intro T3 (And.intro T4 (And.intro T23 (And.intro T25 (And.intro T40 (And.intro T56 (And.intro T58 (And.intro T71 T105))))))))
attribute [local irreducible] awp aops aqops aeops arun
variable {G : Nat → Option (List PV)}

mutual
theorem avlt_mono {m n : Nat} (hmn : m ≤ n) : ∀ x : AV, avlt m x → avlt n x
  | .p _, _ => by simp [avlt]
  | .agg l, h => by simp only [avlt] at h ⊢; exact avlts_mono hmn l h
  | .tup l, h => by simp only [avlt] at h ⊢; exact avlts_mono hmn l h
  | .fn f l, h => by simp only [avlt] at h ⊢; exact avlts_mono hmn l h
  | .ref b g o s l, h => by simp only [avlt] at h ⊢; omega
  | .ptr b g o, h => by simp only [avlt] at h ⊢; omega
  | .pin c, _ => by simp [avlt]
theorem avlts_mono {m n : Nat} (hmn : m ≤ n) : ∀ l : List AV, avlts m l → avlts n l
  | [], _ => by simp [avlts]
  | x :: r, h => by simp only [avlts] at h ⊢; exact ⟨avlt_mono hmn x h.1, avlts_mono hmn r h.2⟩
end

theorem app_get {H : Heap} {b : Nat} {x : Option Blk} (hb : H[b]? = some x) (L : Heap) : (H ++ L)[b]? = some x := by
  have : b < H.length := by
    rcases Nat.lt_or_ge b H.length with h | h
    · exact h
    · rw [List.getElem?_eq_none h] at hb; cases hb
  rw [List.getElem?_append_left this]; exact hb

abbrev aF (k : Fl) : AV := .agg [.i k.src, .i k.dst, .b k.els, .i k.cond.op, .i k.cond.n, .p (.sl (k.cond.kids.map eT))]

theorem ins1_calls (k : Fl) (i : Int) (H : Heap) {b g : Nat} (hb : H[b]? = some (some ⟨g, [.i i]⟩)) : ACalls Tryd.prog G 39 [aF k, .ptr b g 0] H (fun r h' => r = .b (k.dst == i) ∧ h' = H) := by
  refine acalls_pure (rl := []) mixed Tryd.func39 rfl (rs := [.tmp 3]) rfl Tryd.ntmps39 (by simp) ?_
  repeat' (first | ((first | refine aops_nil ?_ | refine aqops_nil ?_); (try simp only [NB])) | ((repeat ((fail_if_success (refine hK _ ?_)); clear hK K)); refine hK _ ?_; clear hK K) | ((first | refine aops_k fun K1 hK1 => ?_ | refine aqops_k fun K1 hK1 => ?_ | refine awp_cond_k fun A B hA hB => ?_); simp only [S1, simprocAttr, TTNeF, app_get hb]; first | (refine hK1 _ ?_; clear hK1 K1) | ((first | refine hA ?_ | refine hB ?_); clear hA hB A B) | (((first | (refine ⟨fun hg => hA ?_, fun hg => hB ?_⟩ <;> clear hA hB A B) | refine ⟨fun hg => ?_, fun hg => ?_⟩) <;> (try simp only [BN2] at hg) <;> (try simp only [hg, cond_true, cond_false])) <;> (try (refine hK1 _ ?_; clear hK1 K1)) <;> (try simp only [BN3] at hg))) | (refine awp_seq_k fun K hK => ?_) | ((first | refine awp_region ?_ | refine awp_draw (by kernel_rfl) ?_ | refine awp_block ?_ | refine awp_exit ?_ | refine awp_skip ?_ | refine awp_ret ?_); (try simp only [NB, simprocAttr])))
  simp only [EndP, FinP, resA, resL, resA1, lastV, lastA, lastAs, pur, purs, take_app, List.take_length, S1, simprocAttr, TTNeF, Nat.le_add_right, Nat.le_refl]

theorem outs1_calls (k : Fl) (i : Int) (H : Heap) {b g : Nat} (hb : H[b]? = some (some ⟨g, [.i i]⟩)) : ACalls Tryd.prog G 40 [aF k, .ptr b g 0] H (fun r h' => r = .b (k.src == i) ∧ h' = H) := by
  refine acalls_pure (rl := []) mixed Tryd.func40 rfl (rs := [.tmp 3]) rfl Tryd.ntmps40 (by simp) ?_
  repeat' (first | ((first | refine aops_nil ?_ | refine aqops_nil ?_); (try simp only [NB])) | ((repeat ((fail_if_success (refine hK _ ?_)); clear hK K)); refine hK _ ?_; clear hK K) | ((first | refine aops_k fun K1 hK1 => ?_ | refine aqops_k fun K1 hK1 => ?_ | refine awp_cond_k fun A B hA hB => ?_); simp only [S1, simprocAttr, TTNeF, app_get hb]; first | (refine hK1 _ ?_; clear hK1 K1) | ((first | refine hA ?_ | refine hB ?_); clear hA hB A B) | (((first | (refine ⟨fun hg => hA ?_, fun hg => hB ?_⟩ <;> clear hA hB A B) | refine ⟨fun hg => ?_, fun hg => ?_⟩) <;> (try simp only [BN2] at hg) <;> (try simp only [hg, cond_true, cond_false])) <;> (try (refine hK1 _ ?_; clear hK1 K1)) <;> (try simp only [BN3] at hg))) | (refine awp_seq_k fun K hK => ?_) | ((first | refine awp_region ?_ | refine awp_draw (by kernel_rfl) ?_ | refine awp_block ?_ | refine awp_exit ?_ | refine awp_skip ?_ | refine awp_ret ?_); (try simp only [NB, simprocAttr])))
  simp only [EndP, FinP, resA, resL, resA1, lastV, lastA, lastAs, pur, purs, take_app, List.take_length, S1, simprocAttr, TTNeF, Nat.le_add_right, Nat.le_refl]

theorem flows_calls {f : FuncId} (hE : Enters Tryd.prog f) {caps : List AV} {q : Fl → Bool} (nodes : List (List PV)) (fl : List Fl) (hl : fl.length ≤ 100) (h : Heap) (hcap : avlts h.length caps)
    (hc : ∀ L, ∀ k ∈ fl, ACalls Tryd.prog G f (aF k :: caps) (h ++ L) (fun r h' => r = .b (q k) ∧ h' = h ++ L)) :
    ACalls Tryd.prog G 38 [.agg [.p (.sl nodes), .p (.sl (fl.map eF))], .fn f caps] h (fun r h' => r = aI (pickF q fl fl.length) ∧ h' = h) := by
  refine acalls_pure (rl := []) mixed Tryd.func38 rfl (rs := [.tmp 4]) rfl Tryd.ntmps38 (by simp) ?_
  refine awp_seq_k fun K hK => ?_
  repeat' (first | ((first | refine aops_nil ?_ | refine aqops_nil ?_); (try simp only [NB]); ((repeat ((fail_if_success (refine hK _ ?_)); clear hK K)); refine hK _ ?_; clear hK K)) | ((first | refine aops_k fun K1 hK1 => ?_ | refine aqops_k fun K1 hK1 => ?_ | refine awp_cond_k fun A B hA hB => ?_); simp only [S1, simprocAttr, TTNeF]; first | (refine hK1 _ ?_; clear hK1 K1) | ((first | refine hA ?_ | refine hB ?_); clear hA hB A B) | (((first | (refine ⟨fun hg => hA ?_, fun hg => hB ?_⟩ <;> clear hA hB A B) | refine ⟨fun hg => ?_, fun hg => ?_⟩) <;> (try simp only [BN2] at hg) <;> (try simp only [hg, cond_true, cond_false])) <;> (try (refine hK1 _ ?_; clear hK1 K1)) <;> (try simp only [BN3] at hg))) | (fail) | ((first | refine awp_region ?_ | refine awp_draw (by kernel_rfl) ?_ | refine awp_block ?_ | refine awp_exit ?_ | refine awp_skip ?_ | refine awp_ret ?_); (try simp only [NB, simprocAttr]); (try ((repeat ((fail_if_success (refine hK _ ?_)); clear hK K)); refine hK _ ?_; clear hK K))))
  refine awp_seq_k fun K hK => ?_
  repeat' (first | ((first | refine aops_nil ?_ | refine aqops_nil ?_); (try simp only [NB]); ((repeat ((fail_if_success (refine hK _ ?_)); clear hK K)); refine hK _ ?_; clear hK K)) | ((first | refine aops_k fun K1 hK1 => ?_ | refine aqops_k fun K1 hK1 => ?_ | refine awp_cond_k fun A B hA hB => ?_); simp only [S1, simprocAttr, TTNeF]; first | (refine hK1 _ ?_; clear hK1 K1) | ((first | refine hA ?_ | refine hB ?_); clear hA hB A B) | (((first | (refine ⟨fun hg => hA ?_, fun hg => hB ?_⟩ <;> clear hA hB A B) | refine ⟨fun hg => ?_, fun hg => ?_⟩) <;> (try simp only [BN2] at hg) <;> (try simp only [hg, cond_true, cond_false])) <;> (try (refine hK1 _ ?_; clear hK1 K1)) <;> (try simp only [BN3] at hg))) | (fail) | ((first | refine awp_region ?_ | refine awp_draw (by kernel_rfl) ?_ | refine awp_block ?_ | refine awp_exit ?_ | refine awp_skip ?_ | refine awp_ret ?_); (try simp only [NB, simprocAttr]); (try ((repeat ((fail_if_success (refine hK _ ?_)); clear hK K)); refine hK _ ?_; clear hK K))))
  refine awp_seq_k fun K hK => ?_
  repeat' (first | ((first | refine aops_nil ?_ | refine aqops_nil ?_); (try simp only [NB])) | ((repeat ((fail_if_success (refine hK _ ?_)); clear hK K)); refine hK _ ?_; clear hK K) | ((first | refine aops_k fun K1 hK1 => ?_ | refine aqops_k fun K1 hK1 => ?_ | refine awp_cond_k fun A B hA hB => ?_); simp only [S1, simprocAttr, TTNeF, List.length_map]; first | (refine hK1 _ ?_; clear hK1 K1) | ((first | refine hA ?_ | refine hB ?_); clear hA hB A B) | (((first | (refine ⟨fun hg => hA ?_, fun hg => hB ?_⟩ <;> clear hA hB A B) | refine ⟨fun hg => ?_, fun hg => ?_⟩) <;> (try simp only [BN2] at hg) <;> (try simp only [hg, cond_true, cond_false])) <;> (try (refine hK1 _ ?_; clear hK1 K1)) <;> (try simp only [BN3] at hg))) | (refine awp_seq_k fun K hK => ?_) | ((first | refine awp_region ?_ | refine awp_draw (by kernel_rfl) ?_ | refine awp_block ?_ | refine awp_exit ?_ | refine awp_skip ?_ | refine awp_ret ?_); (try simp only [NB, simprocAttr])))
  have hcap2 := avlts_mono (Nat.le_add_right h.length 2) caps hcap
  have hcap0 := avlts_mono (Nat.le_add_right h.length 1) caps hcap
  refine awp_forG fl.length 25 (fun j => [(11, .i j), (10, .i fl.length), (9, .p (.sl (fl.map eF))), (1, .fn f caps), (5, .ref (h.length + 1) (pickF q fl j).length 0 1 (pickF q fl j).length)])
    (fun j => [some ⟨0, [.p (.sl nodes), .p (.sl (fl.map eF))]⟩, some ⟨(pickF q fl j).length, (pickF q fl j).map AV.i⟩]) (fun j => True) ?_ trivial fun j hj hp K hK => ?_
  · refine (Ghost.adopt 5 1 rfl).trans (Sub.ghost ⟨rfl, ⟨[], by simp [pickF]⟩, ?_, ?_⟩)
    · simp only [keeps, avlt, pickF, upd_get, frL, List.length_cons, List.length_nil]
      simp
      exact hcap2
    · simp [blksLt, avlts, avlt, pickF]
  rcases Nat.lt_or_ge j fl.length with hlt | hge
  · obtain ⟨k, hx⟩ : ∃ k, fl[j]? = some k := ⟨_, List.getElem?_eq_getElem hlt⟩
    have hm := List.mem_of_getElem? hx
    have hle := pickF_le q fl j
    have hmax : (pickF q fl j).length + 1 ≤ maxCount := by unfold maxCount; omega
    have hck := fun L => hc L k hm
    cases hq : q k with
    | false =>
      rw [hq] at hck
      have e1 : pickF q fl (j + 1) = pickF q fl j := by simp only [pickF, hx, hq]; rfl
      repeat' (first | ((first | refine aops_nil ?_ | refine aqops_nil ?_); (try simp only [NB])) | ((repeat ((fail_if_success (refine hK _ ?_)); clear hK K)); refine hK _ ?_; clear hK K) | ((first | refine aops_k fun K1 hK1 => ?_ | refine aqops_k fun K1 hK1 => ?_ | refine awp_cond_k fun A B hA hB => ?_); simp only [S1, simprocAttr, TTNeF, rowF hx, hitF hlt, nextF hl hlt, eF, List.length_map]; first | (refine hK1 _ ?_; clear hK1 K1) | ((first | refine hA ?_ | refine hB ?_); clear hA hB A B) | ((first | apply call_a hE | apply call_q hE); exact (hck _); (refine hK1 _ ?_; clear hK1 K1)) | (((first | (refine ⟨fun hg => hA ?_, fun hg => hB ?_⟩ <;> clear hA hB A B) | refine ⟨fun hg => ?_, fun hg => ?_⟩) <;> (try simp only [BN2] at hg) <;> (try simp only [hg, cond_true, cond_false])) <;> (try (refine hK1 _ ?_; clear hK1 K1)) <;> (try simp only [BN3] at hg))) | (refine awp_seq_k fun K hK => ?_) | ((first | refine awp_region ?_ | refine awp_draw (by kernel_rfl) ?_ | refine awp_block ?_ | refine awp_exit ?_ | refine awp_skip ?_ | refine awp_ret ?_); (try simp only [NB, simprocAttr])))
      all_goals refine ⟨hlt, trivial, ?_⟩
      all_goals simp only [e1]
      all_goals refine ⟨rfl, ⟨_, rfl⟩, ?_, ?_⟩
      · simp only [keeps, avlt, avlts, blksLt, frL, upd_get, S1, simprocAttr, List.length_map, Int.natCast_zero, AV.p.injEq, PV.int.injEq, PV.bool.injEq, PV.sl.injEq] <;> (try and_intros) <;> (try assumption) <;> (try trivial) <;> (try omega)
      · simp only [blksLt, avlts, avlt]; exact ⟨⟨trivial, trivial, trivial⟩, avlts_ints _ _, trivial⟩
    | true =>
      rw [hq] at hck
      have e1 : pickF q fl (j + 1) = pickF q fl j ++ [(j : Int)] := by simp only [pickF, hx, hq]; rfl
      repeat' (first | ((first | refine aops_nil ?_ | refine aqops_nil ?_); (try simp only [NB])) | ((repeat ((fail_if_success (refine hK _ ?_)); clear hK K)); refine hK _ ?_; clear hK K) | ((first | refine aops_k fun K1 hK1 => ?_ | refine aqops_k fun K1 hK1 => ?_ | refine awp_cond_k fun A B hA hB => ?_); simp only [S1, simprocAttr, TTNeF, rowF hx, hitF hlt, nextF hl hlt, eF, List.length_map, hmax, Nat.mul_one, Nat.zero_add]; first | (refine hK1 _ ?_; clear hK1 K1) | ((first | refine hA ?_ | refine hB ?_); clear hA hB A B) | ((first | apply call_a hE | apply call_q hE); exact (hck _); (refine hK1 _ ?_; clear hK1 K1)) | (((first | (refine ⟨fun hg => hA ?_, fun hg => hB ?_⟩ <;> clear hA hB A B) | refine ⟨fun hg => ?_, fun hg => ?_⟩) <;> (try simp only [BN2] at hg) <;> (try simp only [hg, cond_true, cond_false])) <;> (try (refine hK1 _ ?_; clear hK1 K1)) <;> (try simp only [BN3] at hg))) | (refine awp_seq_k fun K hK => ?_) | ((first | refine awp_region ?_ | refine awp_draw (by kernel_rfl) ?_ | refine awp_block ?_ | refine awp_exit ?_ | refine awp_skip ?_ | refine awp_ret ?_); (try simp only [NB, simprocAttr])))
      all_goals refine ⟨hlt, trivial, ?_⟩
      all_goals simp only [e1, List.length_append, List.map_append, List.length_cons, List.length_nil, List.map_cons, List.map_nil, Nat.zero_add]
      all_goals refine ⟨rfl, ⟨_, rfl⟩, ?_, ?_⟩
      · simp only [keeps, avlt, avlts, blksLt, frL, upd_get, S1, simprocAttr, List.length_map, Int.natCast_zero, AV.p.injEq, PV.int.injEq, PV.bool.injEq, PV.sl.injEq] <;> (try and_intros) <;> (try assumption) <;> (try trivial) <;> (try omega)
      · simp only [blksLt, avlts, avlt]; exact ⟨⟨trivial, trivial, trivial⟩, (by have := avlts_ints (h.length + 2) (pickF q fl j ++ [(j : Int)]); simpa using this), trivial⟩
  · obtain rfl : j = fl.length := by omega
    repeat' (first | ((first | refine aops_nil ?_ | refine aqops_nil ?_); (try simp only [NB])) | ((repeat ((fail_if_success (refine hK _ ?_)); clear hK K)); refine hK _ ?_; clear hK K) | ((first | refine aops_k fun K1 hK1 => ?_ | refine aqops_k fun K1 hK1 => ?_ | refine awp_cond_k fun A B hA hB => ?_); simp only [S1, simprocAttr, TTNeF, endF]; first | (refine hK1 _ ?_; clear hK1 K1) | ((first | refine hA ?_ | refine hB ?_); clear hA hB A B) | (((first | (refine ⟨fun hg => hA ?_, fun hg => hB ?_⟩ <;> clear hA hB A B) | refine ⟨fun hg => ?_, fun hg => ?_⟩) <;> (try simp only [BN2] at hg) <;> (try simp only [hg, cond_true, cond_false])) <;> (try (refine hK1 _ ?_; clear hK1 K1)) <;> (try simp only [BN3] at hg))) | (refine awp_seq_k fun K hK => ?_) | ((first | refine awp_region ?_ | refine awp_draw (by kernel_rfl) ?_ | refine awp_block ?_ | refine awp_exit ?_ | refine awp_skip ?_ | refine awp_ret ?_); (try simp only [NB, simprocAttr])))
    exact EndP_ints (.inr rfl) rfl (by simp only [blkAt, get_app, List.getElem?_cons_succ, List.getElem?_cons_zero, if_true]) (by omega) (by simp) (by simp) rfl

theorem ins_calls (nodes : List (List PV)) (fl : List Fl) (hl : fl.length ≤ 100) (i : Int) (h : Heap) : ACalls Tryd.prog G 25 [.agg [.p (.sl nodes), .p (.sl (fl.map eF))], .i i] h (fun r h' => r = aI (insN fl i) ∧ h' = h) := by
  have hf := flows_calls (G := G) (f := 39) E39 (caps := [.ptr (h.length + 1) 0 0]) (q := fun f => f.dst == i) nodes fl hl (h ++ [some ⟨0, [.p (.sl nodes), .p (.sl (fl.map eF))]⟩, some ⟨0, [.i i]⟩]) (by simp [avlts, avlt])
    (fun L k hk => ins1_calls k i _ (app_get (by simp [get_app]) L))
  refine acalls_pure (rl := []) mixed Tryd.func25 rfl (rs := [.tmp 4]) rfl Tryd.ntmps25 (by simp) ?_
  repeat' (first | ((first | refine aops_nil ?_ | refine aqops_nil ?_); (try simp only [NB])) | ((repeat ((fail_if_success (refine hK _ ?_)); clear hK K)); refine hK _ ?_; clear hK K) | ((first | refine aops_k fun K1 hK1 => ?_ | refine aqops_k fun K1 hK1 => ?_ | refine awp_cond_k fun A B hA hB => ?_); simp only [S1, simprocAttr, TTNeF]; first | (refine hK1 _ ?_; clear hK1 K1) | ((first | refine hA ?_ | refine hB ?_); clear hA hB A B) | ((first | apply call_a E38 | apply call_q E38); exact hf; (refine hK1 _ ?_; clear hK1 K1)) | (((first | (refine ⟨fun hg => hA ?_, fun hg => hB ?_⟩ <;> clear hA hB A B) | refine ⟨fun hg => ?_, fun hg => ?_⟩) <;> (try simp only [BN2] at hg) <;> (try simp only [hg, cond_true, cond_false])) <;> (try (refine hK1 _ ?_; clear hK1 K1)) <;> (try simp only [BN3] at hg))) | (refine awp_seq_k fun K hK => ?_) | ((first | refine awp_region ?_ | refine awp_draw (by kernel_rfl) ?_ | refine awp_block ?_ | refine awp_exit ?_ | refine awp_skip ?_ | refine awp_ret ?_); (try simp only [NB, simprocAttr])))
  simp only [EndP, FinP, resA, resL, resA1, lastV, lastA, lastAs, pur, purs, take_app, List.take_length, S1, simprocAttr, TTNeF, Nat.le_add_right, Nat.le_refl]
  rfl

theorem outs_calls (nodes : List (List PV)) (fl : List Fl) (hl : fl.length ≤ 100) (i : Int) (h : Heap) : ACalls Tryd.prog G 26 [.agg [.p (.sl nodes), .p (.sl (fl.map eF))], .i i] h (fun r h' => r = aI (outsN fl i) ∧ h' = h) := by
  have hf := flows_calls (G := G) (f := 40) E40 (caps := [.ptr (h.length + 1) 0 0]) (q := fun f => f.src == i) nodes fl hl (h ++ [some ⟨0, [.p (.sl nodes), .p (.sl (fl.map eF))]⟩, some ⟨0, [.i i]⟩]) (by simp [avlts, avlt])
    (fun L k hk => outs1_calls k i _ (app_get (by simp [get_app]) L))
  refine acalls_pure (rl := []) mixed Tryd.func26 rfl (rs := [.tmp 4]) rfl Tryd.ntmps26 (by simp) ?_
  repeat' (first | ((first | refine aops_nil ?_ | refine aqops_nil ?_); (try simp only [NB])) | ((repeat ((fail_if_success (refine hK _ ?_)); clear hK K)); refine hK _ ?_; clear hK K) | ((first | refine aops_k fun K1 hK1 => ?_ | refine aqops_k fun K1 hK1 => ?_ | refine awp_cond_k fun A B hA hB => ?_); simp only [S1, simprocAttr, TTNeF]; first | (refine hK1 _ ?_; clear hK1 K1) | ((first | refine hA ?_ | refine hB ?_); clear hA hB A B) | ((first | apply call_a E38 | apply call_q E38); exact hf; (refine hK1 _ ?_; clear hK1 K1)) | (((first | (refine ⟨fun hg => hA ?_, fun hg => hB ?_⟩ <;> clear hA hB A B) | refine ⟨fun hg => ?_, fun hg => ?_⟩) <;> (try simp only [BN2] at hg) <;> (try simp only [hg, cond_true, cond_false])) <;> (try (refine hK1 _ ?_; clear hK1 K1)) <;> (try simp only [BN3] at hg))) | (refine awp_seq_k fun K hK => ?_) | ((first | refine awp_region ?_ | refine awp_draw (by kernel_rfl) ?_ | refine awp_block ?_ | refine awp_exit ?_ | refine awp_skip ?_ | refine awp_ret ?_); (try simp only [NB, simprocAttr])))
  simp only [EndP, FinP, resA, resL, resA1, lastV, lastA, lastAs, pur, purs, take_app, List.take_length, S1, simprocAttr, TTNeF, Nat.le_add_right, Nat.le_refl]
  rfl
end Go.Proofs.YtjpphhcimpclpaaDoor.AM
end

section
set_option linter.unusedVariables false
set_option linter.unusedSimpArgs false
set_option maxRecDepth 4000
set_option maxHeartbeats 4000000
namespace Go.Proofs.YtjpphhcimpclpaaDoor.AM
open Go Go.Proofs
set_option linter.defProp false in
def TTNeG := And.intro T2 (And.intro T3 (And.intro T4 (And.intro T22 (And.intro T23 (And.intro T25 (And.intro T40 (And.intro T56 (And.intro T58 (And.intro T60 (And.intro T71 T119))))))))))
attribute [local irreducible] awp aops aqops aeops arun
variable {G : Nat → Option (List PV)}

structure Nd where
  kind : Int
  a : Int
  term : Tm

def eN (k : Nd) : List PV := [.int .i64 k.kind, .int .i64 k.a, .int .i64 k.term.op, .int .i64 k.term.n, .sl (k.term.kids.map eT)]
abbrev aNd (k : Nd) : AV := .agg [.i k.kind, .i k.a, .i k.term.op, .i k.term.n, .p (.sl (k.term.kids.map eT))]
abbrev aNet (ns : List Nd) (fl : List Fl) : AV := .agg [.p (.sl (ns.map eN)), .p (.sl (fl.map eF))]

theorem rowN {l : List Nd} {i : Nat} {k : Nd} (h : l[i]? = some k) : (l.map eN)[i]? = some (eN k) := by simp [h]
theorem hitN {l : List Nd} {i : Nat} (h : i < l.length) : decide ((i : Int) < (l.length : Int)) = true := by simp; omega
theorem endN {l : List Nd} : decide ((l.length : Int) < (l.length : Int)) = false := by simp
theorem nextN {l : List Nd} {i : Nat} (hk : l.length ≤ 100) (h : i < l.length) : IntKind.i64.wrap ((i : Int) + 1) = ((i + 1 : Nat) : Int) := by rw [IntWalk.i64_in _ (by omega)]; omega

def findG {α : Type} (p : α → Bool) : List α → Nat → Int
  | [], _ => -1
  | k :: r, i => if p k then (i : Int) else findG p r (i + 1)

theorem findG_step {α : Type} {p : α → Bool} {l : List α} {i : Nat} {k : α} (hk : l[i]? = some k) : findG p (l.drop i) i = if p k then (i : Int) else findG p (l.drop (i + 1)) (i + 1) := by
  obtain ⟨h, e⟩ := List.getElem?_eq_some_iff.mp hk
  rw [List.drop_eq_getElem_cons h, e]; rfl

def firstN (ns : List Nd) (kind : Int) : Int := findG (fun x => x.kind == kind) ns 0

theorem start1_calls (k : Nd) (H : Heap) : ACalls Tryd.prog G 54 [aNd k] H (fun r h' => r = .b (k.kind == 1) ∧ h' = H) := by
  refine acalls_pure (rl := []) mixed Tryd.func54 rfl (rs := [.tmp 2]) rfl Tryd.ntmps54 (by simp) ?_
  repeat' (first | ((first | refine aops_nil ?_ | refine aqops_nil ?_); (try simp only [NB])) | ((repeat ((fail_if_success (refine hK _ ?_)); clear hK K)); refine hK _ ?_; clear hK K) | ((first | refine aops_k fun K1 hK1 => ?_ | refine aqops_k fun K1 hK1 => ?_ | refine awp_cond_k fun A B hA hB => ?_); simp only [S1, simprocAttr, TTNeG]; first | (refine hK1 _ ?_; clear hK1 K1) | ((first | refine hA ?_ | refine hB ?_); clear hA hB A B) | (((first | (refine ⟨fun hg => hA ?_, fun hg => hB ?_⟩ <;> clear hA hB A B) | refine ⟨fun hg => ?_, fun hg => ?_⟩) <;> (try simp only [BN2] at hg) <;> (try simp only [hg, cond_true, cond_false])) <;> (try (refine hK1 _ ?_; clear hK1 K1)) <;> (try simp only [BN3] at hg))) | (refine awp_seq_k fun K hK => ?_) | ((first | refine awp_region ?_ | refine awp_draw (by kernel_rfl) ?_ | refine awp_block ?_ | refine awp_exit ?_ | refine awp_skip ?_ | refine awp_ret ?_); (try simp only [NB, simprocAttr])))
  simp only [EndP, FinP, resA, resL, resA1, lastV, lastA, lastAs, pur, purs, take_app, List.take_length, S1, simprocAttr, TTNeG, Nat.le_add_right, Nat.le_refl]

theorem end1_calls (k : Nd) (H : Heap) : ACalls Tryd.prog G 87 [aNd k] H (fun r h' => r = .b (k.kind == 2) ∧ h' = H) := by
  refine acalls_pure (rl := []) mixed Tryd.func87 rfl (rs := [.tmp 2]) rfl Tryd.ntmps87 (by simp) ?_
  repeat' (first | ((first | refine aops_nil ?_ | refine aqops_nil ?_); (try simp only [NB])) | ((repeat ((fail_if_success (refine hK _ ?_)); clear hK K)); refine hK _ ?_; clear hK K) | ((first | refine aops_k fun K1 hK1 => ?_ | refine aqops_k fun K1 hK1 => ?_ | refine awp_cond_k fun A B hA hB => ?_); simp only [S1, simprocAttr, TTNeG]; first | (refine hK1 _ ?_; clear hK1 K1) | ((first | refine hA ?_ | refine hB ?_); clear hA hB A B) | (((first | (refine ⟨fun hg => hA ?_, fun hg => hB ?_⟩ <;> clear hA hB A B) | refine ⟨fun hg => ?_, fun hg => ?_⟩) <;> (try simp only [BN2] at hg) <;> (try simp only [hg, cond_true, cond_false])) <;> (try (refine hK1 _ ?_; clear hK1 K1)) <;> (try simp only [BN3] at hg))) | (refine awp_seq_k fun K hK => ?_) | ((first | refine awp_region ?_ | refine awp_draw (by kernel_rfl) ?_ | refine awp_block ?_ | refine awp_exit ?_ | refine awp_skip ?_ | refine awp_ret ?_); (try simp only [NB, simprocAttr])))
  simp only [EndP, FinP, resA, resL, resA1, lastV, lastA, lastAs, pur, purs, take_app, List.take_length, S1, simprocAttr, TTNeG, Nat.le_add_right, Nat.le_refl]

theorem indexN_calls {f : FuncId} (hE : Enters Tryd.prog f) {caps : List AV} {p : Nd → Bool} (ks : List Nd) (hl : ks.length ≤ 100) (h : Heap) (hcap : avlts h.length caps)
    (hc0 : ∀ k ∈ ks, ACalls Tryd.prog G f (aNd k :: caps) h (fun r h' => r = .b (p k) ∧ h' = h)) :
    ACalls Tryd.prog G 53 [.p (.sl (ks.map eN)), .fn f caps] h (fun r h' => r = .i (findG p ks 0) ∧ h' = h) := by
  refine acalls_pure (rl := []) mixed Tryd.func53 rfl (rs := [.tmp 4]) rfl Tryd.ntmps53 (by simp) ?_
  repeat' (first | ((first | refine aops_nil ?_ | refine aqops_nil ?_); (try simp only [NB])) | ((repeat ((fail_if_success (refine hK _ ?_)); clear hK K)); refine hK _ ?_; clear hK K) | ((first | refine aops_k fun K1 hK1 => ?_ | refine aqops_k fun K1 hK1 => ?_ | refine awp_cond_k fun A B hA hB => ?_); simp only [S1, simprocAttr, TTNeG, List.length_map]; first | (refine hK1 _ ?_; clear hK1 K1) | ((first | refine hA ?_ | refine hB ?_); clear hA hB A B) | (((first | (refine ⟨fun hg => hA ?_, fun hg => hB ?_⟩ <;> clear hA hB A B) | refine ⟨fun hg => ?_, fun hg => ?_⟩) <;> (try simp only [BN2] at hg) <;> (try simp only [hg, cond_true, cond_false])) <;> (try (refine hK1 _ ?_; clear hK1 K1)) <;> (try simp only [BN3] at hg))) | (refine awp_seq_k fun K hK => ?_) | ((first | refine awp_region ?_ | refine awp_draw (by kernel_rfl) ?_ | refine awp_block ?_ | refine awp_exit ?_ | refine awp_skip ?_ | refine awp_ret ?_); (try simp only [NB, simprocAttr])))
  refine awp_for ks.length 19 (fun i => [(8, .i i), (7, .i ks.length), (0, .p (.sl (ks.map eN))), (1, .fn f caps)]) (fun i => []) (fun i => findG p ks 0 = findG p (ks.drop i) i) ?_ rfl fun i hi hp K hK => ?_
  · (refine ⟨rfl, (by first | exact ⟨_, rfl⟩ | exact ⟨[], by simp⟩), ?_, ?_⟩ <;> simp only [keeps, avlt, avlts, blksLt, frL, upd_get, S1, simprocAttr, List.length_map, Int.natCast_zero, AV.p.injEq, PV.int.injEq, PV.bool.injEq, PV.sl.injEq] <;> (try and_intros) <;> (try assumption) <;> (try trivial) <;> (try omega))
  rcases Nat.lt_or_ge i ks.length with hlt | hge
  · obtain ⟨k, hx⟩ : ∃ k, ks[i]? = some k := ⟨_, List.getElem?_eq_getElem hlt⟩
    have hm := List.mem_of_getElem? hx
    rw [findG_step hx] at hp
    repeat' (first | ((first | refine aops_nil ?_ | refine aqops_nil ?_); (try simp only [NB])) | ((repeat ((fail_if_success (refine hK _ ?_)); clear hK K)); refine hK _ ?_; clear hK K) | ((first | refine aops_k fun K1 hK1 => ?_ | refine aqops_k fun K1 hK1 => ?_ | refine awp_cond_k fun A B hA hB => ?_); simp only [S1, simprocAttr, TTNeG, rowN hx, hitN hlt, nextN hl hlt, eN]; first | (refine hK1 _ ?_; clear hK1 K1) | ((first | refine hA ?_ | refine hB ?_); clear hA hB A B) | ((first | apply call_a hE | apply call_q hE); exact (hc0 k hm); (refine hK1 _ ?_; clear hK1 K1)) | (((first | (refine ⟨fun hg => hA ?_, fun hg => hB ?_⟩ <;> clear hA hB A B) | refine ⟨fun hg => ?_, fun hg => ?_⟩) <;> (try simp only [BN2] at hg) <;> (try simp only [hg, cond_true, cond_false])) <;> (try (refine hK1 _ ?_; clear hK1 K1)) <;> (try simp only [BN3] at hg))) | (refine awp_seq_k fun K hK => ?_) | ((first | refine awp_region ?_ | refine awp_draw (by kernel_rfl) ?_ | refine awp_block ?_ | refine awp_exit ?_ | refine awp_skip ?_ | refine awp_ret ?_); (try simp only [NB, simprocAttr])))
    · simp only [EndP, FinP, resA, resL, resA1, lastV, lastA, lastAs, pur, purs, take_app, List.take_length, S1, simprocAttr, TTNeG, Nat.le_add_right, Nat.le_refl]
      simp [hp, hg]
    · exact ⟨hlt, by simpa [hg] using hp, by (refine ⟨rfl, (by first | exact ⟨_, rfl⟩ | exact ⟨[], by simp⟩), ?_, ?_⟩ <;> simp only [keeps, avlt, avlts, blksLt, frL, upd_get, S1, simprocAttr, List.length_map, Int.natCast_zero, AV.p.injEq, PV.int.injEq, PV.bool.injEq, PV.sl.injEq] <;> (try and_intros) <;> (try assumption) <;> (try trivial) <;> (try omega))⟩
  · obtain rfl : i = ks.length := by omega
    repeat' (first | ((first | refine aops_nil ?_ | refine aqops_nil ?_); (try simp only [NB])) | ((repeat ((fail_if_success (refine hK _ ?_)); clear hK K)); refine hK _ ?_; clear hK K) | ((first | refine aops_k fun K1 hK1 => ?_ | refine aqops_k fun K1 hK1 => ?_ | refine awp_cond_k fun A B hA hB => ?_); simp only [S1, simprocAttr, TTNeG, endN]; first | (refine hK1 _ ?_; clear hK1 K1) | ((first | refine hA ?_ | refine hB ?_); clear hA hB A B) | (((first | (refine ⟨fun hg => hA ?_, fun hg => hB ?_⟩ <;> clear hA hB A B) | refine ⟨fun hg => ?_, fun hg => ?_⟩) <;> (try simp only [BN2] at hg) <;> (try simp only [hg, cond_true, cond_false])) <;> (try (refine hK1 _ ?_; clear hK1 K1)) <;> (try simp only [BN3] at hg))) | (refine awp_seq_k fun K hK => ?_) | ((first | refine awp_region ?_ | refine awp_draw (by kernel_rfl) ?_ | refine awp_block ?_ | refine awp_exit ?_ | refine awp_skip ?_ | refine awp_ret ?_); (try simp only [NB, simprocAttr])))
    simp only [EndP, FinP, resA, resL, resA1, lastV, lastA, lastAs, pur, purs, take_app, List.take_length, S1, simprocAttr, TTNeG, Nat.le_add_right, Nat.le_refl]
    rw [List.drop_length] at hp
    simp [hp, findG]

theorem start_calls (ns : List Nd) (hl : ns.length ≤ 100) (fs : List (List PV)) (h : Heap) : ACalls Tryd.prog G 35 [.agg [.p (.sl (ns.map eN)), .p (.sl fs)]] h (fun r h' => r = .i (firstN ns 1) ∧ h' = h) := by
  refine acalls_pure (rl := []) mixed Tryd.func35 rfl (rs := [.tmp 2]) rfl Tryd.ntmps35 (by simp) ?_
  repeat' (first | ((first | refine aops_nil ?_ | refine aqops_nil ?_); (try simp only [NB])) | ((repeat ((fail_if_success (refine hK _ ?_)); clear hK K)); refine hK _ ?_; clear hK K) | ((first | refine aops_k fun K1 hK1 => ?_ | refine aqops_k fun K1 hK1 => ?_ | refine awp_cond_k fun A B hA hB => ?_); simp only [S1, simprocAttr, TTNeG]; first | (refine hK1 _ ?_; clear hK1 K1) | ((first | refine hA ?_ | refine hB ?_); clear hA hB A B) | ((first | apply call_a E53 | apply call_q E53); exact (indexN_calls E54 (p := fun x => x.kind == 1) ns hl _ (by simp [avlts]) (fun k hk => start1_calls k _)); (refine hK1 _ ?_; clear hK1 K1)) | (((first | (refine ⟨fun hg => hA ?_, fun hg => hB ?_⟩ <;> clear hA hB A B) | refine ⟨fun hg => ?_, fun hg => ?_⟩) <;> (try simp only [BN2] at hg) <;> (try simp only [hg, cond_true, cond_false])) <;> (try (refine hK1 _ ?_; clear hK1 K1)) <;> (try simp only [BN3] at hg))) | (refine awp_seq_k fun K hK => ?_) | ((first | refine awp_region ?_ | refine awp_draw (by kernel_rfl) ?_ | refine awp_block ?_ | refine awp_exit ?_ | refine awp_skip ?_ | refine awp_ret ?_); (try simp only [NB, simprocAttr])))
  simp only [EndP, FinP, resA, resL, resA1, lastV, lastA, lastAs, pur, purs, take_app, List.take_length, S1, simprocAttr, TTNeG, Nat.le_add_right, Nat.le_refl]
  all_goals rfl

theorem end_calls (ns : List Nd) (hl : ns.length ≤ 100) (fs : List (List PV)) (h : Heap) : ACalls Tryd.prog G 62 [.agg [.p (.sl (ns.map eN)), .p (.sl fs)]] h (fun r h' => r = .i (firstN ns 2) ∧ h' = h) := by
  refine acalls_pure (rl := []) mixed Tryd.func62 rfl (rs := [.tmp 2]) rfl Tryd.ntmps62 (by simp) ?_
  repeat' (first | ((first | refine aops_nil ?_ | refine aqops_nil ?_); (try simp only [NB])) | ((repeat ((fail_if_success (refine hK _ ?_)); clear hK K)); refine hK _ ?_; clear hK K) | ((first | refine aops_k fun K1 hK1 => ?_ | refine aqops_k fun K1 hK1 => ?_ | refine awp_cond_k fun A B hA hB => ?_); simp only [S1, simprocAttr, TTNeG]; first | (refine hK1 _ ?_; clear hK1 K1) | ((first | refine hA ?_ | refine hB ?_); clear hA hB A B) | ((first | apply call_a E53 | apply call_q E53); exact (indexN_calls E87 (p := fun x => x.kind == 2) ns hl _ (by simp [avlts]) (fun k hk => end1_calls k _)); (refine hK1 _ ?_; clear hK1 K1)) | (((first | (refine ⟨fun hg => hA ?_, fun hg => hB ?_⟩ <;> clear hA hB A B) | refine ⟨fun hg => ?_, fun hg => ?_⟩) <;> (try simp only [BN2] at hg) <;> (try simp only [hg, cond_true, cond_false])) <;> (try (refine hK1 _ ?_; clear hK1 K1)) <;> (try simp only [BN3] at hg))) | (refine awp_seq_k fun K hK => ?_) | ((first | refine awp_region ?_ | refine awp_draw (by kernel_rfl) ?_ | refine awp_block ?_ | refine awp_exit ?_ | refine awp_skip ?_ | refine awp_ret ?_); (try simp only [NB, simprocAttr])))
  simp only [EndP, FinP, resA, resL, resA1, lastV, lastA, lastAs, pur, purs, take_app, List.take_length, S1, simprocAttr, TTNeG, Nat.le_add_right, Nat.le_refl]
  all_goals rfl

theorem first_calls (ns : List Nd) (hl : ns.length ≤ 100) (fs : List (List PV)) (kind : Int) (h : Heap) : ACalls Tryd.prog G 66 [.agg [.p (.sl (ns.map eN)), .p (.sl fs)], .i kind] h (fun r h' => r = .i (firstN ns kind) ∧ h' = h) := by
  refine acalls_pure (rl := []) mixed Tryd.func66 rfl (rs := [.tmp 4]) rfl Tryd.ntmps66 (by simp) ?_
  refine awp_seq_k fun K hK => ?_
  repeat' (first | ((first | refine aops_nil ?_ | refine aqops_nil ?_); (try simp only [NB]); ((repeat ((fail_if_success (refine hK _ ?_)); clear hK K)); refine hK _ ?_; clear hK K)) | ((first | refine aops_k fun K1 hK1 => ?_ | refine aqops_k fun K1 hK1 => ?_ | refine awp_cond_k fun A B hA hB => ?_); simp only [S1, simprocAttr, TTNeG]; first | (refine hK1 _ ?_; clear hK1 K1) | ((first | refine hA ?_ | refine hB ?_); clear hA hB A B) | (((first | (refine ⟨fun hg => hA ?_, fun hg => hB ?_⟩ <;> clear hA hB A B) | refine ⟨fun hg => ?_, fun hg => ?_⟩) <;> (try simp only [BN2] at hg) <;> (try simp only [hg, cond_true, cond_false])) <;> (try (refine hK1 _ ?_; clear hK1 K1)) <;> (try simp only [BN3] at hg))) | (fail) | ((first | refine awp_region ?_ | refine awp_draw (by kernel_rfl) ?_ | refine awp_block ?_ | refine awp_exit ?_ | refine awp_skip ?_ | refine awp_ret ?_); (try simp only [NB, simprocAttr]); (try ((repeat ((fail_if_success (refine hK _ ?_)); clear hK K)); refine hK _ ?_; clear hK K))))
  refine awp_seq_k fun K hK => ?_
  repeat' (first | ((first | refine aops_nil ?_ | refine aqops_nil ?_); (try simp only [NB])) | ((repeat ((fail_if_success (refine hK _ ?_)); clear hK K)); refine hK _ ?_; clear hK K) | ((first | refine aops_k fun K1 hK1 => ?_ | refine aqops_k fun K1 hK1 => ?_ | refine awp_cond_k fun A B hA hB => ?_); simp only [S1, simprocAttr, TTNeG, List.length_map]; first | (refine hK1 _ ?_; clear hK1 K1) | ((first | refine hA ?_ | refine hB ?_); clear hA hB A B) | (((first | (refine ⟨fun hg => hA ?_, fun hg => hB ?_⟩ <;> clear hA hB A B) | refine ⟨fun hg => ?_, fun hg => ?_⟩) <;> (try simp only [BN2] at hg) <;> (try simp only [hg, cond_true, cond_false])) <;> (try (refine hK1 _ ?_; clear hK1 K1)) <;> (try simp only [BN3] at hg))) | (refine awp_seq_k fun K hK => ?_) | ((first | refine awp_region ?_ | refine awp_draw (by kernel_rfl) ?_ | refine awp_block ?_ | refine awp_exit ?_ | refine awp_skip ?_ | refine awp_ret ?_); (try simp only [NB, simprocAttr])))
  refine awp_for ns.length 21 (fun i => [(10, .i i), (9, .i ns.length), (8, .p (.sl (ns.map eN))), (1, .i kind)]) (fun i => []) (fun i => firstN ns kind = findG (fun x => x.kind == kind) (ns.drop i) i) ?_ rfl fun i hi hp K hK => ?_
  · (refine ⟨rfl, (by first | exact ⟨_, rfl⟩ | exact ⟨[], by simp⟩), ?_, ?_⟩ <;> simp only [keeps, avlt, avlts, blksLt, frL, upd_get, S1, simprocAttr, List.length_map, Int.natCast_zero, AV.p.injEq, PV.int.injEq, PV.bool.injEq, PV.sl.injEq] <;> (try and_intros) <;> (try assumption) <;> (try trivial) <;> (try omega))
  rcases Nat.lt_or_ge i ns.length with hlt | hge
  · obtain ⟨k, hx⟩ : ∃ k, ns[i]? = some k := ⟨_, List.getElem?_eq_getElem hlt⟩
    rw [findG_step hx] at hp
    cases hq : (k.kind == kind) with
    | true =>
      repeat' (first | ((first | refine aops_nil ?_ | refine aqops_nil ?_); (try simp only [NB])) | ((repeat ((fail_if_success (refine hK _ ?_)); clear hK K)); refine hK _ ?_; clear hK K) | ((first | refine aops_k fun K1 hK1 => ?_ | refine aqops_k fun K1 hK1 => ?_ | refine awp_cond_k fun A B hA hB => ?_); simp only [S1, simprocAttr, TTNeG, rowN hx, hitN hlt, nextN hl hlt, eN, hq]; first | (refine hK1 _ ?_; clear hK1 K1) | ((first | refine hA ?_ | refine hB ?_); clear hA hB A B) | (((first | (refine ⟨fun hg => hA ?_, fun hg => hB ?_⟩ <;> clear hA hB A B) | refine ⟨fun hg => ?_, fun hg => ?_⟩) <;> (try simp only [BN2] at hg) <;> (try simp only [hg, cond_true, cond_false])) <;> (try (refine hK1 _ ?_; clear hK1 K1)) <;> (try simp only [BN3] at hg))) | (refine awp_seq_k fun K hK => ?_) | ((first | refine awp_region ?_ | refine awp_draw (by kernel_rfl) ?_ | refine awp_block ?_ | refine awp_exit ?_ | refine awp_skip ?_ | refine awp_ret ?_); (try simp only [NB, simprocAttr])))
      all_goals simp only [EndP, FinP, resA, resL, resA1, lastV, lastA, lastAs, pur, purs, take_app, List.take_length, S1, simprocAttr, TTNeG, Nat.le_add_right, Nat.le_refl]
      all_goals simp [hp, hq]
    | false =>
      repeat' (first | ((first | refine aops_nil ?_ | refine aqops_nil ?_); (try simp only [NB])) | ((repeat ((fail_if_success (refine hK _ ?_)); clear hK K)); refine hK _ ?_; clear hK K) | ((first | refine aops_k fun K1 hK1 => ?_ | refine aqops_k fun K1 hK1 => ?_ | refine awp_cond_k fun A B hA hB => ?_); simp only [S1, simprocAttr, TTNeG, rowN hx, hitN hlt, nextN hl hlt, eN, hq]; first | (refine hK1 _ ?_; clear hK1 K1) | ((first | refine hA ?_ | refine hB ?_); clear hA hB A B) | (((first | (refine ⟨fun hg => hA ?_, fun hg => hB ?_⟩ <;> clear hA hB A B) | refine ⟨fun hg => ?_, fun hg => ?_⟩) <;> (try simp only [BN2] at hg) <;> (try simp only [hg, cond_true, cond_false])) <;> (try (refine hK1 _ ?_; clear hK1 K1)) <;> (try simp only [BN3] at hg))) | (refine awp_seq_k fun K hK => ?_) | ((first | refine awp_region ?_ | refine awp_draw (by kernel_rfl) ?_ | refine awp_block ?_ | refine awp_exit ?_ | refine awp_skip ?_ | refine awp_ret ?_); (try simp only [NB, simprocAttr])))
      all_goals exact ⟨hlt, by simpa [hq] using hp, by (refine ⟨rfl, (by first | exact ⟨_, rfl⟩ | exact ⟨[], by simp⟩), ?_, ?_⟩ <;> simp only [keeps, avlt, avlts, blksLt, frL, upd_get, S1, simprocAttr, List.length_map, Int.natCast_zero, AV.p.injEq, PV.int.injEq, PV.bool.injEq, PV.sl.injEq] <;> (try and_intros) <;> (try assumption) <;> (try trivial) <;> (try omega))⟩
  · obtain rfl : i = ns.length := by omega
    repeat' (first | ((first | refine aops_nil ?_ | refine aqops_nil ?_); (try simp only [NB])) | ((repeat ((fail_if_success (refine hK _ ?_)); clear hK K)); refine hK _ ?_; clear hK K) | ((first | refine aops_k fun K1 hK1 => ?_ | refine aqops_k fun K1 hK1 => ?_ | refine awp_cond_k fun A B hA hB => ?_); simp only [S1, simprocAttr, TTNeG, endN]; first | (refine hK1 _ ?_; clear hK1 K1) | ((first | refine hA ?_ | refine hB ?_); clear hA hB A B) | (((first | (refine ⟨fun hg => hA ?_, fun hg => hB ?_⟩ <;> clear hA hB A B) | refine ⟨fun hg => ?_, fun hg => ?_⟩) <;> (try simp only [BN2] at hg) <;> (try simp only [hg, cond_true, cond_false])) <;> (try (refine hK1 _ ?_; clear hK1 K1)) <;> (try simp only [BN3] at hg))) | (refine awp_seq_k fun K hK => ?_) | ((first | refine awp_region ?_ | refine awp_draw (by kernel_rfl) ?_ | refine awp_block ?_ | refine awp_exit ?_ | refine awp_skip ?_ | refine awp_ret ?_); (try simp only [NB, simprocAttr])))
    simp only [EndP, FinP, resA, resL, resA1, lastV, lastA, lastAs, pur, purs, take_app, List.take_length, S1, simprocAttr, TTNeG, Nat.le_add_right, Nat.le_refl]
    rw [List.drop_length] at hp
    simp [hp, findG]
end Go.Proofs.YtjpphhcimpclpaaDoor.AM
end

section
set_option linter.unusedVariables false
namespace Go.Proofs.YtjpphhcimpclpaaDoor.AM
inductive Rch (es : List (Nat × Nat)) (a : Nat) : Nat → Prop
  | refl : Rch es a a
  | step {b c : Nat} : Rch es a b → (b, c) ∈ es → Rch es a c

theorem Rch.trans {es : List (Nat × Nat)} {a b c : Nat} (h1 : Rch es a b) (h2 : Rch es b c) : Rch es a c := by
  induction h2 with
  | refl => exact h1
  | step _ he ih => exact .step ih he

theorem Rch.back {es : List (Nat × Nat)} {a b : Nat} (h : Rch es a b) : Rch (es.map Prod.swap) b a := by
  induction h with
  | refl => exact .refl
  | step _ he ih => exact .trans (.step .refl (List.mem_map.mpr ⟨_, he, rfl⟩)) ih

theorem swap_swap (es : List (Nat × Nat)) : (es.map Prod.swap).map Prod.swap = es := by
  rw [List.map_map]; simp [Function.comp_def]

theorem Rch.rev {es : List (Nat × Nat)} {a b : Nat} : Rch (es.map Prod.swap) b a ↔ Rch es a b :=
  ⟨fun h => by have := h.back; rwa [swap_swap] at this, Rch.back⟩

theorem Rch.closed {es : List (Nat × Nat)} {a b : Nat} {p : Nat → Prop} (h : Rch es a b) (ha : p a) (hc : ∀ e ∈ es, p e.1 → p e.2) : p b := by
  induction h with
  | refl => exact ha
  | step _ he ih => exact hc _ he ih

open Classical in
/-- What is led to from a place, as truths. -/
noncomputable def rchL (es : List (Nat × Nat)) (n a : Nat) : List Bool := (List.range n).map fun i => decide (Rch es a i)

theorem rchL_len (es : List (Nat × Nat)) (n a : Nat) : (rchL es n a).length = n := by simp [rchL]

theorem rchL_of {es : List (Nat × Nat)} {n a : Nat} {l : List Bool} (hl : l.length = n) (h1 : ∀ i : Nat, l[i]? = some true → Rch es a i) (h2 : ∀ i, i < n → Rch es a i → l[i]? = some true) : l = rchL es n a := by
  apply List.ext_getElem?
  intro i
  by_cases hi : i < n
  · have e : (rchL es n a)[i]? = some (@decide (Rch es a i) (Classical.propDecidable _)) := by simp [rchL, hi]
    rw [e, List.getElem?_eq_getElem (by omega)]
    by_cases hr : Rch es a i
    · have := h2 i hi hr
      rw [List.getElem?_eq_getElem (by omega)] at this
      rw [this]; simp [hr]
    · cases hx : l[i] with
      | true => exact (hr (h1 i (by rw [List.getElem?_eq_getElem (by omega), hx]))).elim
      | false => simp [hr]
  · rw [List.getElem?_eq_none (by omega), List.getElem?_eq_none (by rw [rchL_len]; omega)]

theorem rchL_get {es : List (Nat × Nat)} {n a i : Nat} (hi : i < n) : (rchL es n a)[i]? = some true ↔ Rch es a i := by
  simp [rchL, hi]

/-! Round by round. -/
def relax (out : List Bool) (e : Nat × Nat) : List Bool := if out[e.1]? = some true then out.set e.2 true else out
def roundB (es : List (Nat × Nat)) (out : List Bool) : List Bool := es.foldl relax out
def rounds (es : List (Nat × Nat)) : Nat → List Bool → List Bool
  | 0, out => out
  | k + 1, out => roundB es (rounds es k out)

theorem relax_len (out : List Bool) (e : Nat × Nat) : (relax out e).length = out.length := by
  unfold relax; split <;> simp
theorem roundB_len (es : List (Nat × Nat)) : ∀ out : List Bool, (roundB es out).length = out.length := by
  induction es with
  | nil => intro out; rfl
  | cons e r ih => intro out; show (roundB r (relax out e)).length = _; rw [ih, relax_len]
theorem rounds_len (es : List (Nat × Nat)) (out : List Bool) : ∀ k, (rounds es k out).length = out.length
  | 0 => rfl
  | k + 1 => by rw [rounds, roundB_len, rounds_len es out k]

theorem set_same {out : List Bool} {i : Nat} (h : out[i]? = some true) : out.set i true = out := by
  apply List.ext_getElem?
  intro j
  rw [List.getElem?_set]
  split
  · rename_i e; subst e
    split
    · exact h.symm
    · rename_i hh; rw [List.getElem?_eq_none (by omega)] at h; cases h
  · rfl

theorem count_set : ∀ {out : List Bool} {i : Nat}, out[i]? = some false → (out.set i true).count true = out.count true + 1
  | [], i, h => by simp at h
  | x :: r, 0, h => by simp at h; subst h; simp
  | x :: r, i + 1, h => by
    have := count_set (out := r) (i := i) (by simpa using h)
    simp only [List.set_cons_succ, List.count_cons, this]; omega

theorem relax_count (out : List Bool) (e : Nat × Nat) (h : e.2 < out.length) : relax out e = out ∨ (relax out e).count true = out.count true + 1 := by
  unfold relax
  split
  · rcases hx : out[e.2]? with _ | x
    · rw [List.getElem?_eq_getElem h] at hx; cases hx
    · cases x with
      | true => exact .inl (set_same hx)
      | false => exact .inr (count_set hx)
  · exact .inl rfl

theorem roundB_count (es : List (Nat × Nat)) : ∀ out : List Bool, (∀ e ∈ es, e.2 < out.length) → (roundB es out = out ∧ ∀ e ∈ es, out[e.1]? = some true → out[e.2]? = some true) ∨ out.count true + 1 ≤ (roundB es out).count true := by
  induction es with
  | nil => intro out _; exact .inl ⟨rfl, fun e he => by cases he⟩
  | cons e r ih =>
    intro out h
    have h0 := h e (by simp)
    have hr : ∀ e' ∈ r, e'.2 < (relax out e).length := fun e' he' => by rw [relax_len]; exact h e' (by simp [he'])
    have hi := ih (relax out e) hr
    show (roundB r (relax out e) = out ∧ _) ∨ _ ≤ (roundB r (relax out e)).count true
    rcases relax_count out e h0 with e1 | e1
    · rw [e1] at hi ⊢
      rcases hi with ⟨a, b⟩ | hi
      · refine .inl ⟨a, fun e' he' => ?_⟩
        rcases List.mem_cons.mp he' with rfl | he'
        · intro hs
          unfold relax at e1
          rw [if_pos hs] at e1
          rw [← e1, List.getElem?_set]
          simp [h0]
        · exact b e' he'
      · exact .inr hi
    · right
      rcases hi with ⟨a, b⟩ | hi
      · rw [a, e1]; exact Nat.le_refl _
      · omega

theorem count_le : ∀ l : List Bool, l.count true ≤ l.length := fun l => List.count_le_length

def ClosedB (es : List (Nat × Nat)) (out : List Bool) : Prop := ∀ e ∈ es, out[e.1]? = some true → out[e.2]? = some true

theorem roundB_closed (es : List (Nat × Nat)) : ∀ out : List Bool, ClosedB es out → roundB es out = out := by
  induction es with
  | nil => intro out _; rfl
  | cons e r ih =>
    intro out h
    have e1 : relax out e = out := by
      unfold relax
      split
      · rename_i hs; exact set_same (h e (by simp) hs)
      · rfl
    show roundB r (relax out e) = out
    rw [e1]
    exact ih out fun e' he' => h e' (by simp [he'])

theorem rounds_count (es : List (Nat × Nat)) (out : List Bool) (h : ∀ e ∈ es, e.2 < out.length) (h1 : 1 ≤ out.count true) : ∀ k, ClosedB es (rounds es k out) ∨ k + 1 ≤ (rounds es k out).count true
  | 0 => .inr (by simpa [rounds] using h1)
  | k + 1 => by
    have hl := rounds_len es out k
    rcases rounds_count es out h h1 k with hc | hc
    · left; rw [rounds, roundB_closed es _ hc]; exact hc
    · rcases roundB_count es (rounds es k out) (by rw [hl]; exact h) with ⟨a, b⟩ | a
      · left; rw [rounds, a]; exact b
      · right; rw [rounds]; omega

theorem relax_mono {out : List Bool} {e : Nat × Nat} {i : Nat} (h : out[i]? = some true) : (relax out e)[i]? = some true := by
  unfold relax
  split
  · rw [List.getElem?_set]
    split
    · rename_i e; subst e
      have : e.2 < out.length := by
        rcases Nat.lt_or_ge e.2 out.length with hh | hh
        · exact hh
        · rw [List.getElem?_eq_none hh] at h; cases h
      simp [this]
    · exact h
  · exact h

theorem roundB_mono (es : List (Nat × Nat)) : ∀ {out : List Bool} {i : Nat}, out[i]? = some true → (roundB es out)[i]? = some true := by
  induction es with
  | nil => intro out i h; exact h
  | cons e r ih => intro out i h; exact ih (relax_mono h)

theorem rounds_mono (es : List (Nat × Nat)) {out : List Bool} {i : Nat} (h : out[i]? = some true) : ∀ k, (rounds es k out)[i]? = some true
  | 0 => h
  | k + 1 => roundB_mono es (rounds_mono es h k)

theorem relax_sound {p : Nat → Prop} {out : List Bool} {e : Nat × Nat} (h : ∀ i : Nat, out[i]? = some true → p i) (he : p e.1 → p e.2) : ∀ i : Nat, (relax out e)[i]? = some true → p i := by
  intro i hi
  unfold relax at hi
  split at hi
  · rename_i hs
    rw [List.getElem?_set] at hi
    split at hi
    · rename_i e1; subst e1; exact he (h _ hs)
    · exact h i hi
  · exact h i hi

theorem roundB_sound {p : Nat → Prop} (es : List (Nat × Nat)) : ∀ {out : List Bool}, (∀ i : Nat, out[i]? = some true → p i) → (∀ e ∈ es, p e.1 → p e.2) → ∀ i : Nat, (roundB es out)[i]? = some true → p i := by
  induction es with
  | nil => intro out h _; exact h
  | cons e r ih => intro out h he; exact ih (relax_sound h (he e (by simp))) fun e' he' => he e' (by simp [he'])

theorem rounds_sound {p : Nat → Prop} (es : List (Nat × Nat)) {out : List Bool} (h : ∀ i : Nat, out[i]? = some true → p i) (he : ∀ e ∈ es, p e.1 → p e.2) : ∀ (k : Nat) (i : Nat), (rounds es k out)[i]? = some true → p i
  | 0 => h
  | k + 1 => roundB_sound es (rounds_sound es h he k) he

theorem rounds_rch {es : List (Nat × Nat)} {n a : Nat} (ha : a < n) (h : ∀ e ∈ es, e.2 < n) : rounds es n ((List.replicate n false).set a true) = rchL es n a := by
  have hl0 : ((List.replicate n false).set a true).length = n := by simp
  have ha0 : ((List.replicate n false).set a true)[a]? = some true := by rw [List.getElem?_set]; simp [ha]
  have hc1 : 1 ≤ ((List.replicate n false).set a true).count true := List.one_le_count_iff.mpr (List.mem_of_getElem? ha0)
  refine rchL_of (by rw [rounds_len, hl0]) ?_ ?_
  · refine rounds_sound es (fun i hi => ?_) (fun e he hr => .step hr (by simpa using he)) n
    rw [List.getElem?_set] at hi
    split at hi
    · rename_i e; subst e; exact .refl
    · rw [List.getElem?_replicate] at hi
      split at hi <;> simp at hi
  · intro i hi hr
    have hcl : ClosedB es (rounds es n ((List.replicate n false).set a true)) := by
      rcases rounds_count es _ (by rw [hl0]; exact h) hc1 n with hc | hc
      · exact hc
      · have := count_le (rounds es n ((List.replicate n false).set a true))
        rw [rounds_len, hl0] at this; omega
    exact hr.closed (p := fun i => (rounds es n ((List.replicate n false).set a true))[i]? = some true) (rounds_mono es ha0 n) hcl

/-! Breadth first. -/
structure Bfs (es : List (Nat × Nat)) (n a : Nat) (seen : List Bool) (todo : List Nat) : Prop where
  len : seen.length = n
  start : a ∈ todo ∨ seen[a]? = some true
  sound : ∀ i : Nat, seen[i]? = some true → Rch es a i
  soundT : ∀ i ∈ todo, Rch es a i
  closed : ∀ e ∈ es, seen[e.1]? = some true → e.2 ∈ todo ∨ seen[e.2]? = some true

theorem Bfs.init {es : List (Nat × Nat)} {n a : Nat} : Bfs es n a (List.replicate n false) [a] where
  len := by simp
  start := .inl (by simp)
  sound := fun i hi => by rw [List.getElem?_replicate] at hi; split at hi <;> simp at hi
  soundT := fun i hi => by simp at hi; subst hi; exact .refl
  closed := fun e _ hi => by rw [List.getElem?_replicate] at hi; split at hi <;> simp at hi

theorem Bfs.skip {es : List (Nat × Nat)} {n a x : Nat} {seen : List Bool} {todo : List Nat} (h : Bfs es n a seen (x :: todo)) (hx : seen[x]? = some true) : Bfs es n a seen todo where
  len := h.len
  start := by
    rcases h.start with h1 | h1
    · rcases List.mem_cons.mp h1 with rfl | h1
      · exact .inr hx
      · exact .inl h1
    · exact .inr h1
  sound := h.sound
  soundT := fun i hi => h.soundT i (by simp [hi])
  closed := fun e he hs => by
    rcases h.closed e he hs with h1 | h1
    · rcases List.mem_cons.mp h1 with h2 | h1
      · exact .inr (h2 ▸ hx)
      · exact .inl h1
    · exact .inr h1

def nexts (es : List (Nat × Nat)) (x : Nat) : List Nat := (es.filter fun e => e.1 == x).map (·.2)

theorem Bfs.visit {es : List (Nat × Nat)} {n a x : Nat} {seen : List Bool} {todo : List Nat} (h : Bfs es n a seen (x :: todo)) (hx : x < n) : Bfs es n a (seen.set x true) (todo ++ nexts es x) where
  len := by simp [h.len]
  start := by
    have hxx : (seen.set x true)[x]? = some true := by rw [List.getElem?_set]; simp [h.len, hx]
    rcases h.start with h1 | h1
    · rcases List.mem_cons.mp h1 with rfl | h1
      · exact .inr hxx
      · exact .inl (by simp [h1])
    · right
      rw [List.getElem?_set]
      split
      · simp [h.len, hx]
      · exact h1
  sound := fun i hi => by
    rw [List.getElem?_set] at hi
    split at hi
    · rename_i e; subst e; exact h.soundT _ (by simp)
    · exact h.sound i hi
  soundT := fun i hi => by
    rcases List.mem_append.mp hi with hi | hi
    · exact h.soundT i (by simp [hi])
    · simp only [nexts, List.mem_map, List.mem_filter] at hi
      obtain ⟨⟨b, c⟩, ⟨h1, h2⟩, rfl⟩ := hi
      simp at h2; subst h2
      exact .step (h.soundT _ (by simp)) h1
  closed := fun e he hs => by
    have hxx : (seen.set x true)[x]? = some true := by rw [List.getElem?_set]; simp [h.len, hx]
    by_cases hex : e.1 = x
    · left
      rw [List.mem_append]; right
      simp only [nexts, List.mem_map, List.mem_filter]
      exact ⟨e, ⟨he, by simp [hex]⟩, rfl⟩
    · rw [List.getElem?_set, if_neg (fun h => hex h.symm)] at hs
      rcases h.closed e he hs with h1 | h1
      · rcases List.mem_cons.mp h1 with h2 | h1
        · right; rw [h2]; exact hxx
        · left; simp [h1]
      · right
        rw [List.getElem?_set]
        split
        · simp [h.len, hx]
        · exact h1

theorem Bfs.done {es : List (Nat × Nat)} {n a : Nat} {seen : List Bool} (h : Bfs es n a seen []) : seen = rchL es n a := by
  refine rchL_of h.len h.sound fun i _ hr => ?_
  refine hr.closed (p := fun i => seen[i]? = some true) ?_ fun e he hs => ?_
  · rcases h.start with h1 | h1
    · cases h1
    · exact h1
  · rcases h.closed e he hs with h1 | h1
    · cases h1
    · exact h1
/-- What is still to be done, at most. -/
def bfsM (es : List (Nat × Nat)) (seen : List Bool) (todo : List Nat) : Nat := (seen.length - seen.count true) * (es.length + 1) + todo.length

theorem bfsM_skip (es : List (Nat × Nat)) (seen : List Bool) (x : Nat) (todo : List Nat) : bfsM es seen todo < bfsM es seen (x :: todo) := by simp [bfsM]

theorem nexts_len (es : List (Nat × Nat)) (x : Nat) : (nexts es x).length ≤ es.length := by simp [nexts, List.length_filter_le]

theorem bfsM_visit {es : List (Nat × Nat)} {seen : List Bool} {x : Nat} {todo : List Nat} (hx : seen[x]? = some false) : bfsM es (seen.set x true) (todo ++ nexts es x) < bfsM es seen (x :: todo) := by
  have h1 := count_set hx
  have h2 := nexts_len es x
  have h3 : (seen.set x true).count true ≤ (seen.set x true).length := List.count_le_length
  unfold bfsM
  rw [h1, List.length_set, List.length_append, List.length_cons]
  rw [h1, List.length_set] at h3
  have : seen.length - seen.count true = (seen.length - (seen.count true + 1)) + 1 := by omega
  rw [this, Nat.succ_mul]
  omega
end Go.Proofs.YtjpphhcimpclpaaDoor.AM
end

section
set_option linter.unusedVariables false
set_option linter.unusedSimpArgs false
set_option maxRecDepth 4000
set_option maxHeartbeats 4000000
namespace Go.Proofs.YtjpphhcimpclpaaDoor.AM
open Go Go.Proofs
set_option linter.defProp false in
def TTNeH := And.intro T2 (And.intro T3 (And.intro T4 (And.intro T22 (And.intro T23 (And.intro T25 (And.intro T40 (And.intro T56 (And.intro T58 (And.intro T60 (And.intro T71 T89))))))))))
attribute [local irreducible] awp aops aqops aeops arun
variable {G : Nat → Option (List PV)}

def inB (m : Nat) (i : Int) : Bool := decide (0 ≤ i) && decide (i < (m : Int))
def kindAt (ns : List Nd) (i : Int) : Int := match ns[i.toNat]? with | some k => k.kind | none => 0
def splitsB (ns : List Nd) (fl : List Fl) (i : Int) : Bool := kindAt ns i == 5 && decide (2 ≤ ((outsN fl i).length : Int))
def twoB (ns : List Nd) (fl : List Fl) (f : Fl) : Bool :=
  ((inB ns.length f.src && inB ns.length f.dst) && !(f.src == f.dst)) && (if splitsB ns fl f.src = true then (if f.els = true then noneB f.cond else ofB f.cond 2) else (!f.els && noneB f.cond))

theorem inB_iff {m : Nat} {i : Int} : inB m i = true ↔ 0 ≤ i ∧ i < m := by simp [inB]

theorem two_calls (ns : List Nd) (hn : ns.length ≤ 100) (fl : List Fl) (hl : fl.length ≤ 100) (f : Fl) {n : Nat} (ht : Tm.Ok n f.cond) (hn2 : n ≤ 200) (h : Heap) : ACalls Tryd.prog G 65 [aNet ns fl, aF f] h (fun r h' => r = .b (twoB ns fl f) ∧ h' = h) := by
  cases hin : ((inB ns.length f.src && inB ns.length f.dst) && !(f.src == f.dst)) with
  | false =>
    have f1 : ((((decide (f.src < 0) || decide ((ns.length : Int) ≤ f.src)) || decide (f.dst < 0)) || decide ((ns.length : Int) ≤ f.dst)) || (f.src == f.dst)) = true := by
      rw [Bool.eq_false_iff] at hin
      rcases Bool.eq_false_or_eq_true ((((decide (f.src < 0) || decide ((ns.length : Int) ≤ f.src)) || decide (f.dst < 0)) || decide ((ns.length : Int) ≤ f.dst)) || (f.src == f.dst)) with e | e
      · exact e
      · exfalso; apply hin
        simp only [Bool.or_eq_false_iff, decide_eq_false_iff_not] at e
        obtain ⟨⟨⟨⟨e1, e2⟩, e3⟩, e4⟩, e5⟩ := e
        simp only [Bool.and_eq_true, inB_iff, e5, Bool.not_false, and_true]
        omega
    have e : twoB ns fl f = false := by unfold twoB; rw [hin]; rfl
    rw [e]
    refine acalls_pure (rl := []) mixed Tryd.func65 rfl (rs := [.tmp 4]) rfl Tryd.ntmps65 (by simp) ?_
    repeat' (first | ((first | refine aops_nil ?_ | refine aqops_nil ?_); (try simp only [NB])) | ((repeat ((fail_if_success (refine hK _ ?_)); clear hK K)); refine hK _ ?_; clear hK K) | ((first | refine aops_k fun K1 hK1 => ?_ | refine aqops_k fun K1 hK1 => ?_ | refine awp_cond_k fun A B hA hB => ?_); simp only [S1, simprocAttr, TTNeH, List.length_map, f1]; first | (refine hK1 _ ?_; clear hK1 K1) | ((first | refine hA ?_ | refine hB ?_); clear hA hB A B) | (refine join_x (v := ?_) (fun hg hk9 => ?_) ?_; rotate_left; (focus (try ((try simp only [BN] at hg); simp only [S1, simprocAttr, TTNeH, List.length_map, f1, hg] at hk9 ⊢)); first | exact hk9); (refine hK1 _ ?_; clear hK1 K1)) | (((first | (refine ⟨fun hg => hA ?_, fun hg => hB ?_⟩ <;> clear hA hB A B) | refine ⟨fun hg => ?_, fun hg => ?_⟩) <;> (try simp only [BN2] at hg) <;> (try simp only [hg, cond_true, cond_false])) <;> (try (refine hK1 _ ?_; clear hK1 K1)) <;> (try simp only [BN3] at hg))) | (refine awp_seq_k fun K hK => ?_) | ((first | refine awp_region ?_ | refine awp_draw (by kernel_rfl) ?_ | refine awp_block ?_ | refine awp_exit ?_ | refine awp_skip ?_ | refine awp_ret ?_); (try simp only [NB, simprocAttr])))
    all_goals simp only [EndP, FinP, resA, resL, resA1, lastV, lastA, lastAs, pur, purs, take_app, List.take_length, S1, simprocAttr, TTNeH, Nat.le_add_right, Nat.le_refl]
  | true =>
    simp only [Bool.and_eq_true, inB_iff, Bool.not_eq_true'] at hin
    obtain ⟨⟨⟨a1, a2⟩, b1, b2⟩, c1⟩ := hin
    have g1 : decide (f.src < 0) = false := by simp; omega
    have g2 : decide ((ns.length : Int) ≤ f.src) = false := by simp; omega
    have g3 : decide (f.dst < 0) = false := by simp; omega
    have g4 : decide ((ns.length : Int) ≤ f.dst) = false := by simp; omega
    obtain ⟨k, hx⟩ : ∃ k, ns[f.src.toNat]? = some k := ⟨_, List.getElem?_eq_getElem (by omega)⟩
    have ek : kindAt ns f.src = k.kind := by unfold kindAt; rw [hx]
    have e0 : twoB ns fl f = (if splitsB ns fl f.src = true then (if f.els = true then noneB f.cond else ofB f.cond 2) else (!f.els && noneB f.cond)) := by
      unfold twoB
      rw [inB_iff.mpr ⟨a1, a2⟩, inB_iff.mpr ⟨b1, b2⟩, c1]; simp
    rw [e0]; unfold splitsB; rw [ek]
    cases hk : (k.kind == 5) with
    | false =>
      have hk' : (k.kind != 5) = true := by unfold bne; rw [hk]; rfl
      refine acalls_pure (rl := []) mixed Tryd.func65 rfl (rs := [.tmp 4]) rfl Tryd.ntmps65 (by simp) ?_
      repeat' (first | ((first | refine aops_nil ?_ | refine aqops_nil ?_); (try simp only [NB])) | ((repeat ((fail_if_success (refine hK _ ?_)); clear hK K)); refine hK _ ?_; clear hK K) | ((first | refine aops_k fun K1 hK1 => ?_ | refine aqops_k fun K1 hK1 => ?_ | refine awp_cond_k fun A B hA hB => ?_); simp only [S1, simprocAttr, TTNeH, List.length_map, g1, g2, g3, g4, c1, a1, b1, hx, eN, hk, hk']; first | (refine hK1 _ ?_; clear hK1 K1) | ((first | refine hA ?_ | refine hB ?_); clear hA hB A B) | ((first | apply call_a E44 | apply call_q E44); exact (rOuts_calls _ fl hl _ _); (refine hK1 _ ?_; clear hK1 K1)) | ((first | apply call_a E88 | apply call_q E88); exact (rof_term ht hn2 _ _); (refine hK1 _ ?_; clear hK1 K1)) | ((first | apply call_a E89 | apply call_q E89); exact (rnone_calls f.cond _); (refine hK1 _ ?_; clear hK1 K1)) | (refine join_x (v := ?_) (fun hg hk9 => ?_) ?_; rotate_left; (focus (try ((try simp only [BN] at hg); simp only [S1, simprocAttr, TTNeH, List.length_map, g1, g2, g3, g4, c1, a1, b1, hx, eN, hk, hk', hg] at hk9 ⊢)); first | exact hk9 | ((first | apply call_a E44 | apply call_q E44); exact (rOuts_calls _ fl hl _ _); exact hk9) | ((first | apply call_a E88 | apply call_q E88); exact (rof_term ht hn2 _ _); exact hk9) | ((first | apply call_a E89 | apply call_q E89); exact (rnone_calls f.cond _); exact hk9)); (refine hK1 _ ?_; clear hK1 K1)) | (((first | (refine ⟨fun hg => hA ?_, fun hg => hB ?_⟩ <;> clear hA hB A B) | refine ⟨fun hg => ?_, fun hg => ?_⟩) <;> (try simp only [BN2] at hg) <;> (try simp only [hg, cond_true, cond_false])) <;> (try (refine hK1 _ ?_; clear hK1 K1)) <;> (try simp only [BN3] at hg))) | (refine awp_seq_k fun K hK => ?_) | ((first | refine awp_region ?_ | refine awp_draw (by kernel_rfl) ?_ | refine awp_block ?_ | refine awp_exit ?_ | refine awp_skip ?_ | refine awp_ret ?_); (try simp only [NB, simprocAttr])))
      all_goals simp only [EndP, FinP, resA, resL, resA1, lastV, lastA, lastAs, pur, purs, take_app, List.take_length, S1, simprocAttr, TTNeH, Nat.le_add_right, Nat.le_refl]
      all_goals simp_all
    | true =>
      have hk' : (k.kind != 5) = false := by unfold bne; rw [hk]; rfl
      cases ho : decide (2 ≤ ((outsN fl f.src).length : Int)) with
      | false =>
        have ho' : decide (((outsN fl f.src).length : Int) < 2) = true := by simp at ho ⊢; omega
        refine acalls_pure (rl := []) mixed Tryd.func65 rfl (rs := [.tmp 4]) rfl Tryd.ntmps65 (by simp) ?_
        repeat' (first | ((first | refine aops_nil ?_ | refine aqops_nil ?_); (try simp only [NB])) | ((repeat ((fail_if_success (refine hK _ ?_)); clear hK K)); refine hK _ ?_; clear hK K) | ((first | refine aops_k fun K1 hK1 => ?_ | refine aqops_k fun K1 hK1 => ?_ | refine awp_cond_k fun A B hA hB => ?_); simp only [S1, simprocAttr, TTNeH, List.length_map, g1, g2, g3, g4, c1, a1, b1, hx, eN, hk, hk', ho, ho']; first | (refine hK1 _ ?_; clear hK1 K1) | ((first | refine hA ?_ | refine hB ?_); clear hA hB A B) | ((first | apply call_a E44 | apply call_q E44); exact (rOuts_calls _ fl hl _ _); (refine hK1 _ ?_; clear hK1 K1)) | ((first | apply call_a E88 | apply call_q E88); exact (rof_term ht hn2 _ _); (refine hK1 _ ?_; clear hK1 K1)) | ((first | apply call_a E89 | apply call_q E89); exact (rnone_calls f.cond _); (refine hK1 _ ?_; clear hK1 K1)) | (refine join_x (v := ?_) (fun hg hk9 => ?_) ?_; rotate_left; (focus (try ((try simp only [BN] at hg); simp only [S1, simprocAttr, TTNeH, List.length_map, g1, g2, g3, g4, c1, a1, b1, hx, eN, hk, hk', ho, ho', hg] at hk9 ⊢)); first | exact hk9 | ((first | apply call_a E44 | apply call_q E44); exact (rOuts_calls _ fl hl _ _); exact hk9) | ((first | apply call_a E88 | apply call_q E88); exact (rof_term ht hn2 _ _); exact hk9) | ((first | apply call_a E89 | apply call_q E89); exact (rnone_calls f.cond _); exact hk9)); (refine hK1 _ ?_; clear hK1 K1)) | (((first | (refine ⟨fun hg => hA ?_, fun hg => hB ?_⟩ <;> clear hA hB A B) | refine ⟨fun hg => ?_, fun hg => ?_⟩) <;> (try simp only [BN2] at hg) <;> (try simp only [hg, cond_true, cond_false])) <;> (try (refine hK1 _ ?_; clear hK1 K1)) <;> (try simp only [BN3] at hg))) | (refine awp_seq_k fun K hK => ?_) | ((first | refine awp_region ?_ | refine awp_draw (by kernel_rfl) ?_ | refine awp_block ?_ | refine awp_exit ?_ | refine awp_skip ?_ | refine awp_ret ?_); (try simp only [NB, simprocAttr])))
        all_goals simp only [EndP, FinP, resA, resL, resA1, lastV, lastA, lastAs, pur, purs, take_app, List.take_length, S1, simprocAttr, TTNeH, Nat.le_add_right, Nat.le_refl]
        all_goals simp_all
      | true =>
        have ho' : decide (((outsN fl f.src).length : Int) < 2) = false := by simp at ho ⊢; omega
        refine acalls_pure (rl := []) mixed Tryd.func65 rfl (rs := [.tmp 4]) rfl Tryd.ntmps65 (by simp) ?_
        repeat' (first | ((first | refine aops_nil ?_ | refine aqops_nil ?_); (try simp only [NB])) | ((repeat ((fail_if_success (refine hK _ ?_)); clear hK K)); refine hK _ ?_; clear hK K) | ((first | refine aops_k fun K1 hK1 => ?_ | refine aqops_k fun K1 hK1 => ?_ | refine awp_cond_k fun A B hA hB => ?_); simp only [S1, simprocAttr, TTNeH, List.length_map, g1, g2, g3, g4, c1, a1, b1, hx, eN, hk, hk', ho, ho']; first | (refine hK1 _ ?_; clear hK1 K1) | ((first | refine hA ?_ | refine hB ?_); clear hA hB A B) | ((first | apply call_a E44 | apply call_q E44); exact (rOuts_calls _ fl hl _ _); (refine hK1 _ ?_; clear hK1 K1)) | ((first | apply call_a E88 | apply call_q E88); exact (rof_term ht hn2 _ _); (refine hK1 _ ?_; clear hK1 K1)) | ((first | apply call_a E89 | apply call_q E89); exact (rnone_calls f.cond _); (refine hK1 _ ?_; clear hK1 K1)) | (refine join_x (v := ?_) (fun hg hk9 => ?_) ?_; rotate_left; (focus (try ((try simp only [BN] at hg); simp only [S1, simprocAttr, TTNeH, List.length_map, g1, g2, g3, g4, c1, a1, b1, hx, eN, hk, hk', ho, ho', hg] at hk9 ⊢)); first | exact hk9 | ((first | apply call_a E44 | apply call_q E44); exact (rOuts_calls _ fl hl _ _); exact hk9) | ((first | apply call_a E88 | apply call_q E88); exact (rof_term ht hn2 _ _); exact hk9) | ((first | apply call_a E89 | apply call_q E89); exact (rnone_calls f.cond _); exact hk9)); (refine hK1 _ ?_; clear hK1 K1)) | (((first | (refine ⟨fun hg => hA ?_, fun hg => hB ?_⟩ <;> clear hA hB A B) | refine ⟨fun hg => ?_, fun hg => ?_⟩) <;> (try simp only [BN2] at hg) <;> (try simp only [hg, cond_true, cond_false])) <;> (try (refine hK1 _ ?_; clear hK1 K1)) <;> (try simp only [BN3] at hg))) | (refine awp_seq_k fun K hK => ?_) | ((first | refine awp_region ?_ | refine awp_draw (by kernel_rfl) ?_ | refine awp_block ?_ | refine awp_exit ?_ | refine awp_skip ?_ | refine awp_ret ?_); (try simp only [NB, simprocAttr])))
        all_goals simp only [EndP, FinP, resA, resL, resA1, lastV, lastA, lastAs, pur, purs, take_app, List.take_length, S1, simprocAttr, TTNeH, Nat.le_add_right, Nat.le_refl]
        all_goals simp_all
end Go.Proofs.YtjpphhcimpclpaaDoor.AM
end

section
set_option linter.unusedVariables false
set_option linter.unusedSimpArgs false
set_option maxRecDepth 4000
set_option maxHeartbeats 4000000
namespace Go.Proofs.YtjpphhcimpclpaaDoor.AM
open Go Go.Proofs
set_option linter.defProp false in
def TTNeJ := And.intro T2 (And.intro T3 (And.intro T4 (And.intro T22 (And.intro T23 (And.intro T25 (And.intro T40 (And.intro T56 (And.intro T58 (And.intro T60 T71)))))))))
attribute [local irreducible] awp aops aqops aeops arun
variable {G : Nat → Option (List PV)}

theorem pickF_mem {q : Fl → Bool} {l : List Fl} : ∀ {j : Nat} {x : Int}, x ∈ pickF q l j → ∃ i f, i < j ∧ x = (i : Int) ∧ l[i]? = some f ∧ q f = true
  | 0, x, h => by simp [pickF] at h
  | j + 1, x, h => by
    unfold pickF at h
    split at h
    · rename_i f hf
      split at h
      · rename_i hq
        rcases List.mem_append.mp h with h | h
        · obtain ⟨i, f', a, b⟩ := pickF_mem h; exact ⟨i, f', by omega, b⟩
        · exact ⟨j, f, by omega, by simpa using h, hf, hq⟩
      · obtain ⟨i, f', a, b⟩ := pickF_mem h; exact ⟨i, f', by omega, b⟩
    · obtain ⟨i, f', a, b⟩ := pickF_mem h; exact ⟨i, f', by omega, b⟩

def elsAt (fl : List Fl) (x : Int) : Bool := match fl[x.toNat]? with | some f => f.els | none => false
def othAt (ns : List Nd) (fl : List Fl) (x : Int) : Bool := match fl[x.toNat]? with | some f => kindAt ns f.dst != 8 | none => false
def cntB (p : Int → Bool) (l : List Int) (j : Nat) : Nat := (l.take j).countP p

theorem cntB_step {p : Int → Bool} {l : List Int} {j : Nat} {x : Int} (h : l[j]? = some x) : cntB p l (j + 1) = cntB p l j + (if p x = true then 1 else 0) := by
  unfold cntB
  rw [List.take_add_one, h]
  simp only [Option.toList_some, List.countP_append, List.countP_cons, List.countP_nil, Nat.zero_add]
theorem cntB_le (p : Int → Bool) (l : List Int) (j : Nat) : cntB p l j ≤ l.length := by
  unfold cntB
  exact Nat.le_trans List.countP_le_length (by rw [List.length_take]; omega)

/-- Rule 3 of a node, but that there is one Start and one End. -/
def threeB (ns : List Nd) (fl : List Fl) (i : Int) : Bool :=
  let a := (insN fl i).length
  let outs := outsN fl i
  let b := outs.length
  let elses := cntB (elsAt fl) outs b
  let others := cntB (othAt ns fl) outs b
  let k := kindAt ns i
  if k = 1 then a == 0 && b == 1
  else if k = 2 then a == 1 && b == 0
  else if k = 5 then (a == 1 && decide (2 ≤ b) && elses == 1) || (decide (2 ≤ a) && b == 1)
  else if k = 6 then (a == 1 && decide (2 ≤ b)) || (decide (2 ≤ a) && b == 1)
  else if k = 7 then a == 1 && decide (2 ≤ b) && others == 0
  else a == 1 && b == 1

theorem three_calls (ns : List Nd) (hn : ns.length ≤ 100) (fl : List Fl) (hl : fl.length ≤ 100) (hd : ∀ f ∈ fl, 0 ≤ f.dst ∧ f.dst < (ns.length : Int)) (i : Int) (hi0 : 0 ≤ i) (hi1 : i < (ns.length : Int)) (h : Heap) :
    ACalls Tryd.prog G 67 [aNet ns fl, .i i] h (fun r h' => r = .b (threeB ns fl i) ∧ h' = h) := by
  have hle : (outsN fl i).length ≤ 100 := Nat.le_trans (pickF_le _ _ _) hl
  obtain ⟨kd, hkd⟩ : ∃ k, ns[i.toNat]? = some k := ⟨_, List.getElem?_eq_getElem (by omega)⟩
  have hkd' := rowN hkd
  have ekd : kindAt ns i = kd.kind := by unfold kindAt; rw [hkd]
  refine acalls_pure (rl := []) mixed Tryd.func67 rfl (rs := [.tmp 4]) rfl Tryd.ntmps67 (by simp) ?_
  refine awp_seq_k fun K hK => ?_
  repeat' (first | ((first | refine aops_nil ?_ | refine aqops_nil ?_); (try simp only [NB]); ((repeat ((fail_if_success (refine hK _ ?_)); clear hK K)); refine hK _ ?_; clear hK K)) | ((first | refine aops_k fun K1 hK1 => ?_ | refine aqops_k fun K1 hK1 => ?_ | refine awp_cond_k fun A B hA hB => ?_); simp only [S1, simprocAttr, TTNeJ]; first | (refine hK1 _ ?_; clear hK1 K1) | ((first | refine hA ?_ | refine hB ?_); clear hA hB A B) | (refine join_x (v := ?_) (fun hg hk9 => ?_) ?_; rotate_left; (focus (try ((try simp only [BN] at hg); simp only [S1, simprocAttr, TTNeJ, hg] at hk9 ⊢)); first | exact hk9); (refine hK1 _ ?_; clear hK1 K1)) | (((first | (refine ⟨fun hg => hA ?_, fun hg => hB ?_⟩ <;> clear hA hB A B) | refine ⟨fun hg => ?_, fun hg => ?_⟩) <;> (try simp only [BN2] at hg) <;> (try simp only [hg, cond_true, cond_false])) <;> (try (refine hK1 _ ?_; clear hK1 K1)) <;> (try simp only [BN3] at hg))) | (fail) | ((first | refine awp_region ?_ | refine awp_draw (by kernel_rfl) ?_ | refine awp_block ?_ | refine awp_exit ?_ | refine awp_skip ?_ | refine awp_ret ?_); (try simp only [NB, simprocAttr]); (try ((repeat ((fail_if_success (refine hK _ ?_)); clear hK K)); refine hK _ ?_; clear hK K))))
  refine awp_seq_k fun K hK => ?_
  repeat' (first | ((first | refine aops_nil ?_ | refine aqops_nil ?_); (try simp only [NB]); ((repeat ((fail_if_success (refine hK _ ?_)); clear hK K)); refine hK _ ?_; clear hK K)) | ((first | refine aops_k fun K1 hK1 => ?_ | refine aqops_k fun K1 hK1 => ?_ | refine awp_cond_k fun A B hA hB => ?_); simp only [S1, simprocAttr, TTNeJ]; first | (refine hK1 _ ?_; clear hK1 K1) | ((first | refine hA ?_ | refine hB ?_); clear hA hB A B) | ((first | apply call_a E43 | apply call_q E43); exact (rIns_calls _ fl hl _ _); (refine hK1 _ ?_; clear hK1 K1)) | (refine join_x (v := ?_) (fun hg hk9 => ?_) ?_; rotate_left; (focus (try ((try simp only [BN] at hg); simp only [S1, simprocAttr, TTNeJ, hg] at hk9 ⊢)); first | exact hk9 | ((first | apply call_a E43 | apply call_q E43); exact (rIns_calls _ fl hl _ _); exact hk9)); (refine hK1 _ ?_; clear hK1 K1)) | (((first | (refine ⟨fun hg => hA ?_, fun hg => hB ?_⟩ <;> clear hA hB A B) | refine ⟨fun hg => ?_, fun hg => ?_⟩) <;> (try simp only [BN2] at hg) <;> (try simp only [hg, cond_true, cond_false])) <;> (try (refine hK1 _ ?_; clear hK1 K1)) <;> (try simp only [BN3] at hg))) | (fail) | ((first | refine awp_region ?_ | refine awp_draw (by kernel_rfl) ?_ | refine awp_block ?_ | refine awp_exit ?_ | refine awp_skip ?_ | refine awp_ret ?_); (try simp only [NB, simprocAttr]); (try ((repeat ((fail_if_success (refine hK _ ?_)); clear hK K)); refine hK _ ?_; clear hK K))))
  refine awp_seq_k fun K hK => ?_
  repeat' (first | ((first | refine aops_nil ?_ | refine aqops_nil ?_); (try simp only [NB]); ((repeat ((fail_if_success (refine hK _ ?_)); clear hK K)); refine hK _ ?_; clear hK K)) | ((first | refine aops_k fun K1 hK1 => ?_ | refine aqops_k fun K1 hK1 => ?_ | refine awp_cond_k fun A B hA hB => ?_); simp only [S1, simprocAttr, TTNeJ]; first | (refine hK1 _ ?_; clear hK1 K1) | ((first | refine hA ?_ | refine hB ?_); clear hA hB A B) | ((first | apply call_a E44 | apply call_q E44); exact (rOuts_calls _ fl hl _ _); (refine hK1 _ ?_; clear hK1 K1)) | (refine join_x (v := ?_) (fun hg hk9 => ?_) ?_; rotate_left; (focus (try ((try simp only [BN] at hg); simp only [S1, simprocAttr, TTNeJ, hg] at hk9 ⊢)); first | exact hk9 | ((first | apply call_a E44 | apply call_q E44); exact (rOuts_calls _ fl hl _ _); exact hk9)); (refine hK1 _ ?_; clear hK1 K1)) | (((first | (refine ⟨fun hg => hA ?_, fun hg => hB ?_⟩ <;> clear hA hB A B) | refine ⟨fun hg => ?_, fun hg => ?_⟩) <;> (try simp only [BN2] at hg) <;> (try simp only [hg, cond_true, cond_false])) <;> (try (refine hK1 _ ?_; clear hK1 K1)) <;> (try simp only [BN3] at hg))) | (fail) | ((first | refine awp_region ?_ | refine awp_draw (by kernel_rfl) ?_ | refine awp_block ?_ | refine awp_exit ?_ | refine awp_skip ?_ | refine awp_ret ?_); (try simp only [NB, simprocAttr]); (try ((repeat ((fail_if_success (refine hK _ ?_)); clear hK K)); refine hK _ ?_; clear hK K))))
  refine awp_seq_k fun K hK => ?_
  repeat' (first | ((first | refine aops_nil ?_ | refine aqops_nil ?_); (try simp only [NB]); ((repeat ((fail_if_success (refine hK _ ?_)); clear hK K)); refine hK _ ?_; clear hK K)) | ((first | refine aops_k fun K1 hK1 => ?_ | refine aqops_k fun K1 hK1 => ?_ | refine awp_cond_k fun A B hA hB => ?_); simp only [S1, simprocAttr, TTNeJ, List.length_map]; first | (refine hK1 _ ?_; clear hK1 K1) | ((first | refine hA ?_ | refine hB ?_); clear hA hB A B) | (refine join_x (v := ?_) (fun hg hk9 => ?_) ?_; rotate_left; (focus (try ((try simp only [BN] at hg); simp only [S1, simprocAttr, TTNeJ, List.length_map, hg] at hk9 ⊢)); first | exact hk9); (refine hK1 _ ?_; clear hK1 K1)) | (((first | (refine ⟨fun hg => hA ?_, fun hg => hB ?_⟩ <;> clear hA hB A B) | refine ⟨fun hg => ?_, fun hg => ?_⟩) <;> (try simp only [BN2] at hg) <;> (try simp only [hg, cond_true, cond_false])) <;> (try (refine hK1 _ ?_; clear hK1 K1)) <;> (try simp only [BN3] at hg))) | (fail) | ((first | refine awp_region ?_ | refine awp_draw (by kernel_rfl) ?_ | refine awp_block ?_ | refine awp_exit ?_ | refine awp_skip ?_ | refine awp_ret ?_); (try simp only [NB, simprocAttr]); (try ((repeat ((fail_if_success (refine hK _ ?_)); clear hK K)); refine hK _ ?_; clear hK K))))
  refine awp_seq_k fun K hK => ?_
  repeat' (first | ((first | refine aops_nil ?_ | refine aqops_nil ?_); (try simp only [NB]); ((repeat ((fail_if_success (refine hK _ ?_)); clear hK K)); refine hK _ ?_; clear hK K)) | ((first | refine aops_k fun K1 hK1 => ?_ | refine aqops_k fun K1 hK1 => ?_ | refine awp_cond_k fun A B hA hB => ?_); simp only [S1, simprocAttr, TTNeJ]; first | (refine hK1 _ ?_; clear hK1 K1) | ((first | refine hA ?_ | refine hB ?_); clear hA hB A B) | (refine join_x (v := ?_) (fun hg hk9 => ?_) ?_; rotate_left; (focus (try ((try simp only [BN] at hg); simp only [S1, simprocAttr, TTNeJ, hg] at hk9 ⊢)); first | exact hk9); (refine hK1 _ ?_; clear hK1 K1)) | (((first | (refine ⟨fun hg => hA ?_, fun hg => hB ?_⟩ <;> clear hA hB A B) | refine ⟨fun hg => ?_, fun hg => ?_⟩) <;> (try simp only [BN2] at hg) <;> (try simp only [hg, cond_true, cond_false])) <;> (try (refine hK1 _ ?_; clear hK1 K1)) <;> (try simp only [BN3] at hg))) | (fail) | ((first | refine awp_region ?_ | refine awp_draw (by kernel_rfl) ?_ | refine awp_block ?_ | refine awp_exit ?_ | refine awp_skip ?_ | refine awp_ret ?_); (try simp only [NB, simprocAttr]); (try ((repeat ((fail_if_success (refine hK _ ?_)); clear hK K)); refine hK _ ?_; clear hK K))))
  refine awp_seq_k fun K hK => ?_
  repeat' (first | ((first | refine aops_nil ?_ | refine aqops_nil ?_); (try simp only [NB]); ((repeat ((fail_if_success (refine hK _ ?_)); clear hK K)); refine hK _ ?_; clear hK K)) | ((first | refine aops_k fun K1 hK1 => ?_ | refine aqops_k fun K1 hK1 => ?_ | refine awp_cond_k fun A B hA hB => ?_); simp only [S1, simprocAttr, TTNeJ]; first | (refine hK1 _ ?_; clear hK1 K1) | ((first | refine hA ?_ | refine hB ?_); clear hA hB A B) | (refine join_x (v := ?_) (fun hg hk9 => ?_) ?_; rotate_left; (focus (try ((try simp only [BN] at hg); simp only [S1, simprocAttr, TTNeJ, hg] at hk9 ⊢)); first | exact hk9); (refine hK1 _ ?_; clear hK1 K1)) | (((first | (refine ⟨fun hg => hA ?_, fun hg => hB ?_⟩ <;> clear hA hB A B) | refine ⟨fun hg => ?_, fun hg => ?_⟩) <;> (try simp only [BN2] at hg) <;> (try simp only [hg, cond_true, cond_false])) <;> (try (refine hK1 _ ?_; clear hK1 K1)) <;> (try simp only [BN3] at hg))) | (fail) | ((first | refine awp_region ?_ | refine awp_draw (by kernel_rfl) ?_ | refine awp_block ?_ | refine awp_exit ?_ | refine awp_skip ?_ | refine awp_ret ?_); (try simp only [NB, simprocAttr]); (try ((repeat ((fail_if_success (refine hK _ ?_)); clear hK K)); refine hK _ ?_; clear hK K))))
  refine awp_seq_k fun K hK => ?_
  repeat' (first | ((first | refine aops_nil ?_ | refine aqops_nil ?_); (try simp only [NB])) | ((repeat ((fail_if_success (refine hK _ ?_)); clear hK K)); refine hK _ ?_; clear hK K) | ((first | refine aops_k fun K1 hK1 => ?_ | refine aqops_k fun K1 hK1 => ?_ | refine awp_cond_k fun A B hA hB => ?_); simp only [S1, simprocAttr, TTNeJ, List.length_map]; first | (refine hK1 _ ?_; clear hK1 K1) | ((first | refine hA ?_ | refine hB ?_); clear hA hB A B) | (refine join_x (v := ?_) (fun hg hk9 => ?_) ?_; rotate_left; (focus (try ((try simp only [BN] at hg); simp only [S1, simprocAttr, TTNeJ, List.length_map, hg] at hk9 ⊢)); first | exact hk9); (refine hK1 _ ?_; clear hK1 K1)) | (((first | (refine ⟨fun hg => hA ?_, fun hg => hB ?_⟩ <;> clear hA hB A B) | refine ⟨fun hg => ?_, fun hg => ?_⟩) <;> (try simp only [BN2] at hg) <;> (try simp only [hg, cond_true, cond_false])) <;> (try (refine hK1 _ ?_; clear hK1 K1)) <;> (try simp only [BN3] at hg))) | (refine awp_seq_k fun K hK => ?_) | ((first | refine awp_region ?_ | refine awp_draw (by kernel_rfl) ?_ | refine awp_block ?_ | refine awp_exit ?_ | refine awp_skip ?_ | refine awp_ret ?_); (try simp only [NB, simprocAttr])))
  refine awp_for (outsN fl i).length 126 (fun j => [(23, .i j), (22, .i (outsN fl i).length), (21, aI (outsN fl i)), (9, .i (cntB (othAt ns fl) (outsN fl i) j)), (8, .i (cntB (elsAt fl) (outsN fl i) j)), (7, .i (outsN fl i).length), (6, aI (outsN fl i)), (5, .i (insN fl i).length), (2, .ptr h.length 0 0), (1, .i i)])
    (fun j => [some ⟨0, [.p (.sl (ns.map eN)), .p (.sl (fl.map eF))]⟩]) (fun j => True) ?_ trivial fun j hj hp K hK => ?_
  · (refine ⟨rfl, (by first | exact ⟨_, rfl⟩ | exact ⟨[], by simp⟩), ?_, ?_⟩ <;> simp only [keeps, avlt, avlts, blksLt, frL, upd_get, S1, simprocAttr, List.length_map, Int.natCast_zero, AV.p.injEq, PV.int.injEq, PV.bool.injEq, PV.sl.injEq] <;> (try and_intros) <;> (try assumption) <;> (try trivial) <;> (try omega))
  rcases Nat.lt_or_ge j (outsN fl i).length with hlt | hge
  · obtain ⟨x, hx⟩ : ∃ k, (outsN fl i)[j]? = some k := ⟨_, List.getElem?_eq_getElem hlt⟩
    obtain ⟨xi, f, hxi, rfl, hf, _⟩ := pickF_mem (List.mem_of_getElem? hx)
    obtain ⟨d1, d2⟩ := hd f (List.mem_of_getElem? hf)
    obtain ⟨kx, hkx⟩ : ∃ k, ns[f.dst.toNat]? = some k := ⟨_, List.getElem?_eq_getElem (by omega)⟩
    have hkx' := rowN hkx
    have hf' := rowF hf
    have x0 : (0 : Int) ≤ (xi : Int) := Int.natCast_nonneg _
    have s1 := cntB_step (p := elsAt fl) hx
    have s2 := cntB_step (p := othAt ns fl) hx
    have b1 := cntB_le (elsAt fl) (outsN fl i) j
    have b2 := cntB_le (othAt ns fl) (outsN fl i) j
    have e1 : elsAt fl (xi : Int) = f.els := by unfold elsAt; rw [Int.toNat_natCast, hf]
    have e2 : othAt ns fl (xi : Int) = (kx.kind != 8) := by unfold othAt; rw [Int.toNat_natCast, hf]; simp only [kindAt, hkx]
    rw [e1] at s1
    rw [e2] at s2
    have w1 := IntWalk.i64_in ((cntB (elsAt fl) (outsN fl i) j : Int) + 1) (by omega)
    have w2 := IntWalk.i64_in ((cntB (othAt ns fl) (outsN fl i) j : Int) + 1) (by omega)
    have n1 := nextI (l := outsN fl i) (i := j) (by omega) hlt
    cases h1 : f.els <;> cases h2 : (kx.kind != 8) <;> simp only [h1, h2, if_true, Bool.false_eq_true, if_false, Nat.add_zero] at s1 s2
    all_goals (repeat' (first | ((first | refine aops_nil ?_ | refine aqops_nil ?_); (try simp only [NB])) | ((repeat ((fail_if_success (refine hK _ ?_)); clear hK K)); refine hK _ ?_; clear hK K) | ((first | refine aops_k fun K1 hK1 => ?_ | refine aqops_k fun K1 hK1 => ?_ | refine awp_cond_k fun A B hA hB => ?_); simp only [S1, simprocAttr, TTNeJ, rowI hx, hitI hlt, n1, eF, eN, hf', hkx', h1, h2, d1, d2, x0, w1, w2, Int.toNat_natCast, List.length_map]; first | (refine hK1 _ ?_; clear hK1 K1) | ((first | refine hA ?_ | refine hB ?_); clear hA hB A B) | (refine join_x (v := ?_) (fun hg hk9 => ?_) ?_; rotate_left; (focus (try ((try simp only [BN] at hg); simp only [S1, simprocAttr, TTNeJ, rowI hx, hitI hlt, n1, eF, eN, hf', hkx', h1, h2, d1, d2, x0, w1, w2, Int.toNat_natCast, List.length_map, hg] at hk9 ⊢)); first | exact hk9); (refine hK1 _ ?_; clear hK1 K1)) | (((first | (refine ⟨fun hg => hA ?_, fun hg => hB ?_⟩ <;> clear hA hB A B) | refine ⟨fun hg => ?_, fun hg => ?_⟩) <;> (try simp only [BN2] at hg) <;> (try simp only [hg, cond_true, cond_false])) <;> (try (refine hK1 _ ?_; clear hK1 K1)) <;> (try simp only [BN3] at hg))) | (refine awp_seq_k fun K hK => ?_) | ((first | refine awp_region ?_ | refine awp_draw (by kernel_rfl) ?_ | refine awp_block ?_ | refine awp_exit ?_ | refine awp_skip ?_ | refine awp_ret ?_); (try simp only [NB, simprocAttr]))))
    all_goals refine ⟨hlt, trivial, ?_⟩
    all_goals simp only [s1, s2]
    all_goals (refine ⟨rfl, (by first | exact ⟨_, rfl⟩ | exact ⟨[], by simp⟩), ?_, ?_⟩ <;> simp only [keeps, avlt, avlts, blksLt, frL, upd_get, S1, simprocAttr, List.length_map, Int.natCast_zero, AV.p.injEq, PV.int.injEq, PV.bool.injEq, PV.sl.injEq] <;> (try and_intros) <;> (try assumption) <;> (try trivial) <;> (try omega))
  · obtain rfl : j = (outsN fl i).length := by omega
    have e0 : threeB ns fl i = threeB ns fl i := rfl
    conv at e0 => rhs; unfold threeB
    rw [ekd] at e0
    by_cases k1 : kd.kind = 1
    · repeat' (first | ((first | refine aops_nil ?_ | refine aqops_nil ?_); (try simp only [NB])) | ((repeat ((fail_if_success (refine hK _ ?_)); clear hK K)); refine hK _ ?_; clear hK K) | ((first | refine aops_k fun K1 hK1 => ?_ | refine aqops_k fun K1 hK1 => ?_ | refine awp_cond_k fun A B hA hB => ?_); simp only [S1, simprocAttr, TTNeJ, endI, hi0, hkd', eN, k1]; first | (refine hK1 _ ?_; clear hK1 K1) | ((first | refine hA ?_ | refine hB ?_); clear hA hB A B) | (refine join_x (v := ?_) (fun hg hk9 => ?_) ?_; rotate_left; (focus (try ((try simp only [BN] at hg); simp only [S1, simprocAttr, TTNeJ, endI, hi0, hkd', eN, k1, hg] at hk9 ⊢)); first | exact hk9); (refine hK1 _ ?_; clear hK1 K1)) | (((first | (refine ⟨fun hg => hA ?_, fun hg => hB ?_⟩ <;> clear hA hB A B) | refine ⟨fun hg => ?_, fun hg => ?_⟩) <;> (try simp only [BN2] at hg) <;> (try simp only [hg, cond_true, cond_false])) <;> (try (refine hK1 _ ?_; clear hK1 K1)) <;> (try simp only [BN3] at hg))) | (refine awp_seq_k fun K hK => ?_) | ((first | refine awp_region ?_ | refine awp_draw (by kernel_rfl) ?_ | refine awp_block ?_ | refine awp_exit ?_ | refine awp_skip ?_ | refine awp_ret ?_); (try simp only [NB, simprocAttr])))
      all_goals simp only [EndP, FinP, resA, resL, resA1, lastV, lastA, lastAs, pur, purs, take_app, List.take_length, S1, simprocAttr, TTNeJ, Nat.le_add_right, Nat.le_refl]
      all_goals simp [e0, k1]
      all_goals (rw [Bool.eq_iff_iff]; simp only [Bool.or_eq_true, Bool.and_eq_true, beq_iff_eq, decide_eq_true_eq]; omega)
    by_cases k2 : kd.kind = 2
    · repeat' (first | ((first | refine aops_nil ?_ | refine aqops_nil ?_); (try simp only [NB])) | ((repeat ((fail_if_success (refine hK _ ?_)); clear hK K)); refine hK _ ?_; clear hK K) | ((first | refine aops_k fun K1 hK1 => ?_ | refine aqops_k fun K1 hK1 => ?_ | refine awp_cond_k fun A B hA hB => ?_); simp only [S1, simprocAttr, TTNeJ, endI, hi0, hkd', eN, k2]; first | (refine hK1 _ ?_; clear hK1 K1) | ((first | refine hA ?_ | refine hB ?_); clear hA hB A B) | (refine join_x (v := ?_) (fun hg hk9 => ?_) ?_; rotate_left; (focus (try ((try simp only [BN] at hg); simp only [S1, simprocAttr, TTNeJ, endI, hi0, hkd', eN, k2, hg] at hk9 ⊢)); first | exact hk9); (refine hK1 _ ?_; clear hK1 K1)) | (((first | (refine ⟨fun hg => hA ?_, fun hg => hB ?_⟩ <;> clear hA hB A B) | refine ⟨fun hg => ?_, fun hg => ?_⟩) <;> (try simp only [BN2] at hg) <;> (try simp only [hg, cond_true, cond_false])) <;> (try (refine hK1 _ ?_; clear hK1 K1)) <;> (try simp only [BN3] at hg))) | (refine awp_seq_k fun K hK => ?_) | ((first | refine awp_region ?_ | refine awp_draw (by kernel_rfl) ?_ | refine awp_block ?_ | refine awp_exit ?_ | refine awp_skip ?_ | refine awp_ret ?_); (try simp only [NB, simprocAttr])))
      all_goals simp only [EndP, FinP, resA, resL, resA1, lastV, lastA, lastAs, pur, purs, take_app, List.take_length, S1, simprocAttr, TTNeJ, Nat.le_add_right, Nat.le_refl]
      all_goals simp [e0, k2]
      all_goals (rw [Bool.eq_iff_iff]; simp only [Bool.or_eq_true, Bool.and_eq_true, beq_iff_eq, decide_eq_true_eq]; omega)
    by_cases k5 : kd.kind = 5
    · repeat' (first | ((first | refine aops_nil ?_ | refine aqops_nil ?_); (try simp only [NB])) | ((repeat ((fail_if_success (refine hK _ ?_)); clear hK K)); refine hK _ ?_; clear hK K) | ((first | refine aops_k fun K1 hK1 => ?_ | refine aqops_k fun K1 hK1 => ?_ | refine awp_cond_k fun A B hA hB => ?_); simp only [S1, simprocAttr, TTNeJ, endI, hi0, hkd', eN, k5]; first | (refine hK1 _ ?_; clear hK1 K1) | ((first | refine hA ?_ | refine hB ?_); clear hA hB A B) | (refine join_x (v := ?_) (fun hg hk9 => ?_) ?_; rotate_left; (focus (try ((try simp only [BN] at hg); simp only [S1, simprocAttr, TTNeJ, endI, hi0, hkd', eN, k5, hg] at hk9 ⊢)); first | exact hk9); (refine hK1 _ ?_; clear hK1 K1)) | (((first | (refine ⟨fun hg => hA ?_, fun hg => hB ?_⟩ <;> clear hA hB A B) | refine ⟨fun hg => ?_, fun hg => ?_⟩) <;> (try simp only [BN2] at hg) <;> (try simp only [hg, cond_true, cond_false])) <;> (try (refine hK1 _ ?_; clear hK1 K1)) <;> (try simp only [BN3] at hg))) | (refine awp_seq_k fun K hK => ?_) | ((first | refine awp_region ?_ | refine awp_draw (by kernel_rfl) ?_ | refine awp_block ?_ | refine awp_exit ?_ | refine awp_skip ?_ | refine awp_ret ?_); (try simp only [NB, simprocAttr])))
      all_goals simp only [EndP, FinP, resA, resL, resA1, lastV, lastA, lastAs, pur, purs, take_app, List.take_length, S1, simprocAttr, TTNeJ, Nat.le_add_right, Nat.le_refl]
      all_goals simp [e0, k5]
      all_goals (rw [Bool.eq_iff_iff]; simp only [Bool.or_eq_true, Bool.and_eq_true, beq_iff_eq, decide_eq_true_eq]; omega)
    by_cases k6 : kd.kind = 6
    · repeat' (first | ((first | refine aops_nil ?_ | refine aqops_nil ?_); (try simp only [NB])) | ((repeat ((fail_if_success (refine hK _ ?_)); clear hK K)); refine hK _ ?_; clear hK K) | ((first | refine aops_k fun K1 hK1 => ?_ | refine aqops_k fun K1 hK1 => ?_ | refine awp_cond_k fun A B hA hB => ?_); simp only [S1, simprocAttr, TTNeJ, endI, hi0, hkd', eN, k6]; first | (refine hK1 _ ?_; clear hK1 K1) | ((first | refine hA ?_ | refine hB ?_); clear hA hB A B) | (refine join_x (v := ?_) (fun hg hk9 => ?_) ?_; rotate_left; (focus (try ((try simp only [BN] at hg); simp only [S1, simprocAttr, TTNeJ, endI, hi0, hkd', eN, k6, hg] at hk9 ⊢)); first | exact hk9); (refine hK1 _ ?_; clear hK1 K1)) | (((first | (refine ⟨fun hg => hA ?_, fun hg => hB ?_⟩ <;> clear hA hB A B) | refine ⟨fun hg => ?_, fun hg => ?_⟩) <;> (try simp only [BN2] at hg) <;> (try simp only [hg, cond_true, cond_false])) <;> (try (refine hK1 _ ?_; clear hK1 K1)) <;> (try simp only [BN3] at hg))) | (refine awp_seq_k fun K hK => ?_) | ((first | refine awp_region ?_ | refine awp_draw (by kernel_rfl) ?_ | refine awp_block ?_ | refine awp_exit ?_ | refine awp_skip ?_ | refine awp_ret ?_); (try simp only [NB, simprocAttr])))
      all_goals simp only [EndP, FinP, resA, resL, resA1, lastV, lastA, lastAs, pur, purs, take_app, List.take_length, S1, simprocAttr, TTNeJ, Nat.le_add_right, Nat.le_refl]
      all_goals simp [e0, k6]
      all_goals (rw [Bool.eq_iff_iff]; simp only [Bool.or_eq_true, Bool.and_eq_true, beq_iff_eq, decide_eq_true_eq]; omega)
    by_cases k7 : kd.kind = 7
    · repeat' (first | ((first | refine aops_nil ?_ | refine aqops_nil ?_); (try simp only [NB])) | ((repeat ((fail_if_success (refine hK _ ?_)); clear hK K)); refine hK _ ?_; clear hK K) | ((first | refine aops_k fun K1 hK1 => ?_ | refine aqops_k fun K1 hK1 => ?_ | refine awp_cond_k fun A B hA hB => ?_); simp only [S1, simprocAttr, TTNeJ, endI, hi0, hkd', eN, k7]; first | (refine hK1 _ ?_; clear hK1 K1) | ((first | refine hA ?_ | refine hB ?_); clear hA hB A B) | (refine join_x (v := ?_) (fun hg hk9 => ?_) ?_; rotate_left; (focus (try ((try simp only [BN] at hg); simp only [S1, simprocAttr, TTNeJ, endI, hi0, hkd', eN, k7, hg] at hk9 ⊢)); first | exact hk9); (refine hK1 _ ?_; clear hK1 K1)) | (((first | (refine ⟨fun hg => hA ?_, fun hg => hB ?_⟩ <;> clear hA hB A B) | refine ⟨fun hg => ?_, fun hg => ?_⟩) <;> (try simp only [BN2] at hg) <;> (try simp only [hg, cond_true, cond_false])) <;> (try (refine hK1 _ ?_; clear hK1 K1)) <;> (try simp only [BN3] at hg))) | (refine awp_seq_k fun K hK => ?_) | ((first | refine awp_region ?_ | refine awp_draw (by kernel_rfl) ?_ | refine awp_block ?_ | refine awp_exit ?_ | refine awp_skip ?_ | refine awp_ret ?_); (try simp only [NB, simprocAttr])))
      all_goals simp only [EndP, FinP, resA, resL, resA1, lastV, lastA, lastAs, pur, purs, take_app, List.take_length, S1, simprocAttr, TTNeJ, Nat.le_add_right, Nat.le_refl]
      all_goals simp [e0, k7]
      all_goals (rw [Bool.eq_iff_iff]; simp only [Bool.or_eq_true, Bool.and_eq_true, beq_iff_eq, decide_eq_true_eq]; omega)
    · have f1 : (kd.kind == 1) = false := by simp [k1]
      have f2 : (kd.kind == 2) = false := by simp [k2]
      have f5 : (kd.kind == 5) = false := by simp [k5]
      have f6 : (kd.kind == 6) = false := by simp [k6]
      have f7 : (kd.kind == 7) = false := by simp [k7]
      repeat' (first | ((first | refine aops_nil ?_ | refine aqops_nil ?_); (try simp only [NB])) | ((repeat ((fail_if_success (refine hK _ ?_)); clear hK K)); refine hK _ ?_; clear hK K) | ((first | refine aops_k fun K1 hK1 => ?_ | refine aqops_k fun K1 hK1 => ?_ | refine awp_cond_k fun A B hA hB => ?_); simp only [S1, simprocAttr, TTNeJ, endI, hi0, hkd', eN, f1, f2, f5, f6, f7]; first | (refine hK1 _ ?_; clear hK1 K1) | ((first | refine hA ?_ | refine hB ?_); clear hA hB A B) | (refine join_x (v := ?_) (fun hg hk9 => ?_) ?_; rotate_left; (focus (try ((try simp only [BN] at hg); simp only [S1, simprocAttr, TTNeJ, endI, hi0, hkd', eN, f1, f2, f5, f6, f7, hg] at hk9 ⊢)); first | exact hk9); (refine hK1 _ ?_; clear hK1 K1)) | (((first | (refine ⟨fun hg => hA ?_, fun hg => hB ?_⟩ <;> clear hA hB A B) | refine ⟨fun hg => ?_, fun hg => ?_⟩) <;> (try simp only [BN2] at hg) <;> (try simp only [hg, cond_true, cond_false])) <;> (try (refine hK1 _ ?_; clear hK1 K1)) <;> (try simp only [BN3] at hg))) | (refine awp_seq_k fun K hK => ?_) | ((first | refine awp_region ?_ | refine awp_draw (by kernel_rfl) ?_ | refine awp_block ?_ | refine awp_exit ?_ | refine awp_skip ?_ | refine awp_ret ?_); (try simp only [NB, simprocAttr])))
      all_goals simp only [EndP, FinP, resA, resL, resA1, lastV, lastA, lastAs, pur, purs, take_app, List.take_length, S1, simprocAttr, TTNeJ, Nat.le_add_right, Nat.le_refl]
      all_goals simp [e0, k1, k2, k5, k6, k7]
      all_goals (rw [Bool.eq_iff_iff]; simp only [Bool.or_eq_true, Bool.and_eq_true, beq_iff_eq, decide_eq_true_eq]; omega)
end Go.Proofs.YtjpphhcimpclpaaDoor.AM
end

section
set_option linter.unusedVariables false
set_option linter.unusedSimpArgs false
set_option maxRecDepth 4000
set_option maxHeartbeats 4000000
namespace Go.Proofs.YtjpphhcimpclpaaDoor.AM
open Go Go.Proofs
set_option linter.defProp false in
def TTNeM := And.intro T2 (And.intro T3 (And.intro T4 (And.intro T22 (And.intro T23 (And.intro T25 (And.intro T40 (And.intro T56 (And.intro T58 (And.intro T60 (And.intro T71 T122))))))))))
attribute [local irreducible] awp aops aqops aeops arun
variable {G : Nat → Option (List PV)}

def eB (x : Bool) : List PV := [.bool x]
abbrev aBl (l : List Bool) : AV := .p (.sl (l.map eB))

theorem avlts_bools (m : Nat) (l : List Bool) : avlts m (l.map AV.b) := by
  induction l with
  | nil => trivial
  | cons x r ih => exact ⟨trivial, ih⟩

theorem chunk_bools : ∀ l : List Bool, chunk 1 l.length (l.map PV.bool) = l.map eB
  | [] => rfl
  | x :: r => by simp only [List.length_cons, List.map_cons, chunk, List.take_succ_cons, List.take_zero, List.drop_succ_cons, List.drop_zero, chunk_bools r, eB]

theorem purs_bools (h : Heap) (n fuel : Nat) : ∀ l : List Bool, purs h n fuel (l.map AV.b) = some (l.map PV.bool)
  | [] => by unfold purs; rfl
  | x :: r => by
    simp only [List.map_cons]
    unfold purs pur
    rw [purs_bools h n fuel r]

theorem pur_bools {h : Heap} {n fuel b g : Nat} {l : List Bool} {m : Nat} (hm : m = l.length) (hb : blkAt h b g = some (l.map AV.b)) (hn : n ≤ b) : pur h n (fuel + 1) (.ref b g 0 1 m) = some (.sl (l.map eB)) := by
  subst hm
  unfold pur
  by_cases h0 : l.length = 0
  · rw [if_pos h0]; have := List.eq_nil_of_length_eq_zero h0; subst this; rfl
  · rw [if_neg h0, hb]
    simp only [hn, true_and, Nat.zero_add, Nat.mul_one, List.length_map, Nat.le_refl, if_true, List.drop_zero]
    rw [List.take_of_length_le (by simp), purs_bools]
    simp only [Option.map_some, chunk_bools]

theorem EndP_bools {P : Program} {h : Heap} {K : AV → Prop} {e : Exit} {s : St} (he : e = .normal ∨ e = .ret) {t b g m : Nat} {l : List Bool} (hm : m = l.length) (hf : s.fr t = some (.ref b g 0 1 m)) (hb : blkAt s.heap b g = some (l.map AV.b)) (hn : h.length ≤ b)
    (ht : s.heap.take h.length = h) (hle : h.length ≤ s.heap.length) (hk : K (aBl l)) : EndP P [.tmp t] h K e s := by
  have key : FinP P [.tmp t] h K s := by
    unfold FinP
    simp only [resA, resL, resA1, hf, lastV, lastA, pur_bools hm hb hn, Option.map_some]
    exact ⟨ht, hle, hk⟩
  rcases he with rfl | rfl <;> exact key

theorem dropB {l : List Bool} {k : Nat} {x : Bool} (h : l[k]? = some x) : (l.map AV.b).drop k = .p (.bool x) :: (l.drop (k + 1)).map AV.b := by
  obtain ⟨hk, e⟩ := List.getElem?_eq_some_iff.mp h
  rw [← List.map_drop, List.drop_eq_getElem_cons hk, e]; rfl
theorem setB_b (l : List Bool) (k : Nat) : (l.map AV.b).set k (AV.p (.bool true)) = (l.set k true).map AV.b := by
  rw [List.map_set]
theorem flat_one {α : Type} (n : Nat) (x : α) : (List.replicate n [x]).flatMap id = List.replicate n x := by
  induction n with
  | zero => rfl
  | succ n ih => rw [List.replicate_succ, List.flatMap_cons, ih, List.replicate_succ]; rfl
theorem rep_bools (n : Nat) : List.replicate n (AV.p (.bool false)) = (List.replicate n false).map AV.b := by simp

def esF (fl : List Fl) : List (Nat × Nat) := fl.map fun f => (f.src.toNat, f.dst.toNat)
def InN (n : Nat) (fl : List Fl) : Prop := ∀ f ∈ fl, (0 ≤ f.src ∧ f.src < (n : Int)) ∧ 0 ≤ f.dst ∧ f.dst < (n : Int)

theorem esF_take {fl : List Fl} {j : Nat} {f : Fl} (h : fl[j]? = some f) : (esF fl).take (j + 1) = (esF fl).take j ++ [(f.src.toNat, f.dst.toNat)] := by
  have : (esF fl)[j]? = some (f.src.toNat, f.dst.toNat) := by simp [esF, h]
  rw [List.take_add_one, this]; rfl
theorem foldl_len (es : List (Nat × Nat)) : ∀ out : List Bool, (es.foldl relax out).length = out.length := roundB_len es

theorem Reach_calls (ns : List Nd) (hn : ns.length ≤ 100) (fl : List Fl) (hl : fl.length ≤ 100) (hd : InN ns.length fl) (i : Int) (hi0 : 0 ≤ i) (hi1 : i < (ns.length : Int)) (h : Heap) :
    ACalls Tryd.prog G 68 [aNet ns fl, .i i] h (fun r h' => r = aBl (rchL (esF fl) ns.length i.toNat) ∧ h' = h) := by
  have hes : ∀ e ∈ esF fl, e.2 < ns.length := by
    intro e he
    simp only [esF, List.mem_map] at he
    obtain ⟨f, hf, rfl⟩ := he
    have := hd f hf
    simp only; omega
  have hrr := rounds_rch (es := esF fl) (n := ns.length) (a := i.toNat) (by omega) hes
  let o0 := (List.replicate ns.length false).set i.toNat true
  have l0 : ∀ k, (rounds (esF fl) k o0).length = ns.length := fun k => by rw [rounds_len]; simp [o0]
  have g1 : (0 : Int) ≤ (ns.length : Int) := by omega
  have g2 : (ns.length : Int) ≤ 16777216 := by omega
  have g3 : ((ns.length : Int) = 0) = False := eq_false (by omega)
  have g4 : i.toNat + 1 ≤ ns.length := by have := Int.toNat_of_nonneg hi0; omega
  refine acalls_pure (rl := []) mixed Tryd.func68 rfl (rs := [.tmp 4]) rfl Tryd.ntmps68 (by simp) ?_
  refine awp_seq_k fun K hK => ?_
  repeat' (first | ((first | refine aops_nil ?_ | refine aqops_nil ?_); (try simp only [NB]); ((repeat ((fail_if_success (refine hK _ ?_)); clear hK K)); refine hK _ ?_; clear hK K)) | ((first | refine aops_k fun K1 hK1 => ?_ | refine aqops_k fun K1 hK1 => ?_ | refine awp_cond_k fun A B hA hB => ?_); simp only [S1, simprocAttr, TTNeM]; first | (refine hK1 _ ?_; clear hK1 K1) | ((first | refine hA ?_ | refine hB ?_); clear hA hB A B) | (((first | (refine ⟨fun hg => hA ?_, fun hg => hB ?_⟩ <;> clear hA hB A B) | refine ⟨fun hg => ?_, fun hg => ?_⟩) <;> (try simp only [BN2] at hg) <;> (try simp only [hg, cond_true, cond_false])) <;> (try (refine hK1 _ ?_; clear hK1 K1)) <;> (try simp only [BN3] at hg))) | (fail) | ((first | refine awp_region ?_ | refine awp_draw (by kernel_rfl) ?_ | refine awp_block ?_ | refine awp_exit ?_ | refine awp_skip ?_ | refine awp_ret ?_); (try simp only [NB, simprocAttr]); (try ((repeat ((fail_if_success (refine hK _ ?_)); clear hK K)); refine hK _ ?_; clear hK K))))
  refine awp_seq_k fun K hK => ?_
  repeat' (first | ((first | refine aops_nil ?_ | refine aqops_nil ?_); (try simp only [NB]); ((repeat ((fail_if_success (refine hK _ ?_)); clear hK K)); refine hK _ ?_; clear hK K)) | ((first | refine aops_k fun K1 hK1 => ?_ | refine aqops_k fun K1 hK1 => ?_ | refine awp_cond_k fun A B hA hB => ?_); simp only [S1, simprocAttr, TTNeM, List.length_map, g1, g2, g3, flat_one, rep_bools, Int.toNat_natCast, List.map_cons, List.map_nil]; first | (refine hK1 _ ?_; clear hK1 K1) | ((first | refine hA ?_ | refine hB ?_); clear hA hB A B) | (((first | (refine ⟨fun hg => hA ?_, fun hg => hB ?_⟩ <;> clear hA hB A B) | refine ⟨fun hg => ?_, fun hg => ?_⟩) <;> (try simp only [BN2] at hg) <;> (try simp only [hg, cond_true, cond_false])) <;> (try (refine hK1 _ ?_; clear hK1 K1)) <;> (try simp only [BN3] at hg))) | (fail) | ((first | refine awp_region ?_ | refine awp_draw (by kernel_rfl) ?_ | refine awp_block ?_ | refine awp_exit ?_ | refine awp_skip ?_ | refine awp_ret ?_); (try simp only [NB, simprocAttr]); (try ((repeat ((fail_if_success (refine hK _ ?_)); clear hK K)); refine hK _ ?_; clear hK K))))
  refine awp_seq_k fun K hK => ?_
  repeat' (first | ((first | refine aops_nil ?_ | refine aqops_nil ?_); (try simp only [NB]); ((repeat ((fail_if_success (refine hK _ ?_)); clear hK K)); refine hK _ ?_; clear hK K)) | ((first | refine aops_k fun K1 hK1 => ?_ | refine aqops_k fun K1 hK1 => ?_ | refine awp_cond_k fun A B hA hB => ?_); simp only [S1, simprocAttr, TTNeM, List.length_map, List.length_replicate, hi0, hi1, g4, Nat.mul_one, Nat.zero_add, setB_b]; first | (refine hK1 _ ?_; clear hK1 K1) | ((first | refine hA ?_ | refine hB ?_); clear hA hB A B) | (((first | (refine ⟨fun hg => hA ?_, fun hg => hB ?_⟩ <;> clear hA hB A B) | refine ⟨fun hg => ?_, fun hg => ?_⟩) <;> (try simp only [BN2] at hg) <;> (try simp only [hg, cond_true, cond_false])) <;> (try (refine hK1 _ ?_; clear hK1 K1)) <;> (try simp only [BN3] at hg))) | (fail) | ((first | refine awp_region ?_ | refine awp_draw (by kernel_rfl) ?_ | refine awp_block ?_ | refine awp_exit ?_ | refine awp_skip ?_ | refine awp_ret ?_); (try simp only [NB, simprocAttr]); (try ((repeat ((fail_if_success (refine hK _ ?_)); clear hK K)); refine hK _ ?_; clear hK K))))
  refine awp_seq_k fun K hK => ?_
  repeat' (first | ((first | refine aops_nil ?_ | refine aqops_nil ?_); (try simp only [NB])) | ((repeat ((fail_if_success (refine hK _ ?_)); clear hK K)); refine hK _ ?_; clear hK K) | ((first | refine aops_k fun K1 hK1 => ?_ | refine aqops_k fun K1 hK1 => ?_ | refine awp_cond_k fun A B hA hB => ?_); simp only [S1, simprocAttr, TTNeM, List.length_map]; first | (refine hK1 _ ?_; clear hK1 K1) | ((first | refine hA ?_ | refine hB ?_); clear hA hB A B) | (((first | (refine ⟨fun hg => hA ?_, fun hg => hB ?_⟩ <;> clear hA hB A B) | refine ⟨fun hg => ?_, fun hg => ?_⟩) <;> (try simp only [BN2] at hg) <;> (try simp only [hg, cond_true, cond_false])) <;> (try (refine hK1 _ ?_; clear hK1 K1)) <;> (try simp only [BN3] at hg))) | (refine awp_seq_k fun K hK => ?_) | ((first | refine awp_region ?_ | refine awp_draw (by kernel_rfl) ?_ | refine awp_block ?_ | refine awp_exit ?_ | refine awp_skip ?_ | refine awp_ret ?_); (try simp only [NB, simprocAttr])))
  refine awp_for ns.length 39 (fun k => [(18, .i k), (17, .i ns.length), (5, .ref (h.length + 1) 0 0 1 ns.length), (2, .ptr h.length 0 0)])
    (fun k => [some ⟨0, [.p (.sl (ns.map eN)), .p (.sl (fl.map eF))]⟩, some ⟨0, (rounds (esF fl) k o0).map AV.b⟩]) (fun k => True) ?_ trivial fun k hk hp K hK => ?_
  · refine ⟨rfl, ⟨[], by simp only [List.append_nil]; rfl⟩, ?_, ⟨trivial, trivial, trivial⟩, avlts_bools _ _, trivial⟩
    simp only [keeps, avlt, avlts, blksLt, frL, upd_get, S1, simprocAttr, List.length_map, Int.natCast_zero, AV.p.injEq, PV.int.injEq, PV.bool.injEq, PV.sl.injEq] <;> (try and_intros) <;> (try assumption) <;> (try trivial) <;> (try omega)
  rcases Nat.lt_or_ge k ns.length with hlt | hge
  · repeat' (first | ((first | refine aops_nil ?_ | refine aqops_nil ?_); (try simp only [NB])) | ((repeat ((fail_if_success (refine hK _ ?_)); clear hK K)); refine hK _ ?_; clear hK K) | ((first | refine aops_k fun K1 hK1 => ?_ | refine aqops_k fun K1 hK1 => ?_ | refine awp_cond_k fun A B hA hB => ?_); simp only [S1, simprocAttr, TTNeM, hitN hlt, List.length_map]; first | (refine hK1 _ ?_; clear hK1 K1) | ((first | refine hA ?_ | refine hB ?_); clear hA hB A B) | (((first | (refine ⟨fun hg => hA ?_, fun hg => hB ?_⟩ <;> clear hA hB A B) | refine ⟨fun hg => ?_, fun hg => ?_⟩) <;> (try simp only [BN2] at hg) <;> (try simp only [hg, cond_true, cond_false])) <;> (try (refine hK1 _ ?_; clear hK1 K1)) <;> (try simp only [BN3] at hg))) | (refine awp_seq_k fun K hK => ?_) | ((first | refine awp_region ?_ | refine awp_draw (by kernel_rfl) ?_ | refine awp_block ?_ | refine awp_exit ?_ | refine awp_skip ?_ | refine awp_ret ?_); (try simp only [NB, simprocAttr])))
    refine awp_for fl.length 39 (fun j => [(23, .i j), (22, .i fl.length), (21, .p (.sl (fl.map eF))), (18, .i k), (17, .i ns.length), (5, .ref (h.length + 1) 0 0 1 ns.length), (2, .ptr h.length 0 0)])
      (fun j => [some ⟨0, [.p (.sl (ns.map eN)), .p (.sl (fl.map eF))]⟩, some ⟨0, (((esF fl).take j).foldl relax (rounds (esF fl) k o0)).map AV.b⟩]) (fun j => True) ?_ trivial fun j hj hp K hK => ?_
    · refine ⟨rfl, ⟨[], by simp only [List.append_nil, List.take_zero, List.foldl_nil]⟩, ?_, ⟨trivial, trivial, trivial⟩, avlts_bools _ _, trivial⟩
      simp only [keeps, avlt, avlts, blksLt, frL, upd_get, S1, simprocAttr, List.length_map, Int.natCast_zero, AV.p.injEq, PV.int.injEq, PV.bool.injEq, PV.sl.injEq] <;> (try and_intros) <;> (try assumption) <;> (try trivial) <;> (try omega)
    rcases Nat.lt_or_ge j fl.length with hjl | hjg
    · obtain ⟨f, hx⟩ : ∃ k, fl[j]? = some k := ⟨_, List.getElem?_eq_getElem hjl⟩
      obtain ⟨⟨a1, a2⟩, b1, b2⟩ := hd f (List.mem_of_getElem? hx)
      have ht := esF_take hx
      have hcl : (((esF fl).take j).foldl relax (rounds (esF fl) k o0)).length = ns.length := by rw [foldl_len, l0]
      generalize hcur : ((esF fl).take j).foldl relax (rounds (esF fl) k o0) = cur at hcl
      have hnx : ((esF fl).take (j + 1)).foldl relax (rounds (esF fl) k o0) = relax cur (f.src.toNat, f.dst.toNat) := by rw [ht, List.foldl_append, hcur]; rfl
      have s1 : f.src.toNat < cur.length := by have := Int.toNat_of_nonneg a1; omega
      have s2 : f.dst.toNat + 1 ≤ cur.length := by have := Int.toNat_of_nonneg b1; omega
      obtain ⟨x, hcx⟩ : ∃ x, cur[f.src.toNat]? = some x := ⟨_, List.getElem?_eq_getElem s1⟩
      have hdr := dropB hcx
      cases x with
      | false =>
        have hre : relax cur (f.src.toNat, f.dst.toNat) = cur := by unfold relax; simp [hcx]
        repeat' (first | ((first | refine aops_nil ?_ | refine aqops_nil ?_); (try simp only [NB])) | ((repeat ((fail_if_success (refine hK _ ?_)); clear hK K)); refine hK _ ?_; clear hK K) | ((first | refine aops_k fun K1 hK1 => ?_ | refine aqops_k fun K1 hK1 => ?_ | refine awp_cond_k fun A B hA hB => ?_); simp only [S1, simprocAttr, TTNeM, rowF hx, hitF hjl, nextF hl hjl, eF, hdr, a1, a2, List.length_map, Nat.mul_one, Nat.zero_add]; first | (refine hK1 _ ?_; clear hK1 K1) | ((first | refine hA ?_ | refine hB ?_); clear hA hB A B) | (((first | (refine ⟨fun hg => hA ?_, fun hg => hB ?_⟩ <;> clear hA hB A B) | refine ⟨fun hg => ?_, fun hg => ?_⟩) <;> (try simp only [BN2] at hg) <;> (try simp only [hg, cond_true, cond_false])) <;> (try (refine hK1 _ ?_; clear hK1 K1)) <;> (try simp only [BN3] at hg))) | (refine awp_seq_k fun K hK => ?_) | ((first | refine awp_region ?_ | refine awp_draw (by kernel_rfl) ?_ | refine awp_block ?_ | refine awp_exit ?_ | refine awp_skip ?_ | refine awp_ret ?_); (try simp only [NB, simprocAttr])))
        all_goals refine ⟨hjl, trivial, ?_⟩
        all_goals simp only [hnx, hre]
        all_goals refine ⟨rfl, ⟨_, rfl⟩, ?_, ⟨trivial, trivial, trivial⟩, avlts_bools _ _, trivial⟩
        all_goals simp only [keeps, avlt, avlts, blksLt, frL, upd_get, S1, simprocAttr, List.length_map, Int.natCast_zero, AV.p.injEq, PV.int.injEq, PV.bool.injEq, PV.sl.injEq] <;> (try and_intros) <;> (try assumption) <;> (try trivial) <;> (try omega)
      | true =>
        have hre : relax cur (f.src.toNat, f.dst.toNat) = cur.set f.dst.toNat true := by unfold relax; simp [hcx]
        repeat' (first | ((first | refine aops_nil ?_ | refine aqops_nil ?_); (try simp only [NB])) | ((repeat ((fail_if_success (refine hK _ ?_)); clear hK K)); refine hK _ ?_; clear hK K) | ((first | refine aops_k fun K1 hK1 => ?_ | refine aqops_k fun K1 hK1 => ?_ | refine awp_cond_k fun A B hA hB => ?_); simp only [S1, simprocAttr, TTNeM, rowF hx, hitF hjl, nextF hl hjl, eF, hdr, a1, a2, b1, b2, s2, setB_b, List.length_map, Nat.mul_one, Nat.zero_add]; first | (refine hK1 _ ?_; clear hK1 K1) | ((first | refine hA ?_ | refine hB ?_); clear hA hB A B) | (((first | (refine ⟨fun hg => hA ?_, fun hg => hB ?_⟩ <;> clear hA hB A B) | refine ⟨fun hg => ?_, fun hg => ?_⟩) <;> (try simp only [BN2] at hg) <;> (try simp only [hg, cond_true, cond_false])) <;> (try (refine hK1 _ ?_; clear hK1 K1)) <;> (try simp only [BN3] at hg))) | (refine awp_seq_k fun K hK => ?_) | ((first | refine awp_region ?_ | refine awp_draw (by kernel_rfl) ?_ | refine awp_block ?_ | refine awp_exit ?_ | refine awp_skip ?_ | refine awp_ret ?_); (try simp only [NB, simprocAttr])))
        all_goals refine ⟨hjl, trivial, ?_⟩
        all_goals simp only [hnx, hre]
        all_goals refine ⟨rfl, ⟨_, rfl⟩, ?_, ⟨trivial, trivial, trivial⟩, avlts_bools _ _, trivial⟩
        all_goals simp only [keeps, avlt, avlts, blksLt, frL, upd_get, S1, simprocAttr, List.length_map, Int.natCast_zero, AV.p.injEq, PV.int.injEq, PV.bool.injEq, PV.sl.injEq] <;> (try and_intros) <;> (try assumption) <;> (try trivial) <;> (try omega)
    · obtain rfl : j = fl.length := by omega
      have hfull : (esF fl).take fl.length = esF fl := List.take_of_length_le (by simp [esF])
      have hnx : rounds (esF fl) (k + 1) o0 = ((esF fl).take fl.length).foldl relax (rounds (esF fl) k o0) := by rw [hfull]; rfl
      repeat' (first | ((first | refine aops_nil ?_ | refine aqops_nil ?_); (try simp only [NB])) | ((repeat ((fail_if_success (refine hK _ ?_)); clear hK K)); refine hK _ ?_; clear hK K) | ((first | refine aops_k fun K1 hK1 => ?_ | refine aqops_k fun K1 hK1 => ?_ | refine awp_cond_k fun A B hA hB => ?_); simp only [S1, simprocAttr, TTNeM, endF, nextN hn hlt]; first | (refine hK1 _ ?_; clear hK1 K1) | ((first | refine hA ?_ | refine hB ?_); clear hA hB A B) | (((first | (refine ⟨fun hg => hA ?_, fun hg => hB ?_⟩ <;> clear hA hB A B) | refine ⟨fun hg => ?_, fun hg => ?_⟩) <;> (try simp only [BN2] at hg) <;> (try simp only [hg, cond_true, cond_false])) <;> (try (refine hK1 _ ?_; clear hK1 K1)) <;> (try simp only [BN3] at hg))) | (refine awp_seq_k fun K hK => ?_) | ((first | refine awp_region ?_ | refine awp_draw (by kernel_rfl) ?_ | refine awp_block ?_ | refine awp_exit ?_ | refine awp_skip ?_ | refine awp_ret ?_); (try simp only [NB, simprocAttr])))
      all_goals refine ⟨hlt, trivial, ?_⟩
      all_goals simp only [hnx]
      all_goals refine ⟨rfl, ⟨_, rfl⟩, ?_, ⟨trivial, trivial, trivial⟩, avlts_bools _ _, trivial⟩
      all_goals simp only [keeps, avlt, avlts, blksLt, frL, upd_get, S1, simprocAttr, List.length_map, Int.natCast_zero, AV.p.injEq, PV.int.injEq, PV.bool.injEq, PV.sl.injEq] <;> (try and_intros) <;> (try assumption) <;> (try trivial) <;> (try omega)
  · obtain rfl : k = ns.length := by omega
    repeat' (first | ((first | refine aops_nil ?_ | refine aqops_nil ?_); (try simp only [NB])) | ((repeat ((fail_if_success (refine hK _ ?_)); clear hK K)); refine hK _ ?_; clear hK K) | ((first | refine aops_k fun K1 hK1 => ?_ | refine aqops_k fun K1 hK1 => ?_ | refine awp_cond_k fun A B hA hB => ?_); simp only [S1, simprocAttr, TTNeM, endN]; first | (refine hK1 _ ?_; clear hK1 K1) | ((first | refine hA ?_ | refine hB ?_); clear hA hB A B) | (((first | (refine ⟨fun hg => hA ?_, fun hg => hB ?_⟩ <;> clear hA hB A B) | refine ⟨fun hg => ?_, fun hg => ?_⟩) <;> (try simp only [BN2] at hg) <;> (try simp only [hg, cond_true, cond_false])) <;> (try (refine hK1 _ ?_; clear hK1 K1)) <;> (try simp only [BN3] at hg))) | (refine awp_seq_k fun K hK => ?_) | ((first | refine awp_region ?_ | refine awp_draw (by kernel_rfl) ?_ | refine awp_block ?_ | refine awp_exit ?_ | refine awp_skip ?_ | refine awp_ret ?_); (try simp only [NB, simprocAttr])))
    have hrl := l0 ns.length
    exact EndP_bools (.inr rfl) hrl.symm rfl (by simp only [blkAt, get_app, List.getElem?_cons_succ, List.getElem?_cons_zero, if_true]) (by omega) (by simp) (by simp) (by rw [hrr])
end Go.Proofs.YtjpphhcimpclpaaDoor.AM
end

section
set_option linter.unusedVariables false
set_option linter.unusedSimpArgs false
set_option maxRecDepth 4000
set_option maxHeartbeats 4000000
namespace Go.Proofs.YtjpphhcimpclpaaDoor.AM
open Go Go.Proofs
set_option linter.defProp false in
def TTNeI := And.intro T2 (And.intro T3 (And.intro T4 (And.intro T22 (And.intro T23 (And.intro T25 (And.intro T40 (And.intro T56 (And.intro T58 (And.intro T60 (And.intro T71 T89))))))))))
attribute [local irreducible] awp aops aqops aeops arun
variable {G : Nat → Option (List PV)}

abbrev cNet (ns : List Nd) (fl : List Fl) : List AV := [.p (.sl (ns.map eN)), .p (.sl (fl.map eF))]

theorem leads1_calls (ns : List Nd) (fl : List Fl) (i : Int) (H : Heap) {b g : Nat} (hb : H[b]? = some (some ⟨g, cNet ns fl⟩)) : ACalls Tryd.prog G 84 [.i i, .ptr b g 0] H (fun r h' => r = .b (inB ns.length i) ∧ h' = H) := by
  refine acalls_pure (rl := []) mixed Tryd.func84 rfl (rs := [.tmp 3]) rfl Tryd.ntmps84 (by simp) ?_
  repeat' (first | ((first | refine aops_nil ?_ | refine aqops_nil ?_); (try simp only [NB])) | ((repeat ((fail_if_success (refine hK _ ?_)); clear hK K)); refine hK _ ?_; clear hK K) | ((first | refine aops_k fun K1 hK1 => ?_ | refine aqops_k fun K1 hK1 => ?_ | refine awp_cond_k fun A B hA hB => ?_); simp only [S1, simprocAttr, TTNeI, hb, List.length_map]; first | (refine hK1 _ ?_; clear hK1 K1) | ((first | refine hA ?_ | refine hB ?_); clear hA hB A B) | (refine join_x (v := ?_) (fun hg hk9 => ?_) ?_; rotate_left; (focus (try ((try simp only [BN] at hg); simp only [S1, simprocAttr, TTNeI, hb, List.length_map, hg] at hk9 ⊢)); first | exact hk9); (refine hK1 _ ?_; clear hK1 K1)) | (((first | (refine ⟨fun hg => hA ?_, fun hg => hB ?_⟩ <;> clear hA hB A B) | refine ⟨fun hg => ?_, fun hg => ?_⟩) <;> (try simp only [BN2] at hg) <;> (try simp only [hg, cond_true, cond_false])) <;> (try (refine hK1 _ ?_; clear hK1 K1)) <;> (try simp only [BN3] at hg))) | (refine awp_seq_k fun K hK => ?_) | ((first | refine awp_region ?_ | refine awp_draw (by kernel_rfl) ?_ | refine awp_block ?_ | refine awp_exit ?_ | refine awp_skip ?_ | refine awp_ret ?_); (try simp only [NB, simprocAttr])))
  all_goals simp only [EndP, FinP, resA, resL, resA1, lastV, lastA, lastAs, pur, purs, take_app, List.take_length, S1, simprocAttr, TTNeI, Nat.le_add_right, Nat.le_refl]
  all_goals rfl

theorem leads_calls (ns : List Nd) (hn : ns.length ≤ 100) (fl : List Fl) (hl : fl.length ≤ 100) (f : Fl) {n : Nat} (ht : Tm.Ok n f.cond) (h : Heap) : ACalls Tryd.prog gW 59 [aNet ns fl, aF f] h (fun r h' => r = .b (twoB ns fl f) ∧ h' = h) := by
  cases h1 : inB ns.length f.src with
  | false =>
    have e : twoB ns fl f = false := by unfold twoB; rw [h1]; rfl
    rw [e]
    refine acalls_pure (rl := []) mixed Tryd.func59 rfl (rs := [.tmp 4]) rfl Tryd.ntmps59 (by simp) ?_
    repeat' (first | ((first | refine aops_nil ?_ | refine aqops_nil ?_); (try simp only [NB])) | ((repeat ((fail_if_success (refine hK _ ?_)); clear hK K)); refine hK _ ?_; clear hK K) | ((first | refine aops_k fun K1 hK1 => ?_ | refine aqops_k fun K1 hK1 => ?_ | refine awp_cond_k fun A B hA hB => ?_); simp only [S1, simprocAttr, TTNeI, h1]; first | (refine hK1 _ ?_; clear hK1 K1) | ((first | refine hA ?_ | refine hB ?_); clear hA hB A B) | ((first | apply call_a E84 | apply call_q E84); exact (leads1_calls ns fl _ _ (by simp [get_app])); (refine hK1 _ ?_; clear hK1 K1)) | (refine join_x (v := ?_) (fun hg hk9 => ?_) ?_; rotate_left; (focus (try ((try simp only [BN] at hg); simp only [S1, simprocAttr, TTNeI, h1, hg] at hk9 ⊢)); first | exact hk9 | ((first | apply call_a E84 | apply call_q E84); exact (leads1_calls ns fl _ _ (by simp [get_app])); exact hk9)); (refine hK1 _ ?_; clear hK1 K1)) | (((first | (refine ⟨fun hg => hA ?_, fun hg => hB ?_⟩ <;> clear hA hB A B) | refine ⟨fun hg => ?_, fun hg => ?_⟩) <;> (try simp only [BN2] at hg) <;> (try simp only [hg, cond_true, cond_false])) <;> (try (refine hK1 _ ?_; clear hK1 K1)) <;> (try simp only [BN3] at hg))) | (refine awp_seq_k fun K hK => ?_) | ((first | refine awp_region ?_ | refine awp_draw (by kernel_rfl) ?_ | refine awp_block ?_ | refine awp_exit ?_ | refine awp_skip ?_ | refine awp_ret ?_); (try simp only [NB, simprocAttr])))
    all_goals simp only [EndP, FinP, resA, resL, resA1, lastV, lastA, lastAs, pur, purs, take_app, List.take_length, S1, simprocAttr, TTNeI, Nat.le_add_right, Nat.le_refl]
  | true =>
    cases h2 : inB ns.length f.dst with
    | false =>
      have e : twoB ns fl f = false := by unfold twoB; rw [h1, h2]; rfl
      rw [e]
      refine acalls_pure (rl := []) mixed Tryd.func59 rfl (rs := [.tmp 4]) rfl Tryd.ntmps59 (by simp) ?_
      repeat' (first | ((first | refine aops_nil ?_ | refine aqops_nil ?_); (try simp only [NB])) | ((repeat ((fail_if_success (refine hK _ ?_)); clear hK K)); refine hK _ ?_; clear hK K) | ((first | refine aops_k fun K1 hK1 => ?_ | refine aqops_k fun K1 hK1 => ?_ | refine awp_cond_k fun A B hA hB => ?_); simp only [S1, simprocAttr, TTNeI, h1, h2]; first | (refine hK1 _ ?_; clear hK1 K1) | ((first | refine hA ?_ | refine hB ?_); clear hA hB A B) | ((first | apply call_a E84 | apply call_q E84); exact (leads1_calls ns fl _ _ (by simp [get_app])); (refine hK1 _ ?_; clear hK1 K1)) | (refine join_x (v := ?_) (fun hg hk9 => ?_) ?_; rotate_left; (focus (try ((try simp only [BN] at hg); simp only [S1, simprocAttr, TTNeI, h1, h2, hg] at hk9 ⊢)); first | exact hk9 | ((first | apply call_a E84 | apply call_q E84); exact (leads1_calls ns fl _ _ (by simp [get_app])); exact hk9)); (refine hK1 _ ?_; clear hK1 K1)) | (((first | (refine ⟨fun hg => hA ?_, fun hg => hB ?_⟩ <;> clear hA hB A B) | refine ⟨fun hg => ?_, fun hg => ?_⟩) <;> (try simp only [BN2] at hg) <;> (try simp only [hg, cond_true, cond_false])) <;> (try (refine hK1 _ ?_; clear hK1 K1)) <;> (try simp only [BN3] at hg))) | (refine awp_seq_k fun K hK => ?_) | ((first | refine awp_region ?_ | refine awp_draw (by kernel_rfl) ?_ | refine awp_block ?_ | refine awp_exit ?_ | refine awp_skip ?_ | refine awp_ret ?_); (try simp only [NB, simprocAttr])))
      all_goals simp only [EndP, FinP, resA, resL, resA1, lastV, lastA, lastAs, pur, purs, take_app, List.take_length, S1, simprocAttr, TTNeI, Nat.le_add_right, Nat.le_refl]
    | true =>
      cases h3 : (f.src == f.dst) with
      | true =>
        have e : twoB ns fl f = false := by unfold twoB; rw [h1, h2, h3]; rfl
        rw [e]
        refine acalls_pure (rl := []) mixed Tryd.func59 rfl (rs := [.tmp 4]) rfl Tryd.ntmps59 (by simp) ?_
        repeat' (first | ((first | refine aops_nil ?_ | refine aqops_nil ?_); (try simp only [NB])) | ((repeat ((fail_if_success (refine hK _ ?_)); clear hK K)); refine hK _ ?_; clear hK K) | ((first | refine aops_k fun K1 hK1 => ?_ | refine aqops_k fun K1 hK1 => ?_ | refine awp_cond_k fun A B hA hB => ?_); simp only [S1, simprocAttr, TTNeI, h1, h2, h3]; first | (refine hK1 _ ?_; clear hK1 K1) | ((first | refine hA ?_ | refine hB ?_); clear hA hB A B) | ((first | apply call_a E84 | apply call_q E84); exact (leads1_calls ns fl _ _ (by simp [get_app])); (refine hK1 _ ?_; clear hK1 K1)) | (refine join_x (v := ?_) (fun hg hk9 => ?_) ?_; rotate_left; (focus (try ((try simp only [BN] at hg); simp only [S1, simprocAttr, TTNeI, h1, h2, h3, hg] at hk9 ⊢)); first | exact hk9 | ((first | apply call_a E84 | apply call_q E84); exact (leads1_calls ns fl _ _ (by simp [get_app])); exact hk9)); (refine hK1 _ ?_; clear hK1 K1)) | (((first | (refine ⟨fun hg => hA ?_, fun hg => hB ?_⟩ <;> clear hA hB A B) | refine ⟨fun hg => ?_, fun hg => ?_⟩) <;> (try simp only [BN2] at hg) <;> (try simp only [hg, cond_true, cond_false])) <;> (try (refine hK1 _ ?_; clear hK1 K1)) <;> (try simp only [BN3] at hg))) | (refine awp_seq_k fun K hK => ?_) | ((first | refine awp_region ?_ | refine awp_draw (by kernel_rfl) ?_ | refine awp_block ?_ | refine awp_exit ?_ | refine awp_skip ?_ | refine awp_ret ?_); (try simp only [NB, simprocAttr])))
        all_goals simp only [EndP, FinP, resA, resL, resA1, lastV, lastA, lastAs, pur, purs, take_app, List.take_length, S1, simprocAttr, TTNeI, Nat.le_add_right, Nat.le_refl]
      | false =>
        obtain ⟨a1, a2⟩ := inB_iff.mp h1
        obtain ⟨k, hx⟩ : ∃ k, ns[f.src.toNat]? = some k := ⟨_, List.getElem?_eq_getElem (by omega)⟩
        have ek : kindAt ns f.src = k.kind := by unfold kindAt; rw [hx]
        have e0 : twoB ns fl f = (if splitsB ns fl f.src = true then (if f.els = true then noneB f.cond else ofB f.cond 2) else (!f.els && noneB f.cond)) := by
          unfold twoB
          rw [h1, h2, h3]; simp
        rw [e0]; unfold splitsB; rw [ek]
        have hx' := rowN hx
        cases hk : (k.kind == 5) with
        | false =>
          have hk' : (k.kind != 5) = true := by unfold bne; rw [hk]; rfl
          refine acalls_pure (rl := []) mixed Tryd.func59 rfl (rs := [.tmp 4]) rfl Tryd.ntmps59 (by simp) ?_
          repeat' (first | ((first | refine aops_nil ?_ | refine aqops_nil ?_); (try simp only [NB])) | ((repeat ((fail_if_success (refine hK _ ?_)); clear hK K)); refine hK _ ?_; clear hK K) | ((first | refine aops_k fun K1 hK1 => ?_ | refine aqops_k fun K1 hK1 => ?_ | refine awp_cond_k fun A B hA hB => ?_); simp only [S1, simprocAttr, TTNeI, h1, h2, h3, a1, hx', eN, hk, hk', List.length_map]; first | (refine hK1 _ ?_; clear hK1 K1) | ((first | refine hA ?_ | refine hB ?_); clear hA hB A B) | ((first | apply call_a E84 | apply call_q E84); exact (leads1_calls ns fl _ _ (by simp [get_app])); (refine hK1 _ ?_; clear hK1 K1)) | ((first | apply call_a E83 | apply call_q E83); exact (none_calls f.cond _); (refine hK1 _ ?_; clear hK1 K1)) | (refine join_x (v := ?_) (fun hg hk9 => ?_) ?_; rotate_left; (focus (try ((try simp only [BN] at hg); simp only [S1, simprocAttr, TTNeI, h1, h2, h3, a1, hx', eN, hk, hk', List.length_map, hg] at hk9 ⊢)); first | exact hk9 | ((first | apply call_a E84 | apply call_q E84); exact (leads1_calls ns fl _ _ (by simp [get_app])); exact hk9) | ((first | apply call_a E83 | apply call_q E83); exact (none_calls f.cond _); exact hk9)); (refine hK1 _ ?_; clear hK1 K1)) | (((first | (refine ⟨fun hg => hA ?_, fun hg => hB ?_⟩ <;> clear hA hB A B) | refine ⟨fun hg => ?_, fun hg => ?_⟩) <;> (try simp only [BN2] at hg) <;> (try simp only [hg, cond_true, cond_false])) <;> (try (refine hK1 _ ?_; clear hK1 K1)) <;> (try simp only [BN3] at hg))) | (refine awp_seq_k fun K hK => ?_) | ((first | refine awp_region ?_ | refine awp_draw (by kernel_rfl) ?_ | refine awp_block ?_ | refine awp_exit ?_ | refine awp_skip ?_ | refine awp_ret ?_); (try simp only [NB, simprocAttr])))
          all_goals simp only [EndP, FinP, resA, resL, resA1, lastV, lastA, lastAs, pur, purs, take_app, List.take_length, S1, simprocAttr, TTNeI, Nat.le_add_right, Nat.le_refl]
          all_goals simp_all
        | true =>
          have hk' : (k.kind != 5) = false := by unfold bne; rw [hk]; rfl
          cases ho : decide (2 ≤ ((outsN fl f.src).length : Int)) with
          | false =>
            have ho' : decide (((outsN fl f.src).length : Int) < 2) = true := by simp at ho ⊢; omega
            refine acalls_pure (rl := []) mixed Tryd.func59 rfl (rs := [.tmp 4]) rfl Tryd.ntmps59 (by simp) ?_
            repeat' (first | ((first | refine aops_nil ?_ | refine aqops_nil ?_); (try simp only [NB])) | ((repeat ((fail_if_success (refine hK _ ?_)); clear hK K)); refine hK _ ?_; clear hK K) | ((first | refine aops_k fun K1 hK1 => ?_ | refine aqops_k fun K1 hK1 => ?_ | refine awp_cond_k fun A B hA hB => ?_); simp only [S1, simprocAttr, TTNeI, h1, h2, h3, a1, hx', eN, hk, hk', ho, ho', List.length_map]; first | (refine hK1 _ ?_; clear hK1 K1) | ((first | refine hA ?_ | refine hB ?_); clear hA hB A B) | ((first | apply call_a E84 | apply call_q E84); exact (leads1_calls ns fl _ _ (by simp [get_app])); (refine hK1 _ ?_; clear hK1 K1)) | ((first | apply call_a E26 | apply call_q E26); exact (outs_calls _ fl hl _ _); (refine hK1 _ ?_; clear hK1 K1)) | ((first | apply call_a E83 | apply call_q E83); exact (none_calls f.cond _); (refine hK1 _ ?_; clear hK1 K1)) | (refine join_x (v := ?_) (fun hg hk9 => ?_) ?_; rotate_left; (focus (try ((try simp only [BN] at hg); simp only [S1, simprocAttr, TTNeI, h1, h2, h3, a1, hx', eN, hk, hk', ho, ho', List.length_map, hg] at hk9 ⊢)); first | exact hk9 | ((first | apply call_a E84 | apply call_q E84); exact (leads1_calls ns fl _ _ (by simp [get_app])); exact hk9) | ((first | apply call_a E26 | apply call_q E26); exact (outs_calls _ fl hl _ _); exact hk9) | ((first | apply call_a E83 | apply call_q E83); exact (none_calls f.cond _); exact hk9)); (refine hK1 _ ?_; clear hK1 K1)) | (((first | (refine ⟨fun hg => hA ?_, fun hg => hB ?_⟩ <;> clear hA hB A B) | refine ⟨fun hg => ?_, fun hg => ?_⟩) <;> (try simp only [BN2] at hg) <;> (try simp only [hg, cond_true, cond_false])) <;> (try (refine hK1 _ ?_; clear hK1 K1)) <;> (try simp only [BN3] at hg))) | (refine awp_seq_k fun K hK => ?_) | ((first | refine awp_region ?_ | refine awp_draw (by kernel_rfl) ?_ | refine awp_block ?_ | refine awp_exit ?_ | refine awp_skip ?_ | refine awp_ret ?_); (try simp only [NB, simprocAttr])))
            all_goals simp only [EndP, FinP, resA, resL, resA1, lastV, lastA, lastAs, pur, purs, take_app, List.take_length, S1, simprocAttr, TTNeI, Nat.le_add_right, Nat.le_refl]
            all_goals simp_all
          | true =>
            have ho' : decide (((outsN fl f.src).length : Int) < 2) = false := by simp at ho ⊢; omega
            refine acalls_pure (rl := []) mixed Tryd.func59 rfl (rs := [.tmp 4]) rfl Tryd.ntmps59 (by simp) ?_
            repeat' (first | ((first | refine aops_nil ?_ | refine aqops_nil ?_); (try simp only [NB])) | ((repeat ((fail_if_success (refine hK _ ?_)); clear hK K)); refine hK _ ?_; clear hK K) | ((first | refine aops_k fun K1 hK1 => ?_ | refine aqops_k fun K1 hK1 => ?_ | refine awp_cond_k fun A B hA hB => ?_); simp only [S1, simprocAttr, TTNeI, h1, h2, h3, a1, hx', eN, hk, hk', ho, ho', List.length_map]; first | (refine hK1 _ ?_; clear hK1 K1) | ((first | refine hA ?_ | refine hB ?_); clear hA hB A B) | ((first | apply call_a E84 | apply call_q E84); exact (leads1_calls ns fl _ _ (by simp [get_app])); (refine hK1 _ ?_; clear hK1 K1)) | ((first | apply call_a E26 | apply call_q E26); exact (outs_calls _ fl hl _ _); (refine hK1 _ ?_; clear hK1 K1)) | ((first | apply call_a E82 | apply call_q E82); exact (of_term ht _ _); (refine hK1 _ ?_; clear hK1 K1)) | ((first | apply call_a E83 | apply call_q E83); exact (none_calls f.cond _); (refine hK1 _ ?_; clear hK1 K1)) | (refine join_x (v := ?_) (fun hg hk9 => ?_) ?_; rotate_left; (focus (try ((try simp only [BN] at hg); simp only [S1, simprocAttr, TTNeI, h1, h2, h3, a1, hx', eN, hk, hk', ho, ho', List.length_map, hg] at hk9 ⊢)); first | exact hk9 | ((first | apply call_a E84 | apply call_q E84); exact (leads1_calls ns fl _ _ (by simp [get_app])); exact hk9) | ((first | apply call_a E26 | apply call_q E26); exact (outs_calls _ fl hl _ _); exact hk9) | ((first | apply call_a E82 | apply call_q E82); exact (of_term ht _ _); exact hk9) | ((first | apply call_a E83 | apply call_q E83); exact (none_calls f.cond _); exact hk9)); (refine hK1 _ ?_; clear hK1 K1)) | (((first | (refine ⟨fun hg => hA ?_, fun hg => hB ?_⟩ <;> clear hA hB A B) | refine ⟨fun hg => ?_, fun hg => ?_⟩) <;> (try simp only [BN2] at hg) <;> (try simp only [hg, cond_true, cond_false])) <;> (try (refine hK1 _ ?_; clear hK1 K1)) <;> (try simp only [BN3] at hg))) | (refine awp_seq_k fun K hK => ?_) | ((first | refine awp_region ?_ | refine awp_draw (by kernel_rfl) ?_ | refine awp_block ?_ | refine awp_exit ?_ | refine awp_skip ?_ | refine awp_ret ?_); (try simp only [NB, simprocAttr])))
            all_goals simp only [EndP, FinP, resA, resL, resA1, lastV, lastA, lastAs, pur, purs, take_app, List.take_length, S1, simprocAttr, TTNeI, Nat.le_add_right, Nat.le_refl]
            all_goals simp_all
end Go.Proofs.YtjpphhcimpclpaaDoor.AM
end

section
set_option linter.unusedVariables false
set_option linter.unusedSimpArgs false
set_option maxRecDepth 4000
set_option maxHeartbeats 4000000
namespace Go.Proofs.YtjpphhcimpclpaaDoor.AM
open Go Go.Proofs
set_option linter.defProp false in
def TTNeN := And.intro T2 (And.intro T3 (And.intro T4 (And.intro T22 (And.intro T23 (And.intro T25 (And.intro T40 (And.intro T56 (And.intro T58 (And.intro T60 (And.intro T71 T122))))))))))
attribute [local irreducible] awp aops aqops aeops arun
variable {G : Nat → Option (List PV)}

section
variable {P : Program} {rl : List String} {h : Heap}
/-- A loop whose state is told by anything, and that ends because a number grows less. -/
theorem awp_whileG {σ : Type} {c : Code} {Q : Exit → St → Prop} {s : St} (m : σ → Nat) (nt : Nat) (l : σ → List (Nat × AV)) (L : σ → List (Option Blk)) (p : σ → Prop) (x0 : σ) (hi : Ghost P G h s ⟨frL (l x0), nt, h ++ L x0⟩) (hp : p x0)
    (hb : ∀ x, p x → ∀ K : St → Prop, (∀ s', (∃ y, m y < m x ∧ p y ∧ Sub h s' (l y) (L y) nt) → K s') → awp P G rl h c (thenA K Q) ⟨frL (l x), nt, h ++ L x⟩) : awp P G rl h (.loop c) Q s := by
  refine awp_loop (fun n s => ∃ x, p x ∧ n = m x ∧ s = ⟨frL (l x), nt, h ++ L x⟩) (m x0) _ hi ⟨x0, hp, rfl, rfl⟩ fun n s hI => ?_
  obtain ⟨x, h1, rfl, rfl⟩ := hI
  refine hb x h1 _ fun s' hs => ?_
  obtain ⟨y, h2, h3, h4⟩ := hs
  exact ⟨m y, _, h2, h4.ghost, y, h3, rfl, rfl⟩
theorem awp_while {σ : Type} {c : Code} {Q : Exit → St → Prop} {s : St} (m : σ → Nat) (nt : Nat) (l : σ → List (Nat × AV)) (L : σ → List (Option Blk)) (p : σ → Prop) (x0 : σ) (hi : Sub h s (l x0) (L x0) nt) (hp : p x0)
    (hb : ∀ x, p x → ∀ K : St → Prop, (∀ s', (∃ y, m y < m x ∧ p y ∧ Sub h s' (l y) (L y) nt) → K s') → awp P G rl h c (thenA K Q) ⟨frL (l x), nt, h ++ L x⟩) : awp P G rl h (.loop c) Q s :=
  awp_whileG m nt l L p x0 hi.ghost hp hb
end

def edgeB (back : Bool) (fl : List Fl) : List (Nat × Nat) := if back = true then (esF fl).map Prod.swap else esF fl

abbrev nI (n : Nat) : AV := .p (.int .i64 (n : Int))

theorem avlts_nats (m : Nat) (l : List Nat) : avlts m (l.map nI) := by
  induction l with
  | nil => trivial
  | cons x r ih => exact ⟨trivial, ih⟩
theorem dropQ (pre : List Nat) (x : Nat) (rest : List Nat) : ((pre ++ x :: rest).map nI).drop pre.length = .p (.int .i64 (x : Int)) :: rest.map nI := by
  rw [List.map_append, List.drop_left' (by simp)]; rfl
theorem dropQ2 (pre todo : List Nat) : ((pre ++ todo).map nI).drop pre.length = todo.map nI := by
  rw [List.map_append, List.drop_left' (by simp)]
theorem nexts_take {es : List (Nat × Nat)} {j u v : Nat} (h : es[j]? = some (u, v)) (x : Nat) : nexts (es.take (j + 1)) x = nexts (es.take j) x ++ (if u = x then [v] else []) := by
  unfold nexts
  rw [List.take_add_one, h]
  simp only [Option.toList_some, List.filter_append, List.map_append]
  by_cases e : u = x <;> simp [e]

theorem edgeB_in {n : Nat} {fl : List Fl} (hd : InN n fl) (back : Bool) : ∀ e ∈ edgeB back fl, e.2 < n := by
  intro e he
  unfold edgeB at he
  split at he
  · simp only [esF, List.map_map, List.mem_map, Function.comp] at he
    obtain ⟨f, hf, rfl⟩ := he
    have := hd f hf
    simp only [Prod.swap]; omega
  · simp only [esF, List.mem_map] at he
    obtain ⟨f, hf, rfl⟩ := he
    have := hd f hf
    simp only; omega

structure Qu where
  seen : List Bool
  pre : List Nat
  todo : List Nat
  g : Nat
structure Qi where
  j : Nat
  pre : List Nat
  todo : List Nat
  g : Nat

theorem met_calls (ns : List Nd) (hn : ns.length ≤ 100) (fl : List Fl) (hl : fl.length ≤ 100) (hd : InN ns.length fl) (i : Int) (hi0 : 0 ≤ i) (hi1 : i < (ns.length : Int)) (back : Bool) (h : Heap) :
    ACalls Tryd.prog G 61 [aNet ns fl, .i i, .b back] h (fun r h' => r = aBl (rchL (edgeB back fl) ns.length i.toNat) ∧ h' = h) := by
  obtain ⟨a, rfl⟩ := Int.eq_ofNat_of_zero_le hi0
  have hel : (edgeB back fl).length = fl.length := by unfold edgeB; split <;> simp [esF]
  have g1 : (0 : Int) ≤ (ns.length : Int) := by omega
  have g2 : (ns.length : Int) ≤ 16777216 := by omega
  have g3 : ((ns.length : Int) = 0) = False := eq_false (by omega)
  have r1 : (["net.go:137"].contains "net.go:137") = true := by decide
  have r2 : (["net.go:137"].contains "net.go:148") = false := by decide
  have r3 : (["net.go:137"].contains "net.go:150") = false := by decide
  refine acalls_pure (rl := ["net.go:137"]) mixed Tryd.func61 rfl (rs := [.tmp 6]) rfl Tryd.ntmps61 (by simp) ?_
  refine awp_seq_k fun K hK => ?_
  repeat' (first | ((first | refine aops_nil ?_ | refine aqops_nil ?_); (try simp only [NB]); ((repeat ((fail_if_success (refine hK _ ?_)); clear hK K)); refine hK _ ?_; clear hK K)) | ((first | refine aops_k fun K1 hK1 => ?_ | refine aqops_k fun K1 hK1 => ?_ | refine awp_cond_k fun A B hA hB => ?_); simp only [S1, simprocAttr, TTNeN]; first | (refine hK1 _ ?_; clear hK1 K1) | ((first | refine hA ?_ | refine hB ?_); clear hA hB A B) | (refine join_x (v := ?_) (fun hg hk9 => ?_) ?_; rotate_left; (focus (try ((try simp only [BN] at hg); simp only [S1, simprocAttr, TTNeN, hg] at hk9 ⊢)); first | exact hk9); (refine hK1 _ ?_; clear hK1 K1)) | (((first | (refine ⟨fun hg => hA ?_, fun hg => hB ?_⟩ <;> clear hA hB A B) | refine ⟨fun hg => ?_, fun hg => ?_⟩) <;> (try simp only [BN2] at hg) <;> (try simp only [hg, cond_true, cond_false])) <;> (try (refine hK1 _ ?_; clear hK1 K1)) <;> (try simp only [BN3] at hg))) | (fail) | ((first | refine awp_region ?_ | refine awp_draw (by kernel_rfl) ?_ | refine awp_block ?_ | refine awp_exit ?_ | refine awp_skip ?_ | refine awp_ret ?_); (try simp only [NB, simprocAttr]); (try ((repeat ((fail_if_success (refine hK _ ?_)); clear hK K)); refine hK _ ?_; clear hK K))))
  refine awp_seq_k fun K hK => ?_
  repeat' (first | ((first | refine aops_nil ?_ | refine aqops_nil ?_); (try simp only [NB]); ((repeat ((fail_if_success (refine hK _ ?_)); clear hK K)); refine hK _ ?_; clear hK K)) | ((first | refine aops_k fun K1 hK1 => ?_ | refine aqops_k fun K1 hK1 => ?_ | refine awp_cond_k fun A B hA hB => ?_); simp only [S1, simprocAttr, TTNeN, List.length_map, g1, g2, g3, flat_one, rep_bools, Int.toNat_natCast, List.map_cons, List.map_nil]; first | (refine hK1 _ ?_; clear hK1 K1) | ((first | refine hA ?_ | refine hB ?_); clear hA hB A B) | (refine join_x (v := ?_) (fun hg hk9 => ?_) ?_; rotate_left; (focus (try ((try simp only [BN] at hg); simp only [S1, simprocAttr, TTNeN, List.length_map, g1, g2, g3, flat_one, rep_bools, Int.toNat_natCast, List.map_cons, List.map_nil, hg] at hk9 ⊢)); first | exact hk9); (refine hK1 _ ?_; clear hK1 K1)) | (((first | (refine ⟨fun hg => hA ?_, fun hg => hB ?_⟩ <;> clear hA hB A B) | refine ⟨fun hg => ?_, fun hg => ?_⟩) <;> (try simp only [BN2] at hg) <;> (try simp only [hg, cond_true, cond_false])) <;> (try (refine hK1 _ ?_; clear hK1 K1)) <;> (try simp only [BN3] at hg))) | (fail) | ((first | refine awp_region ?_ | refine awp_draw (by kernel_rfl) ?_ | refine awp_block ?_ | refine awp_exit ?_ | refine awp_skip ?_ | refine awp_ret ?_); (try simp only [NB, simprocAttr]); (try ((repeat ((fail_if_success (refine hK _ ?_)); clear hK K)); refine hK _ ?_; clear hK K))))
  refine awp_seq_k fun K hK => ?_
  repeat' (first | ((first | refine aops_nil ?_ | refine aqops_nil ?_); (try simp only [NB]); ((repeat ((fail_if_success (refine hK _ ?_)); clear hK K)); refine hK _ ?_; clear hK K)) | ((first | refine aops_k fun K1 hK1 => ?_ | refine aqops_k fun K1 hK1 => ?_ | refine awp_cond_k fun A B hA hB => ?_); simp only [S1, simprocAttr, TTNeN, r1]; first | (refine hK1 _ ?_; clear hK1 K1) | ((first | refine hA ?_ | refine hB ?_); clear hA hB A B) | (refine join_x (v := ?_) (fun hg hk9 => ?_) ?_; rotate_left; (focus (try ((try simp only [BN] at hg); simp only [S1, simprocAttr, TTNeN, r1, hg] at hk9 ⊢)); first | exact hk9); (refine hK1 _ ?_; clear hK1 K1)) | (((first | (refine ⟨fun hg => hA ?_, fun hg => hB ?_⟩ <;> clear hA hB A B) | refine ⟨fun hg => ?_, fun hg => ?_⟩) <;> (try simp only [BN2] at hg) <;> (try simp only [hg, cond_true, cond_false])) <;> (try (refine hK1 _ ?_; clear hK1 K1)) <;> (try simp only [BN3] at hg))) | (fail) | ((first | refine awp_region ?_ | refine awp_draw (by kernel_rfl) ?_ | refine awp_block ?_ | refine awp_exit ?_ | refine awp_skip ?_ | refine awp_ret ?_); (try simp only [NB, simprocAttr]); (try ((repeat ((fail_if_success (refine hK _ ?_)); clear hK K)); refine hK _ ?_; clear hK K))))
  refine awp_seq_k fun K hK => ?_
  repeat' (first | ((first | refine aops_nil ?_ | refine aqops_nil ?_); (try simp only [NB]); ((repeat ((fail_if_success (refine hK _ ?_)); clear hK K)); refine hK _ ?_; clear hK K)) | ((first | refine aops_k fun K1 hK1 => ?_ | refine aqops_k fun K1 hK1 => ?_ | refine awp_cond_k fun A B hA hB => ?_); simp only [S1, simprocAttr, TTNeN]; first | (refine hK1 _ ?_; clear hK1 K1) | ((first | refine hA ?_ | refine hB ?_); clear hA hB A B) | (refine join_x (v := ?_) (fun hg hk9 => ?_) ?_; rotate_left; (focus (try ((try simp only [BN] at hg); simp only [S1, simprocAttr, TTNeN, hg] at hk9 ⊢)); first | exact hk9); (refine hK1 _ ?_; clear hK1 K1)) | (((first | (refine ⟨fun hg => hA ?_, fun hg => hB ?_⟩ <;> clear hA hB A B) | refine ⟨fun hg => ?_, fun hg => ?_⟩) <;> (try simp only [BN2] at hg) <;> (try simp only [hg, cond_true, cond_false])) <;> (try (refine hK1 _ ?_; clear hK1 K1)) <;> (try simp only [BN3] at hg))) | (fail) | ((first | refine awp_region ?_ | refine awp_draw (by kernel_rfl) ?_ | refine awp_block ?_ | refine awp_exit ?_ | refine awp_skip ?_ | refine awp_ret ?_); (try simp only [NB, simprocAttr]); (try ((repeat ((fail_if_success (refine hK _ ?_)); clear hK K)); refine hK _ ?_; clear hK K))))
  refine awp_while (σ := Qu) (fun q => bfsM (edgeB back fl) q.seen q.todo) 69 (fun q => [(8, .ref (h.length + 2) q.g q.pre.length 1 q.todo.length), (7, .ref (h.length + 1) 0 0 1 ns.length), (3, .ptr h.length 0 0), (2, .b back)])
    (fun q => [some ⟨0, cNet ns fl⟩, some ⟨0, q.seen.map AV.b⟩, some ⟨q.g, (q.pre ++ q.todo).map nI⟩]) (fun q => Bfs (edgeB back fl) ns.length a q.seen q.todo ∧ bfsM (edgeB back fl) q.seen q.todo ≤ 20000) ⟨List.replicate ns.length false, [], [a], 0⟩ ?_ ?_ fun q hq K hK => ?_
  · refine ⟨rfl, ⟨[], by simp only [List.append_nil, List.nil_append, List.map_cons, List.map_nil]⟩, ?_, ⟨trivial, trivial, trivial⟩, avlts_bools _ _, avlts_nats _ _, trivial⟩
    simp only [keeps, avlt, avlts, blksLt, frL, upd_get, S1, simprocAttr, List.length_map, Int.natCast_zero, AV.p.injEq, PV.int.injEq, PV.bool.injEq, PV.sl.injEq] <;> (try and_intros) <;> (try assumption) <;> (try trivial) <;> (try omega)
  · refine ⟨Bfs.init, ?_⟩
    unfold bfsM
    rw [hel]
    simp only [List.length_replicate, List.length_singleton]
    have : (ns.length - (List.replicate ns.length false).count true) * (fl.length + 1) ≤ 100 * 101 := Nat.mul_le_mul (by omega) (by omega)
    omega
  obtain ⟨seen, pre, todo, g⟩ := q
  obtain ⟨hb, hm⟩ := hq
  simp only at hb hm
  cases todo with
  | nil =>
    have hz : decide ((0 : Int) < 0) = false := rfl
    repeat' (first | ((first | refine aops_nil ?_ | refine aqops_nil ?_); (try simp only [NB])) | ((repeat ((fail_if_success (refine hK _ ?_)); clear hK K)); refine hK _ ?_; clear hK K) | ((first | refine aops_k fun K1 hK1 => ?_ | refine aqops_k fun K1 hK1 => ?_ | refine awp_cond_k fun A B hA hB => ?_); simp only [S1, simprocAttr, TTNeN, List.length_nil, hz]; first | (refine hK1 _ ?_; clear hK1 K1) | ((first | refine hA ?_ | refine hB ?_); clear hA hB A B) | (refine join_x (v := ?_) (fun hg hk9 => ?_) ?_; rotate_left; (focus (try ((try simp only [BN] at hg); simp only [S1, simprocAttr, TTNeN, List.length_nil, hz, hg] at hk9 ⊢)); first | exact hk9); (refine hK1 _ ?_; clear hK1 K1)) | (((first | (refine ⟨fun hg => hA ?_, fun hg => hB ?_⟩ <;> clear hA hB A B) | refine ⟨fun hg => ?_, fun hg => ?_⟩) <;> (try simp only [BN2] at hg) <;> (try simp only [hg, cond_true, cond_false])) <;> (try (refine hK1 _ ?_; clear hK1 K1)) <;> (try simp only [BN3] at hg))) | (refine awp_seq_k fun K hK => ?_) | ((first | refine awp_region ?_ | refine awp_draw (by kernel_rfl) ?_ | refine awp_block ?_ | refine awp_exit ?_ | refine awp_skip ?_ | refine awp_ret ?_); (try simp only [NB, simprocAttr])))
    exact EndP_bools (.inr rfl) hb.len.symm rfl (by simp only [blkAt, get_app, List.getElem?_cons_succ, List.getElem?_cons_zero, if_true]) (by omega) (by simp) (by simp) (by rw [hb.done, Int.toNat_natCast])
  | cons x rest =>
    have hxn : x < ns.length := (hb.soundT x (by simp)).closed (p := fun i => i < ns.length) (by omega) fun e he _ => edgeB_in hd back e he
    have hx1 : (x : Int) < (ns.length : Int) := by omega
    have hx0 : (0 : Int) ≤ (x : Int) := by omega
    have hp0 : decide ((0 : Int) < ((rest.length + 1 : Nat) : Int)) = true := decide_eq_true (by omega)
    have hp1 : (0 : Int) < ((rest.length + 1 : Nat) : Int) := by omega
    have hp2 : 1 ≤ rest.length + 1 := by omega
    have hrl : rest.length ≤ 20000 := by unfold bfsM at hm; simp only [List.length_cons] at hm; omega
    obtain ⟨b, hsx⟩ : ∃ b, seen[x]? = some b := ⟨_, List.getElem?_eq_getElem (by rw [hb.len]; exact hxn)⟩
    have hdr := dropB hsx
    have hdq := dropQ pre x rest
    have hxs : x + 1 ≤ seen.length := by rw [hb.len]; exact hxn
    cases b with
    | true =>
      repeat' (first | ((first | refine aops_nil ?_ | refine aqops_nil ?_); (try simp only [NB])) | ((repeat ((fail_if_success (refine hK _ ?_)); clear hK K)); refine hK _ ?_; clear hK K) | ((first | refine aops_k fun K1 hK1 => ?_ | refine aqops_k fun K1 hK1 => ?_ | refine awp_cond_k fun A B hA hB => ?_); simp only [S1, simprocAttr, TTNeN, hp0, hp1, hp2, hx0, hx1, hdr, hdq, Nat.mul_one, Nat.zero_add, Nat.add_zero, Nat.le_refl, Nat.add_sub_cancel, Int.toNat_natCast, Int.toNat_zero]; first | (refine hK1 _ ?_; clear hK1 K1) | ((first | refine hA ?_ | refine hB ?_); clear hA hB A B) | (refine join_x (v := ?_) (fun hg hk9 => ?_) ?_; rotate_left; (focus (try ((try simp only [BN] at hg); simp only [S1, simprocAttr, TTNeN, hp0, hp1, hp2, hx0, hx1, hdr, hdq, Nat.mul_one, Nat.zero_add, Nat.add_zero, Nat.le_refl, Nat.add_sub_cancel, Int.toNat_natCast, Int.toNat_zero, hg] at hk9 ⊢)); first | exact hk9); (refine hK1 _ ?_; clear hK1 K1)) | (((first | (refine ⟨fun hg => hA ?_, fun hg => hB ?_⟩ <;> clear hA hB A B) | refine ⟨fun hg => ?_, fun hg => ?_⟩) <;> (try simp only [BN2] at hg) <;> (try simp only [hg, cond_true, cond_false])) <;> (try (refine hK1 _ ?_; clear hK1 K1)) <;> (try simp only [BN3] at hg))) | (refine awp_seq_k fun K hK => ?_) | ((first | refine awp_region ?_ | refine awp_draw (by kernel_rfl) ?_ | refine awp_block ?_ | refine awp_exit ?_ | refine awp_skip ?_ | refine awp_ret ?_); (try simp only [NB, simprocAttr])))
      all_goals refine ⟨⟨seen, pre ++ [x], rest, g⟩, bfsM_skip _ _ _ _, ⟨hb.skip hsx, Nat.le_trans (Nat.le_of_lt (bfsM_skip _ _ _ _)) hm⟩, ?_⟩
      all_goals simp only [List.length_append, List.length_cons, List.length_nil, Nat.zero_add, List.append_assoc, List.cons_append, List.nil_append]
      all_goals refine ⟨rfl, ⟨[], by simp only [List.append_nil]⟩, ?_, ⟨trivial, trivial, trivial⟩, avlts_bools _ _, avlts_nats _ _, trivial⟩
      all_goals simp only [keeps, avlt, avlts, blksLt, frL, upd_get, S1, simprocAttr, List.length_map, Int.natCast_zero, AV.p.injEq, PV.int.injEq, PV.bool.injEq, PV.sl.injEq] <;> (try and_intros) <;> (try assumption) <;> (try trivial) <;> (try omega)
    | false =>
      repeat' (first | ((first | refine aops_nil ?_ | refine aqops_nil ?_); (try simp only [NB])) | ((repeat ((fail_if_success (refine hK _ ?_)); clear hK K)); refine hK _ ?_; clear hK K) | ((first | refine aops_k fun K1 hK1 => ?_ | refine aqops_k fun K1 hK1 => ?_ | refine awp_cond_k fun A B hA hB => ?_); simp only [S1, simprocAttr, TTNeN, hp0, hp1, hp2, hx0, hx1, hxs, hdr, hdq, setB_b, List.length_map, Nat.mul_one, Nat.zero_add, Nat.add_zero, Nat.le_refl, Nat.add_sub_cancel, Int.toNat_natCast, Int.toNat_zero]; first | (refine hK1 _ ?_; clear hK1 K1) | ((first | refine hA ?_ | refine hB ?_); clear hA hB A B) | (refine join_x (v := ?_) (fun hg hk9 => ?_) ?_; rotate_left; (focus (try ((try simp only [BN] at hg); simp only [S1, simprocAttr, TTNeN, hp0, hp1, hp2, hx0, hx1, hxs, hdr, hdq, setB_b, List.length_map, Nat.mul_one, Nat.zero_add, Nat.add_zero, Nat.le_refl, Nat.add_sub_cancel, Int.toNat_natCast, Int.toNat_zero, hg] at hk9 ⊢)); first | exact hk9); (refine hK1 _ ?_; clear hK1 K1)) | (((first | (refine ⟨fun hg => hA ?_, fun hg => hB ?_⟩ <;> clear hA hB A B) | refine ⟨fun hg => ?_, fun hg => ?_⟩) <;> (try simp only [BN2] at hg) <;> (try simp only [hg, cond_true, cond_false])) <;> (try (refine hK1 _ ?_; clear hK1 K1)) <;> (try simp only [BN3] at hg))) | (refine awp_seq_k fun K hK => ?_) | ((first | refine awp_region ?_ | refine awp_draw (by kernel_rfl) ?_ | refine awp_block ?_ | refine awp_exit ?_ | refine awp_skip ?_ | refine awp_ret ?_); (try simp only [NB, simprocAttr])))
      refine awp_while (σ := Qi) (fun q => fl.length - q.j) 69 (fun q => [(36, .i q.j), (35, .i fl.length), (34, .p (.sl (fl.map eF))), (9, .i x), (8, .ref (h.length + 2) q.g q.pre.length 1 q.todo.length), (7, .ref (h.length + 1) 0 0 1 ns.length), (3, .ptr h.length 0 0), (2, .b back)])
        (fun q => [some ⟨0, cNet ns fl⟩, some ⟨0, (seen.set x true).map AV.b⟩, some ⟨q.g, (q.pre ++ q.todo).map nI⟩]) (fun q => q.j ≤ fl.length ∧ q.todo = rest ++ nexts ((edgeB back fl).take q.j) x) ⟨0, pre ++ [x], rest, g⟩ ?_ ?_ fun q hq K hK => ?_
      · simp only [List.length_append, List.length_cons, List.length_nil, Nat.zero_add, List.append_assoc, List.cons_append, List.nil_append]
        refine ⟨rfl, ⟨[], by simp only [List.append_nil]⟩, ?_, ⟨trivial, trivial, trivial⟩, avlts_bools _ _, avlts_nats _ _, trivial⟩
        simp only [keeps, avlt, avlts, blksLt, frL, upd_get, S1, simprocAttr, List.length_map, Int.natCast_zero, AV.p.injEq, PV.int.injEq, PV.bool.injEq, PV.sl.injEq] <;> (try and_intros) <;> (try assumption) <;> (try trivial) <;> (try omega)
      · exact ⟨Nat.zero_le _, by simp [nexts]⟩
      obtain ⟨j, qp, qt, qg⟩ := q
      obtain ⟨hj, hqt⟩ := hq
      simp only at hj hqt
      have hql : qt.length ≤ 20100 := by
        have := nexts_len ((edgeB back fl).take j) x
        rw [List.length_take] at this
        rw [hqt, List.length_append]; omega
      have hmax : qt.length + 1 ≤ maxCount := by unfold maxCount; omega
      rcases Nat.lt_or_ge j fl.length with hjl | hjg
      · obtain ⟨f, hx⟩ : ∃ k, fl[j]? = some k := ⟨_, List.getElem?_eq_getElem hjl⟩
        obtain ⟨⟨a1, a2⟩, b1, b2⟩ := hd f (List.mem_of_getElem? hx)
        obtain ⟨u, hu⟩ := Int.eq_ofNat_of_zero_le a1
        obtain ⟨v, hv⟩ := Int.eq_ofNat_of_zero_le b1
        have hmj : fl.length - (j + 1) < fl.length - j := by omega
        have hdq2 := dropQ2 qp qt
        cases back with
        | true =>
          have he : (edgeB true fl)[j]? = some (v, u) := by simp [edgeB, esF, hx, hu, hv]
          have hnt := nexts_take he x
          by_cases hvx : v = x
          · have hbe : (f.dst == (x : Int)) = true := by rw [hv, hvx]; simp
            rw [if_pos hvx] at hnt
            repeat' (first | ((first | refine aops_nil ?_ | refine aqops_nil ?_); (try simp only [NB])) | ((repeat ((fail_if_success (refine hK _ ?_)); clear hK K)); refine hK _ ?_; clear hK K) | ((first | refine aops_k fun K1 hK1 => ?_ | refine aqops_k fun K1 hK1 => ?_ | refine awp_cond_k fun A B hA hB => ?_); simp only [S1, simprocAttr, TTNeN, rowF hx, hitF hjl, nextF hl hjl, eF, hbe, r2, r3, hdq2, hmax, List.length_map, List.length_append, Nat.mul_one, Nat.zero_add, Nat.add_zero]; first | (refine hK1 _ ?_; clear hK1 K1) | ((first | refine hA ?_ | refine hB ?_); clear hA hB A B) | (refine join_x (v := ?_) (fun hg hk9 => ?_) ?_; rotate_left; (focus (try ((try simp only [BN] at hg); simp only [S1, simprocAttr, TTNeN, rowF hx, hitF hjl, nextF hl hjl, eF, hbe, r2, r3, hdq2, hmax, List.length_map, List.length_append, Nat.mul_one, Nat.zero_add, Nat.add_zero, hg] at hk9 ⊢)); first | exact hk9); (refine hK1 _ ?_; clear hK1 K1)) | (((first | (refine ⟨fun hg => hA ?_, fun hg => hB ?_⟩ <;> clear hA hB A B) | refine ⟨fun hg => ?_, fun hg => ?_⟩) <;> (try simp only [BN2] at hg) <;> (try simp only [hg, cond_true, cond_false])) <;> (try (refine hK1 _ ?_; clear hK1 K1)) <;> (try simp only [BN3] at hg))) | (refine awp_seq_k fun K hK => ?_) | ((first | refine awp_region ?_ | refine awp_draw (by kernel_rfl) ?_ | refine awp_block ?_ | refine awp_exit ?_ | refine awp_skip ?_ | refine awp_ret ?_); (try simp only [NB, simprocAttr])))
            all_goals refine ⟨⟨j + 1, [], qt ++ [u], qg + 1⟩, hmj, ⟨hjl, by simp only [hnt, hqt, List.append_assoc]⟩, ?_⟩
            all_goals simp only [hu, List.length_append, List.length_cons, List.length_nil, Nat.zero_add, List.nil_append, List.map_append, List.map_cons, List.map_nil]
            all_goals refine ⟨rfl, ⟨_, rfl⟩, ?_, ⟨trivial, trivial, trivial⟩, avlts_bools _ _, (by have := avlts_nats (h.length + 3) (qt ++ [u]); simpa using this), trivial⟩
            all_goals simp only [keeps, avlt, avlts, blksLt, frL, upd_get, S1, simprocAttr, List.length_map, Int.natCast_zero, AV.p.injEq, PV.int.injEq, PV.bool.injEq, PV.sl.injEq] <;> (try and_intros) <;> (try assumption) <;> (try trivial) <;> (try omega)
          · have hbe : (f.dst == (x : Int)) = false := by rw [hv]; simp; omega
            rw [if_neg hvx, List.append_nil] at hnt
            repeat' (first | ((first | refine aops_nil ?_ | refine aqops_nil ?_); (try simp only [NB])) | ((repeat ((fail_if_success (refine hK _ ?_)); clear hK K)); refine hK _ ?_; clear hK K) | ((first | refine aops_k fun K1 hK1 => ?_ | refine aqops_k fun K1 hK1 => ?_ | refine awp_cond_k fun A B hA hB => ?_); simp only [S1, simprocAttr, TTNeN, rowF hx, hitF hjl, nextF hl hjl, eF, hbe, List.length_map, Nat.mul_one, Nat.zero_add, Nat.add_zero]; first | (refine hK1 _ ?_; clear hK1 K1) | ((first | refine hA ?_ | refine hB ?_); clear hA hB A B) | (refine join_x (v := ?_) (fun hg hk9 => ?_) ?_; rotate_left; (focus (try ((try simp only [BN] at hg); simp only [S1, simprocAttr, TTNeN, rowF hx, hitF hjl, nextF hl hjl, eF, hbe, List.length_map, Nat.mul_one, Nat.zero_add, Nat.add_zero, hg] at hk9 ⊢)); first | exact hk9); (refine hK1 _ ?_; clear hK1 K1)) | (((first | (refine ⟨fun hg => hA ?_, fun hg => hB ?_⟩ <;> clear hA hB A B) | refine ⟨fun hg => ?_, fun hg => ?_⟩) <;> (try simp only [BN2] at hg) <;> (try simp only [hg, cond_true, cond_false])) <;> (try (refine hK1 _ ?_; clear hK1 K1)) <;> (try simp only [BN3] at hg))) | (refine awp_seq_k fun K hK => ?_) | ((first | refine awp_region ?_ | refine awp_draw (by kernel_rfl) ?_ | refine awp_block ?_ | refine awp_exit ?_ | refine awp_skip ?_ | refine awp_ret ?_); (try simp only [NB, simprocAttr])))
            all_goals refine ⟨⟨j + 1, qp, qt, qg⟩, hmj, ⟨hjl, by simp only [hnt, hqt]⟩, ?_⟩
            all_goals refine ⟨rfl, ⟨_, rfl⟩, ?_, ⟨trivial, trivial, trivial⟩, avlts_bools _ _, avlts_nats _ _, trivial⟩
            all_goals simp only [keeps, avlt, avlts, blksLt, frL, upd_get, S1, simprocAttr, List.length_map, Int.natCast_zero, AV.p.injEq, PV.int.injEq, PV.bool.injEq, PV.sl.injEq] <;> (try and_intros) <;> (try assumption) <;> (try trivial) <;> (try omega)
        | false =>
          have he : (edgeB false fl)[j]? = some (u, v) := by simp [edgeB, esF, hx, hu, hv]
          have hnt := nexts_take he x
          by_cases hvx : u = x
          · have hbe : (f.src == (x : Int)) = true := by rw [hu, hvx]; simp
            rw [if_pos hvx] at hnt
            repeat' (first | ((first | refine aops_nil ?_ | refine aqops_nil ?_); (try simp only [NB])) | ((repeat ((fail_if_success (refine hK _ ?_)); clear hK K)); refine hK _ ?_; clear hK K) | ((first | refine aops_k fun K1 hK1 => ?_ | refine aqops_k fun K1 hK1 => ?_ | refine awp_cond_k fun A B hA hB => ?_); simp only [S1, simprocAttr, TTNeN, rowF hx, hitF hjl, nextF hl hjl, eF, hbe, r2, r3, hdq2, hmax, List.length_map, List.length_append, Nat.mul_one, Nat.zero_add, Nat.add_zero]; first | (refine hK1 _ ?_; clear hK1 K1) | ((first | refine hA ?_ | refine hB ?_); clear hA hB A B) | (refine join_x (v := ?_) (fun hg hk9 => ?_) ?_; rotate_left; (focus (try ((try simp only [BN] at hg); simp only [S1, simprocAttr, TTNeN, rowF hx, hitF hjl, nextF hl hjl, eF, hbe, r2, r3, hdq2, hmax, List.length_map, List.length_append, Nat.mul_one, Nat.zero_add, Nat.add_zero, hg] at hk9 ⊢)); first | exact hk9); (refine hK1 _ ?_; clear hK1 K1)) | (((first | (refine ⟨fun hg => hA ?_, fun hg => hB ?_⟩ <;> clear hA hB A B) | refine ⟨fun hg => ?_, fun hg => ?_⟩) <;> (try simp only [BN2] at hg) <;> (try simp only [hg, cond_true, cond_false])) <;> (try (refine hK1 _ ?_; clear hK1 K1)) <;> (try simp only [BN3] at hg))) | (refine awp_seq_k fun K hK => ?_) | ((first | refine awp_region ?_ | refine awp_draw (by kernel_rfl) ?_ | refine awp_block ?_ | refine awp_exit ?_ | refine awp_skip ?_ | refine awp_ret ?_); (try simp only [NB, simprocAttr])))
            all_goals refine ⟨⟨j + 1, [], qt ++ [v], qg + 1⟩, hmj, ⟨hjl, by simp only [hnt, hqt, List.append_assoc]⟩, ?_⟩
            all_goals simp only [hv, List.length_append, List.length_cons, List.length_nil, Nat.zero_add, List.nil_append, List.map_append, List.map_cons, List.map_nil]
            all_goals refine ⟨rfl, ⟨_, rfl⟩, ?_, ⟨trivial, trivial, trivial⟩, avlts_bools _ _, (by have := avlts_nats (h.length + 3) (qt ++ [v]); simpa using this), trivial⟩
            all_goals simp only [keeps, avlt, avlts, blksLt, frL, upd_get, S1, simprocAttr, List.length_map, Int.natCast_zero, AV.p.injEq, PV.int.injEq, PV.bool.injEq, PV.sl.injEq] <;> (try and_intros) <;> (try assumption) <;> (try trivial) <;> (try omega)
          · have hbe : (f.src == (x : Int)) = false := by rw [hu]; simp; omega
            rw [if_neg hvx, List.append_nil] at hnt
            repeat' (first | ((first | refine aops_nil ?_ | refine aqops_nil ?_); (try simp only [NB])) | ((repeat ((fail_if_success (refine hK _ ?_)); clear hK K)); refine hK _ ?_; clear hK K) | ((first | refine aops_k fun K1 hK1 => ?_ | refine aqops_k fun K1 hK1 => ?_ | refine awp_cond_k fun A B hA hB => ?_); simp only [S1, simprocAttr, TTNeN, rowF hx, hitF hjl, nextF hl hjl, eF, hbe, List.length_map, Nat.mul_one, Nat.zero_add, Nat.add_zero]; first | (refine hK1 _ ?_; clear hK1 K1) | ((first | refine hA ?_ | refine hB ?_); clear hA hB A B) | (refine join_x (v := ?_) (fun hg hk9 => ?_) ?_; rotate_left; (focus (try ((try simp only [BN] at hg); simp only [S1, simprocAttr, TTNeN, rowF hx, hitF hjl, nextF hl hjl, eF, hbe, List.length_map, Nat.mul_one, Nat.zero_add, Nat.add_zero, hg] at hk9 ⊢)); first | exact hk9); (refine hK1 _ ?_; clear hK1 K1)) | (((first | (refine ⟨fun hg => hA ?_, fun hg => hB ?_⟩ <;> clear hA hB A B) | refine ⟨fun hg => ?_, fun hg => ?_⟩) <;> (try simp only [BN2] at hg) <;> (try simp only [hg, cond_true, cond_false])) <;> (try (refine hK1 _ ?_; clear hK1 K1)) <;> (try simp only [BN3] at hg))) | (refine awp_seq_k fun K hK => ?_) | ((first | refine awp_region ?_ | refine awp_draw (by kernel_rfl) ?_ | refine awp_block ?_ | refine awp_exit ?_ | refine awp_skip ?_ | refine awp_ret ?_); (try simp only [NB, simprocAttr])))
            all_goals refine ⟨⟨j + 1, qp, qt, qg⟩, hmj, ⟨hjl, by simp only [hnt, hqt]⟩, ?_⟩
            all_goals refine ⟨rfl, ⟨_, rfl⟩, ?_, ⟨trivial, trivial, trivial⟩, avlts_bools _ _, avlts_nats _ _, trivial⟩
            all_goals simp only [keeps, avlt, avlts, blksLt, frL, upd_get, S1, simprocAttr, List.length_map, Int.natCast_zero, AV.p.injEq, PV.int.injEq, PV.bool.injEq, PV.sl.injEq] <;> (try and_intros) <;> (try assumption) <;> (try trivial) <;> (try omega)
      · obtain rfl : j = fl.length := by omega
        have hfull : (edgeB back fl).take fl.length = edgeB back fl := List.take_of_length_le (by rw [hel]; exact Nat.le_refl _)
        rw [hfull] at hqt
        have hlt := bfsM_visit (es := edgeB back fl) (todo := rest) hsx
        have hvi := hb.visit hxn
        rw [← hqt] at hlt hvi
        repeat' (first | ((first | refine aops_nil ?_ | refine aqops_nil ?_); (try simp only [NB])) | ((repeat ((fail_if_success (refine hK _ ?_)); clear hK K)); refine hK _ ?_; clear hK K) | ((first | refine aops_k fun K1 hK1 => ?_ | refine aqops_k fun K1 hK1 => ?_ | refine awp_cond_k fun A B hA hB => ?_); simp only [S1, simprocAttr, TTNeN, endF]; first | (refine hK1 _ ?_; clear hK1 K1) | ((first | refine hA ?_ | refine hB ?_); clear hA hB A B) | (refine join_x (v := ?_) (fun hg hk9 => ?_) ?_; rotate_left; (focus (try ((try simp only [BN] at hg); simp only [S1, simprocAttr, TTNeN, endF, hg] at hk9 ⊢)); first | exact hk9); (refine hK1 _ ?_; clear hK1 K1)) | (((first | (refine ⟨fun hg => hA ?_, fun hg => hB ?_⟩ <;> clear hA hB A B) | refine ⟨fun hg => ?_, fun hg => ?_⟩) <;> (try simp only [BN2] at hg) <;> (try simp only [hg, cond_true, cond_false])) <;> (try (refine hK1 _ ?_; clear hK1 K1)) <;> (try simp only [BN3] at hg))) | (refine awp_seq_k fun K hK => ?_) | ((first | refine awp_region ?_ | refine awp_draw (by kernel_rfl) ?_ | refine awp_block ?_ | refine awp_exit ?_ | refine awp_skip ?_ | refine awp_ret ?_); (try simp only [NB, simprocAttr])))
        all_goals refine ⟨⟨seen.set x true, qp, qt, qg⟩, hlt, ⟨hvi, Nat.le_trans (Nat.le_of_lt hlt) hm⟩, ?_⟩
        all_goals refine ⟨rfl, ⟨_, rfl⟩, ?_, ⟨trivial, trivial, trivial⟩, avlts_bools _ _, avlts_nats _ _, trivial⟩
        all_goals simp only [keeps, avlt, avlts, blksLt, frL, upd_get, S1, simprocAttr, List.length_map, Int.natCast_zero, AV.p.injEq, PV.int.injEq, PV.bool.injEq, PV.sl.injEq] <;> (try and_intros) <;> (try assumption) <;> (try trivial) <;> (try omega)
end Go.Proofs.YtjpphhcimpclpaaDoor.AM
end

section
set_option linter.unusedVariables false
set_option linter.unusedSimpArgs false
set_option maxRecDepth 4000
set_option maxHeartbeats 4000000
namespace Go.Proofs.YtjpphhcimpclpaaDoor.AM
open Go Go.Proofs
set_option linter.defProp false in
def TTNeL := And.intro T2 (And.intro T3 (And.intro T4 (And.intro T22 (And.intro T23 (And.intro T25 (And.intro T40 (And.intro T56 (And.intro T58 (And.intro T60 T71)))))))))
attribute [local irreducible] awp aops aqops aeops arun
variable {G : Nat → Option (List PV)}

theorem linked_calls (ns : List Nd) (hn : ns.length ≤ 100) (fl : List Fl) (hl : fl.length ≤ 100) (hd : ∀ f ∈ fl, 0 ≤ f.dst ∧ f.dst < (ns.length : Int)) (i : Int) (hi0 : 0 ≤ i) (hi1 : i < (ns.length : Int)) (h : Heap) :
    ACalls Tryd.prog G 86 [aNet ns fl, .i i] h (fun r h' => r = .b (threeB ns fl i) ∧ h' = h) := by
  have hle : (outsN fl i).length ≤ 100 := Nat.le_trans (pickF_le _ _ _) hl
  obtain ⟨kd, hkd⟩ : ∃ k, ns[i.toNat]? = some k := ⟨_, List.getElem?_eq_getElem (by omega)⟩
  have hkd' := rowN hkd
  have ekd : kindAt ns i = kd.kind := by unfold kindAt; rw [hkd]
  refine acalls_pure (rl := []) mixed Tryd.func86 rfl (rs := [.tmp 4]) rfl Tryd.ntmps86 (by simp) ?_
  refine awp_seq_k fun K hK => ?_
  repeat' (first | ((first | refine aops_nil ?_ | refine aqops_nil ?_); (try simp only [NB]); ((repeat ((fail_if_success (refine hK _ ?_)); clear hK K)); refine hK _ ?_; clear hK K)) | ((first | refine aops_k fun K1 hK1 => ?_ | refine aqops_k fun K1 hK1 => ?_ | refine awp_cond_k fun A B hA hB => ?_); simp only [S1, simprocAttr, TTNeL]; first | (refine hK1 _ ?_; clear hK1 K1) | ((first | refine hA ?_ | refine hB ?_); clear hA hB A B) | (refine join_x (v := ?_) (fun hg hk9 => ?_) ?_; rotate_left; (focus (try ((try simp only [BN] at hg); simp only [S1, simprocAttr, TTNeL, hg] at hk9 ⊢)); first | exact hk9); (refine hK1 _ ?_; clear hK1 K1)) | (((first | (refine ⟨fun hg => hA ?_, fun hg => hB ?_⟩ <;> clear hA hB A B) | refine ⟨fun hg => ?_, fun hg => ?_⟩) <;> (try simp only [BN2] at hg) <;> (try simp only [hg, cond_true, cond_false])) <;> (try (refine hK1 _ ?_; clear hK1 K1)) <;> (try simp only [BN3] at hg))) | (fail) | ((first | refine awp_region ?_ | refine awp_draw (by kernel_rfl) ?_ | refine awp_block ?_ | refine awp_exit ?_ | refine awp_skip ?_ | refine awp_ret ?_); (try simp only [NB, simprocAttr]); (try ((repeat ((fail_if_success (refine hK _ ?_)); clear hK K)); refine hK _ ?_; clear hK K))))
  refine awp_seq_k fun K hK => ?_
  repeat' (first | ((first | refine aops_nil ?_ | refine aqops_nil ?_); (try simp only [NB]); ((repeat ((fail_if_success (refine hK _ ?_)); clear hK K)); refine hK _ ?_; clear hK K)) | ((first | refine aops_k fun K1 hK1 => ?_ | refine aqops_k fun K1 hK1 => ?_ | refine awp_cond_k fun A B hA hB => ?_); simp only [S1, simprocAttr, TTNeL]; first | (refine hK1 _ ?_; clear hK1 K1) | ((first | refine hA ?_ | refine hB ?_); clear hA hB A B) | ((first | apply call_a E26 | apply call_q E26); exact (outs_calls _ fl hl _ _); (refine hK1 _ ?_; clear hK1 K1)) | (refine join_x (v := ?_) (fun hg hk9 => ?_) ?_; rotate_left; (focus (try ((try simp only [BN] at hg); simp only [S1, simprocAttr, TTNeL, hg] at hk9 ⊢)); first | exact hk9 | ((first | apply call_a E26 | apply call_q E26); exact (outs_calls _ fl hl _ _); exact hk9)); (refine hK1 _ ?_; clear hK1 K1)) | (((first | (refine ⟨fun hg => hA ?_, fun hg => hB ?_⟩ <;> clear hA hB A B) | refine ⟨fun hg => ?_, fun hg => ?_⟩) <;> (try simp only [BN2] at hg) <;> (try simp only [hg, cond_true, cond_false])) <;> (try (refine hK1 _ ?_; clear hK1 K1)) <;> (try simp only [BN3] at hg))) | (fail) | ((first | refine awp_region ?_ | refine awp_draw (by kernel_rfl) ?_ | refine awp_block ?_ | refine awp_exit ?_ | refine awp_skip ?_ | refine awp_ret ?_); (try simp only [NB, simprocAttr]); (try ((repeat ((fail_if_success (refine hK _ ?_)); clear hK K)); refine hK _ ?_; clear hK K))))
  refine awp_seq_k fun K hK => ?_
  repeat' (first | ((first | refine aops_nil ?_ | refine aqops_nil ?_); (try simp only [NB]); ((repeat ((fail_if_success (refine hK _ ?_)); clear hK K)); refine hK _ ?_; clear hK K)) | ((first | refine aops_k fun K1 hK1 => ?_ | refine aqops_k fun K1 hK1 => ?_ | refine awp_cond_k fun A B hA hB => ?_); simp only [S1, simprocAttr, TTNeL, List.length_map, hi0, hkd', eN]; first | (refine hK1 _ ?_; clear hK1 K1) | ((first | refine hA ?_ | refine hB ?_); clear hA hB A B) | ((first | apply call_a E25 | apply call_q E25); exact (ins_calls _ fl hl _ _); (refine hK1 _ ?_; clear hK1 K1)) | (refine join_x (v := ?_) (fun hg hk9 => ?_) ?_; rotate_left; (focus (try ((try simp only [BN] at hg); simp only [S1, simprocAttr, TTNeL, List.length_map, hi0, hkd', eN, hg] at hk9 ⊢)); first | exact hk9 | ((first | apply call_a E25 | apply call_q E25); exact (ins_calls _ fl hl _ _); exact hk9)); (refine hK1 _ ?_; clear hK1 K1)) | (((first | (refine ⟨fun hg => hA ?_, fun hg => hB ?_⟩ <;> clear hA hB A B) | refine ⟨fun hg => ?_, fun hg => ?_⟩) <;> (try simp only [BN2] at hg) <;> (try simp only [hg, cond_true, cond_false])) <;> (try (refine hK1 _ ?_; clear hK1 K1)) <;> (try simp only [BN3] at hg))) | (fail) | ((first | refine awp_region ?_ | refine awp_draw (by kernel_rfl) ?_ | refine awp_block ?_ | refine awp_exit ?_ | refine awp_skip ?_ | refine awp_ret ?_); (try simp only [NB, simprocAttr]); (try ((repeat ((fail_if_success (refine hK _ ?_)); clear hK K)); refine hK _ ?_; clear hK K))))
  refine awp_seq_k fun K hK => ?_
  repeat' (first | ((first | refine aops_nil ?_ | refine aqops_nil ?_); (try simp only [NB]); ((repeat ((fail_if_success (refine hK _ ?_)); clear hK K)); refine hK _ ?_; clear hK K)) | ((first | refine aops_k fun K1 hK1 => ?_ | refine aqops_k fun K1 hK1 => ?_ | refine awp_cond_k fun A B hA hB => ?_); simp only [S1, simprocAttr, TTNeL]; first | (refine hK1 _ ?_; clear hK1 K1) | ((first | refine hA ?_ | refine hB ?_); clear hA hB A B) | (refine join_x (v := ?_) (fun hg hk9 => ?_) ?_; rotate_left; (focus (try ((try simp only [BN] at hg); simp only [S1, simprocAttr, TTNeL, hg] at hk9 ⊢)); first | exact hk9); (refine hK1 _ ?_; clear hK1 K1)) | (((first | (refine ⟨fun hg => hA ?_, fun hg => hB ?_⟩ <;> clear hA hB A B) | refine ⟨fun hg => ?_, fun hg => ?_⟩) <;> (try simp only [BN2] at hg) <;> (try simp only [hg, cond_true, cond_false])) <;> (try (refine hK1 _ ?_; clear hK1 K1)) <;> (try simp only [BN3] at hg))) | (fail) | ((first | refine awp_region ?_ | refine awp_draw (by kernel_rfl) ?_ | refine awp_block ?_ | refine awp_exit ?_ | refine awp_skip ?_ | refine awp_ret ?_); (try simp only [NB, simprocAttr]); (try ((repeat ((fail_if_success (refine hK _ ?_)); clear hK K)); refine hK _ ?_; clear hK K))))
  refine awp_seq_k fun K hK => ?_
  repeat' (first | ((first | refine aops_nil ?_ | refine aqops_nil ?_); (try simp only [NB]); ((repeat ((fail_if_success (refine hK _ ?_)); clear hK K)); refine hK _ ?_; clear hK K)) | ((first | refine aops_k fun K1 hK1 => ?_ | refine aqops_k fun K1 hK1 => ?_ | refine awp_cond_k fun A B hA hB => ?_); simp only [S1, simprocAttr, TTNeL]; first | (refine hK1 _ ?_; clear hK1 K1) | ((first | refine hA ?_ | refine hB ?_); clear hA hB A B) | (refine join_x (v := ?_) (fun hg hk9 => ?_) ?_; rotate_left; (focus (try ((try simp only [BN] at hg); simp only [S1, simprocAttr, TTNeL, hg] at hk9 ⊢)); first | exact hk9); (refine hK1 _ ?_; clear hK1 K1)) | (((first | (refine ⟨fun hg => hA ?_, fun hg => hB ?_⟩ <;> clear hA hB A B) | refine ⟨fun hg => ?_, fun hg => ?_⟩) <;> (try simp only [BN2] at hg) <;> (try simp only [hg, cond_true, cond_false])) <;> (try (refine hK1 _ ?_; clear hK1 K1)) <;> (try simp only [BN3] at hg))) | (fail) | ((first | refine awp_region ?_ | refine awp_draw (by kernel_rfl) ?_ | refine awp_block ?_ | refine awp_exit ?_ | refine awp_skip ?_ | refine awp_ret ?_); (try simp only [NB, simprocAttr]); (try ((repeat ((fail_if_success (refine hK _ ?_)); clear hK K)); refine hK _ ?_; clear hK K))))
  refine awp_seq_k fun K hK => ?_
  repeat' (first | ((first | refine aops_nil ?_ | refine aqops_nil ?_); (try simp only [NB])) | ((repeat ((fail_if_success (refine hK _ ?_)); clear hK K)); refine hK _ ?_; clear hK K) | ((first | refine aops_k fun K1 hK1 => ?_ | refine aqops_k fun K1 hK1 => ?_ | refine awp_cond_k fun A B hA hB => ?_); simp only [S1, simprocAttr, TTNeL, List.length_map]; first | (refine hK1 _ ?_; clear hK1 K1) | ((first | refine hA ?_ | refine hB ?_); clear hA hB A B) | (refine join_x (v := ?_) (fun hg hk9 => ?_) ?_; rotate_left; (focus (try ((try simp only [BN] at hg); simp only [S1, simprocAttr, TTNeL, List.length_map, hg] at hk9 ⊢)); first | exact hk9); (refine hK1 _ ?_; clear hK1 K1)) | (((first | (refine ⟨fun hg => hA ?_, fun hg => hB ?_⟩ <;> clear hA hB A B) | refine ⟨fun hg => ?_, fun hg => ?_⟩) <;> (try simp only [BN2] at hg) <;> (try simp only [hg, cond_true, cond_false])) <;> (try (refine hK1 _ ?_; clear hK1 K1)) <;> (try simp only [BN3] at hg))) | (refine awp_seq_k fun K hK => ?_) | ((first | refine awp_region ?_ | refine awp_draw (by kernel_rfl) ?_ | refine awp_block ?_ | refine awp_exit ?_ | refine awp_skip ?_ | refine awp_ret ?_); (try simp only [NB, simprocAttr])))
  refine awp_for (outsN fl i).length 122 (fun j => [(28, .i j), (27, .i (outsN fl i).length), (26, aI (outsN fl i)), (9, .b (cntB (othAt ns fl) (outsN fl i) j == 0)), (8, .i (cntB (elsAt fl) (outsN fl i) j)), (7, .i kd.kind), (6, .i (insN fl i).length), (5, aI (outsN fl i)), (2, .ptr h.length 0 0), (1, .i i)])
    (fun j => [some ⟨0, [.p (.sl (ns.map eN)), .p (.sl (fl.map eF))]⟩]) (fun j => True) ?_ trivial fun j hj hp K hK => ?_
  · (refine ⟨rfl, (by first | exact ⟨_, rfl⟩ | exact ⟨[], by simp⟩), ?_, ?_⟩ <;> simp only [keeps, avlt, avlts, blksLt, frL, upd_get, S1, simprocAttr, List.length_map, Int.natCast_zero, AV.p.injEq, PV.int.injEq, PV.bool.injEq, PV.sl.injEq] <;> (try and_intros) <;> (try assumption) <;> (try trivial) <;> (try omega))
  rcases Nat.lt_or_ge j (outsN fl i).length with hlt | hge
  · obtain ⟨x, hx⟩ : ∃ k, (outsN fl i)[j]? = some k := ⟨_, List.getElem?_eq_getElem hlt⟩
    obtain ⟨xi, f, hxi, rfl, hf, _⟩ := pickF_mem (List.mem_of_getElem? hx)
    obtain ⟨d1, d2⟩ := hd f (List.mem_of_getElem? hf)
    obtain ⟨kx, hkx⟩ : ∃ k, ns[f.dst.toNat]? = some k := ⟨_, List.getElem?_eq_getElem (by omega)⟩
    have hkx' := rowN hkx
    have hf' := rowF hf
    have x0 : (0 : Int) ≤ (xi : Int) := Int.natCast_nonneg _
    have s1 := cntB_step (p := elsAt fl) hx
    have s2 := cntB_step (p := othAt ns fl) hx
    have b1 := cntB_le (elsAt fl) (outsN fl i) j
    have e1 : elsAt fl (xi : Int) = f.els := by unfold elsAt; rw [Int.toNat_natCast, hf]
    have e2 : othAt ns fl (xi : Int) = (kx.kind != 8) := by unfold othAt; rw [Int.toNat_natCast, hf]; simp only [kindAt, hkx]
    rw [e1] at s1
    rw [e2] at s2
    have w1 := IntWalk.i64_in ((cntB (elsAt fl) (outsN fl i) j : Int) + 1) (by omega)
    have n1 := nextI (l := outsN fl i) (i := j) (by omega) hlt
    have s3 : (cntB (othAt ns fl) (outsN fl i) (j + 1) == 0) = ((cntB (othAt ns fl) (outsN fl i) j == 0) && (kx.kind == 8)) := by
      rw [s2, Bool.eq_iff_iff]
      by_cases h8 : kx.kind = 8 <;> simp [h8]
    cases h1 : f.els <;> simp only [h1, if_true, Bool.false_eq_true, if_false, Nat.add_zero] at s1
    all_goals (repeat' (first | ((first | refine aops_nil ?_ | refine aqops_nil ?_); (try simp only [NB])) | ((repeat ((fail_if_success (refine hK _ ?_)); clear hK K)); refine hK _ ?_; clear hK K) | ((first | refine aops_k fun K1 hK1 => ?_ | refine aqops_k fun K1 hK1 => ?_ | refine awp_cond_k fun A B hA hB => ?_); simp only [S1, simprocAttr, TTNeL, rowI hx, hitI hlt, n1, eF, eN, hf', hkx', h1, d1, d2, x0, w1, Int.toNat_natCast, List.length_map]; first | (refine hK1 _ ?_; clear hK1 K1) | ((first | refine hA ?_ | refine hB ?_); clear hA hB A B) | (refine join_x (v := ?_) (fun hg hk9 => ?_) ?_; rotate_left; (focus (try ((try simp only [BN] at hg); simp only [S1, simprocAttr, TTNeL, rowI hx, hitI hlt, n1, eF, eN, hf', hkx', h1, d1, d2, x0, w1, Int.toNat_natCast, List.length_map, hg] at hk9 ⊢)); first | exact hk9); (refine hK1 _ ?_; clear hK1 K1)) | (((first | (refine ⟨fun hg => hA ?_, fun hg => hB ?_⟩ <;> clear hA hB A B) | refine ⟨fun hg => ?_, fun hg => ?_⟩) <;> (try simp only [BN2] at hg) <;> (try simp only [hg, cond_true, cond_false])) <;> (try (refine hK1 _ ?_; clear hK1 K1)) <;> (try simp only [BN3] at hg))) | (refine awp_seq_k fun K hK => ?_) | ((first | refine awp_region ?_ | refine awp_draw (by kernel_rfl) ?_ | refine awp_block ?_ | refine awp_exit ?_ | refine awp_skip ?_ | refine awp_ret ?_); (try simp only [NB, simprocAttr]))))
    all_goals refine ⟨hlt, trivial, ?_⟩
    all_goals simp only [s1, s3]
    all_goals (refine ⟨rfl, (by first | exact ⟨_, rfl⟩ | exact ⟨[], by simp⟩), ?_, ?_⟩ <;> simp only [keeps, avlt, avlts, blksLt, frL, upd_get, S1, simprocAttr, List.length_map, Int.natCast_zero, AV.p.injEq, PV.int.injEq, PV.bool.injEq, PV.sl.injEq] <;> (try and_intros) <;> (try assumption) <;> (try trivial) <;> (try omega))
  · obtain rfl : j = (outsN fl i).length := by omega
    have e0 : threeB ns fl i = threeB ns fl i := rfl
    conv at e0 => rhs; unfold threeB
    rw [ekd] at e0
    by_cases k1 : kd.kind = 1
    · repeat' (first | ((first | refine aops_nil ?_ | refine aqops_nil ?_); (try simp only [NB])) | ((repeat ((fail_if_success (refine hK _ ?_)); clear hK K)); refine hK _ ?_; clear hK K) | ((first | refine aops_k fun K1 hK1 => ?_ | refine aqops_k fun K1 hK1 => ?_ | refine awp_cond_k fun A B hA hB => ?_); simp only [S1, simprocAttr, TTNeL, endI, k1, List.length_map]; first | (refine hK1 _ ?_; clear hK1 K1) | ((first | refine hA ?_ | refine hB ?_); clear hA hB A B) | (refine join_x (v := ?_) (fun hg hk9 => ?_) ?_; rotate_left; (focus (try ((try simp only [BN] at hg); simp only [S1, simprocAttr, TTNeL, endI, k1, List.length_map, hg] at hk9 ⊢)); first | exact hk9); (refine hK1 _ ?_; clear hK1 K1)) | (((first | (refine ⟨fun hg => hA ?_, fun hg => hB ?_⟩ <;> clear hA hB A B) | refine ⟨fun hg => ?_, fun hg => ?_⟩) <;> (try simp only [BN2] at hg) <;> (try simp only [hg, cond_true, cond_false])) <;> (try (refine hK1 _ ?_; clear hK1 K1)) <;> (try simp only [BN3] at hg))) | (refine awp_seq_k fun K hK => ?_) | ((first | refine awp_region ?_ | refine awp_draw (by kernel_rfl) ?_ | refine awp_block ?_ | refine awp_exit ?_ | refine awp_skip ?_ | refine awp_ret ?_); (try simp only [NB, simprocAttr])))
      all_goals simp only [EndP, FinP, resA, resL, resA1, lastV, lastA, lastAs, pur, purs, take_app, List.take_length, S1, simprocAttr, TTNeL, Nat.le_add_right, Nat.le_refl]
      all_goals simp [e0, k1]
      all_goals (rw [Bool.eq_iff_iff]; simp only [Bool.or_eq_true, Bool.and_eq_true, beq_iff_eq, decide_eq_true_eq]; omega)
    by_cases k2 : kd.kind = 2
    · repeat' (first | ((first | refine aops_nil ?_ | refine aqops_nil ?_); (try simp only [NB])) | ((repeat ((fail_if_success (refine hK _ ?_)); clear hK K)); refine hK _ ?_; clear hK K) | ((first | refine aops_k fun K1 hK1 => ?_ | refine aqops_k fun K1 hK1 => ?_ | refine awp_cond_k fun A B hA hB => ?_); simp only [S1, simprocAttr, TTNeL, endI, k2, List.length_map]; first | (refine hK1 _ ?_; clear hK1 K1) | ((first | refine hA ?_ | refine hB ?_); clear hA hB A B) | (refine join_x (v := ?_) (fun hg hk9 => ?_) ?_; rotate_left; (focus (try ((try simp only [BN] at hg); simp only [S1, simprocAttr, TTNeL, endI, k2, List.length_map, hg] at hk9 ⊢)); first | exact hk9); (refine hK1 _ ?_; clear hK1 K1)) | (((first | (refine ⟨fun hg => hA ?_, fun hg => hB ?_⟩ <;> clear hA hB A B) | refine ⟨fun hg => ?_, fun hg => ?_⟩) <;> (try simp only [BN2] at hg) <;> (try simp only [hg, cond_true, cond_false])) <;> (try (refine hK1 _ ?_; clear hK1 K1)) <;> (try simp only [BN3] at hg))) | (refine awp_seq_k fun K hK => ?_) | ((first | refine awp_region ?_ | refine awp_draw (by kernel_rfl) ?_ | refine awp_block ?_ | refine awp_exit ?_ | refine awp_skip ?_ | refine awp_ret ?_); (try simp only [NB, simprocAttr])))
      all_goals simp only [EndP, FinP, resA, resL, resA1, lastV, lastA, lastAs, pur, purs, take_app, List.take_length, S1, simprocAttr, TTNeL, Nat.le_add_right, Nat.le_refl]
      all_goals simp [e0, k2]
      all_goals (rw [Bool.eq_iff_iff]; simp only [Bool.or_eq_true, Bool.and_eq_true, beq_iff_eq, decide_eq_true_eq]; omega)
    by_cases k5 : kd.kind = 5
    · repeat' (first | ((first | refine aops_nil ?_ | refine aqops_nil ?_); (try simp only [NB])) | ((repeat ((fail_if_success (refine hK _ ?_)); clear hK K)); refine hK _ ?_; clear hK K) | ((first | refine aops_k fun K1 hK1 => ?_ | refine aqops_k fun K1 hK1 => ?_ | refine awp_cond_k fun A B hA hB => ?_); simp only [S1, simprocAttr, TTNeL, endI, k5, List.length_map]; first | (refine hK1 _ ?_; clear hK1 K1) | ((first | refine hA ?_ | refine hB ?_); clear hA hB A B) | (refine join_x (v := ?_) (fun hg hk9 => ?_) ?_; rotate_left; (focus (try ((try simp only [BN] at hg); simp only [S1, simprocAttr, TTNeL, endI, k5, List.length_map, hg] at hk9 ⊢)); first | exact hk9); (refine hK1 _ ?_; clear hK1 K1)) | (((first | (refine ⟨fun hg => hA ?_, fun hg => hB ?_⟩ <;> clear hA hB A B) | refine ⟨fun hg => ?_, fun hg => ?_⟩) <;> (try simp only [BN2] at hg) <;> (try simp only [hg, cond_true, cond_false])) <;> (try (refine hK1 _ ?_; clear hK1 K1)) <;> (try simp only [BN3] at hg))) | (refine awp_seq_k fun K hK => ?_) | ((first | refine awp_region ?_ | refine awp_draw (by kernel_rfl) ?_ | refine awp_block ?_ | refine awp_exit ?_ | refine awp_skip ?_ | refine awp_ret ?_); (try simp only [NB, simprocAttr])))
      all_goals simp only [EndP, FinP, resA, resL, resA1, lastV, lastA, lastAs, pur, purs, take_app, List.take_length, S1, simprocAttr, TTNeL, Nat.le_add_right, Nat.le_refl]
      all_goals simp [e0, k5]
      all_goals (rw [Bool.eq_iff_iff]; simp only [Bool.or_eq_true, Bool.and_eq_true, beq_iff_eq, decide_eq_true_eq]; omega)
    by_cases k6 : kd.kind = 6
    · repeat' (first | ((first | refine aops_nil ?_ | refine aqops_nil ?_); (try simp only [NB])) | ((repeat ((fail_if_success (refine hK _ ?_)); clear hK K)); refine hK _ ?_; clear hK K) | ((first | refine aops_k fun K1 hK1 => ?_ | refine aqops_k fun K1 hK1 => ?_ | refine awp_cond_k fun A B hA hB => ?_); simp only [S1, simprocAttr, TTNeL, endI, k6, List.length_map]; first | (refine hK1 _ ?_; clear hK1 K1) | ((first | refine hA ?_ | refine hB ?_); clear hA hB A B) | (refine join_x (v := ?_) (fun hg hk9 => ?_) ?_; rotate_left; (focus (try ((try simp only [BN] at hg); simp only [S1, simprocAttr, TTNeL, endI, k6, List.length_map, hg] at hk9 ⊢)); first | exact hk9); (refine hK1 _ ?_; clear hK1 K1)) | (((first | (refine ⟨fun hg => hA ?_, fun hg => hB ?_⟩ <;> clear hA hB A B) | refine ⟨fun hg => ?_, fun hg => ?_⟩) <;> (try simp only [BN2] at hg) <;> (try simp only [hg, cond_true, cond_false])) <;> (try (refine hK1 _ ?_; clear hK1 K1)) <;> (try simp only [BN3] at hg))) | (refine awp_seq_k fun K hK => ?_) | ((first | refine awp_region ?_ | refine awp_draw (by kernel_rfl) ?_ | refine awp_block ?_ | refine awp_exit ?_ | refine awp_skip ?_ | refine awp_ret ?_); (try simp only [NB, simprocAttr])))
      all_goals simp only [EndP, FinP, resA, resL, resA1, lastV, lastA, lastAs, pur, purs, take_app, List.take_length, S1, simprocAttr, TTNeL, Nat.le_add_right, Nat.le_refl]
      all_goals simp [e0, k6]
      all_goals (rw [Bool.eq_iff_iff]; simp only [Bool.or_eq_true, Bool.and_eq_true, beq_iff_eq, decide_eq_true_eq]; omega)
    by_cases k7 : kd.kind = 7
    · repeat' (first | ((first | refine aops_nil ?_ | refine aqops_nil ?_); (try simp only [NB])) | ((repeat ((fail_if_success (refine hK _ ?_)); clear hK K)); refine hK _ ?_; clear hK K) | ((first | refine aops_k fun K1 hK1 => ?_ | refine aqops_k fun K1 hK1 => ?_ | refine awp_cond_k fun A B hA hB => ?_); simp only [S1, simprocAttr, TTNeL, endI, k7, List.length_map]; first | (refine hK1 _ ?_; clear hK1 K1) | ((first | refine hA ?_ | refine hB ?_); clear hA hB A B) | (refine join_x (v := ?_) (fun hg hk9 => ?_) ?_; rotate_left; (focus (try ((try simp only [BN] at hg); simp only [S1, simprocAttr, TTNeL, endI, k7, List.length_map, hg] at hk9 ⊢)); first | exact hk9); (refine hK1 _ ?_; clear hK1 K1)) | (((first | (refine ⟨fun hg => hA ?_, fun hg => hB ?_⟩ <;> clear hA hB A B) | refine ⟨fun hg => ?_, fun hg => ?_⟩) <;> (try simp only [BN2] at hg) <;> (try simp only [hg, cond_true, cond_false])) <;> (try (refine hK1 _ ?_; clear hK1 K1)) <;> (try simp only [BN3] at hg))) | (refine awp_seq_k fun K hK => ?_) | ((first | refine awp_region ?_ | refine awp_draw (by kernel_rfl) ?_ | refine awp_block ?_ | refine awp_exit ?_ | refine awp_skip ?_ | refine awp_ret ?_); (try simp only [NB, simprocAttr])))
      all_goals simp only [EndP, FinP, resA, resL, resA1, lastV, lastA, lastAs, pur, purs, take_app, List.take_length, S1, simprocAttr, TTNeL, Nat.le_add_right, Nat.le_refl]
      all_goals simp [e0, k7]
      all_goals (rw [Bool.eq_iff_iff]; simp only [Bool.or_eq_true, Bool.and_eq_true, beq_iff_eq, decide_eq_true_eq]; omega)
    · have f1 : (kd.kind == 1) = false := by simp [k1]
      have f2 : (kd.kind == 2) = false := by simp [k2]
      have f5 : (kd.kind == 5) = false := by simp [k5]
      have f6 : (kd.kind == 6) = false := by simp [k6]
      have f7 : (kd.kind == 7) = false := by simp [k7]
      repeat' (first | ((first | refine aops_nil ?_ | refine aqops_nil ?_); (try simp only [NB])) | ((repeat ((fail_if_success (refine hK _ ?_)); clear hK K)); refine hK _ ?_; clear hK K) | ((first | refine aops_k fun K1 hK1 => ?_ | refine aqops_k fun K1 hK1 => ?_ | refine awp_cond_k fun A B hA hB => ?_); simp only [S1, simprocAttr, TTNeL, endI, f1, f2, f5, f6, f7, List.length_map]; first | (refine hK1 _ ?_; clear hK1 K1) | ((first | refine hA ?_ | refine hB ?_); clear hA hB A B) | (refine join_x (v := ?_) (fun hg hk9 => ?_) ?_; rotate_left; (focus (try ((try simp only [BN] at hg); simp only [S1, simprocAttr, TTNeL, endI, f1, f2, f5, f6, f7, List.length_map, hg] at hk9 ⊢)); first | exact hk9); (refine hK1 _ ?_; clear hK1 K1)) | (((first | (refine ⟨fun hg => hA ?_, fun hg => hB ?_⟩ <;> clear hA hB A B) | refine ⟨fun hg => ?_, fun hg => ?_⟩) <;> (try simp only [BN2] at hg) <;> (try simp only [hg, cond_true, cond_false])) <;> (try (refine hK1 _ ?_; clear hK1 K1)) <;> (try simp only [BN3] at hg))) | (refine awp_seq_k fun K hK => ?_) | ((first | refine awp_region ?_ | refine awp_draw (by kernel_rfl) ?_ | refine awp_block ?_ | refine awp_exit ?_ | refine awp_skip ?_ | refine awp_ret ?_); (try simp only [NB, simprocAttr])))
      all_goals simp only [EndP, FinP, resA, resL, resA1, lastV, lastA, lastAs, pur, purs, take_app, List.take_length, S1, simprocAttr, TTNeL, Nat.le_add_right, Nat.le_refl]
      all_goals simp [e0, k1, k2, k5, k6, k7]
      all_goals (rw [Bool.eq_iff_iff]; simp only [Bool.or_eq_true, Bool.and_eq_true, beq_iff_eq, decide_eq_true_eq]; omega)
end Go.Proofs.YtjpphhcimpclpaaDoor.AM
end

section
set_option linter.unusedVariables false
set_option linter.unusedSimpArgs false
namespace Go.Proofs.YtjpphhcimpclpaaDoor.AM
open Go

/-- Heaps that differ in what stands in blocks alone. -/
def Alike (h h' : Heap) : Prop := h'.length = h.length ∧ ∀ (b : Nat) (bk' : Blk), h'[b]? = some (some bk') → ∃ bk : Blk, h[b]? = some (some bk) ∧ bk.g = bk'.g ∧ (bk.cells = [] ↔ bk'.cells = [])

theorem own_alike {ι : Nat → Nat × Nat} {h h' : Heap} (ha : Alike h h') {k : Nat} (ho : own ι h' k) : own ι h k := by
  obtain ⟨b, bk', q1, q2, q3⟩ := ho
  obtain ⟨bk, p1, p2, p3⟩ := ha.2 b bk' q1
  exact ⟨b, bk, p1, fun e => q2 (p3.mp e), q3⟩

theorem VRel.alike {ι : Nat → Nat × Nat} {h h' : Heap} {w : World} {x : AV} {v : Value} (ha : Alike h h') (hx : VRel ι h w x v) : VRel ι h' w x v := by
  have lv : ∀ b g : Nat, liveAt h' b g → liveAt h b g := by
    rintro b g ⟨bk', q1, q2⟩
    obtain ⟨bk, p1, p2, p3⟩ := ha.2 b bk' q1
    exact ⟨bk, p1, by omega⟩
  have gg : ∀ b g : Nat, (∀ bk : Blk, h[b]? = some (some bk) → g ≤ bk.g) → ∀ bk : Blk, h'[b]? = some (some bk) → g ≤ bk.g := by
    intro b g hg bk' q1
    obtain ⟨bk, p1, p2, p3⟩ := ha.2 b bk' q1
    have := hg bk p1; omega
  have oo : ∀ k, k < w.heap.size → ¬ own ι h k → w.heap[k]? = w.heap[k]? ∧ ¬ own ι h' k := fun k _ ho => ⟨rfl, fun e => ho (own_alike ha e)⟩
  induction hx with
  | p x v hx => exact .p _ _ (hx.mono (Nat.le_refl _) oo)
  | agg cells vs hl hv ih => exact .agg _ _ hl ih
  | tup cells vs hl hv ih => exact .tup _ _ hl ih
  | fn f cells vs hl hv ih => exact .fn _ _ _ hl ih
  | ref b g off sz len A c hn hb hg hv =>
    refine .ref _ _ _ _ _ _ _ hn (by rw [ha.1]; exact hb) (gg b g hg) fun hl => ?_
    rcases hv (lv b g hl) with hz | ⟨hA, hle, ⟨bk0, q0, hne⟩, hcs⟩
    · exact .inl hz
    · obtain ⟨bk', q1, q2⟩ := hl
      obtain ⟨bk, p1, p2, p3⟩ := ha.2 b bk' q1
      rw [p1] at q0
      obtain rfl := Option.some.inj (Option.some.inj q0)
      exact .inr ⟨hA, hle, ⟨bk', q1, fun e => hne (p3.mpr e)⟩, hcs⟩
  | ptr b g off A hb hg hv => exact .ptr _ _ _ _ (by rw [ha.1]; exact hb) (gg b g hg) fun hl => hv (lv b g hl)
  | pin cells blk off hv => exact .pin _ _ _ (hv.mono (Nat.le_refl _) oo)

section
variable {P : Program} {G : Nat → Option (List PV)} {h0 : Heap} {s : St}

theorem alike_set {h : Heap} {b j : Nat} {bk : Blk} {x' : AV} (hb : h[b]? = some (some bk)) : Alike h (h.set b (some ⟨bk.g, bk.cells.set j x'⟩)) := by
  refine ⟨by simp, fun c bk' hc => ?_⟩
  rw [List.getElem?_set] at hc
  split at hc
  · rename_i e; subst e
    split at hc
    · obtain rfl := Option.some.inj (Option.some.inj hc)
      exact ⟨bk, hb, rfl, by simp only [← List.length_eq_zero_iff, List.length_set]⟩
    · cases hc
  · exact ⟨bk', hc, rfl, Iff.rfl⟩

/-- A cell of a block is told otherwise. -/
theorem Ghost.cell {b j : Nat} {bk : Blk} {x x' : AV} (hb : s.heap[b]? = some (some bk)) (hx : bk.cells[j]? = some x) (hv : ∀ ι w v, VRel ι s.heap w x v → VRel ι s.heap w x' v) (hbl : h0.length ≤ b) :
    Ghost P G h0 s ⟨s.fr, s.nt, s.heap.set b (some ⟨bk.g, bk.cells.set j x'⟩)⟩ := by
  intro ι a w ι0 w0 hS hs he
  have ha := alike_set (j := j) (x' := x') hb
  have hlo : ∀ (c : Nat) (bk' : Blk), (s.heap.set b (some ⟨bk.g, bk.cells.set j x'⟩))[c]? = some (some bk') → (c = b ∧ bk' = ⟨bk.g, bk.cells.set j x'⟩) ∨ s.heap[c]? = some (some bk') := by
    intro c bk' hc
    rw [List.getElem?_set] at hc
    split at hc
    · rename_i e
      split at hc
      · exact .inl ⟨e.symm, (Option.some.inj (Option.some.inj hc)).symm⟩
      · cases hc
    · exact .inr hc
  have oo : ∀ k, k < w.heap.size → ¬ own ι s.heap k → w.heap[k]? = w.heap[k]? ∧ ¬ own ι (s.heap.set b (some ⟨bk.g, bk.cells.set j x'⟩)) k := fun k _ ho => ⟨rfl, fun e => ho (own_alike ha e)⟩
  refine ⟨ι, ⟨⟨⟨fun c bk' hc hne => ?_, fun c c' k k' q1 q2 n1 n2 e => ?_⟩, fun g cells hg => (hs.hS.gr g cells hg).mono (Nat.le_refl _) oo⟩, fun k y hy => ?_, hs.nt, hs.df⟩, ?_⟩
  · rcases hlo c bk' hc with ⟨rfl, rfl⟩ | hc
    · have hne' : bk.cells ≠ [] := by
        intro e
        rw [e] at hx; simp at hx
      obtain ⟨cs, ty, p1, p2, p3⟩ := hs.hS.hr.blk c bk hb hne'
      refine ⟨cs, ty, p1, by simpa using p2, fun i y hy => ?_⟩
      simp only [List.getElem?_set] at hy
      split at hy
      · rename_i e; subst e
        split at hy
        · cases hy
          obtain ⟨v, r1, r2⟩ := p3 j x hx
          exact ⟨v, r1, (hv ι w v r2).alike ha⟩
        · cases hy
      · obtain ⟨v, r1, r2⟩ := p3 i y hy
        exact ⟨v, r1, r2.alike ha⟩
    · obtain ⟨cs, ty, p1, p2, p3⟩ := hs.hS.hr.blk c bk' hc hne
      exact ⟨cs, ty, p1, p2, fun i y hy => by obtain ⟨v, r1, r2⟩ := p3 i y hy; exact ⟨v, r1, r2.alike ha⟩⟩
  · obtain ⟨k0, p1, p2, p3⟩ := ha.2 c k q1
    obtain ⟨k1, r1, r2, r3⟩ := ha.2 c' k' q2
    exact hs.hS.hr.inj c c' k0 k1 p1 r1 (fun e => n1 (p3.mp e)) (fun e => n2 (r3.mp e)) e
  · obtain ⟨v, p1, p2⟩ := hs.fr k y hy
    exact ⟨v, p1, p2.alike ha⟩
  · refine ⟨he.size, fun k hk ho => ⟨(he.keep k hk ho).1, fun e => (he.keep k hk ho).2 (own_alike ha e)⟩, by rw [ha.1]; exact he.len, fun c bk' hc hq => ?_, he.os, he.output, he.tape⟩
    rcases hlo c bk' hq with ⟨rfl, _⟩ | hq
    · omega
    · exact he.gens c bk' hc hq

/-- A nil slice in a cell is told as a block of ours that is still empty. -/
theorem Ghost.adoptCell {b j : Nat} {bk : Blk} (sz : Nat) (hb : s.heap[b]? = some (some bk)) (hx : bk.cells[j]? = some (.p .nils)) (hbl : h0.length ≤ b) :
    Ghost P G h0 s ⟨s.fr, s.nt, (s.heap ++ [some ⟨0, []⟩] : Heap).set b (some ⟨bk.g, bk.cells.set j (.ref s.heap.length 0 0 sz 0)⟩)⟩ := by
  have hlt : b < s.heap.length := getElem?_lt hb
  refine (Ghost.lay (s := s)).trans (Ghost.cell (s := (⟨s.fr, s.nt, s.heap ++ [some ⟨0, []⟩]⟩ : St)) (b := b) (j := j) (bk := bk) (by rw [List.getElem?_append_left hlt]; exact hb) hx (fun ι w v hv => ?_) hbl)
  have := hv.nils_inv; subst this
  exact VRel.ref _ _ _ _ _ none 0 (by omega) (by simp) (fun bk hq => Nat.zero_le _) fun _ => Or.inl ⟨rfl, rfl⟩
end

/-! ### Rows -/

def flatE {α : Type} (e : α → List PV) (l : List α) : List PV := l.flatMap e

theorem flatE_len {α : Type} {e : α → List PV} {sz : Nat} (he : ∀ a, (e a).length = sz) : ∀ l : List α, (flatE e l).length = l.length * sz
  | [] => by simp [flatE]
  | x :: r => by
    have := flatE_len he r
    unfold flatE at this ⊢
    rw [List.flatMap_cons, List.length_append, this, he, List.length_cons, Nat.add_mul]; omega
theorem flatE_app {α : Type} (e : α → List PV) (l : List α) (a : α) : flatE e (l ++ [a]) = flatE e l ++ e a := by
  unfold flatE; rw [List.flatMap_append]; simp
theorem chunk_rowsE {α : Type} {e : α → List PV} {sz : Nat} (he : ∀ a, (e a).length = sz) : ∀ l : List α, chunk sz l.length (flatE e l) = l.map e
  | [] => rfl
  | x :: r => by
    have := chunk_rowsE he r
    have e1 : flatE e (x :: r) = e x ++ flatE e r := rfl
    rw [List.length_cons, chunk, e1, List.take_left' (he x), List.drop_left' (he x), this]; rfl
theorem purs_p (h : Heap) (n fuel : Nat) : ∀ l : List PV, (∀ x ∈ l, x ≠ .nils) → purs h n fuel (l.map AV.p) = some l
  | [], _ => by unfold purs; rfl
  | x :: r, hx => by
    have ih := purs_p h n fuel r fun y hy => hx y (by simp [hy])
    have h0 := hx x (by simp)
    simp only [List.map_cons]
    unfold purs
    rw [ih]
    have : pur h n fuel (AV.p x) = some x := by
      cases x with
      | nils => exact absurd rfl h0
      | _ => unfold pur; rfl
    rw [this]
theorem avlts_p (m : Nat) (l : List PV) : avlts m (l.map AV.p) := by
  induction l with
  | nil => trivial
  | cons x r ih => exact ⟨trivial, ih⟩

theorem pur_rows {α : Type} {e : α → List PV} {sz : Nat} (he : ∀ a, (e a).length = sz) (hz : ∀ a, ∀ x ∈ e a, x ≠ .nils) {h : Heap} {n fuel b g m : Nat} {l : List α} (hm : m = l.length) (hb : blkAt h b g = some ((flatE e l).map AV.p)) (hn : n ≤ b) :
    pur h n (fuel + 1) (.ref b g 0 sz m) = some (.sl (l.map e)) := by
  subst hm
  unfold pur
  by_cases h0 : l.length = 0
  · rw [if_pos h0]; have := List.eq_nil_of_length_eq_zero h0; subst this; rfl
  · rw [if_neg h0, hb]
    simp only [hn, true_and, Nat.zero_add, List.length_map, flatE_len he, Nat.le_refl, if_true, List.drop_zero]
    rw [List.take_of_length_le (by rw [List.length_map, flatE_len he]; exact Nat.le_refl _), purs_p _ _ _ _ (fun x hx => by
      unfold flatE at hx
      obtain ⟨a, _, ha⟩ := List.mem_flatMap.mp hx
      exact hz a x ha)]
    simp only [Option.map_some, chunk_rowsE he]

theorem EndP_rows {α : Type} {e : α → List PV} {sz : Nat} (he : ∀ a, (e a).length = sz) (hz : ∀ a, ∀ x ∈ e a, x ≠ .nils) {P : Program} {h : Heap} {K : AV → Prop} {x : Exit} {s : St} (hx : x = .normal ∨ x = .ret) {t b g m : Nat} {l : List α} (hm : m = l.length) (hf : s.fr t = some (.ref b g 0 sz m))
    (hb : blkAt s.heap b g = some ((flatE e l).map AV.p)) (hn : h.length ≤ b) (ht : s.heap.take h.length = h) (hle : h.length ≤ s.heap.length) (hk : K (.p (.sl (l.map e)))) : EndP P [.tmp t] h K x s := by
  have key : FinP P [.tmp t] h K s := by
    unfold FinP
    simp only [resA, resL, resA1, hf, lastV, lastA, pur_rows he hz hm hb hn, Option.map_some]
    exact ⟨ht, hle, hk⟩
  rcases hx with rfl | rfl <;> exact key

theorem EndP_rows2 {α : Type} {e : α → List PV} {sz : Nat} (he : ∀ a, (e a).length = sz) (hz : ∀ a, ∀ x ∈ e a, x ≠ .nils) {P : Program} {h : Heap} {K : AV → Prop} {x : Exit} {s : St} (hx : x = .normal ∨ x = .ret) {t t2 b g m : Nat} {l : List α} {y : Int} (hm : m = l.length) (hf : s.fr t = some (.ref b g 0 sz m)) (hf2 : s.fr t2 = some (.i y))
    (hb : blkAt s.heap b g = some ((flatE e l).map AV.p)) (hn : h.length ≤ b) (ht : s.heap.take h.length = h) (hle : h.length ≤ s.heap.length) (hk : K (.tup [.p (.sl (l.map e)), .i y])) : EndP P [.tmp t, .tmp t2] h K x s := by
  have key : FinP P [.tmp t, .tmp t2] h K s := by
    unfold FinP
    simp only [resA, resL, resA1, hf, hf2, lastV, lastAs, lastA, pur_rows he hz hm hb hn, pur, Option.map_some]
    exact ⟨ht, hle, hk⟩
  rcases hx with rfl | rfl <;> exact key

theorem FinK_tmp {P : Program} {h : Heap} {K : AV → Heap → Prop} {s : St} {t : Nat} {v : AV} (hf : s.fr t = some v) (hl : h.length ≤ s.heap.length) (hk : K v s.heap) : FinK P [.tmp t] h K s := by
  unfold FinK
  refine ⟨hl, ?_⟩
  simp only [resA, resL, resA1, hf]
  exact hk
theorem FinK_none {P : Program} {h : Heap} {K : AV → Heap → Prop} {s : St} (hl : h.length ≤ s.heap.length) (hk : K .undef s.heap) : FinK P [] h K s := by
  unfold FinK
  refine ⟨hl, ?_⟩
  simp only [resA, resL, resA1]
  exact hk
end Go.Proofs.YtjpphhcimpclpaaDoor.AM
end

section
set_option linter.unusedVariables false
set_option linter.unusedSimpArgs false
set_option maxRecDepth 4000
set_option maxHeartbeats 4000000
namespace Go.Proofs.YtjpphhcimpclpaaDoor.AM
open Go Go.Proofs
set_option linter.defProp false in
def TTNeO := And.intro T2 (And.intro T3 (And.intro T4 (And.intro T22 (And.intro T23 (And.intro T25 (And.intro T40 (And.intro T56 (And.intro T58 (And.intro T60 (And.intro T71 (And.intro T89 (And.intro T100 (And.intro T103 T122)))))))))))))
attribute [local irreducible] awp aops aqops aeops arun
variable {G : Nat → Option (List PV)}

def eQ (q : Int × Int) : List PV := [.int .i64 q.1, .int .i64 q.2]
abbrev aQ (l : List (Int × Int)) : AV := .p (.sl (l.map eQ))
def flatQ (l : List (Int × Int)) : List Int := l.flatMap fun q => [q.1, q.2]

theorem flatQ_len : ∀ l : List (Int × Int), (flatQ l).length = l.length * 2
  | [] => rfl
  | x :: r => by
    have := flatQ_len r
    unfold flatQ at this ⊢
    rw [List.flatMap_cons, List.length_append, this, List.length_cons]; simp only [List.length_cons, List.length_nil]; omega
theorem flatQ_app (l : List (Int × Int)) (a b : Int) : flatQ (l ++ [(a, b)]) = flatQ l ++ [a, b] := by
  unfold flatQ; rw [List.flatMap_append]; rfl

theorem chunk_pairs : ∀ l : List (Int × Int), chunk 2 l.length ((flatQ l).map (PV.int .i64)) = l.map eQ
  | [] => rfl
  | x :: r => by
    have := chunk_pairs r
    show chunk 2 (r.length + 1) ((flatQ (x :: r)).map (PV.int .i64)) = eQ x :: r.map eQ
    have e : flatQ (x :: r) = x.1 :: x.2 :: flatQ r := rfl
    rw [e, ← this]
    rfl

theorem pur_pairs {h : Heap} {n fuel b g m : Nat} {l : List (Int × Int)} (hm : m = l.length) (hb : blkAt h b g = some ((flatQ l).map AV.i)) (hn : n ≤ b) : pur h n (fuel + 1) (.ref b g 0 2 m) = some (.sl (l.map eQ)) := by
  subst hm
  unfold pur
  by_cases h0 : l.length = 0
  · rw [if_pos h0]; have := List.eq_nil_of_length_eq_zero h0; subst this; rfl
  · rw [if_neg h0, hb]
    simp only [hn, true_and, Nat.zero_add, List.length_map, flatQ_len, Nat.le_refl, if_true, List.drop_zero]
    rw [List.take_of_length_le (by rw [List.length_map, flatQ_len]; exact Nat.le_refl _), purs_ints]
    simp only [Option.map_some, chunk_pairs]

/-- All numbers below one at which something is wrong. -/
def plF (rule : Int) (p : Nat → Bool) (n : Nat) : List (Int × Int) := ((List.range n).filter p).map fun (i : Nat) => (rule, (i : Int))

theorem plF_succ (rule : Int) (p : Nat → Bool) (n : Nat) : plF rule p (n + 1) = plF rule p n ++ (if p n = true then [(rule, (n : Int))] else []) := by
  unfold plF
  rw [List.range_succ, List.filter_append, List.map_append]
  congr 1
  cases h : p n <;> simp [h]
theorem plF_le (rule : Int) (p : Nat → Bool) (n : Nat) : (plF rule p n).length ≤ n := by
  unfold plF
  rw [List.length_map]
  exact Nat.le_trans (List.length_filter_le _ _) (by simp)
theorem plF_head (rule : Int) (p : Nat → Bool) (n : Nat) : (plF rule p n).head? = ((List.range n).find? p).map fun (i : Nat) => (rule, (i : Int)) := by
  unfold plF
  rw [List.head?_map, List.head?_filter]

theorem nextK {n i : Nat} (hk : n ≤ 1000) (h : i < n) : IntKind.i64.wrap ((i : Int) + 1) = ((i + 1 : Nat) : Int) := by rw [IntWalk.i64_in _ (by omega)]; omega
theorem hitK {n i : Nat} (h : i < n) : decide ((i : Int) < (n : Int)) = true := by simp; omega
theorem endK {n : Nat} : decide ((n : Int) < (n : Int)) = false := by simp

theorem places_calls {f : FuncId} (hE : Enters Tryd.prog f) {caps : List AV} {p : Nat → Bool} (rule : Int) (n : Nat) (hn : n ≤ 100) (h : Heap) (hcap : avlts h.length caps)
    (hc : ∀ L, ∀ i : Nat, i < n → ACalls Tryd.prog G f (.i i :: caps) (h ++ L) (fun r h' => r = .b (p i) ∧ h' = h ++ L)) :
    ACalls Tryd.prog G 55 [.i rule, .i n, .fn f caps] h (fun r h' => r = .ref h.length (plF rule p n).length 0 2 (plF rule p n).length ∧ h' = h ++ [some ⟨(plF rule p n).length, (flatQ (plF rule p n)).map AV.i⟩]) := by
  refine Sim.evoKeep (rl := []) mixed Tryd.func55 rfl (by rw [Tryd.ntmps55]; simp) ?_
  rw [Tryd.ntmps55]
  refine awp_seq_k fun K hK => ?_
  repeat' (first | ((first | refine aops_nil ?_ | refine aqops_nil ?_); (try simp only [NB]); ((repeat ((fail_if_success (refine hK _ ?_)); clear hK K)); refine hK _ ?_; clear hK K)) | ((first | refine aops_k fun K1 hK1 => ?_ | refine aqops_k fun K1 hK1 => ?_ | refine awp_cond_k fun A B hA hB => ?_); simp only [S1, simprocAttr, TTNeO]; first | (refine hK1 _ ?_; clear hK1 K1) | ((first | refine hA ?_ | refine hB ?_); clear hA hB A B) | (refine join_x (v := ?_) (fun hg hk9 => ?_) ?_; rotate_left; (focus (try ((try simp only [BN] at hg); simp only [S1, simprocAttr, TTNeO, hg] at hk9 ⊢)); first | exact hk9); (refine hK1 _ ?_; clear hK1 K1)) | (((first | (refine ⟨fun hg => hA ?_, fun hg => hB ?_⟩ <;> clear hA hB A B) | refine ⟨fun hg => ?_, fun hg => ?_⟩) <;> (try simp only [BN2] at hg) <;> (try simp only [hg, cond_true, cond_false])) <;> (try (refine hK1 _ ?_; clear hK1 K1)) <;> (try simp only [BN3] at hg))) | (fail) | ((first | refine awp_region ?_ | refine awp_draw (by kernel_rfl) ?_ | refine awp_block ?_ | refine awp_exit ?_ | refine awp_skip ?_ | refine awp_ret ?_); (try simp only [NB, simprocAttr]); (try ((repeat ((fail_if_success (refine hK _ ?_)); clear hK K)); refine hK _ ?_; clear hK K))))
  refine awp_seq_k fun K hK => ?_
  repeat' (first | ((first | refine aops_nil ?_ | refine aqops_nil ?_); (try simp only [NB]); ((repeat ((fail_if_success (refine hK _ ?_)); clear hK K)); refine hK _ ?_; clear hK K)) | ((first | refine aops_k fun K1 hK1 => ?_ | refine aqops_k fun K1 hK1 => ?_ | refine awp_cond_k fun A B hA hB => ?_); simp only [S1, simprocAttr, TTNeO]; first | (refine hK1 _ ?_; clear hK1 K1) | ((first | refine hA ?_ | refine hB ?_); clear hA hB A B) | (refine join_x (v := ?_) (fun hg hk9 => ?_) ?_; rotate_left; (focus (try ((try simp only [BN] at hg); simp only [S1, simprocAttr, TTNeO, hg] at hk9 ⊢)); first | exact hk9); (refine hK1 _ ?_; clear hK1 K1)) | (((first | (refine ⟨fun hg => hA ?_, fun hg => hB ?_⟩ <;> clear hA hB A B) | refine ⟨fun hg => ?_, fun hg => ?_⟩) <;> (try simp only [BN2] at hg) <;> (try simp only [hg, cond_true, cond_false])) <;> (try (refine hK1 _ ?_; clear hK1 K1)) <;> (try simp only [BN3] at hg))) | (fail) | ((first | refine awp_region ?_ | refine awp_draw (by kernel_rfl) ?_ | refine awp_block ?_ | refine awp_exit ?_ | refine awp_skip ?_ | refine awp_ret ?_); (try simp only [NB, simprocAttr]); (try ((repeat ((fail_if_success (refine hK _ ?_)); clear hK K)); refine hK _ ?_; clear hK K))))
  refine awp_seq_k fun K hK => ?_
  repeat' (first | ((first | refine aops_nil ?_ | refine aqops_nil ?_); (try simp only [NB])) | ((repeat ((fail_if_success (refine hK _ ?_)); clear hK K)); refine hK _ ?_; clear hK K) | ((first | refine aops_k fun K1 hK1 => ?_ | refine aqops_k fun K1 hK1 => ?_ | refine awp_cond_k fun A B hA hB => ?_); simp only [S1, simprocAttr, TTNeO]; first | (refine hK1 _ ?_; clear hK1 K1) | ((first | refine hA ?_ | refine hB ?_); clear hA hB A B) | (refine join_x (v := ?_) (fun hg hk9 => ?_) ?_; rotate_left; (focus (try ((try simp only [BN] at hg); simp only [S1, simprocAttr, TTNeO, hg] at hk9 ⊢)); first | exact hk9); (refine hK1 _ ?_; clear hK1 K1)) | (((first | (refine ⟨fun hg => hA ?_, fun hg => hB ?_⟩ <;> clear hA hB A B) | refine ⟨fun hg => ?_, fun hg => ?_⟩) <;> (try simp only [BN2] at hg) <;> (try simp only [hg, cond_true, cond_false])) <;> (try (refine hK1 _ ?_; clear hK1 K1)) <;> (try simp only [BN3] at hg))) | (refine awp_seq_k fun K hK => ?_) | ((first | refine awp_region ?_ | refine awp_draw (by kernel_rfl) ?_ | refine awp_block ?_ | refine awp_exit ?_ | refine awp_skip ?_ | refine awp_ret ?_); (try simp only [NB, simprocAttr])))
  have hcap1 := avlts_mono (Nat.le_add_right h.length 1) caps hcap
  refine awp_forG n 24 (fun j => [(10, .i j), (9, .i n), (7, .ref h.length (plF rule p j).length 0 2 (plF rule p j).length), (2, .fn f caps), (0, .i rule)])
    (fun j => [some ⟨(plF rule p j).length, (flatQ (plF rule p j)).map AV.i⟩]) (fun j => True) ?_ trivial fun j hj hp K hK => ?_
  · refine (Ghost.adopt 7 2 rfl).trans (Sub.ghost ⟨rfl, ⟨[], by simp [plF, flatQ]⟩, ?_, ?_⟩)
    · simp only [keeps, avlt, plF, upd_get, frL, List.length_cons, List.length_nil]
      simp
      exact hcap1
    · simp [blksLt, avlts, avlt, plF, flatQ]
  rcases Nat.lt_or_ge j n with hlt | hge
  · have hck := fun L => hc L j hlt
    have hle := plF_le rule p j
    have hmax : (plF rule p j).length + 1 ≤ maxCount := by unfold maxCount; omega
    have e1 := plF_succ rule p j
    cases hq : p j with
    | false =>
      rw [hq] at hck
      rw [hq, if_neg (by decide), List.append_nil] at e1
      repeat' (first | ((first | refine aops_nil ?_ | refine aqops_nil ?_); (try simp only [NB])) | ((repeat ((fail_if_success (refine hK _ ?_)); clear hK K)); refine hK _ ?_; clear hK K) | ((first | refine aops_k fun K1 hK1 => ?_ | refine aqops_k fun K1 hK1 => ?_ | refine awp_cond_k fun A B hA hB => ?_); simp only [S1, simprocAttr, TTNeO, hitK hlt, nextK (by omega : n ≤ 1000) hlt]; first | (refine hK1 _ ?_; clear hK1 K1) | ((first | refine hA ?_ | refine hB ?_); clear hA hB A B) | ((first | apply call_a hE | apply call_q hE); exact (hck _); (refine hK1 _ ?_; clear hK1 K1)) | (refine join_x (v := ?_) (fun hg hk9 => ?_) ?_; rotate_left; (focus (try ((try simp only [BN] at hg); simp only [S1, simprocAttr, TTNeO, hitK hlt, nextK (by omega : n ≤ 1000) hlt, hg] at hk9 ⊢)); first | exact hk9 | ((first | apply call_a hE | apply call_q hE); exact (hck _); exact hk9)); (refine hK1 _ ?_; clear hK1 K1)) | (((first | (refine ⟨fun hg => hA ?_, fun hg => hB ?_⟩ <;> clear hA hB A B) | refine ⟨fun hg => ?_, fun hg => ?_⟩) <;> (try simp only [BN2] at hg) <;> (try simp only [hg, cond_true, cond_false])) <;> (try (refine hK1 _ ?_; clear hK1 K1)) <;> (try simp only [BN3] at hg))) | (refine awp_seq_k fun K hK => ?_) | ((first | refine awp_region ?_ | refine awp_draw (by kernel_rfl) ?_ | refine awp_block ?_ | refine awp_exit ?_ | refine awp_skip ?_ | refine awp_ret ?_); (try simp only [NB, simprocAttr])))
      all_goals refine ⟨hlt, trivial, ?_⟩
      all_goals simp only [e1]
      all_goals refine ⟨rfl, ⟨_, rfl⟩, ?_, avlts_ints _ _, trivial⟩
      all_goals simp only [keeps, avlt, avlts, blksLt, frL, upd_get, S1, simprocAttr, List.length_map, Int.natCast_zero, AV.p.injEq, PV.int.injEq, PV.bool.injEq, PV.sl.injEq] <;> (try and_intros) <;> (try assumption) <;> (try trivial) <;> (try omega)
    | true =>
      rw [hq] at hck
      rw [hq, if_pos rfl] at e1
      repeat' (first | ((first | refine aops_nil ?_ | refine aqops_nil ?_); (try simp only [NB])) | ((repeat ((fail_if_success (refine hK _ ?_)); clear hK K)); refine hK _ ?_; clear hK K) | ((first | refine aops_k fun K1 hK1 => ?_ | refine aqops_k fun K1 hK1 => ?_ | refine awp_cond_k fun A B hA hB => ?_); simp only [S1, simprocAttr, TTNeO, hitK hlt, nextK (by omega : n ≤ 1000) hlt, flatQ_len, hmax, List.length_map, Nat.mul_one, Nat.zero_add]; first | (refine hK1 _ ?_; clear hK1 K1) | ((first | refine hA ?_ | refine hB ?_); clear hA hB A B) | ((first | apply call_a hE | apply call_q hE); exact (hck _); (refine hK1 _ ?_; clear hK1 K1)) | (refine join_x (v := ?_) (fun hg hk9 => ?_) ?_; rotate_left; (focus (try ((try simp only [BN] at hg); simp only [S1, simprocAttr, TTNeO, hitK hlt, nextK (by omega : n ≤ 1000) hlt, flatQ_len, hmax, List.length_map, Nat.mul_one, Nat.zero_add, hg] at hk9 ⊢)); first | exact hk9 | ((first | apply call_a hE | apply call_q hE); exact (hck _); exact hk9)); (refine hK1 _ ?_; clear hK1 K1)) | (((first | (refine ⟨fun hg => hA ?_, fun hg => hB ?_⟩ <;> clear hA hB A B) | refine ⟨fun hg => ?_, fun hg => ?_⟩) <;> (try simp only [BN2] at hg) <;> (try simp only [hg, cond_true, cond_false])) <;> (try (refine hK1 _ ?_; clear hK1 K1)) <;> (try simp only [BN3] at hg))) | (refine awp_seq_k fun K hK => ?_) | ((first | refine awp_region ?_ | refine awp_draw (by kernel_rfl) ?_ | refine awp_block ?_ | refine awp_exit ?_ | refine awp_skip ?_ | refine awp_ret ?_); (try simp only [NB, simprocAttr])))
      all_goals refine ⟨hlt, trivial, ?_⟩
      all_goals simp only [e1, flatQ_app, List.length_append, List.map_append, List.length_cons, List.length_nil, List.map_cons, List.map_nil, Nat.zero_add]
      all_goals refine ⟨rfl, ⟨_, rfl⟩, ?_, ?_⟩
      · simp only [keeps, avlt, avlts, blksLt, frL, upd_get, S1, simprocAttr, List.length_map, Int.natCast_zero, AV.p.injEq, PV.int.injEq, PV.bool.injEq, PV.sl.injEq] <;> (try and_intros) <;> (try assumption) <;> (try trivial) <;> (try omega)
      · simp only [blksLt]; exact ⟨(by have := avlts_ints (h.length + 1) (flatQ (plF rule p j) ++ [rule, (j : Int)]); simpa using this), trivial⟩
  · obtain rfl : j = n := by omega
    repeat' (first | ((first | refine aops_nil ?_ | refine aqops_nil ?_); (try simp only [NB])) | ((repeat ((fail_if_success (refine hK _ ?_)); clear hK K)); refine hK _ ?_; clear hK K) | ((first | refine aops_k fun K1 hK1 => ?_ | refine aqops_k fun K1 hK1 => ?_ | refine awp_cond_k fun A B hA hB => ?_); simp only [S1, simprocAttr, TTNeO, endK]; first | (refine hK1 _ ?_; clear hK1 K1) | ((first | refine hA ?_ | refine hB ?_); clear hA hB A B) | (refine join_x (v := ?_) (fun hg hk9 => ?_) ?_; rotate_left; (focus (try ((try simp only [BN] at hg); simp only [S1, simprocAttr, TTNeO, endK, hg] at hk9 ⊢)); first | exact hk9); (refine hK1 _ ?_; clear hK1 K1)) | (((first | (refine ⟨fun hg => hA ?_, fun hg => hB ?_⟩ <;> clear hA hB A B) | refine ⟨fun hg => ?_, fun hg => ?_⟩) <;> (try simp only [BN2] at hg) <;> (try simp only [hg, cond_true, cond_false])) <;> (try (refine hK1 _ ?_; clear hK1 K1)) <;> (try simp only [BN3] at hg))) | (refine awp_seq_k fun K hK => ?_) | ((first | refine awp_region ?_ | refine awp_draw (by kernel_rfl) ?_ | refine awp_block ?_ | refine awp_exit ?_ | refine awp_skip ?_ | refine awp_ret ?_); (try simp only [NB, simprocAttr])))
    exact ⟨.inr trivial, FinK_tmp (t := 6) rfl (by simp) ⟨rfl, rfl⟩⟩
end Go.Proofs.YtjpphhcimpclpaaDoor.AM
end

section
set_option linter.unusedVariables false
set_option linter.unusedSimpArgs false
set_option maxRecDepth 4000
set_option maxHeartbeats 4000000
namespace Go.Proofs.YtjpphhcimpclpaaDoor.AM
open Go Go.Proofs
set_option linter.defProp false in
def TTNeP := And.intro T2 (And.intro T3 (And.intro T4 (And.intro T22 (And.intro T23 (And.intro T25 (And.intro T40 (And.intro T56 (And.intro T58 (And.intro T60 (And.intro T71 (And.intro T89 (And.intro T100 (And.intro T103 T122)))))))))))))
attribute [local irreducible] awp aops aqops aeops arun
variable {G : Nat → Option (List PV)}

/-- A process whose terms are gone through. -/
structure NetOk (ns : List Nd) (fl : List Fl) : Prop where
  n : ns.length ≤ 100
  f : fl.length ≤ 100
  tn : ∃ m, m ≤ 200 ∧ ∀ k ∈ ns, Tm.Ok m k.term
  tf : ∃ m, m ≤ 200 ∧ ∀ k ∈ fl, Tm.Ok m k.cond

def bad1 (ns : List Nd) (i : Nat) : Bool := match ns[i]? with | some k => !(oneB k.kind k.a k.term) | none => false
def bad2 (ns : List Nd) (fl : List Fl) (i : Nat) : Bool := match fl[i]? with | some f => !(twoB ns fl f) | none => false
def bad3 (ns : List Nd) (fl : List Fl) (i : Nat) : Bool := (!(threeB ns fl i) || (kindAt ns i == 1 && ((i : Int) != firstN ns 1))) || (kindAt ns i == 2 && ((i : Int) != firstN ns 2))
noncomputable def bad4 (ns : List Nd) (fl : List Fl) (i : Nat) : Bool :=
  !((rchL (edgeB false fl) ns.length (firstN ns 1).toNat)[i]?.getD false) || !((rchL (edgeB true fl) ns.length (firstN ns 2).toNat)[i]?.getD false)

theorem all1_calls (ns : List Nd) (fl : List Fl) (ok : NetOk ns fl) (i : Nat) (hi : i < ns.length) (H : Heap) {b g : Nat} (hb : H[b]? = some (some ⟨g, cNet ns fl⟩)) : ACalls Tryd.prog gW 56 [.i i, .ptr b g 0] H (fun r h' => r = .b (bad1 ns i) ∧ h' = H) := by
  obtain ⟨k, hk⟩ : ∃ k, ns[i]? = some k := ⟨_, List.getElem?_eq_getElem hi⟩
  obtain ⟨m, hm, ht⟩ := ok.tn
  have hk' := rowN hk
  have i0 : (0 : Int) ≤ (i : Int) := by omega
  have e : bad1 ns i = !(oneB k.kind k.a k.term) := by unfold bad1; rw [hk]
  rw [e]
  refine acalls_pure (rl := []) mixed Tryd.func56 rfl (rs := [.tmp 3]) rfl Tryd.ntmps56 (by simp) ?_
  repeat' (first | ((first | refine aops_nil ?_ | refine aqops_nil ?_); (try simp only [NB])) | ((repeat ((fail_if_success (refine hK _ ?_)); clear hK K)); refine hK _ ?_; clear hK K) | ((first | refine aops_k fun K1 hK1 => ?_ | refine aqops_k fun K1 hK1 => ?_ | refine awp_cond_k fun A B hA hB => ?_); simp only [S1, simprocAttr, TTNeP, hb, app_get hb, i0, hk', eN, Int.toNat_natCast]; first | (refine hK1 _ ?_; clear hK1 K1) | ((first | refine hA ?_ | refine hB ?_); clear hA hB A B) | ((first | apply call_a E57 | apply call_q E57); exact (right_calls (ht k (List.mem_of_getElem? hk)) _ _ _); (refine hK1 _ ?_; clear hK1 K1)) | (((first | (refine ⟨fun hg => hA ?_, fun hg => hB ?_⟩ <;> clear hA hB A B) | refine ⟨fun hg => ?_, fun hg => ?_⟩) <;> (try simp only [BN2] at hg) <;> (try simp only [hg, cond_true, cond_false])) <;> (try (refine hK1 _ ?_; clear hK1 K1)) <;> (try simp only [BN3] at hg))) | (refine awp_seq_k fun K hK => ?_) | ((first | refine awp_region ?_ | refine awp_draw (by kernel_rfl) ?_ | refine awp_block ?_ | refine awp_exit ?_ | refine awp_skip ?_ | refine awp_ret ?_); (try simp only [NB, simprocAttr])))
  all_goals simp only [EndP, FinP, resA, resL, resA1, lastV, lastA, lastAs, pur, purs, take_app, List.take_length, S1, simprocAttr, TTNeP, Nat.le_add_right, Nat.le_refl]

theorem all2_calls (ns : List Nd) (fl : List Fl) (ok : NetOk ns fl) (i : Nat) (hi : i < fl.length) (H : Heap) {b g : Nat} (hb : H[b]? = some (some ⟨g, cNet ns fl⟩)) : ACalls Tryd.prog gW 58 [.i i, .ptr b g 0] H (fun r h' => r = .b (bad2 ns fl i) ∧ h' = H) := by
  obtain ⟨k, hk⟩ : ∃ k, fl[i]? = some k := ⟨_, List.getElem?_eq_getElem hi⟩
  obtain ⟨m, hm, ht⟩ := ok.tf
  have hk' := rowF hk
  have i0 : (0 : Int) ≤ (i : Int) := by omega
  have e : bad2 ns fl i = !(twoB ns fl k) := by unfold bad2; rw [hk]
  rw [e]
  refine acalls_pure (rl := []) mixed Tryd.func58 rfl (rs := [.tmp 3]) rfl Tryd.ntmps58 (by simp) ?_
  repeat' (first | ((first | refine aops_nil ?_ | refine aqops_nil ?_); (try simp only [NB])) | ((repeat ((fail_if_success (refine hK _ ?_)); clear hK K)); refine hK _ ?_; clear hK K) | ((first | refine aops_k fun K1 hK1 => ?_ | refine aqops_k fun K1 hK1 => ?_ | refine awp_cond_k fun A B hA hB => ?_); simp only [S1, simprocAttr, TTNeP, hb, app_get hb, i0, hk', eF, Int.toNat_natCast]; first | (refine hK1 _ ?_; clear hK1 K1) | ((first | refine hA ?_ | refine hB ?_); clear hA hB A B) | ((first | apply call_a E59 | apply call_q E59); exact (leads_calls ns ok.n fl ok.f k (ht k (List.mem_of_getElem? hk)) _); (refine hK1 _ ?_; clear hK1 K1)) | (((first | (refine ⟨fun hg => hA ?_, fun hg => hB ?_⟩ <;> clear hA hB A B) | refine ⟨fun hg => ?_, fun hg => ?_⟩) <;> (try simp only [BN2] at hg) <;> (try simp only [hg, cond_true, cond_false])) <;> (try (refine hK1 _ ?_; clear hK1 K1)) <;> (try simp only [BN3] at hg))) | (refine awp_seq_k fun K hK => ?_) | ((first | refine awp_region ?_ | refine awp_draw (by kernel_rfl) ?_ | refine awp_block ?_ | refine awp_exit ?_ | refine awp_skip ?_ | refine awp_ret ?_); (try simp only [NB, simprocAttr])))
  all_goals simp only [EndP, FinP, resA, resL, resA1, lastV, lastA, lastAs, pur, purs, take_app, List.take_length, S1, simprocAttr, TTNeP, Nat.le_add_right, Nat.le_refl]

theorem third1_calls (ns : List Nd) (fl : List Fl) (ok : NetOk ns fl) (hd : InN ns.length fl) (i : Nat) (hi : i < ns.length) (H : Heap) {b g b1 g1 b2 g2 : Nat} (hb : H[b]? = some (some ⟨g, cNet ns fl⟩)) (hb1 : H[b1]? = some (some ⟨g1, [.i (firstN ns 1)]⟩)) (hb2 : H[b2]? = some (some ⟨g2, [.i (firstN ns 2)]⟩)) :
    ACalls Tryd.prog G 85 [.i i, .ptr b g 0, .ptr b1 g1 0, .ptr b2 g2 0] H (fun r h' => r = .b (bad3 ns fl i) ∧ h' = H) := by
  obtain ⟨k, hk⟩ : ∃ k, ns[i]? = some k := ⟨_, List.getElem?_eq_getElem hi⟩
  have hk' := rowN hk
  have i0 : (0 : Int) ≤ (i : Int) := by omega
  have e : kindAt ns i = k.kind := by unfold kindAt; rw [Int.toNat_natCast, hk]
  unfold bad3
  rw [e]
  refine acalls_pure (rl := []) mixed Tryd.func85 rfl (rs := [.tmp 5]) rfl Tryd.ntmps85 (by simp) ?_
  repeat' (first | ((first | refine aops_nil ?_ | refine aqops_nil ?_); (try simp only [NB])) | ((repeat ((fail_if_success (refine hK _ ?_)); clear hK K)); refine hK _ ?_; clear hK K) | ((first | refine aops_k fun K1 hK1 => ?_ | refine aqops_k fun K1 hK1 => ?_ | refine awp_cond_k fun A B hA hB => ?_); simp only [S1, simprocAttr, TTNeP, hb, hb1, hb2, i0, hk', eN, Int.toNat_natCast]; first | (refine hK1 _ ?_; clear hK1 K1) | ((first | refine hA ?_ | refine hB ?_); clear hA hB A B) | ((first | apply call_a E86 | apply call_q E86); exact (linked_calls ns ok.n fl ok.f (fun f hf => (hd f hf).2) i i0 (by omega) _); (refine hK1 _ ?_; clear hK1 K1)) | (refine join_x (v := ?_) (fun hg hk9 => ?_) ?_; rotate_left; (focus (try ((try simp only [BN] at hg); simp only [S1, simprocAttr, TTNeP, hb, hb1, hb2, i0, hk', eN, Int.toNat_natCast, hg] at hk9 ⊢)); first | exact hk9 | ((first | apply call_a E86 | apply call_q E86); exact (linked_calls ns ok.n fl ok.f (fun f hf => (hd f hf).2) i i0 (by omega) _); exact hk9)); (refine hK1 _ ?_; clear hK1 K1)) | (((first | (refine ⟨fun hg => hA ?_, fun hg => hB ?_⟩ <;> clear hA hB A B) | refine ⟨fun hg => ?_, fun hg => ?_⟩) <;> (try simp only [BN2] at hg) <;> (try simp only [hg, cond_true, cond_false])) <;> (try (refine hK1 _ ?_; clear hK1 K1)) <;> (try simp only [BN3] at hg))) | (refine awp_seq_k fun K hK => ?_) | ((first | refine awp_region ?_ | refine awp_draw (by kernel_rfl) ?_ | refine awp_block ?_ | refine awp_exit ?_ | refine awp_skip ?_ | refine awp_ret ?_); (try simp only [NB, simprocAttr])))
  all_goals simp only [EndP, FinP, resA, resL, resA1, lastV, lastA, lastAs, pur, purs, take_app, List.take_length, S1, simprocAttr, TTNeP, Nat.le_add_right, Nat.le_refl]

theorem all3_calls (ns : List Nd) (fl : List Fl) (i : Nat) (hi : i < ns.length) (H : Heap) {b1 g1 b2 g2 : Nat} (hb1 : H[b1]? = some (some ⟨g1, [aBl (rchL (edgeB false fl) ns.length (firstN ns 1).toNat)]⟩)) (hb2 : H[b2]? = some (some ⟨g2, [aBl (rchL (edgeB true fl) ns.length (firstN ns 2).toNat)]⟩)) :
    ACalls Tryd.prog G 63 [.i i, .ptr b1 g1 0, .ptr b2 g2 0] H (fun r h' => r = .b (bad4 ns fl i) ∧ h' = H) := by
  have l1 := rchL_len (edgeB false fl) ns.length (firstN ns 1).toNat
  have l2 := rchL_len (edgeB true fl) ns.length (firstN ns 2).toNat
  have i0 : (0 : Int) ≤ (i : Int) := by omega
  unfold bad4
  generalize rchL (edgeB false fl) ns.length (firstN ns 1).toNat = a at *
  generalize rchL (edgeB true fl) ns.length (firstN ns 2).toNat = c at *
  obtain ⟨x, hx⟩ : ∃ x, a[i]? = some x := ⟨_, List.getElem?_eq_getElem (by omega)⟩
  obtain ⟨y, hy⟩ : ∃ x, c[i]? = some x := ⟨_, List.getElem?_eq_getElem (by omega)⟩
  have hx' : (a.map eB)[i]? = some [.bool x] := by simp [hx, eB]
  have hy' : (c.map eB)[i]? = some [.bool y] := by simp [hy, eB]
  rw [hx, hy]
  simp only [Option.getD_some]
  refine acalls_pure (rl := []) mixed Tryd.func63 rfl (rs := [.tmp 4]) rfl Tryd.ntmps63 (by simp) ?_
  repeat' (first | ((first | refine aops_nil ?_ | refine aqops_nil ?_); (try simp only [NB])) | ((repeat ((fail_if_success (refine hK _ ?_)); clear hK K)); refine hK _ ?_; clear hK K) | ((first | refine aops_k fun K1 hK1 => ?_ | refine aqops_k fun K1 hK1 => ?_ | refine awp_cond_k fun A B hA hB => ?_); simp only [S1, simprocAttr, TTNeP, hb1, hb2, i0, hx', hy', Int.toNat_natCast]; first | (refine hK1 _ ?_; clear hK1 K1) | ((first | refine hA ?_ | refine hB ?_); clear hA hB A B) | (refine join_x (v := ?_) (fun hg hk9 => ?_) ?_; rotate_left; (focus (try ((try simp only [BN] at hg); simp only [S1, simprocAttr, TTNeP, hb1, hb2, i0, hx', hy', Int.toNat_natCast, hg] at hk9 ⊢)); first | exact hk9); (refine hK1 _ ?_; clear hK1 K1)) | (((first | (refine ⟨fun hg => hA ?_, fun hg => hB ?_⟩ <;> clear hA hB A B) | refine ⟨fun hg => ?_, fun hg => ?_⟩) <;> (try simp only [BN2] at hg) <;> (try simp only [hg, cond_true, cond_false])) <;> (try (refine hK1 _ ?_; clear hK1 K1)) <;> (try simp only [BN3] at hg))) | (refine awp_seq_k fun K hK => ?_) | ((first | refine awp_region ?_ | refine awp_draw (by kernel_rfl) ?_ | refine awp_block ?_ | refine awp_exit ?_ | refine awp_skip ?_ | refine awp_ret ?_); (try simp only [NB, simprocAttr])))
  all_goals simp only [EndP, FinP, resA, resL, resA1, lastV, lastA, lastAs, pur, purs, take_app, List.take_length, S1, simprocAttr, TTNeP, Nat.le_add_right, Nat.le_refl]
end Go.Proofs.YtjpphhcimpclpaaDoor.AM
end

section
set_option linter.unusedVariables false
set_option linter.unusedSimpArgs false
set_option maxRecDepth 4000
set_option maxHeartbeats 4000000
namespace Go.Proofs.YtjpphhcimpclpaaDoor.AM
open Go Go.Proofs
set_option linter.defProp false in
def TTNeQ := And.intro T2 (And.intro T3 (And.intro T4 (And.intro T22 (And.intro T23 (And.intro T25 (And.intro T40 (And.intro T56 (And.intro T58 (And.intro T60 (And.intro T71 (And.intro T89 (And.intro T100 (And.intro T103 T122)))))))))))))
attribute [local irreducible] awp aops aqops aeops arun arunT
variable {G : Nat → Option (List PV)}

theorem EndP_pairs {P : Program} {h : Heap} {K : AV → Prop} {e : Exit} {s : St} (he : e = .normal ∨ e = .ret) {t b g m : Nat} {l : List (Int × Int)} (hm : m = l.length) (hf : s.fr t = some (.ref b g 0 2 m)) (hb : blkAt s.heap b g = some ((flatQ l).map AV.i)) (hn : h.length ≤ b)
    (ht : s.heap.take h.length = h) (hle : h.length ≤ s.heap.length) (hk : K (aQ l)) : EndP P [.tmp t] h K e s := by
  have key : FinP P [.tmp t] h K s := by
    unfold FinP
    simp only [resA, resL, resA1, hf, lastV, lastA, pur_pairs hm hb hn, Option.map_some]
    exact ⟨ht, hle, hk⟩
  rcases he with rfl | rfl <;> exact key

def noEnds (ns : List Nd) : Bool := decide (firstN ns 1 < 0) || decide (firstN ns 2 < 0)
def thirdN (ns : List Nd) (fl : List Fl) : List (Int × Int) := plF 3 (bad3 ns fl) ns.length ++ (if noEnds ns = true then [(3, (ns.length : Int))] else [])

theorem third_calls (ns : List Nd) (fl : List Fl) (ok : NetOk ns fl) (hd : InN ns.length fl) (h : Heap) : ACalls Tryd.prog G 60 [aNet ns fl] h (fun r h' => r = aQ (thirdN ns fl) ∧ h' = h) := by
  have hpl := places_calls (G := G) (f := 85) E85 (caps := [.ptr h.length 0 0, .ptr (h.length + 1) 1 0, .ptr (h.length + 2) 1 0]) (p := bad3 ns fl) 3 ns.length ok.n (h ++ [some ⟨0, cNet ns fl⟩, some ⟨1, [.i (firstN ns 1)]⟩, some ⟨1, [.i (firstN ns 2)]⟩]) (by simp [avlts, avlt])
    (fun L i hi => third1_calls ns fl ok hd i hi _ (b := h.length) (app_get (by simp [get_app0]) L) (app_get (by simp [get_app]) L) (app_get (by simp [get_app]) L))
  simp only [List.length_append, List.length_cons, List.length_nil, Nat.zero_add, Nat.reduceAdd, List.append_assoc, List.cons_append, List.nil_append] at hpl
  have hle := plF_le 3 (bad3 ns fl) ns.length
  have hn := ok.n
  have hmax : (plF 3 (bad3 ns fl) ns.length).length + 1 ≤ maxCount := by unfold maxCount; omega
  have a2 : h.length + 1 + 1 = h.length + 2 := rfl
  cases hne : noEnds ns with
  | false =>
    have e : thirdN ns fl = plF 3 (bad3 ns fl) ns.length := by unfold thirdN; rw [hne]; simp
    unfold noEnds at hne
    rw [e]
    refine acalls_pure (rl := []) mixed Tryd.func60 rfl (rs := [.tmp 2]) rfl Tryd.ntmps60 (by simp) ?_
    repeat' (first | ((first | refine aops_nil ?_ | refine aqops_nil ?_ | refine arun_nil ?_ | refine arunT_nil ?_); (try simp only [NB])) | ((repeat ((fail_if_success (refine hK _ ?_)); clear hK K)); refine hK _ ?_; clear hK K) | ((first | refine aops_k fun K1 hK1 => ?_ | refine aqops_k fun K1 hK1 => ?_ | refine arun_eff rfl rfl rfl fun K1 hK1 => ?_ | refine awp_cond_k fun A B hA hB => ?_); simp only [S1, simprocAttr, TTNeQ, List.length_map, hne, a2]; first | (refine hK1 _ ?_; clear hK1 K1) | ((first | refine hA ?_ | refine hB ?_); clear hA hB A B) | ((first | apply call_a E35 | apply call_q E35); exact (start_calls ns hn _ _); (refine hK1 _ ?_; clear hK1 K1)) | ((first | apply call_a E62 | apply call_q E62); exact (end_calls ns hn _ _); (refine hK1 _ ?_; clear hK1 K1)) | ((first | apply call_a E55 | apply call_q E55); exact hpl; (refine hK1 _ ?_; clear hK1 K1)) | (refine join_x (v := ?_) (fun hg hk9 => ?_) ?_; rotate_left; (focus (try ((try simp only [BN] at hg); simp only [S1, simprocAttr, TTNeQ, List.length_map, hne, a2, hg] at hk9 ⊢)); first | exact hk9 | ((first | apply call_a E35 | apply call_q E35); exact (start_calls ns hn _ _); exact hk9) | ((first | apply call_a E62 | apply call_q E62); exact (end_calls ns hn _ _); exact hk9) | ((first | apply call_a E55 | apply call_q E55); exact hpl; exact hk9)); (refine hK1 _ ?_; clear hK1 K1)) | (((first | (refine ⟨fun hg => hA ?_, fun hg => hB ?_⟩ <;> clear hA hB A B) | refine ⟨fun hg => ?_, fun hg => ?_⟩) <;> (try simp only [BN2] at hg) <;> (try simp only [hg, cond_true, cond_false])) <;> (try (refine hK1 _ ?_; clear hK1 K1)) <;> (try simp only [BN3] at hg))) | ((first | refine arun_q (v := ?_) rfl rfl rfl rfl (by decide) (fun R1 K1 hK1 => ?_) ?_ | refine arun_f (v := ?_) rfl rfl rfl (by decide) (fun K1 hK1 => ?_) ?_ | refine arunT_f (v := ?_) rfl rfl rfl (by decide) (fun K1 hK1 => ?_) ?_); rotate_left; (focus (simp only [S1, simprocAttr, TTNeQ, List.length_map, hne, a2]; first | (exact hK1 _ _ _) | ((first | apply call_a E35 | apply call_q E35); exact (start_calls ns hn _ _); exact hK1 _ _ _) | ((first | apply call_a E62 | apply call_q E62); exact (end_calls ns hn _ _); exact hK1 _ _ _) | ((first | apply call_a E55 | apply call_q E55); exact hpl; exact hK1 _ _ _)))) | (refine arun_tail rfl rfl rfl ?_) | ((first | refine arun_allocj (z := ?_) 0 rfl rfl rfl rfl (by decide) rfl ?_ ?_ | refine arun_allocj (z := ?_) 1 rfl rfl rfl rfl (by decide) rfl ?_ ?_ | refine arun_allocj (z := ?_) 2 rfl rfl rfl rfl (by decide) rfl ?_ ?_); rotate_left; (focus (simp only [S1, simprocAttr, TTNeQ, List.length_map, hne, a2, zeroB]; rfl))) | (refine awp_seq_k fun K hK => ?_) | (refine awp_drawR [0, 1, 2, 3, 4, 5, 6, 7] 2 rfl (by kernel_rfl) (by kernel_rfl) ?_) | ((first | refine awp_region ?_ | refine awp_draw (by kernel_rfl) ?_ | refine awp_block ?_ | refine awp_exit ?_ | refine awp_skip ?_ | refine awp_ret ?_); (try simp only [NB, simprocAttr])))
    exact EndP_pairs (.inr rfl) rfl rfl (by simp only [blkAt, get_app, List.getElem?_cons_succ, List.getElem?_cons_zero, if_true]) (by omega) (by simp) (by simp) rfl
  | true =>
    have e : thirdN ns fl = plF 3 (bad3 ns fl) ns.length ++ [(3, (ns.length : Int))] := by unfold thirdN; rw [hne]; simp
    unfold noEnds at hne
    rw [e]
    refine acalls_pure (rl := []) mixed Tryd.func60 rfl (rs := [.tmp 2]) rfl Tryd.ntmps60 (by simp) ?_
    repeat' (first | ((first | refine aops_nil ?_ | refine aqops_nil ?_ | refine arun_nil ?_ | refine arunT_nil ?_); (try simp only [NB])) | ((repeat ((fail_if_success (refine hK _ ?_)); clear hK K)); refine hK _ ?_; clear hK K) | ((first | refine aops_k fun K1 hK1 => ?_ | refine aqops_k fun K1 hK1 => ?_ | refine arun_eff rfl rfl rfl fun K1 hK1 => ?_ | refine awp_cond_k fun A B hA hB => ?_); simp only [S1, simprocAttr, TTNeQ, List.length_map, hne, a2, flatQ_len, hmax, Nat.mul_one, Nat.zero_add]; first | (refine hK1 _ ?_; clear hK1 K1) | ((first | refine hA ?_ | refine hB ?_); clear hA hB A B) | ((first | apply call_a E35 | apply call_q E35); exact (start_calls ns hn _ _); (refine hK1 _ ?_; clear hK1 K1)) | ((first | apply call_a E62 | apply call_q E62); exact (end_calls ns hn _ _); (refine hK1 _ ?_; clear hK1 K1)) | ((first | apply call_a E55 | apply call_q E55); exact hpl; (refine hK1 _ ?_; clear hK1 K1)) | (refine join_x (v := ?_) (fun hg hk9 => ?_) ?_; rotate_left; (focus (try ((try simp only [BN] at hg); simp only [S1, simprocAttr, TTNeQ, List.length_map, hne, a2, flatQ_len, hmax, Nat.mul_one, Nat.zero_add, hg] at hk9 ⊢)); first | exact hk9 | ((first | apply call_a E35 | apply call_q E35); exact (start_calls ns hn _ _); exact hk9) | ((first | apply call_a E62 | apply call_q E62); exact (end_calls ns hn _ _); exact hk9) | ((first | apply call_a E55 | apply call_q E55); exact hpl; exact hk9)); (refine hK1 _ ?_; clear hK1 K1)) | (((first | (refine ⟨fun hg => hA ?_, fun hg => hB ?_⟩ <;> clear hA hB A B) | refine ⟨fun hg => ?_, fun hg => ?_⟩) <;> (try simp only [BN2] at hg) <;> (try simp only [hg, cond_true, cond_false])) <;> (try (refine hK1 _ ?_; clear hK1 K1)) <;> (try simp only [BN3] at hg))) | ((first | refine arun_q (v := ?_) rfl rfl rfl rfl (by decide) (fun R1 K1 hK1 => ?_) ?_ | refine arun_f (v := ?_) rfl rfl rfl (by decide) (fun K1 hK1 => ?_) ?_ | refine arunT_f (v := ?_) rfl rfl rfl (by decide) (fun K1 hK1 => ?_) ?_); rotate_left; (focus (simp only [S1, simprocAttr, TTNeQ, List.length_map, hne, a2, flatQ_len, hmax, Nat.mul_one, Nat.zero_add]; first | (exact hK1 _ _ _) | ((first | apply call_a E35 | apply call_q E35); exact (start_calls ns hn _ _); exact hK1 _ _ _) | ((first | apply call_a E62 | apply call_q E62); exact (end_calls ns hn _ _); exact hK1 _ _ _) | ((first | apply call_a E55 | apply call_q E55); exact hpl; exact hK1 _ _ _)))) | (refine arun_tail rfl rfl rfl ?_) | ((first | refine arun_allocj (z := ?_) 0 rfl rfl rfl rfl (by decide) rfl ?_ ?_ | refine arun_allocj (z := ?_) 1 rfl rfl rfl rfl (by decide) rfl ?_ ?_ | refine arun_allocj (z := ?_) 2 rfl rfl rfl rfl (by decide) rfl ?_ ?_); rotate_left; (focus (simp only [S1, simprocAttr, TTNeQ, List.length_map, hne, a2, flatQ_len, hmax, Nat.mul_one, Nat.zero_add, zeroB]; rfl))) | (refine awp_seq_k fun K hK => ?_) | (refine awp_drawR [0, 1, 2, 3, 4, 5, 6, 7] 2 rfl (by kernel_rfl) (by kernel_rfl) ?_) | ((first | refine awp_region ?_ | refine awp_draw (by kernel_rfl) ?_ | refine awp_block ?_ | refine awp_exit ?_ | refine awp_skip ?_ | refine awp_ret ?_); (try simp only [NB, simprocAttr])))
    exact EndP_pairs (.inr rfl) (l := plF 3 (bad3 ns fl) ns.length ++ [(3, (ns.length : Int))]) (by simp) rfl (by simp only [blkAt, get_app, List.getElem?_cons_succ, List.getElem?_cons_zero, if_true, flatQ_app, List.map_append, List.map_cons, List.map_nil]) (by omega) (by simp) (by simp) rfl

theorem inB_of {n : Nat} {i : Int} (h : inB n i = true) : 0 ≤ i ∧ i < (n : Int) := inB_iff.mp h

theorem plF_nil {rule : Int} {p : Nat → Bool} {n : Nat} (h : plF rule p n = []) (i : Nat) (hi : i < n) : p i = false := by
  cases hp : p i with
  | false => rfl
  | true =>
    have : (rule, (i : Int)) ∈ plF rule p n := by
      unfold plF
      exact List.mem_map.mpr ⟨i, List.mem_filter.mpr ⟨List.mem_range.mpr hi, hp⟩, rfl⟩
    rw [h] at this; cases this

theorem bad2_in {ns : List Nd} {fl : List Fl} (h : plF 2 (bad2 ns fl) fl.length = []) : InN ns.length fl := by
  intro f hf
  obtain ⟨i, hi, e⟩ := List.mem_iff_getElem.mp hf
  have := plF_nil h i hi
  unfold bad2 at this
  rw [List.getElem?_eq_getElem hi, e] at this
  simp only [Bool.not_eq_false'] at this
  unfold twoB at this
  simp only [Bool.and_eq_true] at this
  obtain ⟨⟨⟨a, b⟩, _⟩, _⟩ := this
  exact ⟨inB_of a, inB_of b⟩

theorem findG_range {α : Type} (p : α → Bool) : ∀ (l : List α) (i : Nat), findG p l i = -1 ∨ ((i : Int) ≤ findG p l i ∧ findG p l i < (i : Int) + l.length)
  | [], i => .inl rfl
  | k :: r, i => by
    unfold findG
    split
    · right; simp only [List.length_cons]; omega
    · rcases findG_range p r (i + 1) with h | h
      · exact .inl h
      · right; simp only [List.length_cons]; omega

theorem ends_in {ns : List Nd} (h : noEnds ns = false) : (0 ≤ firstN ns 1 ∧ firstN ns 1 < (ns.length : Int)) ∧ 0 ≤ firstN ns 2 ∧ firstN ns 2 < (ns.length : Int) := by
  unfold noEnds at h
  simp only [Bool.or_eq_false_iff, decide_eq_false_iff_not] at h
  have a := findG_range (fun x : Nd => x.kind == 1) ns 0
  have b := findG_range (fun x : Nd => x.kind == 2) ns 0
  unfold firstN at *
  omega

/-- All places at which the first rule that is broken is. -/
noncomputable def allN (ns : List Nd) (fl : List Fl) : List (Int × Int) :=
  if (decide (24 < (ns.length : Int)) || decide (40 < (fl.length : Int))) = true then [(1, 0)]
  else if plF 1 (bad1 ns) ns.length ≠ [] then plF 1 (bad1 ns) ns.length
  else if plF 2 (bad2 ns fl) fl.length ≠ [] then plF 2 (bad2 ns fl) fl.length
  else if thirdN ns fl ≠ [] then thirdN ns fl
  else plF 4 (bad4 ns fl) ns.length
end Go.Proofs.YtjpphhcimpclpaaDoor.AM
end
