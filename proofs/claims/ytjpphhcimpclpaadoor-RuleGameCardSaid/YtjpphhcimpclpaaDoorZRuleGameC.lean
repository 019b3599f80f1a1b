/- Proved here, in parts, for one law: Contracts: the program's rule 2 of a flow. Contracts: what is met, breadth first. Contracts: the program's rule 3 of a node. The abstract machine, part V: slices of rows that are handed back; a cell told otherwise. Contracts: places at which something is wrong. Contracts: what is asked of each place; the third rule; all places; the rule that is broken. Contracts: the third rule; all places; the rule that is broken. Contracts: all places at which a rule is broken; the first. Contracts: the rule that is broken, of the program. Plain: the first place. Plain and heaps: lists of numbers as cells; two blocks of which one bears a list of steps. Contracts: how many tokens there are; whether it is a state, as the document tells it. Plain: tokens that are taken and put; a step. Contracts: a step more, a fault, as the document tells them. Contracts: a step more, wherever it stands; a fault. Contracts: equal lists; one rule more. Plain: what a process is that is right; its rules. Contract: all rules of a process. Contract: all rules of a process, as the document tells them. Contract of the bound of what is gone through: a term is not larger. Contract of the bound of what is gone through: a process is not larger. Conditions: none. -/
import Derived.Test.YtjpphhcimpclpaaDoorZRuleGameB

section
set_option linter.unusedVariables false
set_option linter.unusedSimpArgs false
set_option maxRecDepth 4000
set_option maxHeartbeats 4000000
namespace Go.Proofs.YtjpphhcimpclpaaDoor.AM
open Go Go.Proofs
set_option linter.defProp false in
def TTNeI := And.intro T2 (And.intro T3 (And.intro T4 (And.intro T22 (And.intro T23 (And.intro T25 (And.intro T40 (And.intro T56 (And.intro T58 (And.intro T60 (And.intro T71 T89))))))))))
attribute [local irreducible] awp aops aqops aeops arun
variable {G : Nat → Option (List PV)}

abbrev cNet (ns : List Nd) (fl : List Fl) : List AV := [.p (.sl (ns.map eN)), .p (.sl (fl.map eF))]

theorem leads1_calls (ns : List Nd) (fl : List Fl) (i : Int) (H : Heap) {b g : Nat} (hb : H[b]? = some (some ⟨g, cNet ns fl⟩)) : ACalls Tryd.prog G 84 [.i i, .ptr b g 0] H (fun r h' => r = .b (inB ns.length i) ∧ h' = H) := by
  refine acalls_pure (rl := []) mixed Tryd.func84 rfl (rs := [.tmp 3]) rfl Tryd.ntmps84 (by simp) ?_
  repeat' (first | ((first | refine aops_nil ?_ | refine aqops_nil ?_); (try simp only [NB])) | ((repeat ((fail_if_success (refine hK _ ?_)); clear hK K)); refine hK _ ?_; clear hK K) | ((first | refine aops_k fun K1 hK1 => ?_ | refine aqops_k fun K1 hK1 => ?_ | refine awp_cond_k fun A B hA hB => ?_); simp only [S1, simprocAttr, TTNeI, hb, List.length_map]; first | (refine hK1 _ ?_; clear hK1 K1) | ((first | refine hA ?_ | refine hB ?_); clear hA hB A B) | (refine join_x (v := ?_) (fun hg hk9 => ?_) ?_; rotate_left; (focus (try ((try simp only [BN] at hg); simp only [S1, simprocAttr, TTNeI, hb, List.length_map, hg] at hk9 ⊢)); first | exact hk9); (refine hK1 _ ?_; clear hK1 K1)) | (((first | (refine ⟨fun hg => hA ?_, fun hg => hB ?_⟩ <;> clear hA hB A B) | refine ⟨fun hg => ?_, fun hg => ?_⟩) <;> (try simp only [BN2] at hg) <;> (try simp only [hg, cond_true, cond_false])) <;> (try (refine hK1 _ ?_; clear hK1 K1)) <;> (try simp only [BN3] at hg))) | (refine awp_seq_k fun K hK => ?_) | ((first | refine awp_region ?_ | refine awp_draw (by kernel_rfl) ?_ | refine awp_block ?_ | refine awp_exit ?_ | refine awp_skip ?_ | refine awp_ret ?_); (try simp only [NB, simprocAttr])))
  all_goals simp only [EndP, FinP, resA, resL, resA1, lastV, lastA, lastAs, pur, purs, take_app, List.take_length, S1, simprocAttr, TTNeI, Nat.le_add_right, Nat.le_refl]
  all_goals rfl

theorem leads_calls (ns : List Nd) (hn : ns.length ≤ 100) (fl : List Fl) (hl : fl.length ≤ 100) (f : Fl) {n : Nat} (ht : Tm.Ok n f.cond) (h : Heap) : ACalls Tryd.prog gW 59 [aNet ns fl, aF f] h (fun r h' => r = .b (twoB ns fl f) ∧ h' = h) := by
  cases h1 : inB ns.length f.src with
  | false =>
    have e : twoB ns fl f = false := by unfold twoB; rw [h1]; rfl
    rw [e]
    refine acalls_pure (rl := []) mixed Tryd.func59 rfl (rs := [.tmp 4]) rfl Tryd.ntmps59 (by simp) ?_
    repeat' (first | ((first | refine aops_nil ?_ | refine aqops_nil ?_); (try simp only [NB])) | ((repeat ((fail_if_success (refine hK _ ?_)); clear hK K)); refine hK _ ?_; clear hK K) | ((first | refine aops_k fun K1 hK1 => ?_ | refine aqops_k fun K1 hK1 => ?_ | refine awp_cond_k fun A B hA hB => ?_); simp only [S1, simprocAttr, TTNeI, h1]; first | (refine hK1 _ ?_; clear hK1 K1) | ((first | refine hA ?_ | refine hB ?_); clear hA hB A B) | ((first | apply call_a E84 | apply call_q E84); exact (leads1_calls ns fl _ _ (by simp [get_app])); (refine hK1 _ ?_; clear hK1 K1)) | (refine join_x (v := ?_) (fun hg hk9 => ?_) ?_; rotate_left; (focus (try ((try simp only [BN] at hg); simp only [S1, simprocAttr, TTNeI, h1, hg] at hk9 ⊢)); first | exact hk9 | ((first | apply call_a E84 | apply call_q E84); exact (leads1_calls ns fl _ _ (by simp [get_app])); exact hk9)); (refine hK1 _ ?_; clear hK1 K1)) | (((first | (refine ⟨fun hg => hA ?_, fun hg => hB ?_⟩ <;> clear hA hB A B) | refine ⟨fun hg => ?_, fun hg => ?_⟩) <;> (try simp only [BN2] at hg) <;> (try simp only [hg, cond_true, cond_false])) <;> (try (refine hK1 _ ?_; clear hK1 K1)) <;> (try simp only [BN3] at hg))) | (refine awp_seq_k fun K hK => ?_) | ((first | refine awp_region ?_ | refine awp_draw (by kernel_rfl) ?_ | refine awp_block ?_ | refine awp_exit ?_ | refine awp_skip ?_ | refine awp_ret ?_); (try simp only [NB, simprocAttr])))
    all_goals simp only [EndP, FinP, resA, resL, resA1, lastV, lastA, lastAs, pur, purs, take_app, List.take_length, S1, simprocAttr, TTNeI, Nat.le_add_right, Nat.le_refl]
  | true =>
    cases h2 : inB ns.length f.dst with
    | false =>
      have e : twoB ns fl f = false := by unfold twoB; rw [h1, h2]; rfl
      rw [e]
      refine acalls_pure (rl := []) mixed Tryd.func59 rfl (rs := [.tmp 4]) rfl Tryd.ntmps59 (by simp) ?_
      repeat' (first | ((first | refine aops_nil ?_ | refine aqops_nil ?_); (try simp only [NB])) | ((repeat ((fail_if_success (refine hK _ ?_)); clear hK K)); refine hK _ ?_; clear hK K) | ((first | refine aops_k fun K1 hK1 => ?_ | refine aqops_k fun K1 hK1 => ?_ | refine awp_cond_k fun A B hA hB => ?_); simp only [S1, simprocAttr, TTNeI, h1, h2]; first | (refine hK1 _ ?_; clear hK1 K1) | ((first | refine hA ?_ | refine hB ?_); clear hA hB A B) | ((first | apply call_a E84 | apply call_q E84); exact (leads1_calls ns fl _ _ (by simp [get_app])); (refine hK1 _ ?_; clear hK1 K1)) | (refine join_x (v := ?_) (fun hg hk9 => ?_) ?_; rotate_left; (focus (try ((try simp only [BN] at hg); simp only [S1, simprocAttr, TTNeI, h1, h2, hg] at hk9 ⊢)); first | exact hk9 | ((first | apply call_a E84 | apply call_q E84); exact (leads1_calls ns fl _ _ (by simp [get_app])); exact hk9)); (refine hK1 _ ?_; clear hK1 K1)) | (((first | (refine ⟨fun hg => hA ?_, fun hg => hB ?_⟩ <;> clear hA hB A B) | refine ⟨fun hg => ?_, fun hg => ?_⟩) <;> (try simp only [BN2] at hg) <;> (try simp only [hg, cond_true, cond_false])) <;> (try (refine hK1 _ ?_; clear hK1 K1)) <;> (try simp only [BN3] at hg))) | (refine awp_seq_k fun K hK => ?_) | ((first | refine awp_region ?_ | refine awp_draw (by kernel_rfl) ?_ | refine awp_block ?_ | refine awp_exit ?_ | refine awp_skip ?_ | refine awp_ret ?_); (try simp only [NB, simprocAttr])))
      all_goals simp only [EndP, FinP, resA, resL, resA1, lastV, lastA, lastAs, pur, purs, take_app, List.take_length, S1, simprocAttr, TTNeI, Nat.le_add_right, Nat.le_refl]
    | true =>
      cases h3 : (f.src == f.dst) with
      | true =>
        have e : twoB ns fl f = false := by unfold twoB; rw [h1, h2, h3]; rfl
        rw [e]
        refine acalls_pure (rl := []) mixed Tryd.func59 rfl (rs := [.tmp 4]) rfl Tryd.ntmps59 (by simp) ?_
        repeat' (first | ((first | refine aops_nil ?_ | refine aqops_nil ?_); (try simp only [NB])) | ((repeat ((fail_if_success (refine hK _ ?_)); clear hK K)); refine hK _ ?_; clear hK K) | ((first | refine aops_k fun K1 hK1 => ?_ | refine aqops_k fun K1 hK1 => ?_ | refine awp_cond_k fun A B hA hB => ?_); simp only [S1, simprocAttr, TTNeI, h1, h2, h3]; first | (refine hK1 _ ?_; clear hK1 K1) | ((first | refine hA ?_ | refine hB ?_); clear hA hB A B) | ((first | apply call_a E84 | apply call_q E84); exact (leads1_calls ns fl _ _ (by simp [get_app])); (refine hK1 _ ?_; clear hK1 K1)) | (refine join_x (v := ?_) (fun hg hk9 => ?_) ?_; rotate_left; (focus (try ((try simp only [BN] at hg); simp only [S1, simprocAttr, TTNeI, h1, h2, h3, hg] at hk9 ⊢)); first | exact hk9 | ((first | apply call_a E84 | apply call_q E84); exact (leads1_calls ns fl _ _ (by simp [get_app])); exact hk9)); (refine hK1 _ ?_; clear hK1 K1)) | (((first | (refine ⟨fun hg => hA ?_, fun hg => hB ?_⟩ <;> clear hA hB A B) | refine ⟨fun hg => ?_, fun hg => ?_⟩) <;> (try simp only [BN2] at hg) <;> (try simp only [hg, cond_true, cond_false])) <;> (try (refine hK1 _ ?_; clear hK1 K1)) <;> (try simp only [BN3] at hg))) | (refine awp_seq_k fun K hK => ?_) | ((first | refine awp_region ?_ | refine awp_draw (by kernel_rfl) ?_ | refine awp_block ?_ | refine awp_exit ?_ | refine awp_skip ?_ | refine awp_ret ?_); (try simp only [NB, simprocAttr])))
        all_goals simp only [EndP, FinP, resA, resL, resA1, lastV, lastA, lastAs, pur, purs, take_app, List.take_length, S1, simprocAttr, TTNeI, Nat.le_add_right, Nat.le_refl]
      | false =>
        obtain ⟨a1, a2⟩ := inB_iff.mp h1
        obtain ⟨k, hx⟩ : ∃ k, ns[f.src.toNat]? = some k := ⟨_, List.getElem?_eq_getElem (by omega)⟩
        have ek : kindAt ns f.src = k.kind := by unfold kindAt; rw [hx]
        have e0 : twoB ns fl f = (if splitsB ns fl f.src = true then (if f.els = true then noneB f.cond else ofB f.cond 2) else (!f.els && noneB f.cond)) := by
          unfold twoB
          rw [h1, h2, h3]; simp
        rw [e0]; unfold splitsB; rw [ek]
        have hx' := rowN hx
        cases hk : (k.kind == 5) with
        | false =>
          have hk' : (k.kind != 5) = true := by unfold bne; rw [hk]; rfl
          refine acalls_pure (rl := []) mixed Tryd.func59 rfl (rs := [.tmp 4]) rfl Tryd.ntmps59 (by simp) ?_
          repeat' (first | ((first | refine aops_nil ?_ | refine aqops_nil ?_); (try simp only [NB])) | ((repeat ((fail_if_success (refine hK _ ?_)); clear hK K)); refine hK _ ?_; clear hK K) | ((first | refine aops_k fun K1 hK1 => ?_ | refine aqops_k fun K1 hK1 => ?_ | refine awp_cond_k fun A B hA hB => ?_); simp only [S1, simprocAttr, TTNeI, h1, h2, h3, a1, hx', eN, hk, hk', List.length_map]; first | (refine hK1 _ ?_; clear hK1 K1) | ((first | refine hA ?_ | refine hB ?_); clear hA hB A B) | ((first | apply call_a E84 | apply call_q E84); exact (leads1_calls ns fl _ _ (by simp [get_app])); (refine hK1 _ ?_; clear hK1 K1)) | ((first | apply call_a E83 | apply call_q E83); exact (none_calls f.cond _); (refine hK1 _ ?_; clear hK1 K1)) | (refine join_x (v := ?_) (fun hg hk9 => ?_) ?_; rotate_left; (focus (try ((try simp only [BN] at hg); simp only [S1, simprocAttr, TTNeI, h1, h2, h3, a1, hx', eN, hk, hk', List.length_map, hg] at hk9 ⊢)); first | exact hk9 | ((first | apply call_a E84 | apply call_q E84); exact (leads1_calls ns fl _ _ (by simp [get_app])); exact hk9) | ((first | apply call_a E83 | apply call_q E83); exact (none_calls f.cond _); exact hk9)); (refine hK1 _ ?_; clear hK1 K1)) | (((first | (refine ⟨fun hg => hA ?_, fun hg => hB ?_⟩ <;> clear hA hB A B) | refine ⟨fun hg => ?_, fun hg => ?_⟩) <;> (try simp only [BN2] at hg) <;> (try simp only [hg, cond_true, cond_false])) <;> (try (refine hK1 _ ?_; clear hK1 K1)) <;> (try simp only [BN3] at hg))) | (refine awp_seq_k fun K hK => ?_) | ((first | refine awp_region ?_ | refine awp_draw (by kernel_rfl) ?_ | refine awp_block ?_ | refine awp_exit ?_ | refine awp_skip ?_ | refine awp_ret ?_); (try simp only [NB, simprocAttr])))
          all_goals simp only [EndP, FinP, resA, resL, resA1, lastV, lastA, lastAs, pur, purs, take_app, List.take_length, S1, simprocAttr, TTNeI, Nat.le_add_right, Nat.le_refl]
          all_goals simp_all
        | true =>
          have hk' : (k.kind != 5) = false := by unfold bne; rw [hk]; rfl
          cases ho : decide (2 ≤ ((outsN fl f.src).length : Int)) with
          | false =>
            have ho' : decide (((outsN fl f.src).length : Int) < 2) = true := by simp at ho ⊢; omega
            refine acalls_pure (rl := []) mixed Tryd.func59 rfl (rs := [.tmp 4]) rfl Tryd.ntmps59 (by simp) ?_
            repeat' (first | ((first | refine aops_nil ?_ | refine aqops_nil ?_); (try simp only [NB])) | ((repeat ((fail_if_success (refine hK _ ?_)); clear hK K)); refine hK _ ?_; clear hK K) | ((first | refine aops_k fun K1 hK1 => ?_ | refine aqops_k fun K1 hK1 => ?_ | refine awp_cond_k fun A B hA hB => ?_); simp only [S1, simprocAttr, TTNeI, h1, h2, h3, a1, hx', eN, hk, hk', ho, ho', List.length_map]; first | (refine hK1 _ ?_; clear hK1 K1) | ((first | refine hA ?_ | refine hB ?_); clear hA hB A B) | ((first | apply call_a E84 | apply call_q E84); exact (leads1_calls ns fl _ _ (by simp [get_app])); (refine hK1 _ ?_; clear hK1 K1)) | ((first | apply call_a E26 | apply call_q E26); exact (outs_calls _ fl hl _ _); (refine hK1 _ ?_; clear hK1 K1)) | ((first | apply call_a E83 | apply call_q E83); exact (none_calls f.cond _); (refine hK1 _ ?_; clear hK1 K1)) | (refine join_x (v := ?_) (fun hg hk9 => ?_) ?_; rotate_left; (focus (try ((try simp only [BN] at hg); simp only [S1, simprocAttr, TTNeI, h1, h2, h3, a1, hx', eN, hk, hk', ho, ho', List.length_map, hg] at hk9 ⊢)); first | exact hk9 | ((first | apply call_a E84 | apply call_q E84); exact (leads1_calls ns fl _ _ (by simp [get_app])); exact hk9) | ((first | apply call_a E26 | apply call_q E26); exact (outs_calls _ fl hl _ _); exact hk9) | ((first | apply call_a E83 | apply call_q E83); exact (none_calls f.cond _); exact hk9)); (refine hK1 _ ?_; clear hK1 K1)) | (((first | (refine ⟨fun hg => hA ?_, fun hg => hB ?_⟩ <;> clear hA hB A B) | refine ⟨fun hg => ?_, fun hg => ?_⟩) <;> (try simp only [BN2] at hg) <;> (try simp only [hg, cond_true, cond_false])) <;> (try (refine hK1 _ ?_; clear hK1 K1)) <;> (try simp only [BN3] at hg))) | (refine awp_seq_k fun K hK => ?_) | ((first | refine awp_region ?_ | refine awp_draw (by kernel_rfl) ?_ | refine awp_block ?_ | refine awp_exit ?_ | refine awp_skip ?_ | refine awp_ret ?_); (try simp only [NB, simprocAttr])))
            all_goals simp only [EndP, FinP, resA, resL, resA1, lastV, lastA, lastAs, pur, purs, take_app, List.take_length, S1, simprocAttr, TTNeI, Nat.le_add_right, Nat.le_refl]
            all_goals simp_all
          | true =>
            have ho' : decide (((outsN fl f.src).length : Int) < 2) = false := by simp at ho ⊢; omega
            refine acalls_pure (rl := []) mixed Tryd.func59 rfl (rs := [.tmp 4]) rfl Tryd.ntmps59 (by simp) ?_
            repeat' (first | ((first | refine aops_nil ?_ | refine aqops_nil ?_); (try simp only [NB])) | ((repeat ((fail_if_success (refine hK _ ?_)); clear hK K)); refine hK _ ?_; clear hK K) | ((first | refine aops_k fun K1 hK1 => ?_ | refine aqops_k fun K1 hK1 => ?_ | refine awp_cond_k fun A B hA hB => ?_); simp only [S1, simprocAttr, TTNeI, h1, h2, h3, a1, hx', eN, hk, hk', ho, ho', List.length_map]; first | (refine hK1 _ ?_; clear hK1 K1) | ((first | refine hA ?_ | refine hB ?_); clear hA hB A B) | ((first | apply call_a E84 | apply call_q E84); exact (leads1_calls ns fl _ _ (by simp [get_app])); (refine hK1 _ ?_; clear hK1 K1)) | ((first | apply call_a E26 | apply call_q E26); exact (outs_calls _ fl hl _ _); (refine hK1 _ ?_; clear hK1 K1)) | ((first | apply call_a E82 | apply call_q E82); exact (of_term ht _ _); (refine hK1 _ ?_; clear hK1 K1)) | ((first | apply call_a E83 | apply call_q E83); exact (none_calls f.cond _); (refine hK1 _ ?_; clear hK1 K1)) | (refine join_x (v := ?_) (fun hg hk9 => ?_) ?_; rotate_left; (focus (try ((try simp only [BN] at hg); simp only [S1, simprocAttr, TTNeI, h1, h2, h3, a1, hx', eN, hk, hk', ho, ho', List.length_map, hg] at hk9 ⊢)); first | exact hk9 | ((first | apply call_a E84 | apply call_q E84); exact (leads1_calls ns fl _ _ (by simp [get_app])); exact hk9) | ((first | apply call_a E26 | apply call_q E26); exact (outs_calls _ fl hl _ _); exact hk9) | ((first | apply call_a E82 | apply call_q E82); exact (of_term ht _ _); exact hk9) | ((first | apply call_a E83 | apply call_q E83); exact (none_calls f.cond _); exact hk9)); (refine hK1 _ ?_; clear hK1 K1)) | (((first | (refine ⟨fun hg => hA ?_, fun hg => hB ?_⟩ <;> clear hA hB A B) | refine ⟨fun hg => ?_, fun hg => ?_⟩) <;> (try simp only [BN2] at hg) <;> (try simp only [hg, cond_true, cond_false])) <;> (try (refine hK1 _ ?_; clear hK1 K1)) <;> (try simp only [BN3] at hg))) | (refine awp_seq_k fun K hK => ?_) | ((first | refine awp_region ?_ | refine awp_draw (by kernel_rfl) ?_ | refine awp_block ?_ | refine awp_exit ?_ | refine awp_skip ?_ | refine awp_ret ?_); (try simp only [NB, simprocAttr])))
            all_goals simp only [EndP, FinP, resA, resL, resA1, lastV, lastA, lastAs, pur, purs, take_app, List.take_length, S1, simprocAttr, TTNeI, Nat.le_add_right, Nat.le_refl]
            all_goals simp_all
end Go.Proofs.YtjpphhcimpclpaaDoor.AM
end

section
set_option linter.unusedVariables false
set_option linter.unusedSimpArgs false
set_option maxRecDepth 4000
set_option maxHeartbeats 4000000
namespace Go.Proofs.YtjpphhcimpclpaaDoor.AM
open Go Go.Proofs
set_option linter.defProp false in
def TTNeN := And.intro T2 (And.intro T3 (And.intro T4 (And.intro T22 (And.intro T23 (And.intro T25 (And.intro T40 (And.intro T56 (And.intro T58 (And.intro T60 (And.intro T71 T122))))))))))
attribute [local irreducible] awp aops aqops aeops arun
variable {G : Nat → Option (List PV)}

section
variable {P : Program} {rl : List String} {h : Heap}
/-- A loop whose state is told by anything, and that ends because a number grows less. -/
theorem awp_whileG {σ : Type} {c : Code} {Q : Exit → St → Prop} {s : St} (m : σ → Nat) (nt : Nat) (l : σ → List (Nat × AV)) (L : σ → List (Option Blk)) (p : σ → Prop) (x0 : σ) (hi : Ghost P G h s ⟨frL (l x0), nt, h ++ L x0⟩) (hp : p x0)
    (hb : ∀ x, p x → ∀ K : St → Prop, (∀ s', (∃ y, m y < m x ∧ p y ∧ Sub h s' (l y) (L y) nt) → K s') → awp P G rl h c (thenA K Q) ⟨frL (l x), nt, h ++ L x⟩) : awp P G rl h (.loop c) Q s := by
  refine awp_loop (fun n s => ∃ x, p x ∧ n = m x ∧ s = ⟨frL (l x), nt, h ++ L x⟩) (m x0) _ hi ⟨x0, hp, rfl, rfl⟩ fun n s hI => ?_
  obtain ⟨x, h1, rfl, rfl⟩ := hI
  refine hb x h1 _ fun s' hs => ?_
  obtain ⟨y, h2, h3, h4⟩ := hs
  exact ⟨m y, _, h2, h4.ghost, y, h3, rfl, rfl⟩
theorem awp_while {σ : Type} {c : Code} {Q : Exit → St → Prop} {s : St} (m : σ → Nat) (nt : Nat) (l : σ → List (Nat × AV)) (L : σ → List (Option Blk)) (p : σ → Prop) (x0 : σ) (hi : Sub h s (l x0) (L x0) nt) (hp : p x0)
    (hb : ∀ x, p x → ∀ K : St → Prop, (∀ s', (∃ y, m y < m x ∧ p y ∧ Sub h s' (l y) (L y) nt) → K s') → awp P G rl h c (thenA K Q) ⟨frL (l x), nt, h ++ L x⟩) : awp P G rl h (.loop c) Q s :=
  awp_whileG m nt l L p x0 hi.ghost hp hb
end

def edgeB (back : Bool) (fl : List Fl) : List (Nat × Nat) := if back = true then (esF fl).map Prod.swap else esF fl

abbrev nI (n : Nat) : AV := .p (.int .i64 (n : Int))

theorem avlts_nats (m : Nat) (l : List Nat) : avlts m (l.map nI) := by
  induction l with
  | nil => trivial
  | cons x r ih => exact ⟨trivial, ih⟩
theorem dropQ (pre : List Nat) (x : Nat) (rest : List Nat) : ((pre ++ x :: rest).map nI).drop pre.length = .p (.int .i64 (x : Int)) :: rest.map nI := by
  rw [List.map_append, List.drop_left' (by simp)]; rfl
theorem dropQ2 (pre todo : List Nat) : ((pre ++ todo).map nI).drop pre.length = todo.map nI := by
  rw [List.map_append, List.drop_left' (by simp)]
theorem nexts_take {es : List (Nat × Nat)} {j u v : Nat} (h : es[j]? = some (u, v)) (x : Nat) : nexts (es.take (j + 1)) x = nexts (es.take j) x ++ (if u = x then [v] else []) := by
  unfold nexts
  rw [List.take_add_one, h]
  simp only [Option.toList_some, List.filter_append, List.map_append]
  by_cases e : u = x <;> simp [e]

theorem edgeB_in {n : Nat} {fl : List Fl} (hd : InN n fl) (back : Bool) : ∀ e ∈ edgeB back fl, e.2 < n := by
  intro e he
  unfold edgeB at he
  split at he
  · simp only [esF, List.map_map, List.mem_map, Function.comp] at he
    obtain ⟨f, hf, rfl⟩ := he
    have := hd f hf
    simp only [Prod.swap]; omega
  · simp only [esF, List.mem_map] at he
    obtain ⟨f, hf, rfl⟩ := he
    have := hd f hf
    simp only; omega

structure Qu where
  seen : List Bool
  pre : List Nat
  todo : List Nat
  g : Nat
structure Qi where
  j : Nat
  pre : List Nat
  todo : List Nat
  g : Nat

theorem met_calls (ns : List Nd) (hn : ns.length ≤ 100) (fl : List Fl) (hl : fl.length ≤ 100) (hd : InN ns.length fl) (i : Int) (hi0 : 0 ≤ i) (hi1 : i < (ns.length : Int)) (back : Bool) (h : Heap) :
    ACalls Tryd.prog G 61 [aNet ns fl, .i i, .b back] h (fun r h' => r = aBl (rchL (edgeB back fl) ns.length i.toNat) ∧ h' = h) := by
  obtain ⟨a, rfl⟩ := Int.eq_ofNat_of_zero_le hi0
  have hel : (edgeB back fl).length = fl.length := by unfold edgeB; split <;> simp [esF]
  have g1 : (0 : Int) ≤ (ns.length : Int) := by omega
  have g2 : (ns.length : Int) ≤ 16777216 := by omega
  have g3 : ((ns.length : Int) = 0) = False := eq_false (by omega)
  have r1 : (["net.go:137"].contains "net.go:137") = true := by decide
  have r2 : (["net.go:137"].contains "net.go:148") = false := by decide
  have r3 : (["net.go:137"].contains "net.go:150") = false := by decide
  refine acalls_pure (rl := ["net.go:137"]) mixed Tryd.func61 rfl (rs := [.tmp 6]) rfl Tryd.ntmps61 (by simp) ?_
  refine awp_seq_k fun K hK => ?_
  repeat' (first | ((first | refine aops_nil ?_ | refine aqops_nil ?_); (try simp only [NB]); ((repeat ((fail_if_success (refine hK _ ?_)); clear hK K)); refine hK _ ?_; clear hK K)) | ((first | refine aops_k fun K1 hK1 => ?_ | refine aqops_k fun K1 hK1 => ?_ | refine awp_cond_k fun A B hA hB => ?_); simp only [S1, simprocAttr, TTNeN]; first | (refine hK1 _ ?_; clear hK1 K1) | ((first | refine hA ?_ | refine hB ?_); clear hA hB A B) | (refine join_x (v := ?_) (fun hg hk9 => ?_) ?_; rotate_left; (focus (try ((try simp only [BN] at hg); simp only [S1, simprocAttr, TTNeN, hg] at hk9 ⊢)); first | exact hk9); (refine hK1 _ ?_; clear hK1 K1)) | (((first | (refine ⟨fun hg => hA ?_, fun hg => hB ?_⟩ <;> clear hA hB A B) | refine ⟨fun hg => ?_, fun hg => ?_⟩) <;> (try simp only [BN2] at hg) <;> (try simp only [hg, cond_true, cond_false])) <;> (try (refine hK1 _ ?_; clear hK1 K1)) <;> (try simp only [BN3] at hg))) | (fail) | ((first | refine awp_region ?_ | refine awp_draw (by kernel_rfl) ?_ | refine awp_block ?_ | refine awp_exit ?_ | refine awp_skip ?_ | refine awp_ret ?_); (try simp only [NB, simprocAttr]); (try ((repeat ((fail_if_success (refine hK _ ?_)); clear hK K)); refine hK _ ?_; clear hK K))))
  refine awp_seq_k fun K hK => ?_
  repeat' (first | ((first | refine aops_nil ?_ | refine aqops_nil ?_); (try simp only [NB]); ((repeat ((fail_if_success (refine hK _ ?_)); clear hK K)); refine hK _ ?_; clear hK K)) | ((first | refine aops_k fun K1 hK1 => ?_ | refine aqops_k fun K1 hK1 => ?_ | refine awp_cond_k fun A B hA hB => ?_); simp only [S1, simprocAttr, TTNeN, List.length_map, g1, g2, g3, flat_one, rep_bools, Int.toNat_natCast, List.map_cons, List.map_nil]; first | (refine hK1 _ ?_; clear hK1 K1) | ((first | refine hA ?_ | refine hB ?_); clear hA hB A B) | (refine join_x (v := ?_) (fun hg hk9 => ?_) ?_; rotate_left; (focus (try ((try simp only [BN] at hg); simp only [S1, simprocAttr, TTNeN, List.length_map, g1, g2, g3, flat_one, rep_bools, Int.toNat_natCast, List.map_cons, List.map_nil, hg] at hk9 ⊢)); first | exact hk9); (refine hK1 _ ?_; clear hK1 K1)) | (((first | (refine ⟨fun hg => hA ?_, fun hg => hB ?_⟩ <;> clear hA hB A B) | refine ⟨fun hg => ?_, fun hg => ?_⟩) <;> (try simp only [BN2] at hg) <;> (try simp only [hg, cond_true, cond_false])) <;> (try (refine hK1 _ ?_; clear hK1 K1)) <;> (try simp only [BN3] at hg))) | (fail) | ((first | refine awp_region ?_ | refine awp_draw (by kernel_rfl) ?_ | refine awp_block ?_ | refine awp_exit ?_ | refine awp_skip ?_ | refine awp_ret ?_); (try simp only [NB, simprocAttr]); (try ((repeat ((fail_if_success (refine hK _ ?_)); clear hK K)); refine hK _ ?_; clear hK K))))
  refine awp_seq_k fun K hK => ?_
  repeat' (first | ((first | refine aops_nil ?_ | refine aqops_nil ?_); (try simp only [NB]); ((repeat ((fail_if_success (refine hK _ ?_)); clear hK K)); refine hK _ ?_; clear hK K)) | ((first | refine aops_k fun K1 hK1 => ?_ | refine aqops_k fun K1 hK1 => ?_ | refine awp_cond_k fun A B hA hB => ?_); simp only [S1, simprocAttr, TTNeN, r1]; first | (refine hK1 _ ?_; clear hK1 K1) | ((first | refine hA ?_ | refine hB ?_); clear hA hB A B) | (refine join_x (v := ?_) (fun hg hk9 => ?_) ?_; rotate_left; (focus (try ((try simp only [BN] at hg); simp only [S1, simprocAttr, TTNeN, r1, hg] at hk9 ⊢)); first | exact hk9); (refine hK1 _ ?_; clear hK1 K1)) | (((first | (refine ⟨fun hg => hA ?_, fun hg => hB ?_⟩ <;> clear hA hB A B) | refine ⟨fun hg => ?_, fun hg => ?_⟩) <;> (try simp only [BN2] at hg) <;> (try simp only [hg, cond_true, cond_false])) <;> (try (refine hK1 _ ?_; clear hK1 K1)) <;> (try simp only [BN3] at hg))) | (fail) | ((first | refine awp_region ?_ | refine awp_draw (by kernel_rfl) ?_ | refine awp_block ?_ | refine awp_exit ?_ | refine awp_skip ?_ | refine awp_ret ?_); (try simp only [NB, simprocAttr]); (try ((repeat ((fail_if_success (refine hK _ ?_)); clear hK K)); refine hK _ ?_; clear hK K))))
  refine awp_seq_k fun K hK => ?_
  repeat' (first | ((first | refine aops_nil ?_ | refine aqops_nil ?_); (try simp only [NB]); ((repeat ((fail_if_success (refine hK _ ?_)); clear hK K)); refine hK _ ?_; clear hK K)) | ((first | refine aops_k fun K1 hK1 => ?_ | refine aqops_k fun K1 hK1 => ?_ | refine awp_cond_k fun A B hA hB => ?_); simp only [S1, simprocAttr, TTNeN]; first | (refine hK1 _ ?_; clear hK1 K1) | ((first | refine hA ?_ | refine hB ?_); clear hA hB A B) | (refine join_x (v := ?_) (fun hg hk9 => ?_) ?_; rotate_left; (focus (try ((try simp only [BN] at hg); simp only [S1, simprocAttr, TTNeN, hg] at hk9 ⊢)); first | exact hk9); (refine hK1 _ ?_; clear hK1 K1)) | (((first | (refine ⟨fun hg => hA ?_, fun hg => hB ?_⟩ <;> clear hA hB A B) | refine ⟨fun hg => ?_, fun hg => ?_⟩) <;> (try simp only [BN2] at hg) <;> (try simp only [hg, cond_true, cond_false])) <;> (try (refine hK1 _ ?_; clear hK1 K1)) <;> (try simp only [BN3] at hg))) | (fail) | ((first | refine awp_region ?_ | refine awp_draw (by kernel_rfl) ?_ | refine awp_block ?_ | refine awp_exit ?_ | refine awp_skip ?_ | refine awp_ret ?_); (try simp only [NB, simprocAttr]); (try ((repeat ((fail_if_success (refine hK _ ?_)); clear hK K)); refine hK _ ?_; clear hK K))))
  refine awp_while (σ := Qu) (fun q => bfsM (edgeB back fl) q.seen q.todo) 69 (fun q => [(8, .ref (h.length + 2) q.g q.pre.length 1 q.todo.length), (7, .ref (h.length + 1) 0 0 1 ns.length), (3, .ptr h.length 0 0), (2, .b back)])
    (fun q => [some ⟨0, cNet ns fl⟩, some ⟨0, q.seen.map AV.b⟩, some ⟨q.g, (q.pre ++ q.todo).map nI⟩]) (fun q => Bfs (edgeB back fl) ns.length a q.seen q.todo ∧ bfsM (edgeB back fl) q.seen q.todo ≤ 20000) ⟨List.replicate ns.length false, [], [a], 0⟩ ?_ ?_ fun q hq K hK => ?_
  · refine ⟨rfl, ⟨[], by simp only [List.append_nil, List.nil_append, List.map_cons, List.map_nil]⟩, ?_, ⟨trivial, trivial, trivial⟩, avlts_bools _ _, avlts_nats _ _, trivial⟩
    simp only [keeps, avlt, avlts, blksLt, frL, upd_get, S1, simprocAttr, List.length_map, Int.natCast_zero, AV.p.injEq, PV.int.injEq, PV.bool.injEq, PV.sl.injEq] <;> (try and_intros) <;> (try assumption) <;> (try trivial) <;> (try omega)
  · refine ⟨Bfs.init, ?_⟩
    unfold bfsM
    rw [hel]
    simp only [List.length_replicate, List.length_singleton]
    have : (ns.length - (List.replicate ns.length false).count true) * (fl.length + 1) ≤ 100 * 101 := Nat.mul_le_mul (by omega) (by omega)
    omega
  obtain ⟨seen, pre, todo, g⟩ := q
  obtain ⟨hb, hm⟩ := hq
  simp only at hb hm
  cases todo with
  | nil =>
    have hz : decide ((0 : Int) < 0) = false := rfl
    repeat' (first | ((first | refine aops_nil ?_ | refine aqops_nil ?_); (try simp only [NB])) | ((repeat ((fail_if_success (refine hK _ ?_)); clear hK K)); refine hK _ ?_; clear hK K) | ((first | refine aops_k fun K1 hK1 => ?_ | refine aqops_k fun K1 hK1 => ?_ | refine awp_cond_k fun A B hA hB => ?_); simp only [S1, simprocAttr, TTNeN, List.length_nil, hz]; first | (refine hK1 _ ?_; clear hK1 K1) | ((first | refine hA ?_ | refine hB ?_); clear hA hB A B) | (refine join_x (v := ?_) (fun hg hk9 => ?_) ?_; rotate_left; (focus (try ((try simp only [BN] at hg); simp only [S1, simprocAttr, TTNeN, List.length_nil, hz, hg] at hk9 ⊢)); first | exact hk9); (refine hK1 _ ?_; clear hK1 K1)) | (((first | (refine ⟨fun hg => hA ?_, fun hg => hB ?_⟩ <;> clear hA hB A B) | refine ⟨fun hg => ?_, fun hg => ?_⟩) <;> (try simp only [BN2] at hg) <;> (try simp only [hg, cond_true, cond_false])) <;> (try (refine hK1 _ ?_; clear hK1 K1)) <;> (try simp only [BN3] at hg))) | (refine awp_seq_k fun K hK => ?_) | ((first | refine awp_region ?_ | refine awp_draw (by kernel_rfl) ?_ | refine awp_block ?_ | refine awp_exit ?_ | refine awp_skip ?_ | refine awp_ret ?_); (try simp only [NB, simprocAttr])))
    exact EndP_bools (.inr rfl) hb.len.symm rfl (by simp only [blkAt, get_app, List.getElem?_cons_succ, List.getElem?_cons_zero, if_true]) (by omega) (by simp) (by simp) (by rw [hb.done, Int.toNat_natCast])
  | cons x rest =>
    have hxn : x < ns.length := (hb.soundT x (by simp)).closed (p := fun i => i < ns.length) (by omega) fun e he _ => edgeB_in hd back e he
    have hx1 : (x : Int) < (ns.length : Int) := by omega
    have hx0 : (0 : Int) ≤ (x : Int) := by omega
    have hp0 : decide ((0 : Int) < ((rest.length + 1 : Nat) : Int)) = true := decide_eq_true (by omega)
    have hp1 : (0 : Int) < ((rest.length + 1 : Nat) : Int) := by omega
    have hp2 : 1 ≤ rest.length + 1 := by omega
    have hrl : rest.length ≤ 20000 := by unfold bfsM at hm; simp only [List.length_cons] at hm; omega
    obtain ⟨b, hsx⟩ : ∃ b, seen[x]? = some b := ⟨_, List.getElem?_eq_getElem (by rw [hb.len]; exact hxn)⟩
    have hdr := dropB hsx
    have hdq := dropQ pre x rest
    have hxs : x + 1 ≤ seen.length := by rw [hb.len]; exact hxn
    cases b with
    | true =>
      repeat' (first | ((first | refine aops_nil ?_ | refine aqops_nil ?_); (try simp only [NB])) | ((repeat ((fail_if_success (refine hK _ ?_)); clear hK K)); refine hK _ ?_; clear hK K) | ((first | refine aops_k fun K1 hK1 => ?_ | refine aqops_k fun K1 hK1 => ?_ | refine awp_cond_k fun A B hA hB => ?_); simp only [S1, simprocAttr, TTNeN, hp0, hp1, hp2, hx0, hx1, hdr, hdq, Nat.mul_one, Nat.zero_add, Nat.add_zero, Nat.le_refl, Nat.add_sub_cancel, Int.toNat_natCast, Int.toNat_zero]; first | (refine hK1 _ ?_; clear hK1 K1) | ((first | refine hA ?_ | refine hB ?_); clear hA hB A B) | (refine join_x (v := ?_) (fun hg hk9 => ?_) ?_; rotate_left; (focus (try ((try simp only [BN] at hg); simp only [S1, simprocAttr, TTNeN, hp0, hp1, hp2, hx0, hx1, hdr, hdq, Nat.mul_one, Nat.zero_add, Nat.add_zero, Nat.le_refl, Nat.add_sub_cancel, Int.toNat_natCast, Int.toNat_zero, hg] at hk9 ⊢)); first | exact hk9); (refine hK1 _ ?_; clear hK1 K1)) | (((first | (refine ⟨fun hg => hA ?_, fun hg => hB ?_⟩ <;> clear hA hB A B) | refine ⟨fun hg => ?_, fun hg => ?_⟩) <;> (try simp only [BN2] at hg) <;> (try simp only [hg, cond_true, cond_false])) <;> (try (refine hK1 _ ?_; clear hK1 K1)) <;> (try simp only [BN3] at hg))) | (refine awp_seq_k fun K hK => ?_) | ((first | refine awp_region ?_ | refine awp_draw (by kernel_rfl) ?_ | refine awp_block ?_ | refine awp_exit ?_ | refine awp_skip ?_ | refine awp_ret ?_); (try simp only [NB, simprocAttr])))
      all_goals refine ⟨⟨seen, pre ++ [x], rest, g⟩, bfsM_skip _ _ _ _, ⟨hb.skip hsx, Nat.le_trans (Nat.le_of_lt (bfsM_skip _ _ _ _)) hm⟩, ?_⟩
      all_goals simp only [List.length_append, List.length_cons, List.length_nil, Nat.zero_add, List.append_assoc, List.cons_append, List.nil_append]
      all_goals refine ⟨rfl, ⟨[], by simp only [List.append_nil]⟩, ?_, ⟨trivial, trivial, trivial⟩, avlts_bools _ _, avlts_nats _ _, trivial⟩
      all_goals simp only [keeps, avlt, avlts, blksLt, frL, upd_get, S1, simprocAttr, List.length_map, Int.natCast_zero, AV.p.injEq, PV.int.injEq, PV.bool.injEq, PV.sl.injEq] <;> (try and_intros) <;> (try assumption) <;> (try trivial) <;> (try omega)
    | false =>
      repeat' (first | ((first | refine aops_nil ?_ | refine aqops_nil ?_); (try simp only [NB])) | ((repeat ((fail_if_success (refine hK _ ?_)); clear hK K)); refine hK _ ?_; clear hK K) | ((first | refine aops_k fun K1 hK1 => ?_ | refine aqops_k fun K1 hK1 => ?_ | refine awp_cond_k fun A B hA hB => ?_); simp only [S1, simprocAttr, TTNeN, hp0, hp1, hp2, hx0, hx1, hxs, hdr, hdq, setB_b, List.length_map, Nat.mul_one, Nat.zero_add, Nat.add_zero, Nat.le_refl, Nat.add_sub_cancel, Int.toNat_natCast, Int.toNat_zero]; first | (refine hK1 _ ?_; clear hK1 K1) | ((first | refine hA ?_ | refine hB ?_); clear hA hB A B) | (refine join_x (v := ?_) (fun hg hk9 => ?_) ?_; rotate_left; (focus (try ((try simp only [BN] at hg); simp only [S1, simprocAttr, TTNeN, hp0, hp1, hp2, hx0, hx1, hxs, hdr, hdq, setB_b, List.length_map, Nat.mul_one, Nat.zero_add, Nat.add_zero, Nat.le_refl, Nat.add_sub_cancel, Int.toNat_natCast, Int.toNat_zero, hg] at hk9 ⊢)); first | exact hk9); (refine hK1 _ ?_; clear hK1 K1)) | (((first | (refine ⟨fun hg => hA ?_, fun hg => hB ?_⟩ <;> clear hA hB A B) | refine ⟨fun hg => ?_, fun hg => ?_⟩) <;> (try simp only [BN2] at hg) <;> (try simp only [hg, cond_true, cond_false])) <;> (try (refine hK1 _ ?_; clear hK1 K1)) <;> (try simp only [BN3] at hg))) | (refine awp_seq_k fun K hK => ?_) | ((first | refine awp_region ?_ | refine awp_draw (by kernel_rfl) ?_ | refine awp_block ?_ | refine awp_exit ?_ | refine awp_skip ?_ | refine awp_ret ?_); (try simp only [NB, simprocAttr])))
      refine awp_while (σ := Qi) (fun q => fl.length - q.j) 69 (fun q => [(36, .i q.j), (35, .i fl.length), (34, .p (.sl (fl.map eF))), (9, .i x), (8, .ref (h.length + 2) q.g q.pre.length 1 q.todo.length), (7, .ref (h.length + 1) 0 0 1 ns.length), (3, .ptr h.length 0 0), (2, .b back)])
        (fun q => [some ⟨0, cNet ns fl⟩, some ⟨0, (seen.set x true).map AV.b⟩, some ⟨q.g, (q.pre ++ q.todo).map nI⟩]) (fun q => q.j ≤ fl.length ∧ q.todo = rest ++ nexts ((edgeB back fl).take q.j) x) ⟨0, pre ++ [x], rest, g⟩ ?_ ?_ fun q hq K hK => ?_
      · simp only [List.length_append, List.length_cons, List.length_nil, Nat.zero_add, List.append_assoc, List.cons_append, List.nil_append]
        refine ⟨rfl, ⟨[], by simp only [List.append_nil]⟩, ?_, ⟨trivial, trivial, trivial⟩, avlts_bools _ _, avlts_nats _ _, trivial⟩
        simp only [keeps, avlt, avlts, blksLt, frL, upd_get, S1, simprocAttr, List.length_map, Int.natCast_zero, AV.p.injEq, PV.int.injEq, PV.bool.injEq, PV.sl.injEq] <;> (try and_intros) <;> (try assumption) <;> (try trivial) <;> (try omega)
      · exact ⟨Nat.zero_le _, by simp [nexts]⟩
      obtain ⟨j, qp, qt, qg⟩ := q
      obtain ⟨hj, hqt⟩ := hq
      simp only at hj hqt
      have hql : qt.length ≤ 20100 := by
        have := nexts_len ((edgeB back fl).take j) x
        rw [List.length_take] at this
        rw [hqt, List.length_append]; omega
      have hmax : qt.length + 1 ≤ maxCount := by unfold maxCount; omega
      rcases Nat.lt_or_ge j fl.length with hjl | hjg
      · obtain ⟨f, hx⟩ : ∃ k, fl[j]? = some k := ⟨_, List.getElem?_eq_getElem hjl⟩
        obtain ⟨⟨a1, a2⟩, b1, b2⟩ := hd f (List.mem_of_getElem? hx)
        obtain ⟨u, hu⟩ := Int.eq_ofNat_of_zero_le a1
        obtain ⟨v, hv⟩ := Int.eq_ofNat_of_zero_le b1
        have hmj : fl.length - (j + 1) < fl.length - j := by omega
        have hdq2 := dropQ2 qp qt
        cases back with
        | true =>
          have he : (edgeB true fl)[j]? = some (v, u) := by simp [edgeB, esF, hx, hu, hv]
          have hnt := nexts_take he x
          by_cases hvx : v = x
          · have hbe : (f.dst == (x : Int)) = true := by rw [hv, hvx]; simp
            rw [if_pos hvx] at hnt
            repeat' (first | ((first | refine aops_nil ?_ | refine aqops_nil ?_); (try simp only [NB])) | ((repeat ((fail_if_success (refine hK _ ?_)); clear hK K)); refine hK _ ?_; clear hK K) | ((first | refine aops_k fun K1 hK1 => ?_ | refine aqops_k fun K1 hK1 => ?_ | refine awp_cond_k fun A B hA hB => ?_); simp only [S1, simprocAttr, TTNeN, rowF hx, hitF hjl, nextF hl hjl, eF, hbe, r2, r3, hdq2, hmax, List.length_map, List.length_append, Nat.mul_one, Nat.zero_add, Nat.add_zero]; first | (refine hK1 _ ?_; clear hK1 K1) | ((first | refine hA ?_ | refine hB ?_); clear hA hB A B) | (refine join_x (v := ?_) (fun hg hk9 => ?_) ?_; rotate_left; (focus (try ((try simp only [BN] at hg); simp only [S1, simprocAttr, TTNeN, rowF hx, hitF hjl, nextF hl hjl, eF, hbe, r2, r3, hdq2, hmax, List.length_map, List.length_append, Nat.mul_one, Nat.zero_add, Nat.add_zero, hg] at hk9 ⊢)); first | exact hk9); (refine hK1 _ ?_; clear hK1 K1)) | (((first | (refine ⟨fun hg => hA ?_, fun hg => hB ?_⟩ <;> clear hA hB A B) | refine ⟨fun hg => ?_, fun hg => ?_⟩) <;> (try simp only [BN2] at hg) <;> (try simp only [hg, cond_true, cond_false])) <;> (try (refine hK1 _ ?_; clear hK1 K1)) <;> (try simp only [BN3] at hg))) | (refine awp_seq_k fun K hK => ?_) | ((first | refine awp_region ?_ | refine awp_draw (by kernel_rfl) ?_ | refine awp_block ?_ | refine awp_exit ?_ | refine awp_skip ?_ | refine awp_ret ?_); (try simp only [NB, simprocAttr])))
            all_goals refine ⟨⟨j + 1, [], qt ++ [u], qg + 1⟩, hmj, ⟨hjl, by simp only [hnt, hqt, List.append_assoc]⟩, ?_⟩
            all_goals simp only [hu, List.length_append, List.length_cons, List.length_nil, Nat.zero_add, List.nil_append, List.map_append, List.map_cons, List.map_nil]
            all_goals refine ⟨rfl, ⟨_, rfl⟩, ?_, ⟨trivial, trivial, trivial⟩, avlts_bools _ _, (by have := avlts_nats (h.length + 3) (qt ++ [u]); simpa using this), trivial⟩
            all_goals simp only [keeps, avlt, avlts, blksLt, frL, upd_get, S1, simprocAttr, List.length_map, Int.natCast_zero, AV.p.injEq, PV.int.injEq, PV.bool.injEq, PV.sl.injEq] <;> (try and_intros) <;> (try assumption) <;> (try trivial) <;> (try omega)
          · have hbe : (f.dst == (x : Int)) = false := by rw [hv]; simp; omega
            rw [if_neg hvx, List.append_nil] at hnt
            repeat' (first | ((first | refine aops_nil ?_ | refine aqops_nil ?_); (try simp only [NB])) | ((repeat ((fail_if_success (refine hK _ ?_)); clear hK K)); refine hK _ ?_; clear hK K) | ((first | refine aops_k fun K1 hK1 => ?_ | refine aqops_k fun K1 hK1 => ?_ | refine awp_cond_k fun A B hA hB => ?_); simp only [S1, simprocAttr, TTNeN, rowF hx, hitF hjl, nextF hl hjl, eF, hbe, List.length_map, Nat.mul_one, Nat.zero_add, Nat.add_zero]; first | (refine hK1 _ ?_; clear hK1 K1) | ((first | refine hA ?_ | refine hB ?_); clear hA hB A B) | (refine join_x (v := ?_) (fun hg hk9 => ?_) ?_; rotate_left; (focus (try ((try simp only [BN] at hg); simp only [S1, simprocAttr, TTNeN, rowF hx, hitF hjl, nextF hl hjl, eF, hbe, List.length_map, Nat.mul_one, Nat.zero_add, Nat.add_zero, hg] at hk9 ⊢)); first | exact hk9); (refine hK1 _ ?_; clear hK1 K1)) | (((first | (refine ⟨fun hg => hA ?_, fun hg => hB ?_⟩ <;> clear hA hB A B) | refine ⟨fun hg => ?_, fun hg => ?_⟩) <;> (try simp only [BN2] at hg) <;> (try simp only [hg, cond_true, cond_false])) <;> (try (refine hK1 _ ?_; clear hK1 K1)) <;> (try simp only [BN3] at hg))) | (refine awp_seq_k fun K hK => ?_) | ((first | refine awp_region ?_ | refine awp_draw (by kernel_rfl) ?_ | refine awp_block ?_ | refine awp_exit ?_ | refine awp_skip ?_ | refine awp_ret ?_); (try simp only [NB, simprocAttr])))
            all_goals refine ⟨⟨j + 1, qp, qt, qg⟩, hmj, ⟨hjl, by simp only [hnt, hqt]⟩, ?_⟩
            all_goals refine ⟨rfl, ⟨_, rfl⟩, ?_, ⟨trivial, trivial, trivial⟩, avlts_bools _ _, avlts_nats _ _, trivial⟩
            all_goals simp only [keeps, avlt, avlts, blksLt, frL, upd_get, S1, simprocAttr, List.length_map, Int.natCast_zero, AV.p.injEq, PV.int.injEq, PV.bool.injEq, PV.sl.injEq] <;> (try and_intros) <;> (try assumption) <;> (try trivial) <;> (try omega)
        | false =>
          have he : (edgeB false fl)[j]? = some (u, v) := by simp [edgeB, esF, hx, hu, hv]
          have hnt := nexts_take he x
          by_cases hvx : u = x
          · have hbe : (f.src == (x : Int)) = true := by rw [hu, hvx]; simp
            rw [if_pos hvx] at hnt
            repeat' (first | ((first | refine aops_nil ?_ | refine aqops_nil ?_); (try simp only [NB])) | ((repeat ((fail_if_success (refine hK _ ?_)); clear hK K)); refine hK _ ?_; clear hK K) | ((first | refine aops_k fun K1 hK1 => ?_ | refine aqops_k fun K1 hK1 => ?_ | refine awp_cond_k fun A B hA hB => ?_); simp only [S1, simprocAttr, TTNeN, rowF hx, hitF hjl, nextF hl hjl, eF, hbe, r2, r3, hdq2, hmax, List.length_map, List.length_append, Nat.mul_one, Nat.zero_add, Nat.add_zero]; first | (refine hK1 _ ?_; clear hK1 K1) | ((first | refine hA ?_ | refine hB ?_); clear hA hB A B) | (refine join_x (v := ?_) (fun hg hk9 => ?_) ?_; rotate_left; (focus (try ((try simp only [BN] at hg); simp only [S1, simprocAttr, TTNeN, rowF hx, hitF hjl, nextF hl hjl, eF, hbe, r2, r3, hdq2, hmax, List.length_map, List.length_append, Nat.mul_one, Nat.zero_add, Nat.add_zero, hg] at hk9 ⊢)); first | exact hk9); (refine hK1 _ ?_; clear hK1 K1)) | (((first | (refine ⟨fun hg => hA ?_, fun hg => hB ?_⟩ <;> clear hA hB A B) | refine ⟨fun hg => ?_, fun hg => ?_⟩) <;> (try simp only [BN2] at hg) <;> (try simp only [hg, cond_true, cond_false])) <;> (try (refine hK1 _ ?_; clear hK1 K1)) <;> (try simp only [BN3] at hg))) | (refine awp_seq_k fun K hK => ?_) | ((first | refine awp_region ?_ | refine awp_draw (by kernel_rfl) ?_ | refine awp_block ?_ | refine awp_exit ?_ | refine awp_skip ?_ | refine awp_ret ?_); (try simp only [NB, simprocAttr])))
            all_goals refine ⟨⟨j + 1, [], qt ++ [v], qg + 1⟩, hmj, ⟨hjl, by simp only [hnt, hqt, List.append_assoc]⟩, ?_⟩
            all_goals simp only [hv, List.length_append, List.length_cons, List.length_nil, Nat.zero_add, List.nil_append, List.map_append, List.map_cons, List.map_nil]
            all_goals refine ⟨rfl, ⟨_, rfl⟩, ?_, ⟨trivial, trivial, trivial⟩, avlts_bools _ _, (by have := avlts_nats (h.length + 3) (qt ++ [v]); simpa using this), trivial⟩
            all_goals simp only [keeps, avlt, avlts, blksLt, frL, upd_get, S1, simprocAttr, List.length_map, Int.natCast_zero, AV.p.injEq, PV.int.injEq, PV.bool.injEq, PV.sl.injEq] <;> (try and_intros) <;> (try assumption) <;> (try trivial) <;> (try omega)
          · have hbe : (f.src == (x : Int)) = false := by rw [hu]; simp; omega
            rw [if_neg hvx, List.append_nil] at hnt
            repeat' (first | ((first | refine aops_nil ?_ | refine aqops_nil ?_); (try simp only [NB])) | ((repeat ((fail_if_success (refine hK _ ?_)); clear hK K)); refine hK _ ?_; clear hK K) | ((first | refine aops_k fun K1 hK1 => ?_ | refine aqops_k fun K1 hK1 => ?_ | refine awp_cond_k fun A B hA hB => ?_); simp only [S1, simprocAttr, TTNeN, rowF hx, hitF hjl, nextF hl hjl, eF, hbe, List.length_map, Nat.mul_one, Nat.zero_add, Nat.add_zero]; first | (refine hK1 _ ?_; clear hK1 K1) | ((first | refine hA ?_ | refine hB ?_); clear hA hB A B) | (refine join_x (v := ?_) (fun hg hk9 => ?_) ?_; rotate_left; (focus (try ((try simp only [BN] at hg); simp only [S1, simprocAttr, TTNeN, rowF hx, hitF hjl, nextF hl hjl, eF, hbe, List.length_map, Nat.mul_one, Nat.zero_add, Nat.add_zero, hg] at hk9 ⊢)); first | exact hk9); (refine hK1 _ ?_; clear hK1 K1)) | (((first | (refine ⟨fun hg => hA ?_, fun hg => hB ?_⟩ <;> clear hA hB A B) | refine ⟨fun hg => ?_, fun hg => ?_⟩) <;> (try simp only [BN2] at hg) <;> (try simp only [hg, cond_true, cond_false])) <;> (try (refine hK1 _ ?_; clear hK1 K1)) <;> (try simp only [BN3] at hg))) | (refine awp_seq_k fun K hK => ?_) | ((first | refine awp_region ?_ | refine awp_draw (by kernel_rfl) ?_ | refine awp_block ?_ | refine awp_exit ?_ | refine awp_skip ?_ | refine awp_ret ?_); (try simp only [NB, simprocAttr])))
            all_goals refine ⟨⟨j + 1, qp, qt, qg⟩, hmj, ⟨hjl, by simp only [hnt, hqt]⟩, ?_⟩
            all_goals refine ⟨rfl, ⟨_, rfl⟩, ?_, ⟨trivial, trivial, trivial⟩, avlts_bools _ _, avlts_nats _ _, trivial⟩
            all_goals simp only [keeps, avlt, avlts, blksLt, frL, upd_get, S1, simprocAttr, List.length_map, Int.natCast_zero, AV.p.injEq, PV.int.injEq, PV.bool.injEq, PV.sl.injEq] <;> (try and_intros) <;> (try assumption) <;> (try trivial) <;> (try omega)
      · obtain rfl : j = fl.length := by omega
        have hfull : (edgeB back fl).take fl.length = edgeB back fl := List.take_of_length_le (by rw [hel]; exact Nat.le_refl _)
        rw [hfull] at hqt
        have hlt := bfsM_visit (es := edgeB back fl) (todo := rest) hsx
        have hvi := hb.visit hxn
        rw [← hqt] at hlt hvi
        repeat' (first | ((first | refine aops_nil ?_ | refine aqops_nil ?_); (try simp only [NB])) | ((repeat ((fail_if_success (refine hK _ ?_)); clear hK K)); refine hK _ ?_; clear hK K) | ((first | refine aops_k fun K1 hK1 => ?_ | refine aqops_k fun K1 hK1 => ?_ | refine awp_cond_k fun A B hA hB => ?_); simp only [S1, simprocAttr, TTNeN, endF]; first | (refine hK1 _ ?_; clear hK1 K1) | ((first | refine hA ?_ | refine hB ?_); clear hA hB A B) | (refine join_x (v := ?_) (fun hg hk9 => ?_) ?_; rotate_left; (focus (try ((try simp only [BN] at hg); simp only [S1, simprocAttr, TTNeN, endF, hg] at hk9 ⊢)); first | exact hk9); (refine hK1 _ ?_; clear hK1 K1)) | (((first | (refine ⟨fun hg => hA ?_, fun hg => hB ?_⟩ <;> clear hA hB A B) | refine ⟨fun hg => ?_, fun hg => ?_⟩) <;> (try simp only [BN2] at hg) <;> (try simp only [hg, cond_true, cond_false])) <;> (try (refine hK1 _ ?_; clear hK1 K1)) <;> (try simp only [BN3] at hg))) | (refine awp_seq_k fun K hK => ?_) | ((first | refine awp_region ?_ | refine awp_draw (by kernel_rfl) ?_ | refine awp_block ?_ | refine awp_exit ?_ | refine awp_skip ?_ | refine awp_ret ?_); (try simp only [NB, simprocAttr])))
        all_goals refine ⟨⟨seen.set x true, qp, qt, qg⟩, hlt, ⟨hvi, Nat.le_trans (Nat.le_of_lt hlt) hm⟩, ?_⟩
        all_goals refine ⟨rfl, ⟨_, rfl⟩, ?_, ⟨trivial, trivial, trivial⟩, avlts_bools _ _, avlts_nats _ _, trivial⟩
        all_goals simp only [keeps, avlt, avlts, blksLt, frL, upd_get, S1, simprocAttr, List.length_map, Int.natCast_zero, AV.p.injEq, PV.int.injEq, PV.bool.injEq, PV.sl.injEq] <;> (try and_intros) <;> (try assumption) <;> (try trivial) <;> (try omega)
end Go.Proofs.YtjpphhcimpclpaaDoor.AM
end

section
set_option linter.unusedVariables false
set_option linter.unusedSimpArgs false
set_option maxRecDepth 4000
set_option maxHeartbeats 4000000
namespace Go.Proofs.YtjpphhcimpclpaaDoor.AM
open Go Go.Proofs
set_option linter.defProp false in
def TTNeL := And.intro T2 (And.intro T3 (And.intro T4 (And.intro T22 (And.intro T23 (And.intro T25 (And.intro T40 (And.intro T56 (And.intro T58 (And.intro T60 T71)))))))))
attribute [local irreducible] awp aops aqops aeops arun
variable {G : Nat → Option (List PV)}

theorem linked_calls (ns : List Nd) (hn : ns.length ≤ 100) (fl : List Fl) (hl : fl.length ≤ 100) (hd : ∀ f ∈ fl, 0 ≤ f.dst ∧ f.dst < (ns.length : Int)) (i : Int) (hi0 : 0 ≤ i) (hi1 : i < (ns.length : Int)) (h : Heap) :
    ACalls Tryd.prog G 86 [aNet ns fl, .i i] h (fun r h' => r = .b (threeB ns fl i) ∧ h' = h) := by
  have hle : (outsN fl i).length ≤ 100 := Nat.le_trans (pickF_le _ _ _) hl
  obtain ⟨kd, hkd⟩ : ∃ k, ns[i.toNat]? = some k := ⟨_, List.getElem?_eq_getElem (by omega)⟩
  have hkd' := rowN hkd
  have ekd : kindAt ns i = kd.kind := by unfold kindAt; rw [hkd]
  refine acalls_pure (rl := []) mixed Tryd.func86 rfl (rs := [.tmp 4]) rfl Tryd.ntmps86 (by simp) ?_
  refine awp_seq_k fun K hK => ?_
  repeat' (first | ((first | refine aops_nil ?_ | refine aqops_nil ?_); (try simp only [NB]); ((repeat ((fail_if_success (refine hK _ ?_)); clear hK K)); refine hK _ ?_; clear hK K)) | ((first | refine aops_k fun K1 hK1 => ?_ | refine aqops_k fun K1 hK1 => ?_ | refine awp_cond_k fun A B hA hB => ?_); simp only [S1, simprocAttr, TTNeL]; first | (refine hK1 _ ?_; clear hK1 K1) | ((first | refine hA ?_ | refine hB ?_); clear hA hB A B) | (refine join_x (v := ?_) (fun hg hk9 => ?_) ?_; rotate_left; (focus (try ((try simp only [BN] at hg); simp only [S1, simprocAttr, TTNeL, hg] at hk9 ⊢)); first | exact hk9); (refine hK1 _ ?_; clear hK1 K1)) | (((first | (refine ⟨fun hg => hA ?_, fun hg => hB ?_⟩ <;> clear hA hB A B) | refine ⟨fun hg => ?_, fun hg => ?_⟩) <;> (try simp only [BN2] at hg) <;> (try simp only [hg, cond_true, cond_false])) <;> (try (refine hK1 _ ?_; clear hK1 K1)) <;> (try simp only [BN3] at hg))) | (fail) | ((first | refine awp_region ?_ | refine awp_draw (by kernel_rfl) ?_ | refine awp_block ?_ | refine awp_exit ?_ | refine awp_skip ?_ | refine awp_ret ?_); (try simp only [NB, simprocAttr]); (try ((repeat ((fail_if_success (refine hK _ ?_)); clear hK K)); refine hK _ ?_; clear hK K))))
  refine awp_seq_k fun K hK => ?_
  repeat' (first | ((first | refine aops_nil ?_ | refine aqops_nil ?_); (try simp only [NB]); ((repeat ((fail_if_success (refine hK _ ?_)); clear hK K)); refine hK _ ?_; clear hK K)) | ((first | refine aops_k fun K1 hK1 => ?_ | refine aqops_k fun K1 hK1 => ?_ | refine awp_cond_k fun A B hA hB => ?_); simp only [S1, simprocAttr, TTNeL]; first | (refine hK1 _ ?_; clear hK1 K1) | ((first | refine hA ?_ | refine hB ?_); clear hA hB A B) | ((first | apply call_a E26 | apply call_q E26); exact (outs_calls _ fl hl _ _); (refine hK1 _ ?_; clear hK1 K1)) | (refine join_x (v := ?_) (fun hg hk9 => ?_) ?_; rotate_left; (focus (try ((try simp only [BN] at hg); simp only [S1, simprocAttr, TTNeL, hg] at hk9 ⊢)); first | exact hk9 | ((first | apply call_a E26 | apply call_q E26); exact (outs_calls _ fl hl _ _); exact hk9)); (refine hK1 _ ?_; clear hK1 K1)) | (((first | (refine ⟨fun hg => hA ?_, fun hg => hB ?_⟩ <;> clear hA hB A B) | refine ⟨fun hg => ?_, fun hg => ?_⟩) <;> (try simp only [BN2] at hg) <;> (try simp only [hg, cond_true, cond_false])) <;> (try (refine hK1 _ ?_; clear hK1 K1)) <;> (try simp only [BN3] at hg))) | (fail) | ((first | refine awp_region ?_ | refine awp_draw (by kernel_rfl) ?_ | refine awp_block ?_ | refine awp_exit ?_ | refine awp_skip ?_ | refine awp_ret ?_); (try simp only [NB, simprocAttr]); (try ((repeat ((fail_if_success (refine hK _ ?_)); clear hK K)); refine hK _ ?_; clear hK K))))
  refine awp_seq_k fun K hK => ?_
  repeat' (first | ((first | refine aops_nil ?_ | refine aqops_nil ?_); (try simp only [NB]); ((repeat ((fail_if_success (refine hK _ ?_)); clear hK K)); refine hK _ ?_; clear hK K)) | ((first | refine aops_k fun K1 hK1 => ?_ | refine aqops_k fun K1 hK1 => ?_ | refine awp_cond_k fun A B hA hB => ?_); simp only [S1, simprocAttr, TTNeL, List.length_map, hi0, hkd', eN]; first | (refine hK1 _ ?_; clear hK1 K1) | ((first | refine hA ?_ | refine hB ?_); clear hA hB A B) | ((first | apply call_a E25 | apply call_q E25); exact (ins_calls _ fl hl _ _); (refine hK1 _ ?_; clear hK1 K1)) | (refine join_x (v := ?_) (fun hg hk9 => ?_) ?_; rotate_left; (focus (try ((try simp only [BN] at hg); simp only [S1, simprocAttr, TTNeL, List.length_map, hi0, hkd', eN, hg] at hk9 ⊢)); first | exact hk9 | ((first | apply call_a E25 | apply call_q E25); exact (ins_calls _ fl hl _ _); exact hk9)); (refine hK1 _ ?_; clear hK1 K1)) | (((first | (refine ⟨fun hg => hA ?_, fun hg => hB ?_⟩ <;> clear hA hB A B) | refine ⟨fun hg => ?_, fun hg => ?_⟩) <;> (try simp only [BN2] at hg) <;> (try simp only [hg, cond_true, cond_false])) <;> (try (refine hK1 _ ?_; clear hK1 K1)) <;> (try simp only [BN3] at hg))) | (fail) | ((first | refine awp_region ?_ | refine awp_draw (by kernel_rfl) ?_ | refine awp_block ?_ | refine awp_exit ?_ | refine awp_skip ?_ | refine awp_ret ?_); (try simp only [NB, simprocAttr]); (try ((repeat ((fail_if_success (refine hK _ ?_)); clear hK K)); refine hK _ ?_; clear hK K))))
  refine awp_seq_k fun K hK => ?_
  repeat' (first | ((first | refine aops_nil ?_ | refine aqops_nil ?_); (try simp only [NB]); ((repeat ((fail_if_success (refine hK _ ?_)); clear hK K)); refine hK _ ?_; clear hK K)) | ((first | refine aops_k fun K1 hK1 => ?_ | refine aqops_k fun K1 hK1 => ?_ | refine awp_cond_k fun A B hA hB => ?_); simp only [S1, simprocAttr, TTNeL]; first | (refine hK1 _ ?_; clear hK1 K1) | ((first | refine hA ?_ | refine hB ?_); clear hA hB A B) | (refine join_x (v := ?_) (fun hg hk9 => ?_) ?_; rotate_left; (focus (try ((try simp only [BN] at hg); simp only [S1, simprocAttr, TTNeL, hg] at hk9 ⊢)); first | exact hk9); (refine hK1 _ ?_; clear hK1 K1)) | (((first | (refine ⟨fun hg => hA ?_, fun hg => hB ?_⟩ <;> clear hA hB A B) | refine ⟨fun hg => ?_, fun hg => ?_⟩) <;> (try simp only [BN2] at hg) <;> (try simp only [hg, cond_true, cond_false])) <;> (try (refine hK1 _ ?_; clear hK1 K1)) <;> (try simp only [BN3] at hg))) | (fail) | ((first | refine awp_region ?_ | refine awp_draw (by kernel_rfl) ?_ | refine awp_block ?_ | refine awp_exit ?_ | refine awp_skip ?_ | refine awp_ret ?_); (try simp only [NB, simprocAttr]); (try ((repeat ((fail_if_success (refine hK _ ?_)); clear hK K)); refine hK _ ?_; clear hK K))))
  refine awp_seq_k fun K hK => ?_
  repeat' (first | ((first | refine aops_nil ?_ | refine aqops_nil ?_); (try simp only [NB]); ((repeat ((fail_if_success (refine hK _ ?_)); clear hK K)); refine hK _ ?_; clear hK K)) | ((first | refine aops_k fun K1 hK1 => ?_ | refine aqops_k fun K1 hK1 => ?_ | refine awp_cond_k fun A B hA hB => ?_); simp only [S1, simprocAttr, TTNeL]; first | (refine hK1 _ ?_; clear hK1 K1) | ((first | refine hA ?_ | refine hB ?_); clear hA hB A B) | (refine join_x (v := ?_) (fun hg hk9 => ?_) ?_; rotate_left; (focus (try ((try simp only [BN] at hg); simp only [S1, simprocAttr, TTNeL, hg] at hk9 ⊢)); first | exact hk9); (refine hK1 _ ?_; clear hK1 K1)) | (((first | (refine ⟨fun hg => hA ?_, fun hg => hB ?_⟩ <;> clear hA hB A B) | refine ⟨fun hg => ?_, fun hg => ?_⟩) <;> (try simp only [BN2] at hg) <;> (try simp only [hg, cond_true, cond_false])) <;> (try (refine hK1 _ ?_; clear hK1 K1)) <;> (try simp only [BN3] at hg))) | (fail) | ((first | refine awp_region ?_ | refine awp_draw (by kernel_rfl) ?_ | refine awp_block ?_ | refine awp_exit ?_ | refine awp_skip ?_ | refine awp_ret ?_); (try simp only [NB, simprocAttr]); (try ((repeat ((fail_if_success (refine hK _ ?_)); clear hK K)); refine hK _ ?_; clear hK K))))
  refine awp_seq_k fun K hK => ?_
  repeat' (first | ((first | refine aops_nil ?_ | refine aqops_nil ?_); (try simp only [NB])) | ((repeat ((fail_if_success (refine hK _ ?_)); clear hK K)); refine hK _ ?_; clear hK K) | ((first | refine aops_k fun K1 hK1 => ?_ | refine aqops_k fun K1 hK1 => ?_ | refine awp_cond_k fun A B hA hB => ?_); simp only [S1, simprocAttr, TTNeL, List.length_map]; first | (refine hK1 _ ?_; clear hK1 K1) | ((first | refine hA ?_ | refine hB ?_); clear hA hB A B) | (refine join_x (v := ?_) (fun hg hk9 => ?_) ?_; rotate_left; (focus (try ((try simp only [BN] at hg); simp only [S1, simprocAttr, TTNeL, List.length_map, hg] at hk9 ⊢)); first | exact hk9); (refine hK1 _ ?_; clear hK1 K1)) | (((first | (refine ⟨fun hg => hA ?_, fun hg => hB ?_⟩ <;> clear hA hB A B) | refine ⟨fun hg => ?_, fun hg => ?_⟩) <;> (try simp only [BN2] at hg) <;> (try simp only [hg, cond_true, cond_false])) <;> (try (refine hK1 _ ?_; clear hK1 K1)) <;> (try simp only [BN3] at hg))) | (refine awp_seq_k fun K hK => ?_) | ((first | refine awp_region ?_ | refine awp_draw (by kernel_rfl) ?_ | refine awp_block ?_ | refine awp_exit ?_ | refine awp_skip ?_ | refine awp_ret ?_); (try simp only [NB, simprocAttr])))
  refine awp_for (outsN fl i).length 122 (fun j => [(28, .i j), (27, .i (outsN fl i).length), (26, aI (outsN fl i)), (9, .b (cntB (othAt ns fl) (outsN fl i) j == 0)), (8, .i (cntB (elsAt fl) (outsN fl i) j)), (7, .i kd.kind), (6, .i (insN fl i).length), (5, aI (outsN fl i)), (2, .ptr h.length 0 0), (1, .i i)])
    (fun j => [some ⟨0, [.p (.sl (ns.map eN)), .p (.sl (fl.map eF))]⟩]) (fun j => True) ?_ trivial fun j hj hp K hK => ?_
  · (refine ⟨rfl, (by first | exact ⟨_, rfl⟩ | exact ⟨[], by simp⟩), ?_, ?_⟩ <;> simp only [keeps, avlt, avlts, blksLt, frL, upd_get, S1, simprocAttr, List.length_map, Int.natCast_zero, AV.p.injEq, PV.int.injEq, PV.bool.injEq, PV.sl.injEq] <;> (try and_intros) <;> (try assumption) <;> (try trivial) <;> (try omega))
  rcases Nat.lt_or_ge j (outsN fl i).length with hlt | hge
  · obtain ⟨x, hx⟩ : ∃ k, (outsN fl i)[j]? = some k := ⟨_, List.getElem?_eq_getElem hlt⟩
    obtain ⟨xi, f, hxi, rfl, hf, _⟩ := pickF_mem (List.mem_of_getElem? hx)
    obtain ⟨d1, d2⟩ := hd f (List.mem_of_getElem? hf)
    obtain ⟨kx, hkx⟩ : ∃ k, ns[f.dst.toNat]? = some k := ⟨_, List.getElem?_eq_getElem (by omega)⟩
    have hkx' := rowN hkx
    have hf' := rowF hf
    have x0 : (0 : Int) ≤ (xi : Int) := Int.natCast_nonneg _
    have s1 := cntB_step (p := elsAt fl) hx
    have s2 := cntB_step (p := othAt ns fl) hx
    have b1 := cntB_le (elsAt fl) (outsN fl i) j
    have e1 : elsAt fl (xi : Int) = f.els := by unfold elsAt; rw [Int.toNat_natCast, hf]
    have e2 : othAt ns fl (xi : Int) = (kx.kind != 8) := by unfold othAt; rw [Int.toNat_natCast, hf]; simp only [kindAt, hkx]
    rw [e1] at s1
    rw [e2] at s2
    have w1 := IntWalk.i64_in ((cntB (elsAt fl) (outsN fl i) j : Int) + 1) (by omega)
    have n1 := nextI (l := outsN fl i) (i := j) (by omega) hlt
    have s3 : (cntB (othAt ns fl) (outsN fl i) (j + 1) == 0) = ((cntB (othAt ns fl) (outsN fl i) j == 0) && (kx.kind == 8)) := by
      rw [s2, Bool.eq_iff_iff]
      by_cases h8 : kx.kind = 8 <;> simp [h8]
    cases h1 : f.els <;> simp only [h1, if_true, Bool.false_eq_true, if_false, Nat.add_zero] at s1
    all_goals (repeat' (first | ((first | refine aops_nil ?_ | refine aqops_nil ?_); (try simp only [NB])) | ((repeat ((fail_if_success (refine hK _ ?_)); clear hK K)); refine hK _ ?_; clear hK K) | ((first | refine aops_k fun K1 hK1 => ?_ | refine aqops_k fun K1 hK1 => ?_ | refine awp_cond_k fun A B hA hB => ?_); simp only [S1, simprocAttr, TTNeL, rowI hx, hitI hlt, n1, eF, eN, hf', hkx', h1, d1, d2, x0, w1, Int.toNat_natCast, List.length_map]; first | (refine hK1 _ ?_; clear hK1 K1) | ((first | refine hA ?_ | refine hB ?_); clear hA hB A B) | (refine join_x (v := ?_) (fun hg hk9 => ?_) ?_; rotate_left; (focus (try ((try simp only [BN] at hg); simp only [S1, simprocAttr, TTNeL, rowI hx, hitI hlt, n1, eF, eN, hf', hkx', h1, d1, d2, x0, w1, Int.toNat_natCast, List.length_map, hg] at hk9 ⊢)); first | exact hk9); (refine hK1 _ ?_; clear hK1 K1)) | (((first | (refine ⟨fun hg => hA ?_, fun hg => hB ?_⟩ <;> clear hA hB A B) | refine ⟨fun hg => ?_, fun hg => ?_⟩) <;> (try simp only [BN2] at hg) <;> (try simp only [hg, cond_true, cond_false])) <;> (try (refine hK1 _ ?_; clear hK1 K1)) <;> (try simp only [BN3] at hg))) | (refine awp_seq_k fun K hK => ?_) | ((first | refine awp_region ?_ | refine awp_draw (by kernel_rfl) ?_ | refine awp_block ?_ | refine awp_exit ?_ | refine awp_skip ?_ | refine awp_ret ?_); (try simp only [NB, simprocAttr]))))
    all_goals refine ⟨hlt, trivial, ?_⟩
    all_goals simp only [s1, s3]
    all_goals (refine ⟨rfl, (by first | exact ⟨_, rfl⟩ | exact ⟨[], by simp⟩), ?_, ?_⟩ <;> simp only [keeps, avlt, avlts, blksLt, frL, upd_get, S1, simprocAttr, List.length_map, Int.natCast_zero, AV.p.injEq, PV.int.injEq, PV.bool.injEq, PV.sl.injEq] <;> (try and_intros) <;> (try assumption) <;> (try trivial) <;> (try omega))
  · obtain rfl : j = (outsN fl i).length := by omega
    have e0 : threeB ns fl i = threeB ns fl i := rfl
    conv at e0 => rhs; unfold threeB
    rw [ekd] at e0
    by_cases k1 : kd.kind = 1
    · repeat' (first | ((first | refine aops_nil ?_ | refine aqops_nil ?_); (try simp only [NB])) | ((repeat ((fail_if_success (refine hK _ ?_)); clear hK K)); refine hK _ ?_; clear hK K) | ((first | refine aops_k fun K1 hK1 => ?_ | refine aqops_k fun K1 hK1 => ?_ | refine awp_cond_k fun A B hA hB => ?_); simp only [S1, simprocAttr, TTNeL, endI, k1, List.length_map]; first | (refine hK1 _ ?_; clear hK1 K1) | ((first | refine hA ?_ | refine hB ?_); clear hA hB A B) | (refine join_x (v := ?_) (fun hg hk9 => ?_) ?_; rotate_left; (focus (try ((try simp only [BN] at hg); simp only [S1, simprocAttr, TTNeL, endI, k1, List.length_map, hg] at hk9 ⊢)); first | exact hk9); (refine hK1 _ ?_; clear hK1 K1)) | (((first | (refine ⟨fun hg => hA ?_, fun hg => hB ?_⟩ <;> clear hA hB A B) | refine ⟨fun hg => ?_, fun hg => ?_⟩) <;> (try simp only [BN2] at hg) <;> (try simp only [hg, cond_true, cond_false])) <;> (try (refine hK1 _ ?_; clear hK1 K1)) <;> (try simp only [BN3] at hg))) | (refine awp_seq_k fun K hK => ?_) | ((first | refine awp_region ?_ | refine awp_draw (by kernel_rfl) ?_ | refine awp_block ?_ | refine awp_exit ?_ | refine awp_skip ?_ | refine awp_ret ?_); (try simp only [NB, simprocAttr])))
      all_goals simp only [EndP, FinP, resA, resL, resA1, lastV, lastA, lastAs, pur, purs, take_app, List.take_length, S1, simprocAttr, TTNeL, Nat.le_add_right, Nat.le_refl]
      all_goals simp [e0, k1]
      all_goals (rw [Bool.eq_iff_iff]; simp only [Bool.or_eq_true, Bool.and_eq_true, beq_iff_eq, decide_eq_true_eq]; omega)
    by_cases k2 : kd.kind = 2
    · repeat' (first | ((first | refine aops_nil ?_ | refine aqops_nil ?_); (try simp only [NB])) | ((repeat ((fail_if_success (refine hK _ ?_)); clear hK K)); refine hK _ ?_; clear hK K) | ((first | refine aops_k fun K1 hK1 => ?_ | refine aqops_k fun K1 hK1 => ?_ | refine awp_cond_k fun A B hA hB => ?_); simp only [S1, simprocAttr, TTNeL, endI, k2, List.length_map]; first | (refine hK1 _ ?_; clear hK1 K1) | ((first | refine hA ?_ | refine hB ?_); clear hA hB A B) | (refine join_x (v := ?_) (fun hg hk9 => ?_) ?_; rotate_left; (focus (try ((try simp only [BN] at hg); simp only [S1, simprocAttr, TTNeL, endI, k2, List.length_map, hg] at hk9 ⊢)); first | exact hk9); (refine hK1 _ ?_; clear hK1 K1)) | (((first | (refine ⟨fun hg => hA ?_, fun hg => hB ?_⟩ <;> clear hA hB A B) | refine ⟨fun hg => ?_, fun hg => ?_⟩) <;> (try simp only [BN2] at hg) <;> (try simp only [hg, cond_true, cond_false])) <;> (try (refine hK1 _ ?_; clear hK1 K1)) <;> (try simp only [BN3] at hg))) | (refine awp_seq_k fun K hK => ?_) | ((first | refine awp_region ?_ | refine awp_draw (by kernel_rfl) ?_ | refine awp_block ?_ | refine awp_exit ?_ | refine awp_skip ?_ | refine awp_ret ?_); (try simp only [NB, simprocAttr])))
      all_goals simp only [EndP, FinP, resA, resL, resA1, lastV, lastA, lastAs, pur, purs, take_app, List.take_length, S1, simprocAttr, TTNeL, Nat.le_add_right, Nat.le_refl]
      all_goals simp [e0, k2]
      all_goals (rw [Bool.eq_iff_iff]; simp only [Bool.or_eq_true, Bool.and_eq_true, beq_iff_eq, decide_eq_true_eq]; omega)
    by_cases k5 : kd.kind = 5
    · repeat' (first | ((first | refine aops_nil ?_ | refine aqops_nil ?_); (try simp only [NB])) | ((repeat ((fail_if_success (refine hK _ ?_)); clear hK K)); refine hK _ ?_; clear hK K) | ((first | refine aops_k fun K1 hK1 => ?_ | refine aqops_k fun K1 hK1 => ?_ | refine awp_cond_k fun A B hA hB => ?_); simp only [S1, simprocAttr, TTNeL, endI, k5, List.length_map]; first | (refine hK1 _ ?_; clear hK1 K1) | ((first | refine hA ?_ | refine hB ?_); clear hA hB A B) | (refine join_x (v := ?_) (fun hg hk9 => ?_) ?_; rotate_left; (focus (try ((try simp only [BN] at hg); simp only [S1, simprocAttr, TTNeL, endI, k5, List.length_map, hg] at hk9 ⊢)); first | exact hk9); (refine hK1 _ ?_; clear hK1 K1)) | (((first | (refine ⟨fun hg => hA ?_, fun hg => hB ?_⟩ <;> clear hA hB A B) | refine ⟨fun hg => ?_, fun hg => ?_⟩) <;> (try simp only [BN2] at hg) <;> (try simp only [hg, cond_true, cond_false])) <;> (try (refine hK1 _ ?_; clear hK1 K1)) <;> (try simp only [BN3] at hg))) | (refine awp_seq_k fun K hK => ?_) | ((first | refine awp_region ?_ | refine awp_draw (by kernel_rfl) ?_ | refine awp_block ?_ | refine awp_exit ?_ | refine awp_skip ?_ | refine awp_ret ?_); (try simp only [NB, simprocAttr])))
      all_goals simp only [EndP, FinP, resA, resL, resA1, lastV, lastA, lastAs, pur, purs, take_app, List.take_length, S1, simprocAttr, TTNeL, Nat.le_add_right, Nat.le_refl]
      all_goals simp [e0, k5]
      all_goals (rw [Bool.eq_iff_iff]; simp only [Bool.or_eq_true, Bool.and_eq_true, beq_iff_eq, decide_eq_true_eq]; omega)
    by_cases k6 : kd.kind = 6
    · repeat' (first | ((first | refine aops_nil ?_ | refine aqops_nil ?_); (try simp only [NB])) | ((repeat ((fail_if_success (refine hK _ ?_)); clear hK K)); refine hK _ ?_; clear hK K) | ((first | refine aops_k fun K1 hK1 => ?_ | refine aqops_k fun K1 hK1 => ?_ | refine awp_cond_k fun A B hA hB => ?_); simp only [S1, simprocAttr, TTNeL, endI, k6, List.length_map]; first | (refine hK1 _ ?_; clear hK1 K1) | ((first | refine hA ?_ | refine hB ?_); clear hA hB A B) | (refine join_x (v := ?_) (fun hg hk9 => ?_) ?_; rotate_left; (focus (try ((try simp only [BN] at hg); simp only [S1, simprocAttr, TTNeL, endI, k6, List.length_map, hg] at hk9 ⊢)); first | exact hk9); (refine hK1 _ ?_; clear hK1 K1)) | (((first | (refine ⟨fun hg => hA ?_, fun hg => hB ?_⟩ <;> clear hA hB A B) | refine ⟨fun hg => ?_, fun hg => ?_⟩) <;> (try simp only [BN2] at hg) <;> (try simp only [hg, cond_true, cond_false])) <;> (try (refine hK1 _ ?_; clear hK1 K1)) <;> (try simp only [BN3] at hg))) | (refine awp_seq_k fun K hK => ?_) | ((first | refine awp_region ?_ | refine awp_draw (by kernel_rfl) ?_ | refine awp_block ?_ | refine awp_exit ?_ | refine awp_skip ?_ | refine awp_ret ?_); (try simp only [NB, simprocAttr])))
      all_goals simp only [EndP, FinP, resA, resL, resA1, lastV, lastA, lastAs, pur, purs, take_app, List.take_length, S1, simprocAttr, TTNeL, Nat.le_add_right, Nat.le_refl]
      all_goals simp [e0, k6]
      all_goals (rw [Bool.eq_iff_iff]; simp only [Bool.or_eq_true, Bool.and_eq_true, beq_iff_eq, decide_eq_true_eq]; omega)
    by_cases k7 : kd.kind = 7
    · repeat' (first | ((first | refine aops_nil ?_ | refine aqops_nil ?_); (try simp only [NB])) | ((repeat ((fail_if_success (refine hK _ ?_)); clear hK K)); refine hK _ ?_; clear hK K) | ((first | refine aops_k fun K1 hK1 => ?_ | refine aqops_k fun K1 hK1 => ?_ | refine awp_cond_k fun A B hA hB => ?_); simp only [S1, simprocAttr, TTNeL, endI, k7, List.length_map]; first | (refine hK1 _ ?_; clear hK1 K1) | ((first | refine hA ?_ | refine hB ?_); clear hA hB A B) | (refine join_x (v := ?_) (fun hg hk9 => ?_) ?_; rotate_left; (focus (try ((try simp only [BN] at hg); simp only [S1, simprocAttr, TTNeL, endI, k7, List.length_map, hg] at hk9 ⊢)); first | exact hk9); (refine hK1 _ ?_; clear hK1 K1)) | (((first | (refine ⟨fun hg => hA ?_, fun hg => hB ?_⟩ <;> clear hA hB A B) | refine ⟨fun hg => ?_, fun hg => ?_⟩) <;> (try simp only [BN2] at hg) <;> (try simp only [hg, cond_true, cond_false])) <;> (try (refine hK1 _ ?_; clear hK1 K1)) <;> (try simp only [BN3] at hg))) | (refine awp_seq_k fun K hK => ?_) | ((first | refine awp_region ?_ | refine awp_draw (by kernel_rfl) ?_ | refine awp_block ?_ | refine awp_exit ?_ | refine awp_skip ?_ | refine awp_ret ?_); (try simp only [NB, simprocAttr])))
      all_goals simp only [EndP, FinP, resA, resL, resA1, lastV, lastA, lastAs, pur, purs, take_app, List.take_length, S1, simprocAttr, TTNeL, Nat.le_add_right, Nat.le_refl]
      all_goals simp [e0, k7]
      all_goals (rw [Bool.eq_iff_iff]; simp only [Bool.or_eq_true, Bool.and_eq_true, beq_iff_eq, decide_eq_true_eq]; omega)
    · have f1 : (kd.kind == 1) = false := by simp [k1]
      have f2 : (kd.kind == 2) = false := by simp [k2]
      have f5 : (kd.kind == 5) = false := by simp [k5]
      have f6 : (kd.kind == 6) = false := by simp [k6]
      have f7 : (kd.kind == 7) = false := by simp [k7]
      repeat' (first | ((first | refine aops_nil ?_ | refine aqops_nil ?_); (try simp only [NB])) | ((repeat ((fail_if_success (refine hK _ ?_)); clear hK K)); refine hK _ ?_; clear hK K) | ((first | refine aops_k fun K1 hK1 => ?_ | refine aqops_k fun K1 hK1 => ?_ | refine awp_cond_k fun A B hA hB => ?_); simp only [S1, simprocAttr, TTNeL, endI, f1, f2, f5, f6, f7, List.length_map]; first | (refine hK1 _ ?_; clear hK1 K1) | ((first | refine hA ?_ | refine hB ?_); clear hA hB A B) | (refine join_x (v := ?_) (fun hg hk9 => ?_) ?_; rotate_left; (focus (try ((try simp only [BN] at hg); simp only [S1, simprocAttr, TTNeL, endI, f1, f2, f5, f6, f7, List.length_map, hg] at hk9 ⊢)); first | exact hk9); (refine hK1 _ ?_; clear hK1 K1)) | (((first | (refine ⟨fun hg => hA ?_, fun hg => hB ?_⟩ <;> clear hA hB A B) | refine ⟨fun hg => ?_, fun hg => ?_⟩) <;> (try simp only [BN2] at hg) <;> (try simp only [hg, cond_true, cond_false])) <;> (try (refine hK1 _ ?_; clear hK1 K1)) <;> (try simp only [BN3] at hg))) | (refine awp_seq_k fun K hK => ?_) | ((first | refine awp_region ?_ | refine awp_draw (by kernel_rfl) ?_ | refine awp_block ?_ | refine awp_exit ?_ | refine awp_skip ?_ | refine awp_ret ?_); (try simp only [NB, simprocAttr])))
      all_goals simp only [EndP, FinP, resA, resL, resA1, lastV, lastA, lastAs, pur, purs, take_app, List.take_length, S1, simprocAttr, TTNeL, Nat.le_add_right, Nat.le_refl]
      all_goals simp [e0, k1, k2, k5, k6, k7]
      all_goals (rw [Bool.eq_iff_iff]; simp only [Bool.or_eq_true, Bool.and_eq_true, beq_iff_eq, decide_eq_true_eq]; omega)
end Go.Proofs.YtjpphhcimpclpaaDoor.AM
end

section
set_option linter.unusedVariables false
set_option linter.unusedSimpArgs false
namespace Go.Proofs.YtjpphhcimpclpaaDoor.AM
open Go

/-- Heaps that differ in what stands in blocks alone. -/
def Alike (h h' : Heap) : Prop := h'.length = h.length ∧ ∀ (b : Nat) (bk' : Blk), h'[b]? = some (some bk') → ∃ bk : Blk, h[b]? = some (some bk) ∧ bk.g = bk'.g ∧ (bk.cells = [] ↔ bk'.cells = [])

theorem own_alike {ι : Nat → Nat × Nat} {h h' : Heap} (ha : Alike h h') {k : Nat} (ho : own ι h' k) : own ι h k := by
  obtain ⟨b, bk', q1, q2, q3⟩ := ho
  obtain ⟨bk, p1, p2, p3⟩ := ha.2 b bk' q1
  exact ⟨b, bk, p1, fun e => q2 (p3.mp e), q3⟩

theorem VRel.alike {ι : Nat → Nat × Nat} {h h' : Heap} {w : World} {x : AV} {v : Value} (ha : Alike h h') (hx : VRel ι h w x v) : VRel ι h' w x v := by
  have lv : ∀ b g : Nat, liveAt h' b g → liveAt h b g := by
    rintro b g ⟨bk', q1, q2⟩
    obtain ⟨bk, p1, p2, p3⟩ := ha.2 b bk' q1
    exact ⟨bk, p1, by omega⟩
  have gg : ∀ b g : Nat, (∀ bk : Blk, h[b]? = some (some bk) → g ≤ bk.g) → ∀ bk : Blk, h'[b]? = some (some bk) → g ≤ bk.g := by
    intro b g hg bk' q1
    obtain ⟨bk, p1, p2, p3⟩ := ha.2 b bk' q1
    have := hg bk p1; omega
  have oo : ∀ k, k < w.heap.size → ¬ own ι h k → w.heap[k]? = w.heap[k]? ∧ ¬ own ι h' k := fun k _ ho => ⟨rfl, fun e => ho (own_alike ha e)⟩
  induction hx with
  | p x v hx => exact .p _ _ (hx.mono (Nat.le_refl _) oo)
  | agg cells vs hl hv ih => exact .agg _ _ hl ih
  | tup cells vs hl hv ih => exact .tup _ _ hl ih
  | fn f cells vs hl hv ih => exact .fn _ _ _ hl ih
  | ref b g off sz len A c hn hb hg hv =>
    refine .ref _ _ _ _ _ _ _ hn (by rw [ha.1]; exact hb) (gg b g hg) fun hl => ?_
    rcases hv (lv b g hl) with hz | ⟨hA, hle, ⟨bk0, q0, hne⟩, hcs⟩
    · exact .inl hz
    · obtain ⟨bk', q1, q2⟩ := hl
      obtain ⟨bk, p1, p2, p3⟩ := ha.2 b bk' q1
      rw [p1] at q0
      obtain rfl := Option.some.inj (Option.some.inj q0)
      exact .inr ⟨hA, hle, ⟨bk', q1, fun e => hne (p3.mpr e)⟩, hcs⟩
  | ptr b g off A hb hg hv => exact .ptr _ _ _ _ (by rw [ha.1]; exact hb) (gg b g hg) fun hl => hv (lv b g hl)
  | pin cells blk off hv => exact .pin _ _ _ (hv.mono (Nat.le_refl _) oo)

section
variable {P : Program} {G : Nat → Option (List PV)} {h0 : Heap} {s : St}

theorem alike_set {h : Heap} {b j : Nat} {bk : Blk} {x' : AV} (hb : h[b]? = some (some bk)) : Alike h (h.set b (some ⟨bk.g, bk.cells.set j x'⟩)) := by
  refine ⟨by simp, fun c bk' hc => ?_⟩
  rw [List.getElem?_set] at hc
  split at hc
  · rename_i e; subst e
    split at hc
    · obtain rfl := Option.some.inj (Option.some.inj hc)
      exact ⟨bk, hb, rfl, by simp only [← List.length_eq_zero_iff, List.length_set]⟩
    · cases hc
  · exact ⟨bk', hc, rfl, Iff.rfl⟩

/-- A cell of a block is told otherwise. -/
theorem Ghost.cell {b j : Nat} {bk : Blk} {x x' : AV} (hb : s.heap[b]? = some (some bk)) (hx : bk.cells[j]? = some x) (hv : ∀ ι w v, VRel ι s.heap w x v → VRel ι s.heap w x' v) (hbl : h0.length ≤ b) :
    Ghost P G h0 s ⟨s.fr, s.nt, s.heap.set b (some ⟨bk.g, bk.cells.set j x'⟩)⟩ := by
  intro ι a w ι0 w0 hS hs he
  have ha := alike_set (j := j) (x' := x') hb
  have hlo : ∀ (c : Nat) (bk' : Blk), (s.heap.set b (some ⟨bk.g, bk.cells.set j x'⟩))[c]? = some (some bk') → (c = b ∧ bk' = ⟨bk.g, bk.cells.set j x'⟩) ∨ s.heap[c]? = some (some bk') := by
    intro c bk' hc
    rw [List.getElem?_set] at hc
    split at hc
    · rename_i e
      split at hc
      · exact .inl ⟨e.symm, (Option.some.inj (Option.some.inj hc)).symm⟩
      · cases hc
    · exact .inr hc
  have oo : ∀ k, k < w.heap.size → ¬ own ι s.heap k → w.heap[k]? = w.heap[k]? ∧ ¬ own ι (s.heap.set b (some ⟨bk.g, bk.cells.set j x'⟩)) k := fun k _ ho => ⟨rfl, fun e => ho (own_alike ha e)⟩
  refine ⟨ι, ⟨⟨⟨fun c bk' hc hne => ?_, fun c c' k k' q1 q2 n1 n2 e => ?_⟩, fun g cells hg => (hs.hS.gr g cells hg).mono (Nat.le_refl _) oo⟩, fun k y hy => ?_, hs.nt, hs.df⟩, ?_⟩
  · rcases hlo c bk' hc with ⟨rfl, rfl⟩ | hc
    · have hne' : bk.cells ≠ [] := by
        intro e
        rw [e] at hx; simp at hx
      obtain ⟨cs, ty, p1, p2, p3⟩ := hs.hS.hr.blk c bk hb hne'
      refine ⟨cs, ty, p1, by simpa using p2, fun i y hy => ?_⟩
      simp only [List.getElem?_set] at hy
      split at hy
      · rename_i e; subst e
        split at hy
        · cases hy
          obtain ⟨v, r1, r2⟩ := p3 j x hx
          exact ⟨v, r1, (hv ι w v r2).alike ha⟩
        · cases hy
      · obtain ⟨v, r1, r2⟩ := p3 i y hy
        exact ⟨v, r1, r2.alike ha⟩
    · obtain ⟨cs, ty, p1, p2, p3⟩ := hs.hS.hr.blk c bk' hc hne
      exact ⟨cs, ty, p1, p2, fun i y hy => by obtain ⟨v, r1, r2⟩ := p3 i y hy; exact ⟨v, r1, r2.alike ha⟩⟩
  · obtain ⟨k0, p1, p2, p3⟩ := ha.2 c k q1
    obtain ⟨k1, r1, r2, r3⟩ := ha.2 c' k' q2
    exact hs.hS.hr.inj c c' k0 k1 p1 r1 (fun e => n1 (p3.mp e)) (fun e => n2 (r3.mp e)) e
  · obtain ⟨v, p1, p2⟩ := hs.fr k y hy
    exact ⟨v, p1, p2.alike ha⟩
  · refine ⟨he.size, fun k hk ho => ⟨(he.keep k hk ho).1, fun e => (he.keep k hk ho).2 (own_alike ha e)⟩, by rw [ha.1]; exact he.len, fun c bk' hc hq => ?_, he.os, he.output, he.tape⟩
    rcases hlo c bk' hq with ⟨rfl, _⟩ | hq
    · omega
    · exact he.gens c bk' hc hq

/-- A nil slice in a cell is told as a block of ours that is still empty. -/
theorem Ghost.adoptCell {b j : Nat} {bk : Blk} (sz : Nat) (hb : s.heap[b]? = some (some bk)) (hx : bk.cells[j]? = some (.p .nils)) (hbl : h0.length ≤ b) :
    Ghost P G h0 s ⟨s.fr, s.nt, (s.heap ++ [some ⟨0, []⟩] : Heap).set b (some ⟨bk.g, bk.cells.set j (.ref s.heap.length 0 0 sz 0)⟩)⟩ := by
  have hlt : b < s.heap.length := getElem?_lt hb
  refine (Ghost.lay (s := s)).trans (Ghost.cell (s := (⟨s.fr, s.nt, s.heap ++ [some ⟨0, []⟩]⟩ : St)) (b := b) (j := j) (bk := bk) (by rw [List.getElem?_append_left hlt]; exact hb) hx (fun ι w v hv => ?_) hbl)
  have := hv.nils_inv; subst this
  exact VRel.ref _ _ _ _ _ none 0 (by omega) (by simp) (fun bk hq => Nat.zero_le _) fun _ => Or.inl ⟨rfl, rfl⟩
end

/-! ### Rows -/

def flatE {α : Type} (e : α → List PV) (l : List α) : List PV := l.flatMap e

theorem flatE_len {α : Type} {e : α → List PV} {sz : Nat} (he : ∀ a, (e a).length = sz) : ∀ l : List α, (flatE e l).length = l.length * sz
  | [] => by simp [flatE]
  | x :: r => by
    have := flatE_len he r
    unfold flatE at this ⊢
    rw [List.flatMap_cons, List.length_append, this, he, List.length_cons, Nat.add_mul]; omega
theorem flatE_app {α : Type} (e : α → List PV) (l : List α) (a : α) : flatE e (l ++ [a]) = flatE e l ++ e a := by
  unfold flatE; rw [List.flatMap_append]; simp
theorem chunk_rowsE {α : Type} {e : α → List PV} {sz : Nat} (he : ∀ a, (e a).length = sz) : ∀ l : List α, chunk sz l.length (flatE e l) = l.map e
  | [] => rfl
  | x :: r => by
    have := chunk_rowsE he r
    have e1 : flatE e (x :: r) = e x ++ flatE e r := rfl
    rw [List.length_cons, chunk, e1, List.take_left' (he x), List.drop_left' (he x), this]; rfl
theorem purs_p (h : Heap) (n fuel : Nat) : ∀ l : List PV, (∀ x ∈ l, x ≠ .nils) → purs h n fuel (l.map AV.p) = some l
  | [], _ => by unfold purs; rfl
  | x :: r, hx => by
    have ih := purs_p h n fuel r fun y hy => hx y (by simp [hy])
    have h0 := hx x (by simp)
    simp only [List.map_cons]
    unfold purs
    rw [ih]
    have : pur h n fuel (AV.p x) = some x := by
      cases x with
      | nils => exact absurd rfl h0
      | _ => unfold pur; rfl
    rw [this]
theorem avlts_p (m : Nat) (l : List PV) : avlts m (l.map AV.p) := by
  induction l with
  | nil => trivial
  | cons x r ih => exact ⟨trivial, ih⟩

theorem pur_rows {α : Type} {e : α → List PV} {sz : Nat} (he : ∀ a, (e a).length = sz) (hz : ∀ a, ∀ x ∈ e a, x ≠ .nils) {h : Heap} {n fuel b g m : Nat} {l : List α} (hm : m = l.length) (hb : blkAt h b g = some ((flatE e l).map AV.p)) (hn : n ≤ b) :
    pur h n (fuel + 1) (.ref b g 0 sz m) = some (.sl (l.map e)) := by
  subst hm
  unfold pur
  by_cases h0 : l.length = 0
  · rw [if_pos h0]; have := List.eq_nil_of_length_eq_zero h0; subst this; rfl
  · rw [if_neg h0, hb]
    simp only [hn, true_and, Nat.zero_add, List.length_map, flatE_len he, Nat.le_refl, if_true, List.drop_zero]
    rw [List.take_of_length_le (by rw [List.length_map, flatE_len he]; exact Nat.le_refl _), purs_p _ _ _ _ (fun x hx => by
      unfold flatE at hx
      obtain ⟨a, _, ha⟩ := List.mem_flatMap.mp hx
      exact hz a x ha)]
    simp only [Option.map_some, chunk_rowsE he]

theorem EndP_rows {α : Type} {e : α → List PV} {sz : Nat} (he : ∀ a, (e a).length = sz) (hz : ∀ a, ∀ x ∈ e a, x ≠ .nils) {P : Program} {h : Heap} {K : AV → Prop} {x : Exit} {s : St} (hx : x = .normal ∨ x = .ret) {t b g m : Nat} {l : List α} (hm : m = l.length) (hf : s.fr t = some (.ref b g 0 sz m))
    (hb : blkAt s.heap b g = some ((flatE e l).map AV.p)) (hn : h.length ≤ b) (ht : s.heap.take h.length = h) (hle : h.length ≤ s.heap.length) (hk : K (.p (.sl (l.map e)))) : EndP P [.tmp t] h K x s := by
  have key : FinP P [.tmp t] h K s := by
    unfold FinP
    simp only [resA, resL, resA1, hf, lastV, lastA, pur_rows he hz hm hb hn, Option.map_some]
    exact ⟨ht, hle, hk⟩
  rcases hx with rfl | rfl <;> exact key

theorem EndP_rows2 {α : Type} {e : α → List PV} {sz : Nat} (he : ∀ a, (e a).length = sz) (hz : ∀ a, ∀ x ∈ e a, x ≠ .nils) {P : Program} {h : Heap} {K : AV → Prop} {x : Exit} {s : St} (hx : x = .normal ∨ x = .ret) {t t2 b g m : Nat} {l : List α} {y : Int} (hm : m = l.length) (hf : s.fr t = some (.ref b g 0 sz m)) (hf2 : s.fr t2 = some (.i y))
    (hb : blkAt s.heap b g = some ((flatE e l).map AV.p)) (hn : h.length ≤ b) (ht : s.heap.take h.length = h) (hle : h.length ≤ s.heap.length) (hk : K (.tup [.p (.sl (l.map e)), .i y])) : EndP P [.tmp t, .tmp t2] h K x s := by
  have key : FinP P [.tmp t, .tmp t2] h K s := by
    unfold FinP
    simp only [resA, resL, resA1, hf, hf2, lastV, lastAs, lastA, pur_rows he hz hm hb hn, pur, Option.map_some]
    exact ⟨ht, hle, hk⟩
  rcases hx with rfl | rfl <;> exact key

theorem FinK_tmp {P : Program} {h : Heap} {K : AV → Heap → Prop} {s : St} {t : Nat} {v : AV} (hf : s.fr t = some v) (hl : h.length ≤ s.heap.length) (hk : K v s.heap) : FinK P [.tmp t] h K s := by
  unfold FinK
  refine ⟨hl, ?_⟩
  simp only [resA, resL, resA1, hf]
  exact hk
theorem FinK_none {P : Program} {h : Heap} {K : AV → Heap → Prop} {s : St} (hl : h.length ≤ s.heap.length) (hk : K .undef s.heap) : FinK P [] h K s := by
  unfold FinK
  refine ⟨hl, ?_⟩
  simp only [resA, resL, resA1]
  exact hk
end Go.Proofs.YtjpphhcimpclpaaDoor.AM
end

section
set_option linter.unusedVariables false
set_option linter.unusedSimpArgs false
set_option maxRecDepth 4000
set_option maxHeartbeats 4000000
namespace Go.Proofs.YtjpphhcimpclpaaDoor.AM
open Go Go.Proofs
set_option linter.defProp false in
def TTNeO := And.intro T2 (And.intro T3 (And.intro T4 (And.intro T22 (And.intro T23 (And.intro T25 (And.intro T40 (And.intro T56 (And.intro T58 (And.intro T60 (And.intro T71 (And.intro T89 (And.intro T100 (And.intro T103 T122)))))))))))))
attribute [local irreducible] awp aops aqops aeops arun
variable {G : Nat → Option (List PV)}

def eQ (q : Int × Int) : List PV := [.int .i64 q.1, .int .i64 q.2]
abbrev aQ (l : List (Int × Int)) : AV := .p (.sl (l.map eQ))
def flatQ (l : List (Int × Int)) : List Int := l.flatMap fun q => [q.1, q.2]

theorem flatQ_len : ∀ l : List (Int × Int), (flatQ l).length = l.length * 2
  | [] => rfl
  | x :: r => by
    have := flatQ_len r
    unfold flatQ at this ⊢
    rw [List.flatMap_cons, List.length_append, this, List.length_cons]; simp only [List.length_cons, List.length_nil]; omega
theorem flatQ_app (l : List (Int × Int)) (a b : Int) : flatQ (l ++ [(a, b)]) = flatQ l ++ [a, b] := by
  unfold flatQ; rw [List.flatMap_append]; rfl

theorem chunk_pairs : ∀ l : List (Int × Int), chunk 2 l.length ((flatQ l).map (PV.int .i64)) = l.map eQ
  | [] => rfl
  | x :: r => by
    have := chunk_pairs r
    show chunk 2 (r.length + 1) ((flatQ (x :: r)).map (PV.int .i64)) = eQ x :: r.map eQ
    have e : flatQ (x :: r) = x.1 :: x.2 :: flatQ r := rfl
    rw [e, ← this]
    rfl

theorem pur_pairs {h : Heap} {n fuel b g m : Nat} {l : List (Int × Int)} (hm : m = l.length) (hb : blkAt h b g = some ((flatQ l).map AV.i)) (hn : n ≤ b) : pur h n (fuel + 1) (.ref b g 0 2 m) = some (.sl (l.map eQ)) := by
  subst hm
  unfold pur
  by_cases h0 : l.length = 0
  · rw [if_pos h0]; have := List.eq_nil_of_length_eq_zero h0; subst this; rfl
  · rw [if_neg h0, hb]
    simp only [hn, true_and, Nat.zero_add, List.length_map, flatQ_len, Nat.le_refl, if_true, List.drop_zero]
    rw [List.take_of_length_le (by rw [List.length_map, flatQ_len]; exact Nat.le_refl _), purs_ints]
    simp only [Option.map_some, chunk_pairs]

/-- All numbers below one at which something is wrong. -/
def plF (rule : Int) (p : Nat → Bool) (n : Nat) : List (Int × Int) := ((List.range n).filter p).map fun (i : Nat) => (rule, (i : Int))

theorem plF_succ (rule : Int) (p : Nat → Bool) (n : Nat) : plF rule p (n + 1) = plF rule p n ++ (if p n = true then [(rule, (n : Int))] else []) := by
  unfold plF
  rw [List.range_succ, List.filter_append, List.map_append]
  congr 1
  cases h : p n <;> simp [h]
theorem plF_le (rule : Int) (p : Nat → Bool) (n : Nat) : (plF rule p n).length ≤ n := by
  unfold plF
  rw [List.length_map]
  exact Nat.le_trans (List.length_filter_le _ _) (by simp)
theorem nextK {n i : Nat} (hk : n ≤ 1000) (h : i < n) : IntKind.i64.wrap ((i : Int) + 1) = ((i + 1 : Nat) : Int) := by rw [IntWalk.i64_in _ (by omega)]; omega
theorem hitK {n i : Nat} (h : i < n) : decide ((i : Int) < (n : Int)) = true := by simp; omega
theorem endK {n : Nat} : decide ((n : Int) < (n : Int)) = false := by simp

theorem places_calls {f : FuncId} (hE : Enters Tryd.prog f) {caps : List AV} {p : Nat → Bool} (rule : Int) (n : Nat) (hn : n ≤ 100) (h : Heap) (hcap : avlts h.length caps)
    (hc : ∀ L, ∀ i : Nat, i < n → ACalls Tryd.prog G f (.i i :: caps) (h ++ L) (fun r h' => r = .b (p i) ∧ h' = h ++ L)) :
    ACalls Tryd.prog G 55 [.i rule, .i n, .fn f caps] h (fun r h' => r = .ref h.length (plF rule p n).length 0 2 (plF rule p n).length ∧ h' = h ++ [some ⟨(plF rule p n).length, (flatQ (plF rule p n)).map AV.i⟩]) := by
  refine Sim.evoKeep (rl := []) mixed Tryd.func55 rfl (by rw [Tryd.ntmps55]; simp) ?_
  rw [Tryd.ntmps55]
  refine awp_seq_k fun K hK => ?_
  repeat' (first | ((first | refine aops_nil ?_ | refine aqops_nil ?_); (try simp only [NB]); ((repeat ((fail_if_success (refine hK _ ?_)); clear hK K)); refine hK _ ?_; clear hK K)) | ((first | refine aops_k fun K1 hK1 => ?_ | refine aqops_k fun K1 hK1 => ?_ | refine awp_cond_k fun A B hA hB => ?_); simp only [S1, simprocAttr, TTNeO]; first | (refine hK1 _ ?_; clear hK1 K1) | ((first | refine hA ?_ | refine hB ?_); clear hA hB A B) | (refine join_x (v := ?_) (fun hg hk9 => ?_) ?_; rotate_left; (focus (try ((try simp only [BN] at hg); simp only [S1, simprocAttr, TTNeO, hg] at hk9 ⊢)); first | exact hk9); (refine hK1 _ ?_; clear hK1 K1)) | (((first | (refine ⟨fun hg => hA ?_, fun hg => hB ?_⟩ <;> clear hA hB A B) | refine ⟨fun hg => ?_, fun hg => ?_⟩) <;> (try simp only [BN2] at hg) <;> (try simp only [hg, cond_true, cond_false])) <;> (try (refine hK1 _ ?_; clear hK1 K1)) <;> (try simp only [BN3] at hg))) | (fail) | ((first | refine awp_region ?_ | refine awp_draw (by kernel_rfl) ?_ | refine awp_block ?_ | refine awp_exit ?_ | refine awp_skip ?_ | refine awp_ret ?_); (try simp only [NB, simprocAttr]); (try ((repeat ((fail_if_success (refine hK _ ?_)); clear hK K)); refine hK _ ?_; clear hK K))))
  refine awp_seq_k fun K hK => ?_
  repeat' (first | ((first | refine aops_nil ?_ | refine aqops_nil ?_); (try simp only [NB]); ((repeat ((fail_if_success (refine hK _ ?_)); clear hK K)); refine hK _ ?_; clear hK K)) | ((first | refine aops_k fun K1 hK1 => ?_ | refine aqops_k fun K1 hK1 => ?_ | refine awp_cond_k fun A B hA hB => ?_); simp only [S1, simprocAttr, TTNeO]; first | (refine hK1 _ ?_; clear hK1 K1) | ((first | refine hA ?_ | refine hB ?_); clear hA hB A B) | (refine join_x (v := ?_) (fun hg hk9 => ?_) ?_; rotate_left; (focus (try ((try simp only [BN] at hg); simp only [S1, simprocAttr, TTNeO, hg] at hk9 ⊢)); first | exact hk9); (refine hK1 _ ?_; clear hK1 K1)) | (((first | (refine ⟨fun hg => hA ?_, fun hg => hB ?_⟩ <;> clear hA hB A B) | refine ⟨fun hg => ?_, fun hg => ?_⟩) <;> (try simp only [BN2] at hg) <;> (try simp only [hg, cond_true, cond_false])) <;> (try (refine hK1 _ ?_; clear hK1 K1)) <;> (try simp only [BN3] at hg))) | (fail) | ((first | refine awp_region ?_ | refine awp_draw (by kernel_rfl) ?_ | refine awp_block ?_ | refine awp_exit ?_ | refine awp_skip ?_ | refine awp_ret ?_); (try simp only [NB, simprocAttr]); (try ((repeat ((fail_if_success (refine hK _ ?_)); clear hK K)); refine hK _ ?_; clear hK K))))
  refine awp_seq_k fun K hK => ?_
  repeat' (first | ((first | refine aops_nil ?_ | refine aqops_nil ?_); (try simp only [NB])) | ((repeat ((fail_if_success (refine hK _ ?_)); clear hK K)); refine hK _ ?_; clear hK K) | ((first | refine aops_k fun K1 hK1 => ?_ | refine aqops_k fun K1 hK1 => ?_ | refine awp_cond_k fun A B hA hB => ?_); simp only [S1, simprocAttr, TTNeO]; first | (refine hK1 _ ?_; clear hK1 K1) | ((first | refine hA ?_ | refine hB ?_); clear hA hB A B) | (refine join_x (v := ?_) (fun hg hk9 => ?_) ?_; rotate_left; (focus (try ((try simp only [BN] at hg); simp only [S1, simprocAttr, TTNeO, hg] at hk9 ⊢)); first | exact hk9); (refine hK1 _ ?_; clear hK1 K1)) | (((first | (refine ⟨fun hg => hA ?_, fun hg => hB ?_⟩ <;> clear hA hB A B) | refine ⟨fun hg => ?_, fun hg => ?_⟩) <;> (try simp only [BN2] at hg) <;> (try simp only [hg, cond_true, cond_false])) <;> (try (refine hK1 _ ?_; clear hK1 K1)) <;> (try simp only [BN3] at hg))) | (refine awp_seq_k fun K hK => ?_) | ((first | refine awp_region ?_ | refine awp_draw (by kernel_rfl) ?_ | refine awp_block ?_ | refine awp_exit ?_ | refine awp_skip ?_ | refine awp_ret ?_); (try simp only [NB, simprocAttr])))
  have hcap1 := avlts_mono (Nat.le_add_right h.length 1) caps hcap
  refine awp_forG n 24 (fun j => [(10, .i j), (9, .i n), (7, .ref h.length (plF rule p j).length 0 2 (plF rule p j).length), (2, .fn f caps), (0, .i rule)])
    (fun j => [some ⟨(plF rule p j).length, (flatQ (plF rule p j)).map AV.i⟩]) (fun j => True) ?_ trivial fun j hj hp K hK => ?_
  · refine (Ghost.adopt 7 2 rfl).trans (Sub.ghost ⟨rfl, ⟨[], by simp [plF, flatQ]⟩, ?_, ?_⟩)
    · simp only [keeps, avlt, plF, upd_get, frL, List.length_cons, List.length_nil]
      simp
      exact hcap1
    · simp [blksLt, avlts, avlt, plF, flatQ]
  rcases Nat.lt_or_ge j n with hlt | hge
  · have hck := fun L => hc L j hlt
    have hle := plF_le rule p j
    have hmax : (plF rule p j).length + 1 ≤ maxCount := by unfold maxCount; omega
    have e1 := plF_succ rule p j
    cases hq : p j with
    | false =>
      rw [hq] at hck
      rw [hq, if_neg (by decide), List.append_nil] at e1
      repeat' (first | ((first | refine aops_nil ?_ | refine aqops_nil ?_); (try simp only [NB])) | ((repeat ((fail_if_success (refine hK _ ?_)); clear hK K)); refine hK _ ?_; clear hK K) | ((first | refine aops_k fun K1 hK1 => ?_ | refine aqops_k fun K1 hK1 => ?_ | refine awp_cond_k fun A B hA hB => ?_); simp only [S1, simprocAttr, TTNeO, hitK hlt, nextK (by omega : n ≤ 1000) hlt]; first | (refine hK1 _ ?_; clear hK1 K1) | ((first | refine hA ?_ | refine hB ?_); clear hA hB A B) | ((first | apply call_a hE | apply call_q hE); exact (hck _); (refine hK1 _ ?_; clear hK1 K1)) | (refine join_x (v := ?_) (fun hg hk9 => ?_) ?_; rotate_left; (focus (try ((try simp only [BN] at hg); simp only [S1, simprocAttr, TTNeO, hitK hlt, nextK (by omega : n ≤ 1000) hlt, hg] at hk9 ⊢)); first | exact hk9 | ((first | apply call_a hE | apply call_q hE); exact (hck _); exact hk9)); (refine hK1 _ ?_; clear hK1 K1)) | (((first | (refine ⟨fun hg => hA ?_, fun hg => hB ?_⟩ <;> clear hA hB A B) | refine ⟨fun hg => ?_, fun hg => ?_⟩) <;> (try simp only [BN2] at hg) <;> (try simp only [hg, cond_true, cond_false])) <;> (try (refine hK1 _ ?_; clear hK1 K1)) <;> (try simp only [BN3] at hg))) | (refine awp_seq_k fun K hK => ?_) | ((first | refine awp_region ?_ | refine awp_draw (by kernel_rfl) ?_ | refine awp_block ?_ | refine awp_exit ?_ | refine awp_skip ?_ | refine awp_ret ?_); (try simp only [NB, simprocAttr])))
      all_goals refine ⟨hlt, trivial, ?_⟩
      all_goals simp only [e1]
      all_goals refine ⟨rfl, ⟨_, rfl⟩, ?_, avlts_ints _ _, trivial⟩
      all_goals simp only [keeps, avlt, avlts, blksLt, frL, upd_get, S1, simprocAttr, List.length_map, Int.natCast_zero, AV.p.injEq, PV.int.injEq, PV.bool.injEq, PV.sl.injEq] <;> (try and_intros) <;> (try assumption) <;> (try trivial) <;> (try omega)
    | true =>
      rw [hq] at hck
      rw [hq, if_pos rfl] at e1
      repeat' (first | ((first | refine aops_nil ?_ | refine aqops_nil ?_); (try simp only [NB])) | ((repeat ((fail_if_success (refine hK _ ?_)); clear hK K)); refine hK _ ?_; clear hK K) | ((first | refine aops_k fun K1 hK1 => ?_ | refine aqops_k fun K1 hK1 => ?_ | refine awp_cond_k fun A B hA hB => ?_); simp only [S1, simprocAttr, TTNeO, hitK hlt, nextK (by omega : n ≤ 1000) hlt, flatQ_len, hmax, List.length_map, Nat.mul_one, Nat.zero_add]; first | (refine hK1 _ ?_; clear hK1 K1) | ((first | refine hA ?_ | refine hB ?_); clear hA hB A B) | ((first | apply call_a hE | apply call_q hE); exact (hck _); (refine hK1 _ ?_; clear hK1 K1)) | (refine join_x (v := ?_) (fun hg hk9 => ?_) ?_; rotate_left; (focus (try ((try simp only [BN] at hg); simp only [S1, simprocAttr, TTNeO, hitK hlt, nextK (by omega : n ≤ 1000) hlt, flatQ_len, hmax, List.length_map, Nat.mul_one, Nat.zero_add, hg] at hk9 ⊢)); first | exact hk9 | ((first | apply call_a hE | apply call_q hE); exact (hck _); exact hk9)); (refine hK1 _ ?_; clear hK1 K1)) | (((first | (refine ⟨fun hg => hA ?_, fun hg => hB ?_⟩ <;> clear hA hB A B) | refine ⟨fun hg => ?_, fun hg => ?_⟩) <;> (try simp only [BN2] at hg) <;> (try simp only [hg, cond_true, cond_false])) <;> (try (refine hK1 _ ?_; clear hK1 K1)) <;> (try simp only [BN3] at hg))) | (refine awp_seq_k fun K hK => ?_) | ((first | refine awp_region ?_ | refine awp_draw (by kernel_rfl) ?_ | refine awp_block ?_ | refine awp_exit ?_ | refine awp_skip ?_ | refine awp_ret ?_); (try simp only [NB, simprocAttr])))
      all_goals refine ⟨hlt, trivial, ?_⟩
      all_goals simp only [e1, flatQ_app, List.length_append, List.map_append, List.length_cons, List.length_nil, List.map_cons, List.map_nil, Nat.zero_add]
      all_goals refine ⟨rfl, ⟨_, rfl⟩, ?_, ?_⟩
      · simp only [keeps, avlt, avlts, blksLt, frL, upd_get, S1, simprocAttr, List.length_map, Int.natCast_zero, AV.p.injEq, PV.int.injEq, PV.bool.injEq, PV.sl.injEq] <;> (try and_intros) <;> (try assumption) <;> (try trivial) <;> (try omega)
      · simp only [blksLt]; exact ⟨(by have := avlts_ints (h.length + 1) (flatQ (plF rule p j) ++ [rule, (j : Int)]); simpa using this), trivial⟩
  · obtain rfl : j = n := by omega
    repeat' (first | ((first | refine aops_nil ?_ | refine aqops_nil ?_); (try simp only [NB])) | ((repeat ((fail_if_success (refine hK _ ?_)); clear hK K)); refine hK _ ?_; clear hK K) | ((first | refine aops_k fun K1 hK1 => ?_ | refine aqops_k fun K1 hK1 => ?_ | refine awp_cond_k fun A B hA hB => ?_); simp only [S1, simprocAttr, TTNeO, endK]; first | (refine hK1 _ ?_; clear hK1 K1) | ((first | refine hA ?_ | refine hB ?_); clear hA hB A B) | (refine join_x (v := ?_) (fun hg hk9 => ?_) ?_; rotate_left; (focus (try ((try simp only [BN] at hg); simp only [S1, simprocAttr, TTNeO, endK, hg] at hk9 ⊢)); first | exact hk9); (refine hK1 _ ?_; clear hK1 K1)) | (((first | (refine ⟨fun hg => hA ?_, fun hg => hB ?_⟩ <;> clear hA hB A B) | refine ⟨fun hg => ?_, fun hg => ?_⟩) <;> (try simp only [BN2] at hg) <;> (try simp only [hg, cond_true, cond_false])) <;> (try (refine hK1 _ ?_; clear hK1 K1)) <;> (try simp only [BN3] at hg))) | (refine awp_seq_k fun K hK => ?_) | ((first | refine awp_region ?_ | refine awp_draw (by kernel_rfl) ?_ | refine awp_block ?_ | refine awp_exit ?_ | refine awp_skip ?_ | refine awp_ret ?_); (try simp only [NB, simprocAttr])))
    exact ⟨.inr trivial, FinK_tmp (t := 6) rfl (by simp) ⟨rfl, rfl⟩⟩
end Go.Proofs.YtjpphhcimpclpaaDoor.AM
end

section
set_option linter.unusedVariables false
set_option linter.unusedSimpArgs false
set_option maxRecDepth 4000
set_option maxHeartbeats 4000000
namespace Go.Proofs.YtjpphhcimpclpaaDoor.AM
open Go Go.Proofs
set_option linter.defProp false in
def TTNeP := And.intro T2 (And.intro T3 (And.intro T4 (And.intro T22 (And.intro T23 (And.intro T25 (And.intro T40 (And.intro T56 (And.intro T58 (And.intro T60 (And.intro T71 (And.intro T89 (And.intro T100 (And.intro T103 T122)))))))))))))
attribute [local irreducible] awp aops aqops aeops arun
variable {G : Nat → Option (List PV)}

/-- A process whose terms are gone through. -/
structure NetOk (ns : List Nd) (fl : List Fl) : Prop where
  n : ns.length ≤ 100
  f : fl.length ≤ 100
  tn : ∃ m, m ≤ 200 ∧ ∀ k ∈ ns, Tm.Ok m k.term
  tf : ∃ m, m ≤ 200 ∧ ∀ k ∈ fl, Tm.Ok m k.cond

def bad1 (ns : List Nd) (i : Nat) : Bool := match ns[i]? with | some k => !(oneB k.kind k.a k.term) | none => false
def bad2 (ns : List Nd) (fl : List Fl) (i : Nat) : Bool := match fl[i]? with | some f => !(twoB ns fl f) | none => false
def bad3 (ns : List Nd) (fl : List Fl) (i : Nat) : Bool := (!(threeB ns fl i) || (kindAt ns i == 1 && ((i : Int) != firstN ns 1))) || (kindAt ns i == 2 && ((i : Int) != firstN ns 2))
noncomputable def bad4 (ns : List Nd) (fl : List Fl) (i : Nat) : Bool :=
  !((rchL (edgeB false fl) ns.length (firstN ns 1).toNat)[i]?.getD false) || !((rchL (edgeB true fl) ns.length (firstN ns 2).toNat)[i]?.getD false)

theorem all1_calls (ns : List Nd) (fl : List Fl) (ok : NetOk ns fl) (i : Nat) (hi : i < ns.length) (H : Heap) {b g : Nat} (hb : H[b]? = some (some ⟨g, cNet ns fl⟩)) : ACalls Tryd.prog gW 56 [.i i, .ptr b g 0] H (fun r h' => r = .b (bad1 ns i) ∧ h' = H) := by
  obtain ⟨k, hk⟩ : ∃ k, ns[i]? = some k := ⟨_, List.getElem?_eq_getElem hi⟩
  obtain ⟨m, hm, ht⟩ := ok.tn
  have hk' := rowN hk
  have i0 : (0 : Int) ≤ (i : Int) := by omega
  have e : bad1 ns i = !(oneB k.kind k.a k.term) := by unfold bad1; rw [hk]
  rw [e]
  refine acalls_pure (rl := []) mixed Tryd.func56 rfl (rs := [.tmp 3]) rfl Tryd.ntmps56 (by simp) ?_
  repeat' (first | ((first | refine aops_nil ?_ | refine aqops_nil ?_); (try simp only [NB])) | ((repeat ((fail_if_success (refine hK _ ?_)); clear hK K)); refine hK _ ?_; clear hK K) | ((first | refine aops_k fun K1 hK1 => ?_ | refine aqops_k fun K1 hK1 => ?_ | refine awp_cond_k fun A B hA hB => ?_); simp only [S1, simprocAttr, TTNeP, hb, app_get hb, i0, hk', eN, Int.toNat_natCast]; first | (refine hK1 _ ?_; clear hK1 K1) | ((first | refine hA ?_ | refine hB ?_); clear hA hB A B) | ((first | apply call_a E57 | apply call_q E57); exact (right_calls (ht k (List.mem_of_getElem? hk)) _ _ _); (refine hK1 _ ?_; clear hK1 K1)) | (((first | (refine ⟨fun hg => hA ?_, fun hg => hB ?_⟩ <;> clear hA hB A B) | refine ⟨fun hg => ?_, fun hg => ?_⟩) <;> (try simp only [BN2] at hg) <;> (try simp only [hg, cond_true, cond_false])) <;> (try (refine hK1 _ ?_; clear hK1 K1)) <;> (try simp only [BN3] at hg))) | (refine awp_seq_k fun K hK => ?_) | ((first | refine awp_region ?_ | refine awp_draw (by kernel_rfl) ?_ | refine awp_block ?_ | refine awp_exit ?_ | refine awp_skip ?_ | refine awp_ret ?_); (try simp only [NB, simprocAttr])))
  all_goals simp only [EndP, FinP, resA, resL, resA1, lastV, lastA, lastAs, pur, purs, take_app, List.take_length, S1, simprocAttr, TTNeP, Nat.le_add_right, Nat.le_refl]

theorem all2_calls (ns : List Nd) (fl : List Fl) (ok : NetOk ns fl) (i : Nat) (hi : i < fl.length) (H : Heap) {b g : Nat} (hb : H[b]? = some (some ⟨g, cNet ns fl⟩)) : ACalls Tryd.prog gW 58 [.i i, .ptr b g 0] H (fun r h' => r = .b (bad2 ns fl i) ∧ h' = H) := by
  obtain ⟨k, hk⟩ : ∃ k, fl[i]? = some k := ⟨_, List.getElem?_eq_getElem hi⟩
  obtain ⟨m, hm, ht⟩ := ok.tf
  have hk' := rowF hk
  have i0 : (0 : Int) ≤ (i : Int) := by omega
  have e : bad2 ns fl i = !(twoB ns fl k) := by unfold bad2; rw [hk]
  rw [e]
  refine acalls_pure (rl := []) mixed Tryd.func58 rfl (rs := [.tmp 3]) rfl Tryd.ntmps58 (by simp) ?_
  repeat' (first | ((first | refine aops_nil ?_ | refine aqops_nil ?_); (try simp only [NB])) | ((repeat ((fail_if_success (refine hK _ ?_)); clear hK K)); refine hK _ ?_; clear hK K) | ((first | refine aops_k fun K1 hK1 => ?_ | refine aqops_k fun K1 hK1 => ?_ | refine awp_cond_k fun A B hA hB => ?_); simp only [S1, simprocAttr, TTNeP, hb, app_get hb, i0, hk', eF, Int.toNat_natCast]; first | (refine hK1 _ ?_; clear hK1 K1) | ((first | refine hA ?_ | refine hB ?_); clear hA hB A B) | ((first | apply call_a E59 | apply call_q E59); exact (leads_calls ns ok.n fl ok.f k (ht k (List.mem_of_getElem? hk)) _); (refine hK1 _ ?_; clear hK1 K1)) | (((first | (refine ⟨fun hg => hA ?_, fun hg => hB ?_⟩ <;> clear hA hB A B) | refine ⟨fun hg => ?_, fun hg => ?_⟩) <;> (try simp only [BN2] at hg) <;> (try simp only [hg, cond_true, cond_false])) <;> (try (refine hK1 _ ?_; clear hK1 K1)) <;> (try simp only [BN3] at hg))) | (refine awp_seq_k fun K hK => ?_) | ((first | refine awp_region ?_ | refine awp_draw (by kernel_rfl) ?_ | refine awp_block ?_ | refine awp_exit ?_ | refine awp_skip ?_ | refine awp_ret ?_); (try simp only [NB, simprocAttr])))
  all_goals simp only [EndP, FinP, resA, resL, resA1, lastV, lastA, lastAs, pur, purs, take_app, List.take_length, S1, simprocAttr, TTNeP, Nat.le_add_right, Nat.le_refl]

theorem third1_calls (ns : List Nd) (fl : List Fl) (ok : NetOk ns fl) (hd : InN ns.length fl) (i : Nat) (hi : i < ns.length) (H : Heap) {b g b1 g1 b2 g2 : Nat} (hb : H[b]? = some (some ⟨g, cNet ns fl⟩)) (hb1 : H[b1]? = some (some ⟨g1, [.i (firstN ns 1)]⟩)) (hb2 : H[b2]? = some (some ⟨g2, [.i (firstN ns 2)]⟩)) :
    ACalls Tryd.prog G 85 [.i i, .ptr b g 0, .ptr b1 g1 0, .ptr b2 g2 0] H (fun r h' => r = .b (bad3 ns fl i) ∧ h' = H) := by
  obtain ⟨k, hk⟩ : ∃ k, ns[i]? = some k := ⟨_, List.getElem?_eq_getElem hi⟩
  have hk' := rowN hk
  have i0 : (0 : Int) ≤ (i : Int) := by omega
  have e : kindAt ns i = k.kind := by unfold kindAt; rw [Int.toNat_natCast, hk]
  unfold bad3
  rw [e]
  refine acalls_pure (rl := []) mixed Tryd.func85 rfl (rs := [.tmp 5]) rfl Tryd.ntmps85 (by simp) ?_
  repeat' (first | ((first | refine aops_nil ?_ | refine aqops_nil ?_); (try simp only [NB])) | ((repeat ((fail_if_success (refine hK _ ?_)); clear hK K)); refine hK _ ?_; clear hK K) | ((first | refine aops_k fun K1 hK1 => ?_ | refine aqops_k fun K1 hK1 => ?_ | refine awp_cond_k fun A B hA hB => ?_); simp only [S1, simprocAttr, TTNeP, hb, hb1, hb2, i0, hk', eN, Int.toNat_natCast]; first | (refine hK1 _ ?_; clear hK1 K1) | ((first | refine hA ?_ | refine hB ?_); clear hA hB A B) | ((first | apply call_a E86 | apply call_q E86); exact (linked_calls ns ok.n fl ok.f (fun f hf => (hd f hf).2) i i0 (by omega) _); (refine hK1 _ ?_; clear hK1 K1)) | (refine join_x (v := ?_) (fun hg hk9 => ?_) ?_; rotate_left; (focus (try ((try simp only [BN] at hg); simp only [S1, simprocAttr, TTNeP, hb, hb1, hb2, i0, hk', eN, Int.toNat_natCast, hg] at hk9 ⊢)); first | exact hk9 | ((first | apply call_a E86 | apply call_q E86); exact (linked_calls ns ok.n fl ok.f (fun f hf => (hd f hf).2) i i0 (by omega) _); exact hk9)); (refine hK1 _ ?_; clear hK1 K1)) | (((first | (refine ⟨fun hg => hA ?_, fun hg => hB ?_⟩ <;> clear hA hB A B) | refine ⟨fun hg => ?_, fun hg => ?_⟩) <;> (try simp only [BN2] at hg) <;> (try simp only [hg, cond_true, cond_false])) <;> (try (refine hK1 _ ?_; clear hK1 K1)) <;> (try simp only [BN3] at hg))) | (refine awp_seq_k fun K hK => ?_) | ((first | refine awp_region ?_ | refine awp_draw (by kernel_rfl) ?_ | refine awp_block ?_ | refine awp_exit ?_ | refine awp_skip ?_ | refine awp_ret ?_); (try simp only [NB, simprocAttr])))
  all_goals simp only [EndP, FinP, resA, resL, resA1, lastV, lastA, lastAs, pur, purs, take_app, List.take_length, S1, simprocAttr, TTNeP, Nat.le_add_right, Nat.le_refl]

theorem all3_calls (ns : List Nd) (fl : List Fl) (i : Nat) (hi : i < ns.length) (H : Heap) {b1 g1 b2 g2 : Nat} (hb1 : H[b1]? = some (some ⟨g1, [aBl (rchL (edgeB false fl) ns.length (firstN ns 1).toNat)]⟩)) (hb2 : H[b2]? = some (some ⟨g2, [aBl (rchL (edgeB true fl) ns.length (firstN ns 2).toNat)]⟩)) :
    ACalls Tryd.prog G 63 [.i i, .ptr b1 g1 0, .ptr b2 g2 0] H (fun r h' => r = .b (bad4 ns fl i) ∧ h' = H) := by
  have l1 := rchL_len (edgeB false fl) ns.length (firstN ns 1).toNat
  have l2 := rchL_len (edgeB true fl) ns.length (firstN ns 2).toNat
  have i0 : (0 : Int) ≤ (i : Int) := by omega
  unfold bad4
  generalize rchL (edgeB false fl) ns.length (firstN ns 1).toNat = a at *
  generalize rchL (edgeB true fl) ns.length (firstN ns 2).toNat = c at *
  obtain ⟨x, hx⟩ : ∃ x, a[i]? = some x := ⟨_, List.getElem?_eq_getElem (by omega)⟩
  obtain ⟨y, hy⟩ : ∃ x, c[i]? = some x := ⟨_, List.getElem?_eq_getElem (by omega)⟩
  have hx' : (a.map eB)[i]? = some [.bool x] := by simp [hx, eB]
  have hy' : (c.map eB)[i]? = some [.bool y] := by simp [hy, eB]
  rw [hx, hy]
  simp only [Option.getD_some]
  refine acalls_pure (rl := []) mixed Tryd.func63 rfl (rs := [.tmp 4]) rfl Tryd.ntmps63 (by simp) ?_
  repeat' (first | ((first | refine aops_nil ?_ | refine aqops_nil ?_); (try simp only [NB])) | ((repeat ((fail_if_success (refine hK _ ?_)); clear hK K)); refine hK _ ?_; clear hK K) | ((first | refine aops_k fun K1 hK1 => ?_ | refine aqops_k fun K1 hK1 => ?_ | refine awp_cond_k fun A B hA hB => ?_); simp only [S1, simprocAttr, TTNeP, hb1, hb2, i0, hx', hy', Int.toNat_natCast]; first | (refine hK1 _ ?_; clear hK1 K1) | ((first | refine hA ?_ | refine hB ?_); clear hA hB A B) | (refine join_x (v := ?_) (fun hg hk9 => ?_) ?_; rotate_left; (focus (try ((try simp only [BN] at hg); simp only [S1, simprocAttr, TTNeP, hb1, hb2, i0, hx', hy', Int.toNat_natCast, hg] at hk9 ⊢)); first | exact hk9); (refine hK1 _ ?_; clear hK1 K1)) | (((first | (refine ⟨fun hg => hA ?_, fun hg => hB ?_⟩ <;> clear hA hB A B) | refine ⟨fun hg => ?_, fun hg => ?_⟩) <;> (try simp only [BN2] at hg) <;> (try simp only [hg, cond_true, cond_false])) <;> (try (refine hK1 _ ?_; clear hK1 K1)) <;> (try simp only [BN3] at hg))) | (refine awp_seq_k fun K hK => ?_) | ((first | refine awp_region ?_ | refine awp_draw (by kernel_rfl) ?_ | refine awp_block ?_ | refine awp_exit ?_ | refine awp_skip ?_ | refine awp_ret ?_); (try simp only [NB, simprocAttr])))
  all_goals simp only [EndP, FinP, resA, resL, resA1, lastV, lastA, lastAs, pur, purs, take_app, List.take_length, S1, simprocAttr, TTNeP, Nat.le_add_right, Nat.le_refl]
end Go.Proofs.YtjpphhcimpclpaaDoor.AM
end

section
set_option linter.unusedVariables false
set_option linter.unusedSimpArgs false
set_option maxRecDepth 4000
set_option maxHeartbeats 4000000
namespace Go.Proofs.YtjpphhcimpclpaaDoor.AM
open Go Go.Proofs
set_option linter.defProp false in
def TTNeQ := And.intro T2 (And.intro T3 (And.intro T4 (And.intro T22 (And.intro T23 (And.intro T25 (And.intro T40 (And.intro T56 (And.intro T58 (And.intro T60 (And.intro T71 (And.intro T89 (And.intro T100 (And.intro T103 T122)))))))))))))
attribute [local irreducible] awp aops aqops aeops arun arunT
variable {G : Nat → Option (List PV)}

theorem EndP_pairs {P : Program} {h : Heap} {K : AV → Prop} {e : Exit} {s : St} (he : e = .normal ∨ e = .ret) {t b g m : Nat} {l : List (Int × Int)} (hm : m = l.length) (hf : s.fr t = some (.ref b g 0 2 m)) (hb : blkAt s.heap b g = some ((flatQ l).map AV.i)) (hn : h.length ≤ b)
    (ht : s.heap.take h.length = h) (hle : h.length ≤ s.heap.length) (hk : K (aQ l)) : EndP P [.tmp t] h K e s := by
  have key : FinP P [.tmp t] h K s := by
    unfold FinP
    simp only [resA, resL, resA1, hf, lastV, lastA, pur_pairs hm hb hn, Option.map_some]
    exact ⟨ht, hle, hk⟩
  rcases he with rfl | rfl <;> exact key

def noEnds (ns : List Nd) : Bool := decide (firstN ns 1 < 0) || decide (firstN ns 2 < 0)
def thirdN (ns : List Nd) (fl : List Fl) : List (Int × Int) := plF 3 (bad3 ns fl) ns.length ++ (if noEnds ns = true then [(3, (ns.length : Int))] else [])

theorem third_calls (ns : List Nd) (fl : List Fl) (ok : NetOk ns fl) (hd : InN ns.length fl) (h : Heap) : ACalls Tryd.prog G 60 [aNet ns fl] h (fun r h' => r = aQ (thirdN ns fl) ∧ h' = h) := by
  have hpl := places_calls (G := G) (f := 85) E85 (caps := [.ptr h.length 0 0, .ptr (h.length + 1) 1 0, .ptr (h.length + 2) 1 0]) (p := bad3 ns fl) 3 ns.length ok.n (h ++ [some ⟨0, cNet ns fl⟩, some ⟨1, [.i (firstN ns 1)]⟩, some ⟨1, [.i (firstN ns 2)]⟩]) (by simp [avlts, avlt])
    (fun L i hi => third1_calls ns fl ok hd i hi _ (b := h.length) (app_get (by simp [get_app0]) L) (app_get (by simp [get_app]) L) (app_get (by simp [get_app]) L))
  simp only [List.length_append, List.length_cons, List.length_nil, Nat.zero_add, Nat.reduceAdd, List.append_assoc, List.cons_append, List.nil_append] at hpl
  have hle := plF_le 3 (bad3 ns fl) ns.length
  have hn := ok.n
  have hmax : (plF 3 (bad3 ns fl) ns.length).length + 1 ≤ maxCount := by unfold maxCount; omega
  have a2 : h.length + 1 + 1 = h.length + 2 := rfl
  cases hne : noEnds ns with
  | false =>
    have e : thirdN ns fl = plF 3 (bad3 ns fl) ns.length := by unfold thirdN; rw [hne]; simp
    unfold noEnds at hne
    rw [e]
    refine acalls_pure (rl := []) mixed Tryd.func60 rfl (rs := [.tmp 2]) rfl Tryd.ntmps60 (by simp) ?_
    repeat' (first | ((first | refine aops_nil ?_ | refine aqops_nil ?_ | refine arun_nil ?_ | refine arunT_nil ?_); (try simp only [NB])) | ((repeat ((fail_if_success (refine hK _ ?_)); clear hK K)); refine hK _ ?_; clear hK K) | ((first | refine aops_k fun K1 hK1 => ?_ | refine aqops_k fun K1 hK1 => ?_ | refine arun_eff rfl rfl rfl fun K1 hK1 => ?_ | refine awp_cond_k fun A B hA hB => ?_); simp only [S1, simprocAttr, TTNeQ, List.length_map, hne, a2]; first | (refine hK1 _ ?_; clear hK1 K1) | ((first | refine hA ?_ | refine hB ?_); clear hA hB A B) | ((first | apply call_a E35 | apply call_q E35); exact (start_calls ns hn _ _); (refine hK1 _ ?_; clear hK1 K1)) | ((first | apply call_a E62 | apply call_q E62); exact (end_calls ns hn _ _); (refine hK1 _ ?_; clear hK1 K1)) | ((first | apply call_a E55 | apply call_q E55); exact hpl; (refine hK1 _ ?_; clear hK1 K1)) | (refine join_x (v := ?_) (fun hg hk9 => ?_) ?_; rotate_left; (focus (try ((try simp only [BN] at hg); simp only [S1, simprocAttr, TTNeQ, List.length_map, hne, a2, hg] at hk9 ⊢)); first | exact hk9 | ((first | apply call_a E35 | apply call_q E35); exact (start_calls ns hn _ _); exact hk9) | ((first | apply call_a E62 | apply call_q E62); exact (end_calls ns hn _ _); exact hk9) | ((first | apply call_a E55 | apply call_q E55); exact hpl; exact hk9)); (refine hK1 _ ?_; clear hK1 K1)) | (((first | (refine ⟨fun hg => hA ?_, fun hg => hB ?_⟩ <;> clear hA hB A B) | refine ⟨fun hg => ?_, fun hg => ?_⟩) <;> (try simp only [BN2] at hg) <;> (try simp only [hg, cond_true, cond_false])) <;> (try (refine hK1 _ ?_; clear hK1 K1)) <;> (try simp only [BN3] at hg))) | ((first | refine arun_q (v := ?_) rfl rfl rfl rfl (by decide) (fun R1 K1 hK1 => ?_) ?_ | refine arun_f (v := ?_) rfl rfl rfl (by decide) (fun K1 hK1 => ?_) ?_ | refine arunT_f (v := ?_) rfl rfl rfl (by decide) (fun K1 hK1 => ?_) ?_); rotate_left; (focus (simp only [S1, simprocAttr, TTNeQ, List.length_map, hne, a2]; first | (exact hK1 _ _ _) | ((first | apply call_a E35 | apply call_q E35); exact (start_calls ns hn _ _); exact hK1 _ _ _) | ((first | apply call_a E62 | apply call_q E62); exact (end_calls ns hn _ _); exact hK1 _ _ _) | ((first | apply call_a E55 | apply call_q E55); exact hpl; exact hK1 _ _ _)))) | (refine arun_tail rfl rfl rfl ?_) | ((first | refine arun_allocj (z := ?_) 0 rfl rfl rfl rfl (by decide) rfl ?_ ?_ | refine arun_allocj (z := ?_) 1 rfl rfl rfl rfl (by decide) rfl ?_ ?_ | refine arun_allocj (z := ?_) 2 rfl rfl rfl rfl (by decide) rfl ?_ ?_); rotate_left; (focus (simp only [S1, simprocAttr, TTNeQ, List.length_map, hne, a2, zeroB]; rfl))) | (refine awp_seq_k fun K hK => ?_) | (refine awp_drawR [0, 1, 2, 3, 4, 5, 6, 7] 2 (fs := []) rfl (by kernel_rfl) (by kernel_rfl) ?_) | ((first | refine awp_region ?_ | refine awp_draw (by kernel_rfl) ?_ | refine awp_block ?_ | refine awp_exit ?_ | refine awp_skip ?_ | refine awp_ret ?_); (try simp only [NB, simprocAttr])))
    exact EndP_pairs (.inr rfl) rfl rfl (by simp only [blkAt, get_app, List.getElem?_cons_succ, List.getElem?_cons_zero, if_true]) (by omega) (by simp) (by simp) rfl
  | true =>
    have e : thirdN ns fl = plF 3 (bad3 ns fl) ns.length ++ [(3, (ns.length : Int))] := by unfold thirdN; rw [hne]; simp
    unfold noEnds at hne
    rw [e]
    refine acalls_pure (rl := []) mixed Tryd.func60 rfl (rs := [.tmp 2]) rfl Tryd.ntmps60 (by simp) ?_
    repeat' (first | ((first | refine aops_nil ?_ | refine aqops_nil ?_ | refine arun_nil ?_ | refine arunT_nil ?_); (try simp only [NB])) | ((repeat ((fail_if_success (refine hK _ ?_)); clear hK K)); refine hK _ ?_; clear hK K) | ((first | refine aops_k fun K1 hK1 => ?_ | refine aqops_k fun K1 hK1 => ?_ | refine arun_eff rfl rfl rfl fun K1 hK1 => ?_ | refine awp_cond_k fun A B hA hB => ?_); simp only [S1, simprocAttr, TTNeQ, List.length_map, hne, a2, flatQ_len, hmax, Nat.mul_one, Nat.zero_add]; first | (refine hK1 _ ?_; clear hK1 K1) | ((first | refine hA ?_ | refine hB ?_); clear hA hB A B) | ((first | apply call_a E35 | apply call_q E35); exact (start_calls ns hn _ _); (refine hK1 _ ?_; clear hK1 K1)) | ((first | apply call_a E62 | apply call_q E62); exact (end_calls ns hn _ _); (refine hK1 _ ?_; clear hK1 K1)) | ((first | apply call_a E55 | apply call_q E55); exact hpl; (refine hK1 _ ?_; clear hK1 K1)) | (refine join_x (v := ?_) (fun hg hk9 => ?_) ?_; rotate_left; (focus (try ((try simp only [BN] at hg); simp only [S1, simprocAttr, TTNeQ, List.length_map, hne, a2, flatQ_len, hmax, Nat.mul_one, Nat.zero_add, hg] at hk9 ⊢)); first | exact hk9 | ((first | apply call_a E35 | apply call_q E35); exact (start_calls ns hn _ _); exact hk9) | ((first | apply call_a E62 | apply call_q E62); exact (end_calls ns hn _ _); exact hk9) | ((first | apply call_a E55 | apply call_q E55); exact hpl; exact hk9)); (refine hK1 _ ?_; clear hK1 K1)) | (((first | (refine ⟨fun hg => hA ?_, fun hg => hB ?_⟩ <;> clear hA hB A B) | refine ⟨fun hg => ?_, fun hg => ?_⟩) <;> (try simp only [BN2] at hg) <;> (try simp only [hg, cond_true, cond_false])) <;> (try (refine hK1 _ ?_; clear hK1 K1)) <;> (try simp only [BN3] at hg))) | ((first | refine arun_q (v := ?_) rfl rfl rfl rfl (by decide) (fun R1 K1 hK1 => ?_) ?_ | refine arun_f (v := ?_) rfl rfl rfl (by decide) (fun K1 hK1 => ?_) ?_ | refine arunT_f (v := ?_) rfl rfl rfl (by decide) (fun K1 hK1 => ?_) ?_); rotate_left; (focus (simp only [S1, simprocAttr, TTNeQ, List.length_map, hne, a2, flatQ_len, hmax, Nat.mul_one, Nat.zero_add]; first | (exact hK1 _ _ _) | ((first | apply call_a E35 | apply call_q E35); exact (start_calls ns hn _ _); exact hK1 _ _ _) | ((first | apply call_a E62 | apply call_q E62); exact (end_calls ns hn _ _); exact hK1 _ _ _) | ((first | apply call_a E55 | apply call_q E55); exact hpl; exact hK1 _ _ _)))) | (refine arun_tail rfl rfl rfl ?_) | ((first | refine arun_allocj (z := ?_) 0 rfl rfl rfl rfl (by decide) rfl ?_ ?_ | refine arun_allocj (z := ?_) 1 rfl rfl rfl rfl (by decide) rfl ?_ ?_ | refine arun_allocj (z := ?_) 2 rfl rfl rfl rfl (by decide) rfl ?_ ?_); rotate_left; (focus (simp only [S1, simprocAttr, TTNeQ, List.length_map, hne, a2, flatQ_len, hmax, Nat.mul_one, Nat.zero_add, zeroB]; rfl))) | (refine awp_seq_k fun K hK => ?_) | (refine awp_drawR [0, 1, 2, 3, 4, 5, 6, 7] 2 (fs := []) rfl (by kernel_rfl) (by kernel_rfl) ?_) | ((first | refine awp_region ?_ | refine awp_draw (by kernel_rfl) ?_ | refine awp_block ?_ | refine awp_exit ?_ | refine awp_skip ?_ | refine awp_ret ?_); (try simp only [NB, simprocAttr])))
    exact EndP_pairs (.inr rfl) (l := plF 3 (bad3 ns fl) ns.length ++ [(3, (ns.length : Int))]) (by simp) rfl (by simp only [blkAt, get_app, List.getElem?_cons_succ, List.getElem?_cons_zero, if_true, flatQ_app, List.map_append, List.map_cons, List.map_nil]) (by omega) (by simp) (by simp) rfl

theorem inB_of {n : Nat} {i : Int} (h : inB n i = true) : 0 ≤ i ∧ i < (n : Int) := inB_iff.mp h

theorem plF_nil {rule : Int} {p : Nat → Bool} {n : Nat} (h : plF rule p n = []) (i : Nat) (hi : i < n) : p i = false := by
  cases hp : p i with
  | false => rfl
  | true =>
    have : (rule, (i : Int)) ∈ plF rule p n := by
      unfold plF
      exact List.mem_map.mpr ⟨i, List.mem_filter.mpr ⟨List.mem_range.mpr hi, hp⟩, rfl⟩
    rw [h] at this; cases this

theorem bad2_in {ns : List Nd} {fl : List Fl} (h : plF 2 (bad2 ns fl) fl.length = []) : InN ns.length fl := by
  intro f hf
  obtain ⟨i, hi, e⟩ := List.mem_iff_getElem.mp hf
  have := plF_nil h i hi
  unfold bad2 at this
  rw [List.getElem?_eq_getElem hi, e] at this
  simp only [Bool.not_eq_false'] at this
  unfold twoB at this
  simp only [Bool.and_eq_true] at this
  obtain ⟨⟨⟨a, b⟩, _⟩, _⟩ := this
  exact ⟨inB_of a, inB_of b⟩

theorem findG_range {α : Type} (p : α → Bool) : ∀ (l : List α) (i : Nat), findG p l i = -1 ∨ ((i : Int) ≤ findG p l i ∧ findG p l i < (i : Int) + l.length)
  | [], i => .inl rfl
  | k :: r, i => by
    unfold findG
    split
    · right; simp only [List.length_cons]; omega
    · rcases findG_range p r (i + 1) with h | h
      · exact .inl h
      · right; simp only [List.length_cons]; omega

theorem ends_in {ns : List Nd} (h : noEnds ns = false) : (0 ≤ firstN ns 1 ∧ firstN ns 1 < (ns.length : Int)) ∧ 0 ≤ firstN ns 2 ∧ firstN ns 2 < (ns.length : Int) := by
  unfold noEnds at h
  simp only [Bool.or_eq_false_iff, decide_eq_false_iff_not] at h
  have a := findG_range (fun x : Nd => x.kind == 1) ns 0
  have b := findG_range (fun x : Nd => x.kind == 2) ns 0
  unfold firstN at *
  omega

/-- All places at which the first rule that is broken is. -/
noncomputable def allN (ns : List Nd) (fl : List Fl) : List (Int × Int) :=
  if (decide (24 < (ns.length : Int)) || decide (40 < (fl.length : Int))) = true then [(1, 0)]
  else if plF 1 (bad1 ns) ns.length ≠ [] then plF 1 (bad1 ns) ns.length
  else if plF 2 (bad2 ns fl) fl.length ≠ [] then plF 2 (bad2 ns fl) fl.length
  else if thirdN ns fl ≠ [] then thirdN ns fl
  else plF 4 (bad4 ns fl) ns.length
end Go.Proofs.YtjpphhcimpclpaaDoor.AM
end

section
set_option linter.unusedVariables false
set_option linter.unusedSimpArgs false
set_option maxRecDepth 4000


set_option maxHeartbeats 4000000
namespace Go.Proofs.YtjpphhcimpclpaaDoor.AM
open Go Go.Proofs
set_option linter.defProp false in
def TTNeR := And.intro T2 (And.intro T3 (And.intro T4 (And.intro T22 (And.intro T23 (And.intro T25 (And.intro T40 (And.intro T56 (And.intro T58 (And.intro T60 (And.intro T71 (And.intro T89 (And.intro T100 (And.intro T103 T122)))))))))))))
attribute [local irreducible] awp aops aqops aeops arun arunT
variable {G : Nat → Option (List PV)}

theorem len_pos {α : Type} {l : List α} (h : l ≠ []) : decide ((0 : Int) < (l.length : Int)) = true := by
  have : 0 < l.length := List.length_pos_iff.mpr h
  exact decide_eq_true (by omega)
theorem len_zero {α : Type} {l : List α} (h : l = []) : decide ((0 : Int) < (l.length : Int)) = false := by subst h; rfl

theorem All_calls (ns : List Nd) (fl : List Fl) (ok : NetOk ns fl) (h : Heap) : ACalls Tryd.prog gW 36 [aNet ns fl] h (fun r h' => r = aQ (allN ns fl) ∧ h' = h) := by
  have a3 : h.length + 3 + 1 = h.length + 4 := rfl
  have hn := ok.n
  have hl := ok.f
  have p1 := places_calls (G := gW) (f := 56) E56 (caps := [.ptr h.length 0 0]) (p := bad1 ns) 1 ns.length ok.n (h ++ [some ⟨0, cNet ns fl⟩]) (by simp [avlts, avlt])
    (fun L i hi => all1_calls ns fl ok i hi _ (b := h.length) (app_get (by simp [get_app0]) L))
  have p2 := fun b1 : Option Blk => places_calls (G := gW) (f := 58) E58 (caps := [.ptr h.length 0 0]) (p := bad2 ns fl) 2 fl.length ok.f (h ++ [some ⟨0, cNet ns fl⟩, b1]) (by simp [avlts, avlt])
    (fun L i hi => all2_calls ns fl ok i hi _ (b := h.length) (app_get (by simp [get_app0]) L))
  have p4 := fun b1 b2 : Option Blk => places_calls (G := gW) (f := 63) E63 (caps := [.ptr (h.length + 3) 1 0, .ptr (h.length + 4) 1 0]) (p := bad4 ns fl) 4 ns.length ok.n (h ++ [some ⟨0, cNet ns fl⟩, b1, b2, some ⟨1, [aBl (rchL (edgeB false fl) ns.length (firstN ns 1).toNat)]⟩, some ⟨1, [aBl (rchL (edgeB true fl) ns.length (firstN ns 2).toNat)]⟩]) (by simp [avlts, avlt])
    (fun L i hi => all3_calls ns fl i hi _ (app_get (by simp [get_app]) L) (app_get (by simp [get_app]) L))
  simp only [List.length_append, List.length_cons, List.length_nil, Nat.zero_add, Nat.reduceAdd, List.append_assoc, List.cons_append, List.nil_append] at p1 p2 p4
  by_cases hsz : (decide (24 < (ns.length : Int)) || decide (40 < (fl.length : Int))) = true
  · have e : allN ns fl = [(1, 0)] := by unfold allN; rw [if_pos hsz]
    rw [e]
    refine acalls_pure (rl := []) mixed Tryd.func36 rfl (rs := [.tmp 2]) rfl Tryd.ntmps36 (by simp) ?_
    repeat' (first | ((first | refine aops_nil ?_ | refine aqops_nil ?_); (try simp only [NB])) | ((repeat ((fail_if_success (refine hK _ ?_)); clear hK K)); refine hK _ ?_; clear hK K) | ((first | refine aops_k fun K1 hK1 => ?_ | refine aqops_k fun K1 hK1 => ?_ | refine awp_cond_k fun A B hA hB => ?_); simp only [S1, simprocAttr, TTNeR, List.length_map, hsz]; first | (refine hK1 _ ?_; clear hK1 K1) | ((first | refine hA ?_ | refine hB ?_); clear hA hB A B) | (refine join_x (v := ?_) (fun hg hk9 => ?_) ?_; rotate_left; (focus (try ((try simp only [BN] at hg); simp only [S1, simprocAttr, TTNeR, List.length_map, hsz, hg] at hk9 ⊢)); first | exact hk9); (refine hK1 _ ?_; clear hK1 K1)) | (((first | (refine ⟨fun hg => hA ?_, fun hg => hB ?_⟩ <;> clear hA hB A B) | refine ⟨fun hg => ?_, fun hg => ?_⟩) <;> (try simp only [BN2] at hg) <;> (try simp only [hg, cond_true, cond_false])) <;> (try (refine hK1 _ ?_; clear hK1 K1)) <;> (try simp only [BN3] at hg))) | (refine awp_seq_k fun K hK => ?_) | ((first | refine awp_region ?_ | refine awp_draw (by kernel_rfl) ?_ | refine awp_block ?_ | refine awp_exit ?_ | refine awp_skip ?_ | refine awp_ret ?_); (try simp only [NB, simprocAttr])))
    all_goals simp only [EndP, FinP, resA, resL, resA1, lastV, lastA, lastAs, pur, purs, take_app, List.take_length, S1, simprocAttr, TTNeR, Nat.le_add_right, Nat.le_refl]
    all_goals rfl
  rw [Bool.not_eq_true] at hsz
  by_cases h1 : plF 1 (bad1 ns) ns.length = []
  case neg =>
    have e : allN ns fl = plF 1 (bad1 ns) ns.length := by unfold allN; rw [if_neg (by rw [hsz]; decide), if_pos h1]
    rw [e]
    have c1 := len_pos h1
    refine acalls_pure (rl := []) mixed Tryd.func36 rfl (rs := [.tmp 2]) rfl Tryd.ntmps36 (by simp) ?_
    repeat' (first | ((first | refine aops_nil ?_ | refine aqops_nil ?_); (try simp only [NB])) | ((repeat ((fail_if_success (refine hK _ ?_)); clear hK K)); refine hK _ ?_; clear hK K) | ((first | refine aops_k fun K1 hK1 => ?_ | refine aqops_k fun K1 hK1 => ?_ | refine awp_cond_k fun A B hA hB => ?_); simp only [S1, simprocAttr, TTNeR, List.length_map, hsz, c1]; first | (refine hK1 _ ?_; clear hK1 K1) | ((first | refine hA ?_ | refine hB ?_); clear hA hB A B) | ((first | apply call_a E55 | apply call_q E55); exact p1; (refine hK1 _ ?_; clear hK1 K1)) | (refine join_x (v := ?_) (fun hg hk9 => ?_) ?_; rotate_left; (focus (try ((try simp only [BN] at hg); simp only [S1, simprocAttr, TTNeR, List.length_map, hsz, c1, hg] at hk9 ⊢)); first | exact hk9 | ((first | apply call_a E55 | apply call_q E55); exact p1; exact hk9)); (refine hK1 _ ?_; clear hK1 K1)) | (((first | (refine ⟨fun hg => hA ?_, fun hg => hB ?_⟩ <;> clear hA hB A B) | refine ⟨fun hg => ?_, fun hg => ?_⟩) <;> (try simp only [BN2] at hg) <;> (try simp only [hg, cond_true, cond_false])) <;> (try (refine hK1 _ ?_; clear hK1 K1)) <;> (try simp only [BN3] at hg))) | (refine awp_seq_k fun K hK => ?_) | ((first | refine awp_region ?_ | refine awp_draw (by kernel_rfl) ?_ | refine awp_block ?_ | refine awp_exit ?_ | refine awp_skip ?_ | refine awp_ret ?_); (try simp only [NB, simprocAttr])))
    exact EndP_pairs (.inr rfl) rfl rfl (by simp only [blkAt, get_app, List.getElem?_cons_succ, List.getElem?_cons_zero, if_true]) (by omega) (by simp) (by simp) rfl
  have c1 := len_zero h1
  by_cases h2 : plF 2 (bad2 ns fl) fl.length = []
  case neg =>
    have e : allN ns fl = plF 2 (bad2 ns fl) fl.length := by unfold allN; rw [if_neg (by rw [hsz]; decide), if_neg (by simpa using h1), if_pos h2]
    rw [e]
    have c2 := len_pos h2
    refine acalls_pure (rl := []) mixed Tryd.func36 rfl (rs := [.tmp 2]) rfl Tryd.ntmps36 (by simp) ?_
    repeat' (first | ((first | refine aops_nil ?_ | refine aqops_nil ?_); (try simp only [NB])) | ((repeat ((fail_if_success (refine hK _ ?_)); clear hK K)); refine hK _ ?_; clear hK K) | ((first | refine aops_k fun K1 hK1 => ?_ | refine aqops_k fun K1 hK1 => ?_ | refine awp_cond_k fun A B hA hB => ?_); simp only [S1, simprocAttr, TTNeR, List.length_map, hsz, c1, c2]; first | (refine hK1 _ ?_; clear hK1 K1) | ((first | refine hA ?_ | refine hB ?_); clear hA hB A B) | ((first | apply call_a E55 | apply call_q E55); exact p1; (refine hK1 _ ?_; clear hK1 K1)) | ((first | apply call_a E55 | apply call_q E55); exact (p2 _); (refine hK1 _ ?_; clear hK1 K1)) | (refine join_x (v := ?_) (fun hg hk9 => ?_) ?_; rotate_left; (focus (try ((try simp only [BN] at hg); simp only [S1, simprocAttr, TTNeR, List.length_map, hsz, c1, c2, hg] at hk9 ⊢)); first | exact hk9 | ((first | apply call_a E55 | apply call_q E55); exact p1; exact hk9) | ((first | apply call_a E55 | apply call_q E55); exact (p2 _); exact hk9)); (refine hK1 _ ?_; clear hK1 K1)) | (((first | (refine ⟨fun hg => hA ?_, fun hg => hB ?_⟩ <;> clear hA hB A B) | refine ⟨fun hg => ?_, fun hg => ?_⟩) <;> (try simp only [BN2] at hg) <;> (try simp only [hg, cond_true, cond_false])) <;> (try (refine hK1 _ ?_; clear hK1 K1)) <;> (try simp only [BN3] at hg))) | (refine awp_seq_k fun K hK => ?_) | ((first | refine awp_region ?_ | refine awp_draw (by kernel_rfl) ?_ | refine awp_block ?_ | refine awp_exit ?_ | refine awp_skip ?_ | refine awp_ret ?_); (try simp only [NB, simprocAttr])))
    exact EndP_pairs (.inr rfl) rfl rfl (by simp only [blkAt, get_app, List.getElem?_cons_succ, List.getElem?_cons_zero, if_true]) (by omega) (by simp) (by simp) rfl
  have c2 := len_zero h2
  have hd := bad2_in h2
  by_cases h3 : thirdN ns fl = []
  case neg =>
    have e : allN ns fl = thirdN ns fl := by unfold allN; rw [if_neg (by rw [hsz]; decide), if_neg (by simpa using h1), if_neg (by simpa using h2), if_pos h3]
    rw [e]
    have c3 := len_pos h3
    refine acalls_pure (rl := []) mixed Tryd.func36 rfl (rs := [.tmp 2]) rfl Tryd.ntmps36 (by simp) ?_
    repeat' (first | ((first | refine aops_nil ?_ | refine aqops_nil ?_); (try simp only [NB])) | ((repeat ((fail_if_success (refine hK _ ?_)); clear hK K)); refine hK _ ?_; clear hK K) | ((first | refine aops_k fun K1 hK1 => ?_ | refine aqops_k fun K1 hK1 => ?_ | refine awp_cond_k fun A B hA hB => ?_); simp only [S1, simprocAttr, TTNeR, List.length_map, hsz, c1, c2, c3]; first | (refine hK1 _ ?_; clear hK1 K1) | ((first | refine hA ?_ | refine hB ?_); clear hA hB A B) | ((first | apply call_a E55 | apply call_q E55); exact p1; (refine hK1 _ ?_; clear hK1 K1)) | ((first | apply call_a E55 | apply call_q E55); exact (p2 _); (refine hK1 _ ?_; clear hK1 K1)) | ((first | apply call_a E60 | apply call_q E60); exact (third_calls ns fl ok hd _); (refine hK1 _ ?_; clear hK1 K1)) | (refine join_x (v := ?_) (fun hg hk9 => ?_) ?_; rotate_left; (focus (try ((try simp only [BN] at hg); simp only [S1, simprocAttr, TTNeR, List.length_map, hsz, c1, c2, c3, hg] at hk9 ⊢)); first | exact hk9 | ((first | apply call_a E55 | apply call_q E55); exact p1; exact hk9) | ((first | apply call_a E55 | apply call_q E55); exact (p2 _); exact hk9) | ((first | apply call_a E60 | apply call_q E60); exact (third_calls ns fl ok hd _); exact hk9)); (refine hK1 _ ?_; clear hK1 K1)) | (((first | (refine ⟨fun hg => hA ?_, fun hg => hB ?_⟩ <;> clear hA hB A B) | refine ⟨fun hg => ?_, fun hg => ?_⟩) <;> (try simp only [BN2] at hg) <;> (try simp only [hg, cond_true, cond_false])) <;> (try (refine hK1 _ ?_; clear hK1 K1)) <;> (try simp only [BN3] at hg))) | (refine awp_seq_k fun K hK => ?_) | ((first | refine awp_region ?_ | refine awp_draw (by kernel_rfl) ?_ | refine awp_block ?_ | refine awp_exit ?_ | refine awp_skip ?_ | refine awp_ret ?_); (try simp only [NB, simprocAttr])))
    all_goals simp only [EndP, FinP, resA, resL, resA1, lastV, lastA, lastAs, pur, purs, take_app, List.take_length, S1, simprocAttr, TTNeR, Nat.le_add_right, Nat.le_refl]
  have c3 := len_zero h3
  have e : allN ns fl = plF 4 (bad4 ns fl) ns.length := by unfold allN; rw [if_neg (by rw [hsz]; decide), if_neg (by simpa using h1), if_neg (by simpa using h2), if_neg (by simpa using h3)]
  rw [e]
  have hne : noEnds ns = false := by
    unfold thirdN at h3
    cases hx : noEnds ns with
    | false => rfl
    | true => rw [hx] at h3; simp at h3
  obtain ⟨⟨s0, s1⟩, e0, e1⟩ := ends_in hne
  refine acalls_pure (rl := []) mixed Tryd.func36 rfl (rs := [.tmp 2]) rfl Tryd.ntmps36 (by simp) ?_
  repeat' (first | ((first | refine aops_nil ?_ | refine aqops_nil ?_ | refine arun_nil ?_ | refine arunT_nil ?_); (try simp only [NB])) | ((repeat ((fail_if_success (refine hK _ ?_)); clear hK K)); refine hK _ ?_; clear hK K) | ((first | refine aops_k fun K1 hK1 => ?_ | refine aqops_k fun K1 hK1 => ?_ | refine arun_eff rfl rfl rfl fun K1 hK1 => ?_ | refine awp_cond_k fun A B hA hB => ?_); simp only [S1, simprocAttr, TTNeR, List.length_map, hsz, c1, c2, c3, a3]; first | (refine hK1 _ ?_; clear hK1 K1) | ((first | refine hA ?_ | refine hB ?_); clear hA hB A B) | ((first | apply call_a E55 | apply call_q E55); exact p1; (refine hK1 _ ?_; clear hK1 K1)) | ((first | apply call_a E55 | apply call_q E55); exact (p2 _); (refine hK1 _ ?_; clear hK1 K1)) | ((first | apply call_a E55 | apply call_q E55); exact (p4 _ _); (refine hK1 _ ?_; clear hK1 K1)) | ((first | apply call_a E60 | apply call_q E60); exact (third_calls ns fl ok hd _); (refine hK1 _ ?_; clear hK1 K1)) | ((first | apply call_a E35 | apply call_q E35); exact (start_calls ns hn _ _); (refine hK1 _ ?_; clear hK1 K1)) | ((first | apply call_a E62 | apply call_q E62); exact (end_calls ns hn _ _); (refine hK1 _ ?_; clear hK1 K1)) | ((first | apply call_a E61 | apply call_q E61); exact (met_calls ns hn fl hl hd _ s0 s1 false _); (refine hK1 _ ?_; clear hK1 K1)) | ((first | apply call_a E61 | apply call_q E61); exact (met_calls ns hn fl hl hd _ e0 e1 true _); (refine hK1 _ ?_; clear hK1 K1)) | (refine join_x (v := ?_) (fun hg hk9 => ?_) ?_; rotate_left; (focus (try ((try simp only [BN] at hg); simp only [S1, simprocAttr, TTNeR, List.length_map, hsz, c1, c2, c3, a3, hg] at hk9 ⊢)); first | exact hk9 | ((first | apply call_a E55 | apply call_q E55); exact p1; exact hk9) | ((first | apply call_a E55 | apply call_q E55); exact (p2 _); exact hk9) | ((first | apply call_a E55 | apply call_q E55); exact (p4 _ _); exact hk9) | ((first | apply call_a E60 | apply call_q E60); exact (third_calls ns fl ok hd _); exact hk9) | ((first | apply call_a E35 | apply call_q E35); exact (start_calls ns hn _ _); exact hk9) | ((first | apply call_a E62 | apply call_q E62); exact (end_calls ns hn _ _); exact hk9) | ((first | apply call_a E61 | apply call_q E61); exact (met_calls ns hn fl hl hd _ s0 s1 false _); exact hk9) | ((first | apply call_a E61 | apply call_q E61); exact (met_calls ns hn fl hl hd _ e0 e1 true _); exact hk9)); (refine hK1 _ ?_; clear hK1 K1)) | (((first | (refine ⟨fun hg => hA ?_, fun hg => hB ?_⟩ <;> clear hA hB A B) | refine ⟨fun hg => ?_, fun hg => ?_⟩) <;> (try simp only [BN2] at hg) <;> (try simp only [hg, cond_true, cond_false])) <;> (try (refine hK1 _ ?_; clear hK1 K1)) <;> (try simp only [BN3] at hg))) | ((first | refine arun_q (v := ?_) rfl rfl rfl rfl (by decide) (fun R1 K1 hK1 => ?_) ?_ | refine arun_f (v := ?_) rfl rfl rfl (by decide) (fun K1 hK1 => ?_) ?_ | refine arunT_f (v := ?_) rfl rfl rfl (by decide) (fun K1 hK1 => ?_) ?_); rotate_left; (focus (simp only [S1, simprocAttr, TTNeR, List.length_map, hsz, c1, c2, c3, a3]; first | (exact hK1 _ _ _) | ((first | apply call_a E55 | apply call_q E55); exact p1; exact hK1 _ _ _) | ((first | apply call_a E55 | apply call_q E55); exact (p2 _); exact hK1 _ _ _) | ((first | apply call_a E55 | apply call_q E55); exact (p4 _ _); exact hK1 _ _ _) | ((first | apply call_a E60 | apply call_q E60); exact (third_calls ns fl ok hd _); exact hK1 _ _ _) | ((first | apply call_a E35 | apply call_q E35); exact (start_calls ns hn _ _); exact hK1 _ _ _) | ((first | apply call_a E62 | apply call_q E62); exact (end_calls ns hn _ _); exact hK1 _ _ _) | ((first | apply call_a E61 | apply call_q E61); exact (met_calls ns hn fl hl hd _ s0 s1 false _); exact hK1 _ _ _) | ((first | apply call_a E61 | apply call_q E61); exact (met_calls ns hn fl hl hd _ e0 e1 true _); exact hK1 _ _ _)))) | (refine arun_tail rfl rfl rfl ?_) | ((first | refine arun_allocj (z := ?_) 0 rfl rfl rfl rfl (by decide) rfl ?_ ?_ | refine arun_allocj (z := ?_) 1 rfl rfl rfl rfl (by decide) rfl ?_ ?_ | refine arun_allocj (z := ?_) 2 rfl rfl rfl rfl (by decide) rfl ?_ ?_); rotate_left; (focus (simp only [S1, simprocAttr, TTNeR, List.length_map, hsz, c1, c2, c3, a3, zeroB]; rfl))) | (refine awp_seq_k fun K hK => ?_) | (refine awp_drawR [0, 1, 2, 3, 4, 5, 6, 7, 8, 9, 10, 11] 2 (fs := []) rfl (by kernel_rfl) (by kernel_rfl) ?_) | ((first | refine awp_region ?_ | refine awp_draw (by kernel_rfl) ?_ | refine awp_block ?_ | refine awp_exit ?_ | refine awp_skip ?_ | refine awp_ret ?_); (try simp only [NB, simprocAttr])))
  exact EndP_pairs (.inr rfl) rfl rfl (by simp only [blkAt, get_app, List.getElem?_cons_succ, List.getElem?_cons_zero, if_true]) (by omega) (by simp) (by simp) rfl
end Go.Proofs.YtjpphhcimpclpaaDoor.AM
end

section
set_option linter.unusedVariables false
set_option linter.unusedSimpArgs false
set_option maxRecDepth 4000
set_option maxHeartbeats 4000000
namespace Go.Proofs.YtjpphhcimpclpaaDoor.AM
open Go Go.Proofs
set_option linter.defProp false in
def TTNeS := And.intro T2 (And.intro T3 (And.intro T4 (And.intro T22 (And.intro T23 (And.intro T25 (And.intro T40 (And.intro T56 (And.intro T58 (And.intro T60 (And.intro T71 (And.intro T100 (And.intro T103 T122))))))))))))
attribute [local irreducible] awp aops aqops aeops arun arunT
variable {G : Nat → Option (List PV)}

/-- The rule that is broken, and where; 0: none is. -/
noncomputable def netN (ns : List Nd) (fl : List Fl) : Int × Int := (allN ns fl).head?.getD (0, 0)

theorem ne_of_head {α : Type} {l : List α} {x : α} (h : l.head? = some x) : l ≠ [] := by rintro rfl; cases h

theorem Check_calls (ns : List Nd) (fl : List Fl) (ok : NetOk ns fl) (h : Heap) : ACalls Tryd.prog gW 21 [aNet ns fl] h (fun r h' => r = .tup [.i (netN ns fl).1, .i (netN ns fl).2] ∧ h' = h) := by
  have ha := fun h => All_calls ns fl ok h
  unfold netN
  generalize allN ns fl = l at *
  cases hx : l.head? with
  | none =>
    have e : l = [] := by cases l with
      | nil => rfl
      | cons => cases hx
    have c : decide ((0 : Int) < 0) = false := rfl
    subst e
    refine acalls_pure (rl := []) mixed Tryd.func21 rfl (rs := [.tmp 2, .tmp 3]) rfl Tryd.ntmps21 (by simp) ?_
    repeat' (first | ((first | refine aops_nil ?_ | refine aqops_nil ?_); (try simp only [NB])) | ((repeat ((fail_if_success (refine hK _ ?_)); clear hK K)); refine hK _ ?_; clear hK K) | ((first | refine aops_k fun K1 hK1 => ?_ | refine aqops_k fun K1 hK1 => ?_ | refine awp_cond_k fun A B hA hB => ?_); simp only [S1, simprocAttr, TTNeS, List.length_map, List.length_nil, c]; first | (refine hK1 _ ?_; clear hK1 K1) | ((first | refine hA ?_ | refine hB ?_); clear hA hB A B) | ((first | apply call_a E36 | apply call_q E36); exact (ha _); (refine hK1 _ ?_; clear hK1 K1)) | (((first | (refine ⟨fun hg => hA ?_, fun hg => hB ?_⟩ <;> clear hA hB A B) | refine ⟨fun hg => ?_, fun hg => ?_⟩) <;> (try simp only [BN2] at hg) <;> (try simp only [hg, cond_true, cond_false])) <;> (try (refine hK1 _ ?_; clear hK1 K1)) <;> (try simp only [BN3] at hg))) | (refine awp_seq_k fun K hK => ?_) | ((first | refine awp_region ?_ | refine awp_draw (by kernel_rfl) ?_ | refine awp_block ?_ | refine awp_exit ?_ | refine awp_skip ?_ | refine awp_ret ?_); (try simp only [NB, simprocAttr])))
    all_goals simp only [EndP, FinP, resA, resL, resA1, lastV, lastA, lastAs, pur, purs, take_app, List.take_length, S1, simprocAttr, TTNeS, Nat.le_add_right, Nat.le_refl]
    all_goals rfl
  | some x =>
    have c := len_pos (ne_of_head hx)
    have c0 : (0 : Int) ≤ 0 := Int.le_refl 0
    have hr : (l.map eQ)[0]? = some [.int .i64 x.1, .int .i64 x.2] := by rw [← List.head?_eq_getElem?, List.head?_map, hx]; rfl
    refine acalls_pure (rl := []) mixed Tryd.func21 rfl (rs := [.tmp 2, .tmp 3]) rfl Tryd.ntmps21 (by simp) ?_
    repeat' (first | ((first | refine aops_nil ?_ | refine aqops_nil ?_); (try simp only [NB])) | ((repeat ((fail_if_success (refine hK _ ?_)); clear hK K)); refine hK _ ?_; clear hK K) | ((first | refine aops_k fun K1 hK1 => ?_ | refine aqops_k fun K1 hK1 => ?_ | refine awp_cond_k fun A B hA hB => ?_); simp only [S1, simprocAttr, TTNeS, List.length_map, c, c0, hr]; first | (refine hK1 _ ?_; clear hK1 K1) | ((first | refine hA ?_ | refine hB ?_); clear hA hB A B) | ((first | apply call_a E36 | apply call_q E36); exact (ha _); (refine hK1 _ ?_; clear hK1 K1)) | (((first | (refine ⟨fun hg => hA ?_, fun hg => hB ?_⟩ <;> clear hA hB A B) | refine ⟨fun hg => ?_, fun hg => ?_⟩) <;> (try simp only [BN2] at hg) <;> (try simp only [hg, cond_true, cond_false])) <;> (try (refine hK1 _ ?_; clear hK1 K1)) <;> (try simp only [BN3] at hg))) | (refine awp_seq_k fun K hK => ?_) | ((first | refine awp_region ?_ | refine awp_draw (by kernel_rfl) ?_ | refine awp_block ?_ | refine awp_exit ?_ | refine awp_skip ?_ | refine awp_ret ?_); (try simp only [NB, simprocAttr])))
    all_goals simp only [EndP, FinP, resA, resL, resA1, lastV, lastA, lastAs, pur, purs, take_app, List.take_length, S1, simprocAttr, TTNeS, Nat.le_add_right, Nat.le_refl]
    all_goals rfl

theorem plF_none {rule : Int} {p : Nat → Bool} {n : Nat} (h1 : ∀ i, i < n → p i = false) : plF rule p n = [] := by
  unfold plF
  rw [List.filter_eq_nil_iff.mpr (fun i hi => by rw [h1 i (List.mem_range.mp hi)]; decide)]
  rfl
end Go.Proofs.YtjpphhcimpclpaaDoor.AM
end

section
set_option linter.unusedVariables false
set_option linter.unusedSimpArgs false
set_option maxRecDepth 4000
namespace Go.Proofs.YtjpphhcimpclpaaDoor.AM
open Go Go.Proofs

/-! ### Numbers as cells. -/
theorem dropI {S : List Int} {k : Nat} {x : Int} (h : S[k]? = some x) : (S.map AV.i).drop k = .p (.int .i64 x) :: (S.drop (k + 1)).map AV.i := by
  obtain ⟨hk, e⟩ := List.getElem?_eq_some_iff.mp h
  rw [← List.map_drop, List.drop_eq_getElem_cons hk, e]; rfl
theorem takeA_arr (n e sz by' : Nat) (z : Option (List PV)) (cells : List AV) : takeA ⟨.array n e, sz, by', z⟩ cells = if sz ≤ cells.length then some (.agg (cells.take sz)) else none := by unfold takeA; rfl
theorem takeA_st (fs : List (Nat × Nat × Nat)) (sz by' : Nat) (z : Option (List PV)) (cells : List AV) : takeA ⟨.struct fs, sz, by', z⟩ cells = if sz ≤ cells.length then some (.agg (cells.take sz)) else none := by unfold takeA; rfl
theorem setI_c (S : List Int) (k : Nat) (v : Int) : (S.map AV.i).set k (.p (.int .i64 v)) = (S.set k v).map AV.i := by
  rw [List.map_set]
theorem avlts_is (m : Nat) (S : List Int) : avlts m (S.map AV.i) := by
  induction S with
  | nil => trivial
  | cons x r ih => exact ⟨trivial, ih⟩
theorem all_scalar (S : List Int) : (S.map AV.i).all AV.scalar = true := by
  induction S with
  | nil => rfl
  | cons x r ih => simp only [List.map_cons, List.all_cons, ih]; rfl
theorem ne_is {S : List Int} {n : Nat} (h : S.length = n + 1) : (S.map AV.i).isEmpty = false := by
  cases S with
  | nil => cases h
  | cons => rfl
/-! ### Steps. -/
structure Sp where
  node : Int
  arg : Int
  lk : Int
  ln : Int
  la : Int
  to : List Int

/-- A state: 40 tokens, 4 variables, 4 queues, a mode. -/
abbrev aS (S : List Int) : AV := .agg (S.map AV.i)
def cSp (x : Sp) : List Int := [x.node, x.arg, x.lk, x.ln, x.la] ++ x.to
def eSp (x : Sp) : List PV := (cSp x).map (PV.int .i64)
/-- The cells of steps. -/
def cSps (l : List Sp) : List AV := (l.flatMap cSp).map AV.i
theorem cSp_len {x : Sp} (h : x.to.length = 49) : (cSp x).length = 54 := by simp [cSp, h]
theorem cSps_len : ∀ {l : List Sp}, (∀ x ∈ l, x.to.length = 49) → (cSps l).length = l.length * 54
  | [], _ => rfl
  | x :: r, h => by
    have := cSps_len (l := r) fun y hy => h y (by simp [hy])
    unfold cSps at this ⊢
    rw [List.length_map] at this ⊢
    rw [List.flatMap_cons, List.length_append, this, cSp_len (h x (by simp)), List.length_cons]; omega
theorem cSps_app (l : List Sp) (x : Sp) : cSps (l ++ [x]) = cSps l ++ (cSp x).map AV.i := by
  unfold cSps; rw [List.flatMap_append, List.map_append]; simp

/-- A block with a process, a state and a list of steps; the block of the steps. -/
def gmC (ns : List Nd) (fl : List Fl) (S : List Int) (lb n : Nat) : List AV := .p (.sl (ns.map eN)) :: .p (.sl (fl.map eF)) :: (S.map AV.i ++ [.ref lb n 0 54 n])
def gmB (ns : List Nd) (fl : List Fl) (S : List Int) (lb : Nat) (l : List Sp) : Option Blk := some ⟨0, gmC ns fl S lb l.length⟩

section
variable {ns : List Nd} {fl : List Fl} {S : List Int} {lb n m : Nat}
theorem gmC_len (hS : S.length = 49) : (gmC ns fl S lb n).length = 52 := by simp [gmC, hS]
theorem gmC_1 : (gmC ns fl S lb n).drop 1 = .p (.sl (fl.map eF)) :: (S.map AV.i ++ [.ref lb n 0 54 n]) := rfl
theorem gmC_net : (gmC ns fl S lb n).take 2 = [.p (.sl (ns.map eN)), .p (.sl (fl.map eF))] := rfl
theorem gmC_S (k : Nat) (hk : k ≤ S.length) : (gmC ns fl S lb n).drop (2 + k) = (S.drop k).map AV.i ++ [.ref lb n 0 54 n] := by
  unfold gmC
  rw [show 2 + k = k + 1 + 1 by omega, List.drop_succ_cons, List.drop_succ_cons, List.drop_append_of_le_length (by simpa using hk), List.map_drop]
theorem gmC_at {k : Nat} {x : Int} (h : S[k]? = some x) : (gmC ns fl S lb n).drop (2 + k) = .p (.int .i64 x) :: ((S.drop (k + 1)).map AV.i ++ [.ref lb n 0 54 n]) := by
  have hk := (List.getElem?_eq_some_iff.mp h).1
  rw [gmC_S k (by omega), List.map_drop, dropI h]; rfl
theorem gmC_ref (hS : S.length = 49) : (gmC ns fl S lb n).drop 51 = [.ref lb n 0 54 n] := by
  rw [show 51 = 2 + 49 by rfl, gmC_S 49 (by omega), List.drop_of_length_le (by omega)]; rfl
theorem gmC_take (k c : Nat) (hk : k + c ≤ S.length) : ((gmC ns fl S lb n).drop (2 + k)).take c = ((S.drop k).take c).map AV.i := by
  rw [gmC_S k (by omega), List.take_append_of_le_length (by rw [List.length_map, List.length_drop]; omega), List.map_take]
theorem gmC_set (hS : S.length = 49) : (gmC ns fl S lb n).set 51 (.ref lb m 0 54 m) = gmC ns fl S lb m := by
  unfold gmC
  rw [show (51 : Nat) = 49 + 1 + 1 by rfl, List.set_cons_succ, List.set_cons_succ, List.set_append_right _ _ (by simp [hS])]
  simp [hS]
end
def spB (l : List Sp) : Option Blk := some ⟨l.length, cSps l⟩

/-- A heap in which so many steps stand. -/
def putG (h : Heap) (b lb : Nat) (ns : List Nd) (fl : List Fl) (S : List Int) (l : List Sp) : Heap := (h.set b (gmB ns fl S lb l)).set lb (spB l)

section
variable {h : Heap} {b lb : Nat} {ns : List Nd} {fl : List Fl} {S : List Int} {l l' : List Sp}
theorem pg_len : (putG h b lb ns fl S l).length = h.length := by simp [putG]
theorem pg_b (hb : b < h.length) (hne : b ≠ lb) (L : Heap) : (putG h b lb ns fl S l ++ L)[b]? = some (gmB ns fl S lb l) := by
  rw [List.getElem?_append_left (by rw [pg_len]; exact hb)]
  unfold putG
  rw [List.getElem?_set_ne (fun e => hne e.symm), List.getElem?_set]; simp [hb]
theorem pg_lb (hl : lb < h.length) (L : Heap) : (putG h b lb ns fl S l ++ L)[lb]? = some (spB l) := by
  rw [List.getElem?_append_left (by rw [pg_len]; exact hl)]
  unfold putG
  rw [List.getElem?_set]; simp [hl]
theorem pg_b0 (hb : b < h.length) (hne : b ≠ lb) : (putG h b lb ns fl S l)[b]? = some (gmB ns fl S lb l) := by have := pg_b (ns := ns) (fl := fl) (S := S) (l := l) hb hne []; rwa [List.append_nil] at this
theorem pg_lb0 (hl : lb < h.length) : (putG h b lb ns fl S l)[lb]? = some (spB l) := by have := pg_lb (b := b) (ns := ns) (fl := fl) (S := S) (l := l) hl []; rwa [List.append_nil] at this
theorem pg_app (hb : b < h.length) (hl : lb < h.length) (L : Heap) : putG (h ++ L) b lb ns fl S l = putG h b lb ns fl S l ++ L := by
  unfold putG
  rw [List.set_append_left _ _ hb, List.set_append_left _ _ (by simpa using hl)]
theorem pg_get0 (L : Heap) : (putG h b lb ns fl S l ++ L)[h.length]? = L[0]? := by rw [List.getElem?_append_right (by rw [pg_len]; omega), pg_len]; congr 1; omega
theorem pg_geti (L : Heap) (i : Nat) : (putG h b lb ns fl S l ++ L)[h.length + i]? = L[i]? := by rw [List.getElem?_append_right (by rw [pg_len]; omega), pg_len]; congr 1; omega
theorem pg_set0 (L : Heap) (x : Option Blk) : (putG h b lb ns fl S l ++ L).set h.length x = putG h b lb ns fl S l ++ L.set 0 x := by rw [List.set_append_right _ _ (by rw [pg_len]; omega), pg_len]; congr 2; omega
theorem pg_seti (L : Heap) (i : Nat) (x : Option Blk) : (putG h b lb ns fl S l ++ L).set (h.length + i) x = putG h b lb ns fl S l ++ L.set i x := by rw [List.set_append_right _ _ (by rw [pg_len]; omega), pg_len]; congr 2; omega
theorem pg_take (L : Heap) : (putG h b lb ns fl S l ++ L).take h.length = putG h b lb ns fl S l := by
  have := pg_len (h := h) (b := b) (lb := lb) (ns := ns) (fl := fl) (S := S) (l := l)
  rw [← this, List.take_left']; rfl
theorem pg_take0 : (putG h b lb ns fl S l).take h.length = putG h b lb ns fl S l := by
  have := pg_len (h := h) (b := b) (lb := lb) (ns := ns) (fl := fl) (S := S) (l := l)
  rw [← this, List.take_length]
theorem pg_set_lb (hl : lb < h.length) (L : Heap) (x : Option Blk) : (putG h b lb ns fl S l ++ L).set lb x = (h.set b (gmB ns fl S lb l)).set lb x ++ L := by
  rw [List.set_append_left _ _ (by rw [pg_len]; exact hl)]
  unfold putG; rw [List.set_set]
theorem pg_avl (hl : lb < h.length) : avlts h.length (gmC ns fl S lb l.length) := by
  have : ∀ (m : Nat) (a c : List AV), avlts m a → avlts m c → avlts m (a ++ c) := by
    intro m a c ha hc
    induction a with
    | nil => exact hc
    | cons x r ih => exact ⟨ha.1, ih ha.2⟩
  exact ⟨trivial, trivial, this _ _ _ (avlts_is _ S) ⟨hl, trivial⟩⟩
theorem pg_keep {l0 : List Sp} (hl : lb < h.length) : ∀ (i : Nat) (bk : Blk), (putG h b lb ns fl S l)[i]? = some (some bk) → (putG h b lb ns fl S l0)[i]? = some (some bk) ∨ avlts (putG h b lb ns fl S l0).length bk.cells := by
  intro i bk hi
  rw [pg_len]
  unfold putG at hi ⊢
  rw [List.getElem?_set] at hi
  split at hi
  · split at hi
    · cases hi; exact .inr (avlts_is _ _)
    · cases hi
  · rename_i e
    rw [List.getElem?_set] at hi
    split at hi
    · split at hi
      · cases hi; exact .inr (pg_avl hl)
      · cases hi
    · rename_i e2
      left
      rw [List.getElem?_set_ne e, List.getElem?_set_ne e2]; exact hi
theorem pg_keep' {l0 : List Sp} (hl : lb < h.length) (i : Nat) (bk : Blk) (hi : (putG h b lb ns fl S l)[i]? = some (some bk)) : (putG h b lb ns fl S l0)[i]? = some (some bk) ∨ ∀ x, x ∈ bk.cells → AVlt h.length x :=
  (pg_keep hl i bk hi).imp id fun hx => by rw [pg_len] at hx; exact avlts_lt _ hx
end
end Go.Proofs.YtjpphhcimpclpaaDoor.AM
end

section
set_option linter.unusedVariables false
set_option linter.unusedSimpArgs false
set_option maxRecDepth 4000
set_option maxHeartbeats 4000000
namespace Go.Proofs.YtjpphhcimpclpaaDoor.AM
open Go Go.Proofs
set_option linter.defProp false in
attribute [local irreducible] awp aops aqops aeops arun arunT
variable {G : Nat → Option (List PV)}

def sumW (l : List Int) : Int := l.foldl (fun n x => IntKind.i64.wrap (n + x)) 0

theorem sumW_step {l : List Int} {i : Nat} {x : Int} (h : l[i]? = some x) : sumW (l.take (i + 1)) = IntKind.i64.wrap (sumW (l.take i) + x) := by
  unfold sumW; rw [List.take_add_one, h]; simp

theorem hit40 {i n : Nat} {m : Int} (h : i < n) (hm : m = n) : decide ((i : Int) < m) = true := by subst hm; simp; omega
theorem next40 {i n : Nat} (hn : n ≤ 1000) (h : i < n) : IntKind.i64.wrap ((i : Int) + 1) = ((i + 1 : Nat) : Int) := by rw [IntWalk.i64_in _ (by omega)]; omega

end Go.Proofs.YtjpphhcimpclpaaDoor.AM
end

section
set_option linter.unusedVariables false
set_option linter.unusedSimpArgs false
set_option maxRecDepth 4000
set_option maxHeartbeats 4000000
namespace Go.Proofs.YtjpphhcimpclpaaDoor.AM
open Go Go.Proofs
set_option linter.defProp false in
attribute [local irreducible] awp aops aqops aeops arun arunT
variable {G : Nat → Option (List PV)}

def tk (S : List Int) (f : Int) : Int := S.getD f.toNat 0
def stepT (S : List Int) (f : Int) : Option (List Int) := if tk S f < 1 then none else some (S.set f.toNat (tk S f - 1))
def stepP (S : List Int) (f : Int) : Option (List Int) := if 2 < tk S f then none else some (S.set f.toNat (tk S f + 1))
def runO (step : List Int → Int → Option (List Int)) (l : List Int) (S : List Int) : Option (List Int) := l.foldlM step S

/-- Tokens within their bounds. -/
def Held (S : List Int) : Prop := S.length = 49 ∧ ∀ i x, i < 40 → S[i]? = some x → 0 ≤ x ∧ x ≤ 3

theorem Held.at {S : List Int} (h : Held S) {k : Nat} (hk : k < 40) : S[k]? = some (tk S k) ∧ 0 ≤ tk S k ∧ tk S k ≤ 3 := by
  have hl := h.1
  have e : S[k]? = some (tk S k) := by
    unfold tk
    rw [Int.toNat_natCast, List.getD_eq_getElem?_getD, List.getElem?_eq_getElem (by omega)]; rfl
  exact ⟨e, h.2 k _ hk e⟩
theorem Held.set {S : List Int} (h : Held S) {k : Nat} (hk : k < 40) {v : Int} (h0 : 0 ≤ v) (h3 : v ≤ 3) : Held (S.set k v) := by
  refine ⟨by rw [List.length_set]; exact h.1, fun i x hi hx => ?_⟩
  rw [List.getElem?_set] at hx
  split at hx
  · split at hx
    · cases hx; exact ⟨h0, h3⟩
    · cases hx
  · exact h.2 i x hi hx

/-- The tokens of one state, all else of another. -/
def joinS (S T : List Int) : List Int := S.take 40 ++ T.drop 40
/-- A step that takes tokens from flows and puts some on others, if that can be. -/
def moveG (S : List Int) (x : Sp) (fr to : List Int) : List Sp :=
  match runO stepT fr (joinS S x.to) with
  | none => []
  | some T => match runO stepP to T with
    | none => []
    | some U => [{ x with to := U }]

def InF (l : List Int) : Prop := l.length ≤ 100 ∧ ∀ f ∈ l, 0 ≤ f ∧ f < 40

structure Qt where
  i : Nat
  T : List Int

theorem pvs_is : ∀ S : List Int, pvs (S.map AV.i) = some (S.map (PV.int .i64))
  | [] => rfl
  | x :: r => by simp only [List.map_cons, pvs, pvs_is r, Option.map_some]
/-- Steps in a heap: where they may stand. -/
structure GmOk (h : Heap) (b lb : Nat) (S : List Int) (l : List Sp) : Prop where
  hb : b < h.length
  hl : lb < h.length
  ne : b ≠ lb
  held : Held S
  len : ∀ x ∈ l, x.to.length = 49
  few : l.length ≤ 1000000

theorem mapmap (S : List Int) : (S.map (PV.int .i64)).map AV.p = S.map AV.i := by rw [List.map_map]; rfl
theorem pg_fin {h : Heap} {b lb : Nat} {ns : List Nd} {fl : List Fl} {S : List Int} {l l' : List Sp} (hb : b < h.length) (hl : lb < h.length) (hne : b ≠ lb) (L : Heap) : ((putG h b lb ns fl S l ++ L).set lb (spB l')).set b (gmB ns fl S lb l') = putG h b lb ns fl S l' ++ L := by
  rw [pg_set_lb hl, List.set_append_left _ _ (by simpa using hb)]
  unfold putG
  rw [List.set_comm _ _ hne.symm, List.set_set]
theorem pg_gb {h : Heap} {b lb : Nat} {ns : List Nd} {fl : List Fl} {S : List Int} {l : List Sp} (hb : b < h.length) (hne : b ≠ lb) (X : Option Blk) (L : Heap) : ((putG h b lb ns fl S l ++ L).set lb X)[b]? = some (gmB ns fl S lb l) := by
  rw [List.getElem?_set_ne hne.symm, pg_b hb hne]
theorem over_full {cs : List AV} {n : Nat} (hc : cs.length = n) (c : List AV) (h : c.length = n) : over c 0 cs = cs := by
  rw [over_at cs c 0 (by omega)]; rfl

end Go.Proofs.YtjpphhcimpclpaaDoor.AM
end

section
set_option linter.unusedVariables false
set_option linter.unusedSimpArgs false
set_option maxRecDepth 4000
set_option maxHeartbeats 4000000
namespace Go.Proofs.YtjpphhcimpclpaaDoor.AM
open Go Go.Proofs
set_option linter.defProp false in
attribute [local irreducible] awp aops aqops aeops arun arunT
variable {G : Nat → Option (List PV)}

theorem GmOk.ext {h : Heap} {b lb : Nat} {S : List Int} {l : List Sp} (ok : GmOk h b lb S l) (L : Heap) : GmOk (h ++ L) b lb S l :=
  ⟨by have := ok.hb; simp; omega, by have := ok.hl; simp; omega, ok.ne, ok.held, ok.len, ok.few⟩
theorem moveG_len (S : List Int) (x : Sp) (fr to : List Int) : (moveG S x fr to).length ≤ 1 := by
  unfold moveG
  split
  · simp
  · split <;> simp

theorem over_tail {S : List Int} {n : Nat} (hS : S.length = n) (a b c d e : AV) (t : List AV) (ht : t.length = n) : over (a :: b :: c :: d :: e :: t) 5 (S.map AV.i) = a :: b :: c :: d :: e :: S.map AV.i := by
  rw [over_at (S.map AV.i) _ 5 (by simp [hS, ht]; omega)]; rfl

theorem gmC_state {ns : List Nd} {fl : List Fl} {S : List Int} {lb n : Nat} (hS : S.length = 49) : ((gmC ns fl S lb n).drop 2).take 49 = S.map AV.i := by
  have := gmC_take (ns := ns) (fl := fl) (lb := lb) (n := n) (S := S) 0 49 (by omega)
  simp only [Nat.add_zero, List.drop_zero] at this
  rw [this, List.take_of_length_le (by omega)]

/-- The step of a fault. -/
def faultS (S : List Int) (i e : Int) : Sp := ⟨i, 0, 6, i, e, S.set 48 2⟩

theorem cSp_eq (x : Sp) : (cSp x).map AV.i = .p (.int .i64 x.node) :: .p (.int .i64 x.arg) :: .p (.int .i64 x.lk) :: .p (.int .i64 x.ln) :: .p (.int .i64 x.la) :: x.to.map AV.i := rfl

end Go.Proofs.YtjpphhcimpclpaaDoor.AM
end

section
set_option linter.unusedVariables false
set_option linter.unusedSimpArgs false
set_option maxRecDepth 4000
set_option maxHeartbeats 4000000
namespace Go.Proofs.YtjpphhcimpclpaaDoor.AM
open Go Go.Proofs
set_option linter.defProp false in
def TTRuA := And.intro T2 (And.intro T3 (And.intro T4 (And.intro T34 (And.intro T40 (And.intro T42 (And.intro T77 T79))))))
attribute [local irreducible] awp aops aqops aeops arun arunT
variable {G : Nat → Option (List PV)}

/- left out: not in this program -/

structure Ru where
  kind : Int
  node : Int
  needs : List Int
  gives : List Int

def eRu (r : Ru) : List PV := [.int .i64 r.kind, .int .i64 r.node, .sl (r.needs.map eI), .sl (r.gives.map eI)]
abbrev aRu (r : Ru) : AV := .agg [.i r.kind, .i r.node, aI r.needs, aI r.gives]
theorem eRu_len (r : Ru) : (eRu r).length = 4 := rfl
theorem eRu_ok (r : Ru) : ∀ x ∈ eRu r, x ≠ .nils := by
  intro x hx
  simp only [eRu, List.mem_cons, List.not_mem_nil, or_false] at hx
  rcases hx with rfl | rfl | rfl | rfl <;> exact fun e => by cases e
/-- The cells of rules. -/
def cRu (l : List Ru) : List AV := (flatE eRu l).map AV.p
theorem cRu_len (l : List Ru) : (cRu l).length = l.length * 4 := by unfold cRu; rw [List.length_map, flatE_len eRu_len]
theorem cRu_app (l : List Ru) (r : Ru) : cRu (l ++ [r]) = cRu l ++ [.i r.kind, .i r.node, aI r.needs, aI r.gives] := by
  unfold cRu; rw [flatE_app, List.map_append]; rfl
theorem avlts_cRu (m : Nat) (l : List Ru) : avlts m (cRu l) := avlts_p _ _

/-- A maker, and its rules so far. -/
def mkB (lb : Nat) (l : List Ru) : Option Blk := some ⟨0, [.ref lb l.length 0 4 l.length]⟩
def ruB (l : List Ru) : Option Blk := some ⟨l.length, cRu l⟩

theorem maker_calls (l : List Ru) (hl : l.length ≤ 100000) (r : Ru) (h : Heap) (A : Option Blk) (L : Heap) :
    ACalls Tryd.prog G 27 [.ptr (h.length + 1) 0 0, .i r.kind, .i r.node, aI r.needs, aI r.gives] (h ++ (A :: mkB (h.length + 2) l :: ruB l :: L)) (fun x h' => x = .undef ∧ h' = h ++ (A :: mkB (h.length + 2) (l ++ [r]) :: ruB (l ++ [r]) :: L)) := by
  refine Sim.evoKeep (rl := []) mixed Tryd.func27 rfl (by rw [Tryd.ntmps27]; simp) ?_
  rw [Tryd.ntmps27]
  have hmax : l.length + 1 ≤ maxCount := by unfold maxCount; omega
  have e1 : (l ++ [r]).length = l.length + 1 := by simp
  unfold mkB ruB
  repeat' (first | ((first | refine aops_nil ?_ | refine aqops_nil ?_); (try simp only [NB])) | ((repeat ((fail_if_success (refine hK _ ?_)); clear hK K)); refine hK _ ?_; clear hK K) | ((first | refine aops_k fun K1 hK1 => ?_ | refine aqops_k fun K1 hK1 => ?_ | refine awp_cond_k fun A B hA hB => ?_); simp only [S1, simprocAttr, TTRuA, cRu_len, hmax, Nat.zero_add]; first | (refine hK1 _ ?_; clear hK1 K1) | ((first | refine hA ?_ | refine hB ?_); clear hA hB A B) | (refine join_x (v := ?_) (fun hg hk9 => ?_) ?_; rotate_left; (focus (try ((try simp only [BN] at hg); simp only [S1, simprocAttr, TTRuA, cRu_len, hmax, Nat.zero_add, hg] at hk9 ⊢)); first | exact hk9); (refine hK1 _ ?_; clear hK1 K1)) | (((first | (refine ⟨fun hg => hA ?_, fun hg => hB ?_⟩ <;> clear hA hB A B) | refine ⟨fun hg => ?_, fun hg => ?_⟩) <;> (try simp only [BN2] at hg) <;> (try simp only [hg, cond_true, cond_false])) <;> (try (refine hK1 _ ?_; clear hK1 K1)) <;> (try simp only [BN3] at hg))) | (refine awp_seq_k fun K hK => ?_) | ((first | refine awp_region ?_ | refine awp_draw (by kernel_rfl) ?_ | refine awp_block ?_ | refine awp_exit ?_ | refine awp_skip ?_ | refine awp_ret ?_); (try simp only [NB, simprocAttr])))
  refine ⟨.inl trivial, FinK_none (by simp) ⟨rfl, ?_⟩⟩
  rw [e1, cRu_app]
end Go.Proofs.YtjpphhcimpclpaaDoor.AM
end

section
set_option linter.unusedVariables false
set_option linter.unusedSimpArgs false
namespace Go.Proofs.YtjpphhcimpclpaaDoor.AM
open Go Go.Proofs

/-- No rule is broken. -/
structure Right (ns : List Nd) (fl : List Fl) : Prop where
  n : ns.length ≤ 24
  f : fl.length ≤ 40
  b1 : ∀ i, i < ns.length → bad1 ns i = false
  b2 : ∀ i, i < fl.length → bad2 ns fl i = false
  b3 : ∀ i, i < ns.length → bad3 ns fl i = false
  ends : noEnds ns = false
  b4 : ∀ i, i < ns.length → bad4 ns fl i = false

theorem plF_fst {rule : Int} {p : Nat → Bool} {n : Nat} {x : Int × Int} (h : (plF rule p n).head? = some x) : x.1 = rule := by
  have hm := List.mem_of_head? h
  unfold plF at hm
  obtain ⟨i, _, rfl⟩ := List.mem_map.mp hm
  rfl
theorem head_none {α : Type} {l : List α} (h : l.head? = none) : l = [] := by
  cases l with
  | nil => rfl
  | cons => cases h

theorem Right.of {ns : List Nd} {fl : List Fl} (h : (netN ns fl).1 = 0) : Right ns fl := by
  have key : ∀ (rule : Int) (l : List (Int × Int)), rule ≠ 0 → (∀ x, l.head? = some x → x.1 = rule) → (l.head?.getD (0, 0)).1 = 0 → l = [] := by
    intro rule l hr hl h0
    cases hx : l.head? with
    | none => exact head_none hx
    | some x =>
      rw [hx] at h0
      have := hl x hx
      simp only [Option.getD_some] at h0
      omega
  unfold netN allN at h
  split at h
  · simp at h
  rename_i hs
  split at h
  · rename_i h1; exact absurd (key 1 _ (by decide) (fun x hx => plF_fst hx) h) h1
  rename_i h1
  split at h
  · rename_i h2; exact absurd (key 2 _ (by decide) (fun x hx => plF_fst hx) h) h2
  rename_i h2
  split at h
  · rename_i h3
    refine absurd (key 3 _ (by decide) (fun x hx => ?_) h) h3
    unfold thirdN at hx
    rw [List.head?_append] at hx
    cases hq : (plF 3 (bad3 ns fl) ns.length).head? with
    | some y => rw [hq] at hx; cases hx; exact plF_fst hq
    | none =>
      rw [hq] at hx
      split at hx
      · cases hx; rfl
      · cases hx
  rename_i h3
  have h4 := key 4 _ (by decide) (fun x hx => plF_fst hx) h
  rw [Decidable.not_not] at h1 h2 h3
  have h3' : plF 3 (bad3 ns fl) ns.length = [] ∧ noEnds ns = false := by
    unfold thirdN at h3
    rw [List.append_eq_nil_iff] at h3
    refine ⟨h3.1, ?_⟩
    cases hq : noEnds ns with
    | false => rfl
    | true => rw [hq] at h3; simp at h3
  simp only [Bool.or_eq_true, decide_eq_true_eq, not_or] at hs
  exact ⟨by omega, by omega, plF_nil h1, plF_nil h2, plF_nil h3'.1, h3'.2, plF_nil h4⟩

theorem Right.isIn {ns : List Nd} {fl : List Fl} (h : Right ns fl) : InN ns.length fl := bad2_in (plF_none (rule := 2) h.b2)
theorem Right.three {ns : List Nd} {fl : List Fl} (h : Right ns fl) {i : Nat} (hi : i < ns.length) : threeB ns fl i = true := by
  have := h.b3 i hi
  unfold bad3 at this
  simp only [Bool.or_eq_false_iff, Bool.not_eq_false'] at this
  exact this.1.1
def dstAt (fl : List Fl) (x : Int) : Int := match fl[x.toNat]? with | some f => f.dst | none => 0

def ruOf (fl : List Fl) (i : Nat) (kind : Int) : List Ru :=
  if kind = 1 then []
  else if kind = 7 then (outsN fl i).map fun f => ⟨3, i, insN fl i, outsN fl (dstAt fl f)⟩
  else if kind = 8 then [⟨3, i, insN fl i, outsN fl i⟩]
  else if kind = 5 then (if 1 < (outsN fl i).length then (outsN fl i).map fun f => ⟨2, i, insN fl i, [f]⟩ else (insN fl i).map fun f => ⟨1, i, [f], [(outsN fl i).headD 0]⟩)
  else [⟨1, i, insN fl i, outsN fl i⟩]

/-- The rules of the first nodes. -/
def ruTo (ns : List Nd) (fl : List Fl) : Nat → List Ru
  | 0 => []
  | j + 1 => ruTo ns fl j ++ ruOf fl j (kindAt ns j)

theorem insN_le (fl : List Fl) (i : Int) : (insN fl i).length ≤ fl.length := pickF_le _ _ _
theorem outsN_le (fl : List Fl) (i : Int) : (outsN fl i).length ≤ fl.length := pickF_le _ _ _

theorem ruOf_le (fl : List Fl) (i : Nat) (kind : Int) : (ruOf fl i kind).length ≤ fl.length + 1 := by
  have a := insN_le fl i
  have b := outsN_le fl i
  unfold ruOf
  repeat' split
  all_goals simp only [List.length_nil, List.length_map, List.length_cons]
  all_goals omega
theorem ruTo_le (ns : List Nd) (fl : List Fl) : ∀ j, (ruTo ns fl j).length ≤ j * (fl.length + 1)
  | 0 => by simp [ruTo]
  | j + 1 => by
    have a := ruTo_le ns fl j
    have b := ruOf_le fl j (kindAt ns j)
    rw [ruTo, List.length_append, Nat.add_mul]
    omega

theorem kind_of {ns : List Nd} {i : Nat} {k : Nd} (h : ns[i]? = some k) : kindAt ns i = k.kind := by unfold kindAt; rw [Int.toNat_natCast, h]

/-- What an Xor of a right process has. -/
theorem Right.xor {ns : List Nd} {fl : List Fl} (h : Right ns fl) {i : Nat} (hi : i < ns.length) (hk : kindAt ns i = 5) : ((insN fl i).length = 1 ∧ 2 ≤ (outsN fl i).length) ∨ (2 ≤ (insN fl i).length ∧ (outsN fl i).length = 1) := by
  have := h.three hi
  unfold threeB at this
  simp only [hk] at this
  simp only [Int.reduceEq, reduceIte, Bool.or_eq_true, Bool.and_eq_true, beq_iff_eq, decide_eq_true_eq] at this
  omega
end Go.Proofs.YtjpphhcimpclpaaDoor.AM
end

section
set_option linter.unusedVariables false
set_option linter.unusedSimpArgs false
set_option maxRecDepth 4000
set_option maxHeartbeats 4000000
namespace Go.Proofs.YtjpphhcimpclpaaDoor.AM
open Go Go.Proofs
set_option linter.defProp false in
def TTRuC := And.intro T2 (And.intro T3 (And.intro T4 (And.intro T22 (And.intro T23 (And.intro T25 (And.intro T31 (And.intro T34 (And.intro T40 (And.intro T42 (And.intro T56 (And.intro T58 (And.intro T60 (And.intro T71 (And.intro T77 T79))))))))))))))
attribute [local irreducible] awp aops aqops aeops arun arunT
variable {G : Nat → Option (List PV)}

abbrev aRus (l : List Ru) : AV := .p (.sl (l.map eRu))
noncomputable def allRu (ns : List Nd) (fl : List Fl) : List Ru × Int := if (netN ns fl).1 = 0 then (ruTo ns fl ns.length, 0) else ([], 4)


theorem Ghost.maker {P : Program} {h : Heap} {s : St} {A : Option Blk} (hh : s.heap = h ++ [A, some ⟨0, [.p .nils]⟩]) : Ghost P G h s ⟨s.fr, s.nt, h ++ [A, mkB (h.length + 2) [], ruB []]⟩ := by
  have := Ghost.adoptCell (P := P) (G := G) (h0 := h) (s := s) (b := h.length + 1) (j := 0) (bk := ⟨0, [.p .nils]⟩) 4 (by rw [hh]; simp [get_app]) rfl (by omega)
  rw [hh] at this
  simp only [List.length_append, List.length_cons, List.length_nil, List.append_assoc, List.cons_append, List.nil_append, set_app, List.set_cons_succ, List.set_cons_zero, Nat.zero_add, Nat.reduceAdd] at this
  exact this

theorem rAll_calls (ns : List Nd) (fl : List Fl) (ok : NetOk ns fl) (h : Heap) : ACalls Tryd.prog gW 11 [aNet ns fl] h (fun r h' => r = .tup [aRus (allRu ns fl).1, .i (allRu ns fl).2] ∧ h' = h) := by
  have hc := fun h => Check_calls ns fl ok h
  by_cases h0 : (netN ns fl).1 = 0
  case neg =>
    have e : allRu ns fl = ([], 4) := by unfold allRu; rw [if_neg h0]
    have f0 : ((netN ns fl).1 != 0) = true := by simpa using h0
    rw [e]
    refine acalls_pure (rl := []) mixed Tryd.func11 rfl (rs := [.tmp 2, .tmp 3]) rfl Tryd.ntmps11 (by simp) ?_
    repeat' (first | ((first | refine aops_nil ?_ | refine aqops_nil ?_); (try simp only [NB])) | ((repeat ((fail_if_success (refine hK _ ?_)); clear hK K)); refine hK _ ?_; clear hK K) | ((first | refine aops_k fun K1 hK1 => ?_ | refine aqops_k fun K1 hK1 => ?_ | refine awp_cond_k fun A B hA hB => ?_); simp only [S1, simprocAttr, TTRuC, f0]; first | (refine hK1 _ ?_; clear hK1 K1) | ((first | refine hA ?_ | refine hB ?_); clear hA hB A B) | ((first | apply call_a E21 | apply call_q E21); exact (hc _); (refine hK1 _ ?_; clear hK1 K1)) | (refine join_x (v := ?_) (fun hg hk9 => ?_) ?_; rotate_left; (focus (try ((try simp only [BN] at hg); simp only [S1, simprocAttr, TTRuC, f0, hg] at hk9 ⊢)); first | exact hk9 | ((first | apply call_a E21 | apply call_q E21); exact (hc _); exact hk9)); (refine hK1 _ ?_; clear hK1 K1)) | (((first | (refine ⟨fun hg => hA ?_, fun hg => hB ?_⟩ <;> clear hA hB A B) | refine ⟨fun hg => ?_, fun hg => ?_⟩) <;> (try simp only [BN2] at hg) <;> (try simp only [hg, cond_true, cond_false])) <;> (try (refine hK1 _ ?_; clear hK1 K1)) <;> (try simp only [BN3] at hg))) | (refine awp_seq_k fun K hK => ?_) | ((first | refine awp_region ?_ | refine awp_draw (by kernel_rfl) ?_ | refine awp_block ?_ | refine awp_exit ?_ | refine awp_skip ?_ | refine awp_ret ?_); (try simp only [NB, simprocAttr])))
    all_goals simp only [EndP, FinP, resA, resL, resA1, lastV, lastA, lastAs, pur, purs, take_app, List.take_length, S1, simprocAttr, TTRuC, Nat.le_add_right, Nat.le_refl]
    all_goals rfl
  have e : allRu ns fl = (ruTo ns fl ns.length, 0) := by unfold allRu; rw [if_pos h0]
  have f0 : ((netN ns fl).1 != 0) = false := by simpa using h0
  have hR := Right.of h0
  have hd := hR.isIn
  have hn := ok.n
  have hl := ok.f
  rw [e]
  refine acalls_pure (rl := []) mixed Tryd.func11 rfl (rs := [.tmp 2, .tmp 3]) rfl Tryd.ntmps11 (by simp) ?_
  repeat' (first | ((first | refine aops_nil ?_ | refine aqops_nil ?_); (try simp only [NB])) | ((repeat ((fail_if_success (refine hK _ ?_)); clear hK K)); refine hK _ ?_; clear hK K) | ((first | refine aops_k fun K1 hK1 => ?_ | refine aqops_k fun K1 hK1 => ?_ | refine awp_cond_k fun A B hA hB => ?_); simp only [S1, simprocAttr, TTRuC, f0, List.length_map]; first | (refine hK1 _ ?_; clear hK1 K1) | ((first | refine hA ?_ | refine hB ?_); clear hA hB A B) | ((first | apply call_a E21 | apply call_q E21); exact (hc _); (refine hK1 _ ?_; clear hK1 K1)) | (refine join_x (v := ?_) (fun hg hk9 => ?_) ?_; rotate_left; (focus (try ((try simp only [BN] at hg); simp only [S1, simprocAttr, TTRuC, f0, List.length_map, hg] at hk9 ⊢)); first | exact hk9 | ((first | apply call_a E21 | apply call_q E21); exact (hc _); exact hk9)); (refine hK1 _ ?_; clear hK1 K1)) | (((first | (refine ⟨fun hg => hA ?_, fun hg => hB ?_⟩ <;> clear hA hB A B) | refine ⟨fun hg => ?_, fun hg => ?_⟩) <;> (try simp only [BN2] at hg) <;> (try simp only [hg, cond_true, cond_false])) <;> (try (refine hK1 _ ?_; clear hK1 K1)) <;> (try simp only [BN3] at hg))) | (refine awp_seq_k fun K hK => ?_) | ((first | refine awp_region ?_ | refine awp_draw (by kernel_rfl) ?_ | refine awp_block ?_ | refine awp_exit ?_ | refine awp_skip ?_ | refine awp_ret ?_); (try simp only [NB, simprocAttr])))
  refine awp_forG ns.length 132 (fun j => [(29, .i j), (28, .i ns.length), (27, .p (.sl (ns.map eN))), (6, .ptr (h.length + 1) 0 0), (1, .ptr h.length 0 0)])
    (fun j => [some ⟨0, cNet ns fl⟩, mkB (h.length + 2) (ruTo ns fl j), ruB (ruTo ns fl j)]) (fun j => True) ?_ trivial fun j hj hp K hK => ?_
  · refine (Ghost.maker (A := some ⟨0, cNet ns fl⟩) rfl).trans (Sub.ghost ⟨rfl, ⟨[], by simp only [List.append_nil]; rfl⟩, ?_, ⟨trivial, trivial, trivial⟩, ⟨by simp only [avlt, List.length_cons, List.length_nil]; omega, trivial⟩, avlts_cRu _ _, trivial⟩)
    simp only [keeps, avlt, avlts, blksLt, frL, upd_get, S1, simprocAttr, List.length_map, Int.natCast_zero, AV.p.injEq, PV.int.injEq, PV.bool.injEq, PV.sl.injEq] <;> (try and_intros) <;> (try assumption) <;> (try trivial) <;> (try omega)
  rcases Nat.lt_or_ge j ns.length with hlt | hge
  · obtain ⟨k, hx⟩ : ∃ k, ns[j]? = some k := ⟨_, List.getElem?_eq_getElem hlt⟩
    have ek := kind_of hx
    have ej : ruTo ns fl (j + 1) = ruTo ns fl j ++ ruOf fl j k.kind := by rw [ruTo, ek]
    have hol := outsN_le fl j
    have hil := insN_le fl j
    have hl0 : (ruTo ns fl j).length ≤ 100000 := by
      have h1 := ruTo_le ns fl j
      have h2 : j * (fl.length + 1) ≤ 100 * 101 := Nat.mul_le_mul (by omega) (by omega)
      omega
    let FE := fun x : Int => (⟨3, j, insN fl j, outsN fl (dstAt fl x)⟩ : Ru)
    let FS := fun x : Int => (⟨2, j, insN fl j, [x]⟩ : Ru)
    by_cases k1 : k.kind = 1
    · have ro : ruOf fl j k.kind = [] := by unfold ruOf; rw [if_pos k1]
      repeat' (first | ((first | refine aops_nil ?_ | refine aqops_nil ?_); (try simp only [NB])) | ((repeat ((fail_if_success (refine hK _ ?_)); clear hK K)); refine hK _ ?_; clear hK K) | ((first | refine aops_k fun K1 hK1 => ?_ | refine aqops_k fun K1 hK1 => ?_ | refine awp_cond_k fun A B hA hB => ?_); simp only [S1, simprocAttr, TTRuC, rowN hx, hitN hlt, nextN hn hlt, eN, k1, List.length_map]; first | (refine hK1 _ ?_; clear hK1 K1) | ((first | refine hA ?_ | refine hB ?_); clear hA hB A B) | ((first | apply call_a E25 | apply call_q E25); exact (ins_calls _ fl hl _ _); (refine hK1 _ ?_; clear hK1 K1)) | ((first | apply call_a E26 | apply call_q E26); exact (outs_calls _ fl hl _ _); (refine hK1 _ ?_; clear hK1 K1)) | (refine join_x (v := ?_) (fun hg hk9 => ?_) ?_; rotate_left; (focus (try ((try simp only [BN] at hg); simp only [S1, simprocAttr, TTRuC, rowN hx, hitN hlt, nextN hn hlt, eN, k1, List.length_map, hg] at hk9 ⊢)); first | exact hk9 | ((first | apply call_a E25 | apply call_q E25); exact (ins_calls _ fl hl _ _); exact hk9) | ((first | apply call_a E26 | apply call_q E26); exact (outs_calls _ fl hl _ _); exact hk9)); (refine hK1 _ ?_; clear hK1 K1)) | (((first | (refine ⟨fun hg => hA ?_, fun hg => hB ?_⟩ <;> clear hA hB A B) | refine ⟨fun hg => ?_, fun hg => ?_⟩) <;> (try simp only [BN2] at hg) <;> (try simp only [hg, cond_true, cond_false])) <;> (try (refine hK1 _ ?_; clear hK1 K1)) <;> (try simp only [BN3] at hg))) | (refine awp_seq_k fun K hK => ?_) | ((first | refine awp_region ?_ | refine awp_draw (by kernel_rfl) ?_ | refine awp_block ?_ | refine awp_exit ?_ | refine awp_skip ?_ | refine awp_ret ?_); (try simp only [NB, simprocAttr])))
      all_goals refine ⟨hlt, trivial, ?_⟩
      all_goals simp only [ej, ro, List.append_nil]
      all_goals refine ⟨rfl, ⟨_, rfl⟩, ?_, ⟨trivial, trivial, trivial⟩, ⟨by simp only [avlt, List.length_cons, List.length_nil]; omega, trivial⟩, avlts_cRu _ _, trivial⟩
      all_goals simp only [keeps, avlt, avlts, blksLt, frL, upd_get, S1, simprocAttr, List.length_map, Int.natCast_zero, AV.p.injEq, PV.int.injEq, PV.bool.injEq, PV.sl.injEq] <;> (try and_intros) <;> (try assumption) <;> (try trivial) <;> (try omega)
    have f1 : (k.kind == 1) = false := by simp [k1]
    by_cases k7 : k.kind = 7
    · have ro : ruOf fl j k.kind = (outsN fl j).map FE := by unfold ruOf; rw [if_neg k1, if_pos k7]
      repeat' (first | ((first | refine aops_nil ?_ | refine aqops_nil ?_); (try simp only [NB])) | ((repeat ((fail_if_success (refine hK _ ?_)); clear hK K)); refine hK _ ?_; clear hK K) | ((first | refine aops_k fun K1 hK1 => ?_ | refine aqops_k fun K1 hK1 => ?_ | refine awp_cond_k fun A B hA hB => ?_); simp only [S1, simprocAttr, TTRuC, rowN hx, hitN hlt, nextN hn hlt, eN, k7, List.length_map]; first | (refine hK1 _ ?_; clear hK1 K1) | ((first | refine hA ?_ | refine hB ?_); clear hA hB A B) | ((first | apply call_a E25 | apply call_q E25); exact (ins_calls _ fl hl _ _); (refine hK1 _ ?_; clear hK1 K1)) | ((first | apply call_a E26 | apply call_q E26); exact (outs_calls _ fl hl _ _); (refine hK1 _ ?_; clear hK1 K1)) | (refine join_x (v := ?_) (fun hg hk9 => ?_) ?_; rotate_left; (focus (try ((try simp only [BN] at hg); simp only [S1, simprocAttr, TTRuC, rowN hx, hitN hlt, nextN hn hlt, eN, k7, List.length_map, hg] at hk9 ⊢)); first | exact hk9 | ((first | apply call_a E25 | apply call_q E25); exact (ins_calls _ fl hl _ _); exact hk9) | ((first | apply call_a E26 | apply call_q E26); exact (outs_calls _ fl hl _ _); exact hk9)); (refine hK1 _ ?_; clear hK1 K1)) | (((first | (refine ⟨fun hg => hA ?_, fun hg => hB ?_⟩ <;> clear hA hB A B) | refine ⟨fun hg => ?_, fun hg => ?_⟩) <;> (try simp only [BN2] at hg) <;> (try simp only [hg, cond_true, cond_false])) <;> (try (refine hK1 _ ?_; clear hK1 K1)) <;> (try simp only [BN3] at hg))) | (refine awp_seq_k fun K hK => ?_) | ((first | refine awp_region ?_ | refine awp_draw (by kernel_rfl) ?_ | refine awp_block ?_ | refine awp_exit ?_ | refine awp_skip ?_ | refine awp_ret ?_); (try simp only [NB, simprocAttr])))
      refine awp_for (outsN fl j).length 132 (fun i => [(55, .i i), (54, .i (outsN fl j).length), (53, aI (outsN fl j))] ++ [(29, .i j), (28, .i ns.length), (27, .p (.sl (ns.map eN))), (7, .i j), (6, .ptr (h.length + 1) 0 0), (1, .ptr h.length 0 0)])
        (fun i => [some ⟨0, cNet ns fl⟩, mkB (h.length + 2) (ruTo ns fl j ++ ((outsN fl j).take i).map FE), ruB (ruTo ns fl j ++ ((outsN fl j).take i).map FE)]) (fun i => True) ?_ trivial fun i hi hp K hK => ?_
      · simp only [List.take_zero, List.map_nil, List.append_nil]
        refine ⟨rfl, ⟨_, rfl⟩, ?_, ⟨trivial, trivial, trivial⟩, ⟨by simp only [avlt, List.length_cons, List.length_nil]; omega, trivial⟩, avlts_cRu _ _, trivial⟩
        simp only [keeps, avlt, avlts, blksLt, frL, upd_get, S1, simprocAttr, List.length_map, Int.natCast_zero, AV.p.injEq, PV.int.injEq, PV.bool.injEq, PV.sl.injEq] <;> (try and_intros) <;> (try assumption) <;> (try trivial) <;> (try omega)
      rcases Nat.lt_or_ge i (outsN fl j).length with hlti | hgei
      · obtain ⟨x, hxi⟩ : ∃ x, (outsN fl j)[i]? = some x := ⟨_, List.getElem?_eq_getElem hlti⟩
        have et : ((outsN fl j).take (i + 1)).map FE = ((outsN fl j).take i).map FE ++ [FE x] := by rw [List.take_add_one, hxi, List.map_append]; rfl
        have hll : (ruTo ns fl j ++ ((outsN fl j).take i).map FE).length ≤ 100000 := by
          have h1 := ruTo_le ns fl j
          have h2 : j * (fl.length + 1) ≤ 100 * 101 := Nat.mul_le_mul (by omega) (by omega)
          rw [List.length_append, List.length_map, List.length_take]; omega
        obtain ⟨xi, f, hxl, rfl, hf, _⟩ := pickF_mem (List.mem_of_getElem? hxi)
        have x0 : (0 : Int) ≤ (xi : Int) := by omega
        have hf' := rowF hf
        have ed : dstAt fl (xi : Int) = f.dst := by unfold dstAt; rw [Int.toNat_natCast, hf]
        have eF1 : FE (xi : Int) = ⟨3, j, insN fl j, outsN fl f.dst⟩ := by simp only [FE, ed]
        rw [eF1] at et
        repeat' (first | ((first | refine aops_nil ?_ | refine aqops_nil ?_ | refine arun_nil ?_ | refine arunT_nil ?_); (try simp only [NB])) | ((repeat ((fail_if_success (refine hK _ ?_)); clear hK K)); refine hK _ ?_; clear hK K) | ((first | refine aops_k fun K1 hK1 => ?_ | refine aqops_k fun K1 hK1 => ?_ | refine arun_eff rfl rfl rfl fun K1 hK1 => ?_ | refine awp_cond_k fun A B hA hB => ?_); simp only [S1, simprocAttr, TTRuC, rowI hxi, hitI hlti, nextI (by omega) hlti, hf', eF, x0, Int.toNat_natCast, List.length_map]; first | (refine hK1 _ ?_; clear hK1 K1) | ((first | refine hA ?_ | refine hB ?_); clear hA hB A B) | ((first | apply call_a E25 | apply call_q E25); exact (ins_calls _ fl hl _ _); (refine hK1 _ ?_; clear hK1 K1)) | ((first | apply call_a E26 | apply call_q E26); exact (outs_calls _ fl hl _ _); (refine hK1 _ ?_; clear hK1 K1)) | ((first | apply call_a E27 | apply call_q E27); exact (maker_calls _ hll ⟨3, j, insN fl j, outsN fl f.dst⟩ h _ _); (refine hK1 _ ?_; clear hK1 K1)) | (refine join_x (v := ?_) (fun hg hk9 => ?_) ?_; rotate_left; (focus (try ((try simp only [BN] at hg); simp only [S1, simprocAttr, TTRuC, rowI hxi, hitI hlti, nextI (by omega) hlti, hf', eF, x0, Int.toNat_natCast, List.length_map, hg] at hk9 ⊢)); first | exact hk9 | ((first | apply call_a E25 | apply call_q E25); exact (ins_calls _ fl hl _ _); exact hk9) | ((first | apply call_a E26 | apply call_q E26); exact (outs_calls _ fl hl _ _); exact hk9) | ((first | apply call_a E27 | apply call_q E27); exact (maker_calls _ hll ⟨3, j, insN fl j, outsN fl f.dst⟩ h _ _); exact hk9)); (refine hK1 _ ?_; clear hK1 K1)) | (((first | (refine ⟨fun hg => hA ?_, fun hg => hB ?_⟩ <;> clear hA hB A B) | refine ⟨fun hg => ?_, fun hg => ?_⟩) <;> (try simp only [BN2] at hg) <;> (try simp only [hg, cond_true, cond_false])) <;> (try (refine hK1 _ ?_; clear hK1 K1)) <;> (try simp only [BN3] at hg))) | ((first | refine arun_q (v := ?_) rfl rfl rfl rfl (by decide) (fun R1 K1 hK1 => ?_) ?_ | refine arun_f (v := ?_) rfl rfl rfl (by decide) (fun K1 hK1 => ?_) ?_ | refine arunT_f (v := ?_) rfl rfl rfl (by decide) (fun K1 hK1 => ?_) ?_); rotate_left; (focus (simp only [S1, simprocAttr, TTRuC, rowI hxi, hitI hlti, nextI (by omega) hlti, hf', eF, x0, Int.toNat_natCast, List.length_map]; first | (exact hK1 _ _ _) | ((first | apply call_a E25 | apply call_q E25); exact (ins_calls _ fl hl _ _); exact hK1 _ _ _) | ((first | apply call_a E26 | apply call_q E26); exact (outs_calls _ fl hl _ _); exact hK1 _ _ _) | ((first | apply call_a E27 | apply call_q E27); exact (maker_calls _ hll ⟨3, j, insN fl j, outsN fl f.dst⟩ h _ _); exact hK1 _ _ _)))) | (refine arun_tail rfl rfl rfl ?_) | ((first | refine arun_allocj (z := ?_) 0 rfl rfl rfl rfl (by decide) rfl ?_ ?_ | refine arun_allocj (z := ?_) 1 rfl rfl rfl rfl (by decide) rfl ?_ ?_ | refine arun_allocj (z := ?_) 2 rfl rfl rfl rfl (by decide) rfl ?_ ?_); rotate_left; (focus (simp only [S1, simprocAttr, TTRuC, rowI hxi, hitI hlti, nextI (by omega) hlti, hf', eF, x0, Int.toNat_natCast, List.length_map, zeroB]; rfl))) | (refine awp_seq_k fun K hK => ?_) | (refine awp_drawR [0, 1, 2, 3, 4, 5, 6, 7, 8, 9, 10, 11, 12, 13] 0 (fs := []) rfl (by kernel_rfl) (by kernel_rfl) ?_) | ((first | refine awp_region ?_ | refine awp_draw (by kernel_rfl) ?_ | refine awp_block ?_ | refine awp_exit ?_ | refine awp_skip ?_ | refine awp_ret ?_); (try simp only [NB, simprocAttr])))
        all_goals refine ⟨hlti, trivial, ?_⟩
        all_goals simp only [et, ← List.append_assoc]
        all_goals refine ⟨rfl, ⟨_, rfl⟩, ?_, ⟨trivial, trivial, trivial⟩, ⟨by simp only [avlt, List.length_cons, List.length_nil]; omega, trivial⟩, avlts_cRu _ _, trivial⟩
        all_goals simp only [keeps, avlt, avlts, blksLt, frL, upd_get, S1, simprocAttr, List.length_map, Int.natCast_zero, AV.p.injEq, PV.int.injEq, PV.bool.injEq, PV.sl.injEq] <;> (try and_intros) <;> (try assumption) <;> (try trivial) <;> (try omega)
      · obtain rfl : i = (outsN fl j).length := by omega
        repeat' (first | ((first | refine aops_nil ?_ | refine aqops_nil ?_); (try simp only [NB])) | ((repeat ((fail_if_success (refine hK _ ?_)); clear hK K)); refine hK _ ?_; clear hK K) | ((first | refine aops_k fun K1 hK1 => ?_ | refine aqops_k fun K1 hK1 => ?_ | refine awp_cond_k fun A B hA hB => ?_); simp only [S1, simprocAttr, TTRuC, endI, nextN hn hlt]; first | (refine hK1 _ ?_; clear hK1 K1) | ((first | refine hA ?_ | refine hB ?_); clear hA hB A B) | (refine join_x (v := ?_) (fun hg hk9 => ?_) ?_; rotate_left; (focus (try ((try simp only [BN] at hg); simp only [S1, simprocAttr, TTRuC, endI, nextN hn hlt, hg] at hk9 ⊢)); first | exact hk9); (refine hK1 _ ?_; clear hK1 K1)) | (((first | (refine ⟨fun hg => hA ?_, fun hg => hB ?_⟩ <;> clear hA hB A B) | refine ⟨fun hg => ?_, fun hg => ?_⟩) <;> (try simp only [BN2] at hg) <;> (try simp only [hg, cond_true, cond_false])) <;> (try (refine hK1 _ ?_; clear hK1 K1)) <;> (try simp only [BN3] at hg))) | (refine awp_seq_k fun K hK => ?_) | ((first | refine awp_region ?_ | refine awp_draw (by kernel_rfl) ?_ | refine awp_block ?_ | refine awp_exit ?_ | refine awp_skip ?_ | refine awp_ret ?_); (try simp only [NB, simprocAttr])))
        all_goals refine ⟨hlt, trivial, ?_⟩
        all_goals simp only [ej, ro, List.take_length]
        all_goals refine ⟨rfl, ⟨_, rfl⟩, ?_, ⟨trivial, trivial, trivial⟩, ⟨by simp only [avlt, List.length_cons, List.length_nil]; omega, trivial⟩, avlts_cRu _ _, trivial⟩
        all_goals simp only [keeps, avlt, avlts, blksLt, frL, upd_get, S1, simprocAttr, List.length_map, Int.natCast_zero, AV.p.injEq, PV.int.injEq, PV.bool.injEq, PV.sl.injEq] <;> (try and_intros) <;> (try assumption) <;> (try trivial) <;> (try omega)
    have f7 : (k.kind == 7) = false := by simp [k7]
    by_cases k8 : k.kind = 8
    · have ro : ruOf fl j k.kind = [⟨3, j, insN fl j, outsN fl j⟩] := by unfold ruOf; rw [if_neg k1, if_neg k7, if_pos k8]
      repeat' (first | ((first | refine aops_nil ?_ | refine aqops_nil ?_); (try simp only [NB])) | ((repeat ((fail_if_success (refine hK _ ?_)); clear hK K)); refine hK _ ?_; clear hK K) | ((first | refine aops_k fun K1 hK1 => ?_ | refine aqops_k fun K1 hK1 => ?_ | refine awp_cond_k fun A B hA hB => ?_); simp only [S1, simprocAttr, TTRuC, rowN hx, hitN hlt, nextN hn hlt, eN, k8, List.length_map]; first | (refine hK1 _ ?_; clear hK1 K1) | ((first | refine hA ?_ | refine hB ?_); clear hA hB A B) | ((first | apply call_a E25 | apply call_q E25); exact (ins_calls _ fl hl _ _); (refine hK1 _ ?_; clear hK1 K1)) | ((first | apply call_a E26 | apply call_q E26); exact (outs_calls _ fl hl _ _); (refine hK1 _ ?_; clear hK1 K1)) | ((first | apply call_a E27 | apply call_q E27); exact (maker_calls _ hl0 ⟨3, j, insN fl j, outsN fl j⟩ h _ _); (refine hK1 _ ?_; clear hK1 K1)) | (refine join_x (v := ?_) (fun hg hk9 => ?_) ?_; rotate_left; (focus (try ((try simp only [BN] at hg); simp only [S1, simprocAttr, TTRuC, rowN hx, hitN hlt, nextN hn hlt, eN, k8, List.length_map, hg] at hk9 ⊢)); first | exact hk9 | ((first | apply call_a E25 | apply call_q E25); exact (ins_calls _ fl hl _ _); exact hk9) | ((first | apply call_a E26 | apply call_q E26); exact (outs_calls _ fl hl _ _); exact hk9) | ((first | apply call_a E27 | apply call_q E27); exact (maker_calls _ hl0 ⟨3, j, insN fl j, outsN fl j⟩ h _ _); exact hk9)); (refine hK1 _ ?_; clear hK1 K1)) | (((first | (refine ⟨fun hg => hA ?_, fun hg => hB ?_⟩ <;> clear hA hB A B) | refine ⟨fun hg => ?_, fun hg => ?_⟩) <;> (try simp only [BN2] at hg) <;> (try simp only [hg, cond_true, cond_false])) <;> (try (refine hK1 _ ?_; clear hK1 K1)) <;> (try simp only [BN3] at hg))) | (refine awp_seq_k fun K hK => ?_) | ((first | refine awp_region ?_ | refine awp_draw (by kernel_rfl) ?_ | refine awp_block ?_ | refine awp_exit ?_ | refine awp_skip ?_ | refine awp_ret ?_); (try simp only [NB, simprocAttr])))
      all_goals refine ⟨hlt, trivial, ?_⟩
      all_goals simp only [ej, ro]
      all_goals refine ⟨rfl, ⟨_, rfl⟩, ?_, ⟨trivial, trivial, trivial⟩, ⟨by simp only [avlt, List.length_cons, List.length_nil]; omega, trivial⟩, avlts_cRu _ _, trivial⟩
      all_goals simp only [keeps, avlt, avlts, blksLt, frL, upd_get, S1, simprocAttr, List.length_map, Int.natCast_zero, AV.p.injEq, PV.int.injEq, PV.bool.injEq, PV.sl.injEq] <;> (try and_intros) <;> (try assumption) <;> (try trivial) <;> (try omega)
    have f8 : (k.kind == 8) = false := by simp [k8]
    by_cases k5 : k.kind = 5
    · by_cases hs : 1 < (outsN fl j).length
      · have ro : ruOf fl j k.kind = (outsN fl j).map FS := by unfold ruOf; rw [if_neg k1, if_neg k7, if_neg k8, if_pos k5, if_pos hs]
        have hs' : decide ((1 : Int) < ((outsN fl j).length : Int)) = true := decide_eq_true (by omega)
        repeat' (first | ((first | refine aops_nil ?_ | refine aqops_nil ?_); (try simp only [NB])) | ((repeat ((fail_if_success (refine hK _ ?_)); clear hK K)); refine hK _ ?_; clear hK K) | ((first | refine aops_k fun K1 hK1 => ?_ | refine aqops_k fun K1 hK1 => ?_ | refine awp_cond_k fun A B hA hB => ?_); simp only [S1, simprocAttr, TTRuC, rowN hx, hitN hlt, nextN hn hlt, eN, k5, hs', List.length_map]; first | (refine hK1 _ ?_; clear hK1 K1) | ((first | refine hA ?_ | refine hB ?_); clear hA hB A B) | ((first | apply call_a E25 | apply call_q E25); exact (ins_calls _ fl hl _ _); (refine hK1 _ ?_; clear hK1 K1)) | ((first | apply call_a E26 | apply call_q E26); exact (outs_calls _ fl hl _ _); (refine hK1 _ ?_; clear hK1 K1)) | (refine join_x (v := ?_) (fun hg hk9 => ?_) ?_; rotate_left; (focus (try ((try simp only [BN] at hg); simp only [S1, simprocAttr, TTRuC, rowN hx, hitN hlt, nextN hn hlt, eN, k5, hs', List.length_map, hg] at hk9 ⊢)); first | exact hk9 | ((first | apply call_a E25 | apply call_q E25); exact (ins_calls _ fl hl _ _); exact hk9) | ((first | apply call_a E26 | apply call_q E26); exact (outs_calls _ fl hl _ _); exact hk9)); (refine hK1 _ ?_; clear hK1 K1)) | (((first | (refine ⟨fun hg => hA ?_, fun hg => hB ?_⟩ <;> clear hA hB A B) | refine ⟨fun hg => ?_, fun hg => ?_⟩) <;> (try simp only [BN2] at hg) <;> (try simp only [hg, cond_true, cond_false])) <;> (try (refine hK1 _ ?_; clear hK1 K1)) <;> (try simp only [BN3] at hg))) | (refine awp_seq_k fun K hK => ?_) | ((first | refine awp_region ?_ | refine awp_draw (by kernel_rfl) ?_ | refine awp_block ?_ | refine awp_exit ?_ | refine awp_skip ?_ | refine awp_ret ?_); (try simp only [NB, simprocAttr])))
        refine awp_for (outsN fl j).length 132 (fun i => [(94, .i i), (93, .i (outsN fl j).length), (92, aI (outsN fl j))] ++ [(29, .i j), (28, .i ns.length), (27, .p (.sl (ns.map eN))), (7, .i j), (6, .ptr (h.length + 1) 0 0), (1, .ptr h.length 0 0)])
          (fun i => [some ⟨0, cNet ns fl⟩, mkB (h.length + 2) (ruTo ns fl j ++ ((outsN fl j).take i).map FS), ruB (ruTo ns fl j ++ ((outsN fl j).take i).map FS)]) (fun i => True) ?_ trivial fun i hi hp K hK => ?_
        · simp only [List.take_zero, List.map_nil, List.append_nil]
          refine ⟨rfl, ⟨_, rfl⟩, ?_, ⟨trivial, trivial, trivial⟩, ⟨by simp only [avlt, List.length_cons, List.length_nil]; omega, trivial⟩, avlts_cRu _ _, trivial⟩
          simp only [keeps, avlt, avlts, blksLt, frL, upd_get, S1, simprocAttr, List.length_map, Int.natCast_zero, AV.p.injEq, PV.int.injEq, PV.bool.injEq, PV.sl.injEq] <;> (try and_intros) <;> (try assumption) <;> (try trivial) <;> (try omega)
        rcases Nat.lt_or_ge i (outsN fl j).length with hlti | hgei
        · obtain ⟨x, hxi⟩ : ∃ x, (outsN fl j)[i]? = some x := ⟨_, List.getElem?_eq_getElem hlti⟩
          have et : ((outsN fl j).take (i + 1)).map FS = ((outsN fl j).take i).map FS ++ [FS x] := by rw [List.take_add_one, hxi, List.map_append]; rfl
          have hll : (ruTo ns fl j ++ ((outsN fl j).take i).map FS).length ≤ 100000 := by
            have h1 := ruTo_le ns fl j
            have h2 : j * (fl.length + 1) ≤ 100 * 101 := Nat.mul_le_mul (by omega) (by omega)
            rw [List.length_append, List.length_map, List.length_take]; omega
          repeat' (first | ((first | refine aops_nil ?_ | refine aqops_nil ?_); (try simp only [NB])) | ((repeat ((fail_if_success (refine hK _ ?_)); clear hK K)); refine hK _ ?_; clear hK K) | ((first | refine aops_k fun K1 hK1 => ?_ | refine aqops_k fun K1 hK1 => ?_ | refine awp_cond_k fun A B hA hB => ?_); simp only [S1, simprocAttr, TTRuC, rowI hxi, hitI hlti, nextI (by omega) hlti, List.length_map]; first | (refine hK1 _ ?_; clear hK1 K1) | ((first | refine hA ?_ | refine hB ?_); clear hA hB A B) | ((first | apply call_a E25 | apply call_q E25); exact (ins_calls _ fl hl _ _); (refine hK1 _ ?_; clear hK1 K1)) | ((first | apply call_a E26 | apply call_q E26); exact (outs_calls _ fl hl _ _); (refine hK1 _ ?_; clear hK1 K1)) | ((first | apply call_a E27 | apply call_q E27); exact (maker_calls _ hll ⟨2, j, insN fl j, [x]⟩ h _ _); (refine hK1 _ ?_; clear hK1 K1)) | (refine join_x (v := ?_) (fun hg hk9 => ?_) ?_; rotate_left; (focus (try ((try simp only [BN] at hg); simp only [S1, simprocAttr, TTRuC, rowI hxi, hitI hlti, nextI (by omega) hlti, List.length_map, hg] at hk9 ⊢)); first | exact hk9 | ((first | apply call_a E25 | apply call_q E25); exact (ins_calls _ fl hl _ _); exact hk9) | ((first | apply call_a E26 | apply call_q E26); exact (outs_calls _ fl hl _ _); exact hk9) | ((first | apply call_a E27 | apply call_q E27); exact (maker_calls _ hll ⟨2, j, insN fl j, [x]⟩ h _ _); exact hk9)); (refine hK1 _ ?_; clear hK1 K1)) | (((first | (refine ⟨fun hg => hA ?_, fun hg => hB ?_⟩ <;> clear hA hB A B) | refine ⟨fun hg => ?_, fun hg => ?_⟩) <;> (try simp only [BN2] at hg) <;> (try simp only [hg, cond_true, cond_false])) <;> (try (refine hK1 _ ?_; clear hK1 K1)) <;> (try simp only [BN3] at hg))) | (refine awp_seq_k fun K hK => ?_) | ((first | refine awp_region ?_ | refine awp_draw (by kernel_rfl) ?_ | refine awp_block ?_ | refine awp_exit ?_ | refine awp_skip ?_ | refine awp_ret ?_); (try simp only [NB, simprocAttr])))
          all_goals refine ⟨hlti, trivial, ?_⟩
          all_goals simp only [et, ← List.append_assoc]
          all_goals refine ⟨rfl, ⟨_, rfl⟩, ?_, ⟨trivial, trivial, trivial⟩, ⟨by simp only [avlt, List.length_cons, List.length_nil]; omega, trivial⟩, avlts_cRu _ _, trivial⟩
          all_goals simp only [keeps, avlt, avlts, blksLt, frL, upd_get, S1, simprocAttr, List.length_map, Int.natCast_zero, AV.p.injEq, PV.int.injEq, PV.bool.injEq, PV.sl.injEq] <;> (try and_intros) <;> (try assumption) <;> (try trivial) <;> (try omega)
        · obtain rfl : i = (outsN fl j).length := by omega
          repeat' (first | ((first | refine aops_nil ?_ | refine aqops_nil ?_); (try simp only [NB])) | ((repeat ((fail_if_success (refine hK _ ?_)); clear hK K)); refine hK _ ?_; clear hK K) | ((first | refine aops_k fun K1 hK1 => ?_ | refine aqops_k fun K1 hK1 => ?_ | refine awp_cond_k fun A B hA hB => ?_); simp only [S1, simprocAttr, TTRuC, endI, nextN hn hlt]; first | (refine hK1 _ ?_; clear hK1 K1) | ((first | refine hA ?_ | refine hB ?_); clear hA hB A B) | (refine join_x (v := ?_) (fun hg hk9 => ?_) ?_; rotate_left; (focus (try ((try simp only [BN] at hg); simp only [S1, simprocAttr, TTRuC, endI, nextN hn hlt, hg] at hk9 ⊢)); first | exact hk9); (refine hK1 _ ?_; clear hK1 K1)) | (((first | (refine ⟨fun hg => hA ?_, fun hg => hB ?_⟩ <;> clear hA hB A B) | refine ⟨fun hg => ?_, fun hg => ?_⟩) <;> (try simp only [BN2] at hg) <;> (try simp only [hg, cond_true, cond_false])) <;> (try (refine hK1 _ ?_; clear hK1 K1)) <;> (try simp only [BN3] at hg))) | (refine awp_seq_k fun K hK => ?_) | ((first | refine awp_region ?_ | refine awp_draw (by kernel_rfl) ?_ | refine awp_block ?_ | refine awp_exit ?_ | refine awp_skip ?_ | refine awp_ret ?_); (try simp only [NB, simprocAttr])))
          all_goals refine ⟨hlt, trivial, ?_⟩
          all_goals simp only [ej, ro, List.take_length]
          all_goals refine ⟨rfl, ⟨_, rfl⟩, ?_, ⟨trivial, trivial, trivial⟩, ⟨by simp only [avlt, List.length_cons, List.length_nil]; omega, trivial⟩, avlts_cRu _ _, trivial⟩
          all_goals simp only [keeps, avlt, avlts, blksLt, frL, upd_get, S1, simprocAttr, List.length_map, Int.natCast_zero, AV.p.injEq, PV.int.injEq, PV.bool.injEq, PV.sl.injEq] <;> (try and_intros) <;> (try assumption) <;> (try trivial) <;> (try omega)
      · have hxor := hR.xor hlt (by rw [ek]; exact k5)
        have hs' : decide ((1 : Int) < ((outsN fl j).length : Int)) = false := decide_eq_false (by omega)
        obtain ⟨o, ho⟩ : ∃ o, (outsN fl j)[0]? = some o := ⟨_, List.getElem?_eq_getElem (by omega)⟩
        have ho1 : ((outsN fl j).map eI)[0]? = some [.int .i64 o] := by simp [ho, eI]
        have o0 : (0 : Int) ≤ 0 := Int.le_refl 0
        have ohd : (outsN fl j).headD 0 = o := by rw [List.headD_eq_head?_getD, List.head?_eq_getElem?, ho]; rfl
        let FJ := fun x : Int => (⟨1, j, [x], [o]⟩ : Ru)
        have ro : ruOf fl j k.kind = (insN fl j).map FJ := by unfold ruOf; rw [if_neg k1, if_neg k7, if_neg k8, if_pos k5, if_neg hs, ohd]
        repeat' (first | ((first | refine aops_nil ?_ | refine aqops_nil ?_); (try simp only [NB])) | ((repeat ((fail_if_success (refine hK _ ?_)); clear hK K)); refine hK _ ?_; clear hK K) | ((first | refine aops_k fun K1 hK1 => ?_ | refine aqops_k fun K1 hK1 => ?_ | refine awp_cond_k fun A B hA hB => ?_); simp only [S1, simprocAttr, TTRuC, rowN hx, hitN hlt, nextN hn hlt, eN, k5, hs', List.length_map]; first | (refine hK1 _ ?_; clear hK1 K1) | ((first | refine hA ?_ | refine hB ?_); clear hA hB A B) | ((first | apply call_a E25 | apply call_q E25); exact (ins_calls _ fl hl _ _); (refine hK1 _ ?_; clear hK1 K1)) | ((first | apply call_a E26 | apply call_q E26); exact (outs_calls _ fl hl _ _); (refine hK1 _ ?_; clear hK1 K1)) | (refine join_x (v := ?_) (fun hg hk9 => ?_) ?_; rotate_left; (focus (try ((try simp only [BN] at hg); simp only [S1, simprocAttr, TTRuC, rowN hx, hitN hlt, nextN hn hlt, eN, k5, hs', List.length_map, hg] at hk9 ⊢)); first | exact hk9 | ((first | apply call_a E25 | apply call_q E25); exact (ins_calls _ fl hl _ _); exact hk9) | ((first | apply call_a E26 | apply call_q E26); exact (outs_calls _ fl hl _ _); exact hk9)); (refine hK1 _ ?_; clear hK1 K1)) | (((first | (refine ⟨fun hg => hA ?_, fun hg => hB ?_⟩ <;> clear hA hB A B) | refine ⟨fun hg => ?_, fun hg => ?_⟩) <;> (try simp only [BN2] at hg) <;> (try simp only [hg, cond_true, cond_false])) <;> (try (refine hK1 _ ?_; clear hK1 K1)) <;> (try simp only [BN3] at hg))) | (refine awp_seq_k fun K hK => ?_) | ((first | refine awp_region ?_ | refine awp_draw (by kernel_rfl) ?_ | refine awp_block ?_ | refine awp_exit ?_ | refine awp_skip ?_ | refine awp_ret ?_); (try simp only [NB, simprocAttr])))
        refine awp_for (insN fl j).length 132 (fun i => [(113, .i i), (112, .i (insN fl j).length), (111, aI (insN fl j))] ++ [(10, aI (outsN fl j))] ++ [(29, .i j), (28, .i ns.length), (27, .p (.sl (ns.map eN))), (7, .i j), (6, .ptr (h.length + 1) 0 0), (1, .ptr h.length 0 0)])
          (fun i => [some ⟨0, cNet ns fl⟩, mkB (h.length + 2) (ruTo ns fl j ++ ((insN fl j).take i).map FJ), ruB (ruTo ns fl j ++ ((insN fl j).take i).map FJ)]) (fun i => True) ?_ trivial fun i hi hp K hK => ?_
        · simp only [List.take_zero, List.map_nil, List.append_nil]
          refine ⟨rfl, ⟨_, rfl⟩, ?_, ⟨trivial, trivial, trivial⟩, ⟨by simp only [avlt, List.length_cons, List.length_nil]; omega, trivial⟩, avlts_cRu _ _, trivial⟩
          simp only [keeps, avlt, avlts, blksLt, frL, upd_get, S1, simprocAttr, List.length_map, Int.natCast_zero, AV.p.injEq, PV.int.injEq, PV.bool.injEq, PV.sl.injEq] <;> (try and_intros) <;> (try assumption) <;> (try trivial) <;> (try omega)
        rcases Nat.lt_or_ge i (insN fl j).length with hlti | hgei
        · obtain ⟨x, hxi⟩ : ∃ x, (insN fl j)[i]? = some x := ⟨_, List.getElem?_eq_getElem hlti⟩
          have et : ((insN fl j).take (i + 1)).map FJ = ((insN fl j).take i).map FJ ++ [FJ x] := by rw [List.take_add_one, hxi, List.map_append]; rfl
          have hll : (ruTo ns fl j ++ ((insN fl j).take i).map FJ).length ≤ 100000 := by
            have h1 := ruTo_le ns fl j
            have h2 : j * (fl.length + 1) ≤ 100 * 101 := Nat.mul_le_mul (by omega) (by omega)
            rw [List.length_append, List.length_map, List.length_take]; omega
          repeat' (first | ((first | refine aops_nil ?_ | refine aqops_nil ?_); (try simp only [NB])) | ((repeat ((fail_if_success (refine hK _ ?_)); clear hK K)); refine hK _ ?_; clear hK K) | ((first | refine aops_k fun K1 hK1 => ?_ | refine aqops_k fun K1 hK1 => ?_ | refine awp_cond_k fun A B hA hB => ?_); simp only [S1, simprocAttr, TTRuC, rowI hxi, hitI hlti, nextI (by omega) hlti, List.length_map, ho1, o0]; first | (refine hK1 _ ?_; clear hK1 K1) | ((first | refine hA ?_ | refine hB ?_); clear hA hB A B) | ((first | apply call_a E27 | apply call_q E27); exact (maker_calls _ hll ⟨1, j, [x], [o]⟩ h _ _); (refine hK1 _ ?_; clear hK1 K1)) | (refine join_x (v := ?_) (fun hg hk9 => ?_) ?_; rotate_left; (focus (try ((try simp only [BN] at hg); simp only [S1, simprocAttr, TTRuC, rowI hxi, hitI hlti, nextI (by omega) hlti, List.length_map, ho1, o0, hg] at hk9 ⊢)); first | exact hk9 | ((first | apply call_a E27 | apply call_q E27); exact (maker_calls _ hll ⟨1, j, [x], [o]⟩ h _ _); exact hk9)); (refine hK1 _ ?_; clear hK1 K1)) | (((first | (refine ⟨fun hg => hA ?_, fun hg => hB ?_⟩ <;> clear hA hB A B) | refine ⟨fun hg => ?_, fun hg => ?_⟩) <;> (try simp only [BN2] at hg) <;> (try simp only [hg, cond_true, cond_false])) <;> (try (refine hK1 _ ?_; clear hK1 K1)) <;> (try simp only [BN3] at hg))) | (refine awp_seq_k fun K hK => ?_) | ((first | refine awp_region ?_ | refine awp_draw (by kernel_rfl) ?_ | refine awp_block ?_ | refine awp_exit ?_ | refine awp_skip ?_ | refine awp_ret ?_); (try simp only [NB, simprocAttr])))
          all_goals refine ⟨hlti, trivial, ?_⟩
          all_goals simp only [et, ← List.append_assoc]
          all_goals refine ⟨rfl, ⟨_, rfl⟩, ?_, ⟨trivial, trivial, trivial⟩, ⟨by simp only [avlt, List.length_cons, List.length_nil]; omega, trivial⟩, avlts_cRu _ _, trivial⟩
          all_goals simp only [keeps, avlt, avlts, blksLt, frL, upd_get, S1, simprocAttr, List.length_map, Int.natCast_zero, AV.p.injEq, PV.int.injEq, PV.bool.injEq, PV.sl.injEq] <;> (try and_intros) <;> (try assumption) <;> (try trivial) <;> (try omega)
        · obtain rfl : i = (insN fl j).length := by omega
          repeat' (first | ((first | refine aops_nil ?_ | refine aqops_nil ?_); (try simp only [NB])) | ((repeat ((fail_if_success (refine hK _ ?_)); clear hK K)); refine hK _ ?_; clear hK K) | ((first | refine aops_k fun K1 hK1 => ?_ | refine aqops_k fun K1 hK1 => ?_ | refine awp_cond_k fun A B hA hB => ?_); simp only [S1, simprocAttr, TTRuC, endI, nextN hn hlt]; first | (refine hK1 _ ?_; clear hK1 K1) | ((first | refine hA ?_ | refine hB ?_); clear hA hB A B) | (refine join_x (v := ?_) (fun hg hk9 => ?_) ?_; rotate_left; (focus (try ((try simp only [BN] at hg); simp only [S1, simprocAttr, TTRuC, endI, nextN hn hlt, hg] at hk9 ⊢)); first | exact hk9); (refine hK1 _ ?_; clear hK1 K1)) | (((first | (refine ⟨fun hg => hA ?_, fun hg => hB ?_⟩ <;> clear hA hB A B) | refine ⟨fun hg => ?_, fun hg => ?_⟩) <;> (try simp only [BN2] at hg) <;> (try simp only [hg, cond_true, cond_false])) <;> (try (refine hK1 _ ?_; clear hK1 K1)) <;> (try simp only [BN3] at hg))) | (refine awp_seq_k fun K hK => ?_) | ((first | refine awp_region ?_ | refine awp_draw (by kernel_rfl) ?_ | refine awp_block ?_ | refine awp_exit ?_ | refine awp_skip ?_ | refine awp_ret ?_); (try simp only [NB, simprocAttr])))
          all_goals refine ⟨hlt, trivial, ?_⟩
          all_goals simp only [ej, ro, List.take_length]
          all_goals refine ⟨rfl, ⟨_, rfl⟩, ?_, ⟨trivial, trivial, trivial⟩, ⟨by simp only [avlt, List.length_cons, List.length_nil]; omega, trivial⟩, avlts_cRu _ _, trivial⟩
          all_goals simp only [keeps, avlt, avlts, blksLt, frL, upd_get, S1, simprocAttr, List.length_map, Int.natCast_zero, AV.p.injEq, PV.int.injEq, PV.bool.injEq, PV.sl.injEq] <;> (try and_intros) <;> (try assumption) <;> (try trivial) <;> (try omega)
    have f5 : (k.kind == 5) = false := by simp [k5]
    · have ro : ruOf fl j k.kind = [⟨1, j, insN fl j, outsN fl j⟩] := by unfold ruOf; rw [if_neg k1, if_neg k7, if_neg k8, if_neg k5]
      repeat' (first | ((first | refine aops_nil ?_ | refine aqops_nil ?_); (try simp only [NB])) | ((repeat ((fail_if_success (refine hK _ ?_)); clear hK K)); refine hK _ ?_; clear hK K) | ((first | refine aops_k fun K1 hK1 => ?_ | refine aqops_k fun K1 hK1 => ?_ | refine awp_cond_k fun A B hA hB => ?_); simp only [S1, simprocAttr, TTRuC, rowN hx, hitN hlt, nextN hn hlt, eN, f1, f7, f8, f5, List.length_map]; first | (refine hK1 _ ?_; clear hK1 K1) | ((first | refine hA ?_ | refine hB ?_); clear hA hB A B) | ((first | apply call_a E25 | apply call_q E25); exact (ins_calls _ fl hl _ _); (refine hK1 _ ?_; clear hK1 K1)) | ((first | apply call_a E26 | apply call_q E26); exact (outs_calls _ fl hl _ _); (refine hK1 _ ?_; clear hK1 K1)) | ((first | apply call_a E27 | apply call_q E27); exact (maker_calls _ hl0 ⟨1, j, insN fl j, outsN fl j⟩ h _ _); (refine hK1 _ ?_; clear hK1 K1)) | (refine join_x (v := ?_) (fun hg hk9 => ?_) ?_; rotate_left; (focus (try ((try simp only [BN] at hg); simp only [S1, simprocAttr, TTRuC, rowN hx, hitN hlt, nextN hn hlt, eN, f1, f7, f8, f5, List.length_map, hg] at hk9 ⊢)); first | exact hk9 | ((first | apply call_a E25 | apply call_q E25); exact (ins_calls _ fl hl _ _); exact hk9) | ((first | apply call_a E26 | apply call_q E26); exact (outs_calls _ fl hl _ _); exact hk9) | ((first | apply call_a E27 | apply call_q E27); exact (maker_calls _ hl0 ⟨1, j, insN fl j, outsN fl j⟩ h _ _); exact hk9)); (refine hK1 _ ?_; clear hK1 K1)) | (((first | (refine ⟨fun hg => hA ?_, fun hg => hB ?_⟩ <;> clear hA hB A B) | refine ⟨fun hg => ?_, fun hg => ?_⟩) <;> (try simp only [BN2] at hg) <;> (try simp only [hg, cond_true, cond_false])) <;> (try (refine hK1 _ ?_; clear hK1 K1)) <;> (try simp only [BN3] at hg))) | (refine awp_seq_k fun K hK => ?_) | ((first | refine awp_region ?_ | refine awp_draw (by kernel_rfl) ?_ | refine awp_block ?_ | refine awp_exit ?_ | refine awp_skip ?_ | refine awp_ret ?_); (try simp only [NB, simprocAttr])))
      all_goals refine ⟨hlt, trivial, ?_⟩
      all_goals simp only [ej, ro]
      all_goals refine ⟨rfl, ⟨_, rfl⟩, ?_, ⟨trivial, trivial, trivial⟩, ⟨by simp only [avlt, List.length_cons, List.length_nil]; omega, trivial⟩, avlts_cRu _ _, trivial⟩
      all_goals simp only [keeps, avlt, avlts, blksLt, frL, upd_get, S1, simprocAttr, List.length_map, Int.natCast_zero, AV.p.injEq, PV.int.injEq, PV.bool.injEq, PV.sl.injEq] <;> (try and_intros) <;> (try assumption) <;> (try trivial) <;> (try omega)
  · obtain rfl : j = ns.length := by omega
    repeat' (first | ((first | refine aops_nil ?_ | refine aqops_nil ?_); (try simp only [NB])) | ((repeat ((fail_if_success (refine hK _ ?_)); clear hK K)); refine hK _ ?_; clear hK K) | ((first | refine aops_k fun K1 hK1 => ?_ | refine aqops_k fun K1 hK1 => ?_ | refine awp_cond_k fun A B hA hB => ?_); simp only [S1, simprocAttr, TTRuC, endN]; first | (refine hK1 _ ?_; clear hK1 K1) | ((first | refine hA ?_ | refine hB ?_); clear hA hB A B) | (refine join_x (v := ?_) (fun hg hk9 => ?_) ?_; rotate_left; (focus (try ((try simp only [BN] at hg); simp only [S1, simprocAttr, TTRuC, endN, hg] at hk9 ⊢)); first | exact hk9); (refine hK1 _ ?_; clear hK1 K1)) | (((first | (refine ⟨fun hg => hA ?_, fun hg => hB ?_⟩ <;> clear hA hB A B) | refine ⟨fun hg => ?_, fun hg => ?_⟩) <;> (try simp only [BN2] at hg) <;> (try simp only [hg, cond_true, cond_false])) <;> (try (refine hK1 _ ?_; clear hK1 K1)) <;> (try simp only [BN3] at hg))) | (refine awp_seq_k fun K hK => ?_) | ((first | refine awp_region ?_ | refine awp_draw (by kernel_rfl) ?_ | refine awp_block ?_ | refine awp_exit ?_ | refine awp_skip ?_ | refine awp_ret ?_); (try simp only [NB, simprocAttr])))
    exact EndP_rows2 eRu_len eRu_ok (.inr rfl) (l := ruTo ns fl ns.length) rfl rfl rfl (by simp only [ruB, cRu, blkAt, get_app, List.getElem?_cons_succ, List.getElem?_cons_zero, if_true]) (by omega) (by simp) (by simp) rfl
end Go.Proofs.YtjpphhcimpclpaaDoor.AM
end

section
set_option linter.unusedVariables false
set_option linter.unusedSimpArgs false
set_option maxRecDepth 4000
set_option maxHeartbeats 4000000
namespace Go.Proofs.YtjpphhcimpclpaaDoor.AM
open Go Go.Proofs
set_option linter.defProp false in
attribute [local irreducible] awp aops aqops aeops arun arunT
variable {G : Nat → Option (List PV)}

structure Qg where
  j : Nat
  g : Nat

/- left out: not in this program -/

end Go.Proofs.YtjpphhcimpclpaaDoor.AM
end

section
set_option linter.unusedVariables false
set_option linter.unusedSimpArgs false
set_option maxRecDepth 4000
set_option maxHeartbeats 4000000
namespace Go.Proofs.YtjpphhcimpclpaaDoor.AM
open Go Go.Proofs
set_option linter.defProp false in
def TTRuX := And.intro T2 (And.intro T3 (And.intro T4 (And.intro T56 (And.intro T58 (And.intro T66 T68)))))
attribute [local irreducible] awp aops aqops
variable {G : Nat → Option (List PV)}

mutual
def lgT : Tm → Int → Int → Bool × Int
  | .mk _ _ ks, d, n => if n - 1 < 0 ∨ 40 < d ∨ 50 < (ks.length : Int) then (true, n - 1) else lgS ks (d + 1) (n - 1)
def lgS : List Tm → Int → Int → Bool × Int
  | [], _, n => (false, n)
  | k :: r, d, n => if (lgT k d n).1 = true then lgT k d n else lgS r d (lgT k d n).2
end

theorem lgT_eq (t : Tm) (d n : Int) : lgT t d n = if n - 1 < 0 ∨ 40 < d ∨ 50 < (t.kids.length : Int) then (true, n - 1) else lgS t.kids (d + 1) (n - 1) := by
  cases t; rw [lgT]; rfl

theorem lgS_app : ∀ (a b : List Tm) (d n : Int), lgS (a ++ b) d n = if (lgS a d n).1 = true then lgS a d n else lgS b d (lgS a d n).2
  | [], b, d, n => by simp [lgS]
  | k :: r, b, d, n => by
    simp only [List.cons_append, lgS]
    by_cases h : (lgT k d n).1 = true
    · simp [h]
    · simp only [h, if_false]
      exact lgS_app r b d _

theorem lgS_take {l : List Tm} {i : Nat} {k : Tm} (hk : l[i]? = some k) {d n : Int} (hp : (lgS (l.take i) d n).1 = false) :
    lgS (l.take (i + 1)) d n = lgT k d (lgS (l.take i) d n).2 := by
  rw [List.take_add_one, hk, lgS_app]
  simp only [hp, Bool.false_eq_true, if_false, Option.toList_some, lgS]
  split
  · rfl
  · rename_i h
    have : (lgT k d (lgS (List.take i l) d n).2).1 = false := by simpa using h
    rw [Prod.ext_iff]; exact ⟨this.symm, rfl⟩

theorem lgS_stop {l : List Tm} {i : Nat} {k : Tm} (hk : l[i]? = some k) {d n : Int} (hp : (lgS (l.take i) d n).1 = false) (ht : (lgT k d (lgS (l.take i) d n).2).1 = true) :
    lgS l d n = lgT k d (lgS (l.take i) d n).2 := by
  have h := lgS_take hk hp
  conv => lhs; rw [← List.take_append_drop (i + 1) l]
  rw [lgS_app, h, if_pos ht]

/-- What is left of the room. -/
theorem lg_room : ∀ t : Tm, ∀ d n : Int, 0 ≤ n → -1 ≤ (lgT t d n).2 ∧ (lgT t d n).2 ≤ n ∧ ((lgT t d n).1 = false → 0 ≤ (lgT t d n).2) := by
  intro t
  refine Tm.ind (p := fun t => ∀ d n : Int, 0 ≤ n → -1 ≤ (lgT t d n).2 ∧ (lgT t d n).2 ≤ n ∧ ((lgT t d n).1 = false → 0 ≤ (lgT t d n).2)) (fun t ih => ?_) t
  have hs : ∀ l : List Tm, (∀ k ∈ l, k ∈ t.kids) → ∀ d n : Int, 0 ≤ n → -1 ≤ (lgS l d n).2 ∧ (lgS l d n).2 ≤ n ∧ ((lgS l d n).1 = false → 0 ≤ (lgS l d n).2) := by
    intro l
    induction l with
    | nil => intro _ d n hn; simp [lgS]; omega
    | cons k r ihr =>
      intro hm d n hn
      have h1 := ih k (hm k (by simp)) d n hn
      simp only [lgS]
      split
      · exact h1
      · rename_i h
        have h2 := h1.2.2 (by simpa using h)
        have h3 := ihr (fun x hx => hm x (by simp [hx])) d _ h2
        exact ⟨by omega, by omega, h3.2.2⟩
  intro d n hn
  rw [lgT_eq]
  split
  · simp; omega
  · rename_i h
    have := hs t.kids (fun _ h => h) (d + 1) (n - 1) (by omega)
    exact ⟨by omega, by omega, this.2.2⟩

theorem lgS_room {l : List Tm} {d n : Int} (hn : 0 ≤ n) : -1 ≤ (lgS l d n).2 ∧ (lgS l d n).2 ≤ n ∧ ((lgS l d n).1 = false → 0 ≤ (lgS l d n).2) := by
  induction l generalizing n with
  | nil => simp [lgS]; omega
  | cons k r ih =>
    have h1 := lg_room k d n hn
    simp only [lgS]
    split
    · exact h1
    · rename_i h
      have h2 := h1.2.2 (by simpa using h)
      have h3 := ih h2
      exact ⟨by omega, by omega, h3.2.2⟩

/-- What is not larger. -/
theorem lg_ok : ∀ t : Tm, ∀ d n : Int, (lgT t d n).1 = false → 1 ≤ d → Tm.Ok (41 - d).toNat t := by
  intro t
  refine Tm.ind (p := fun t => ∀ d n : Int, (lgT t d n).1 = false → 1 ≤ d → Tm.Ok (41 - d).toNat t) (fun t ih => ?_) t
  intro d n hf hd
  rw [lgT_eq] at hf
  split at hf
  · cases hf
  · rename_i h
    have hs : ∀ l : List Tm, ∀ d n : Int, (lgS l d n).1 = false → ∀ k ∈ l, ∃ m, (lgT k d m).1 = false := by
      intro l
      induction l with
      | nil => intro d n _ k hk; simp at hk
      | cons x r ihr =>
        intro d n hf k hk
        simp only [lgS] at hf
        split at hf
        · rename_i h2; rw [h2] at hf; cases hf
        · rename_i h2
          rcases List.mem_cons.mp hk with rfl | hk
          · exact ⟨n, by simpa using h2⟩
          · exact ihr _ _ hf k hk
    have e : (41 - d).toNat = (41 - (d + 1)).toNat + 1 := by omega
    rw [e]
    refine .mk _ t (by omega) fun k hk => ?_
    obtain ⟨m, hm⟩ := hs _ _ _ hf k hk
    exact ih k hk _ _ hm (by omega)

/-- A heap whose block b was changed. -/
def withB (h : Heap) (b : Nat) (c : Option Blk) : Heap := h.set b c

section
variable {h : Heap} {b : Nat} {c c' : Option Blk}
theorem wb_self (hb : h[b]? = some c) : withB h b c = h := by
  apply List.ext_getElem?
  intro i
  unfold withB
  rw [List.getElem?_set]
  split
  · rename_i e; subst e; split
    · exact hb.symm
    · rename_i hn; rw [List.getElem?_eq_none (by omega)] at hb; cases hb
  · rfl
theorem wb_len : (withB h b c).length = h.length := by unfold withB; rw [List.length_set]
theorem wb_at (hb : b < h.length) : (withB h b c)[b]? = some c := by unfold withB; rw [List.getElem?_set]; simp [hb]
theorem wb_get (hb : b < h.length) (L : Heap) : (withB h b c ++ L)[b]? = some c := by rw [List.getElem?_append_left (by rw [wb_len]; exact hb), wb_at hb]
theorem wb_put : (withB h b c).set b c' = withB h b c' := by unfold withB; rw [List.set_set]
theorem wb_set (hb : b < h.length) (L : Heap) : (withB h b c ++ L).set b c' = withB h b c' ++ L := by rw [List.set_append_left _ _ (by rw [wb_len]; exact hb), wb_put]
theorem wb_get0 (L : Heap) : (withB h b c ++ L)[h.length]? = L[0]? := by rw [List.getElem?_append_right (by rw [wb_len]; omega), wb_len]; congr 1; omega
theorem wb_geti (L : Heap) (i : Nat) : (withB h b c ++ L)[h.length + i]? = L[i]? := by rw [List.getElem?_append_right (by rw [wb_len]; omega), wb_len]; congr 1; omega
theorem wb_set0 (L : Heap) (x : Option Blk) : (withB h b c ++ L).set h.length x = withB h b c ++ L.set 0 x := by rw [List.set_append_right _ _ (by rw [wb_len]; omega), wb_len]; congr 2; omega
theorem wb_seti (L : Heap) (i : Nat) (x : Option Blk) : (withB h b c ++ L).set (h.length + i) x = withB h b c ++ L.set i x := by rw [List.set_append_right _ _ (by rw [wb_len]; omega), wb_len]; congr 2; omega
theorem wb_take (L : Heap) : (withB h b c ++ L).take h.length = withB h b c := by
  have := wb_len (h := h) (b := b) (c := c)
  rw [← this, List.take_left']; rfl
theorem wb_app (L : Heap) (hb : b < h.length) : withB (withB h b c ++ L) b c' = withB h b c' ++ L := by
  show (withB h b c ++ L).set b c' = _
  exact wb_set hb L
theorem wb_keep {c0 : Option Blk} {g : Nat} {n : Int} : ∀ (i : Nat) (bk : Blk), (withB h b (some ⟨g, [.i n]⟩))[i]? = some (some bk) → (withB h b c0)[i]? = some (some bk) ∨ avlts (withB h b c0).length bk.cells := by
  intro i bk hi
  unfold withB at hi ⊢
  rw [List.getElem?_set] at hi ⊢
  split at hi
  · rename_i e
    split at hi
    · cases hi; exact .inr (by simp [avlts, avlt])
    · cases hi
  · rename_i e; rw [if_neg e]; exact .inl hi
theorem wb_keep' {c0 : Option Blk} {g : Nat} {n : Int} (i : Nat) (bk : Blk) (hi : (withB h b (some ⟨g, [.i n]⟩))[i]? = some (some bk)) : (withB h b c0)[i]? = some (some bk) ∨ ∀ x, x ∈ bk.cells → AVlt h.length x :=
  (wb_keep i bk hi).imp id fun hx => by rw [wb_len] at hx; exact avlts_lt _ hx
theorem wb_wb : withB (withB h b c) b c' = withB h b c' := wb_put
theorem wb_take0 : (withB h b c).take h.length = withB h b c := by
  rw [← wb_len (h := h) (b := b) (c := c), List.take_length]
end

abbrev rB (g : Nat) (n : Int) : Option Blk := some ⟨g, [.i n]⟩

theorem deepL_calls (t : Tm) : ∀ (d n : Int) (b g : Nat) (h : Heap), 0 ≤ n → n ≤ 3000 → 1 ≤ d → d ≤ 41 → h[b]? = some (rB g n) →
    ACalls Tryd.prog G 20 [aT t, .ptr b g 0, .i d] h (fun r h' => r = .b (lgT t d n).1 ∧ h' = withB h b (rB g (lgT t d n).2)) := by
  refine Tm.ind (p := fun t => ∀ (d n : Int) (b g : Nat) (h : Heap), 0 ≤ n → n ≤ 3000 → 1 ≤ d → d ≤ 41 → h[b]? = some (rB g n) →
    ACalls Tryd.prog G 20 [aT t, .ptr b g 0, .i d] h (fun r h' => r = .b (lgT t d n).1 ∧ h' = withB h b (rB g (lgT t d n).2))) (fun t ih => ?_) t
  intro d n b g h hn hn2 hd hd2 hb
  have hlt : b < h.length := (List.getElem?_eq_some_iff.mp hb).1
  have hself := wb_self hb
  have hw : IntKind.i64.wrap (n - 1) = n - 1 := IntWalk.i64_in _ (by omega)
  rw [lgT_eq]
  refine acalls_heap (rl := []) mixed Tryd.func20 rfl (rs := [.tmp 6]) rfl Tryd.ntmps20 (by simp) ?_
  rw [← hself]
  by_cases hbig : n - 1 < 0 ∨ 40 < d ∨ 50 < (t.kids.length : Int)
  · rw [if_pos hbig]
    have f1 : ((decide (n - 1 < 0) || decide (40 < d)) || decide (50 < (t.kids.length : Int))) = true := by
      simp; omega
    repeat' (first | ((first | refine aops_nil ?_ | refine aqops_nil ?_); (try simp only [NB])) | ((repeat ((fail_if_success (refine hK _ ?_)); clear hK K)); refine hK _ ?_; clear hK K) | ((first | refine aops_k fun K1 hK1 => ?_ | refine aqops_k fun K1 hK1 => ?_ | refine awp_cond_k fun A B hA hB => ?_); simp only [S1, simprocAttr, TTRuX, f1, hw, List.length_map, wb_get hlt, wb_at hlt, wb_put, wb_set hlt, wb_get0, wb_geti, wb_len]; first | (refine hK1 _ ?_; clear hK1 K1) | ((first | refine hA ?_ | refine hB ?_); clear hA hB A B) | (refine join_x (v := ?_) (fun hg hk9 => ?_) ?_; rotate_left; (focus (try ((try simp only [BN] at hg); simp only [S1, simprocAttr, TTRuX, f1, hw, List.length_map, wb_get hlt, wb_at hlt, wb_put, wb_set hlt, wb_get0, wb_geti, wb_len, hg] at hk9 ⊢)); first | exact hk9); (refine hK1 _ ?_; clear hK1 K1)) | (((first | (refine ⟨fun hg => hA ?_, fun hg => hB ?_⟩ <;> clear hA hB A B) | refine ⟨fun hg => ?_, fun hg => ?_⟩) <;> (try simp only [BN2] at hg) <;> (try simp only [hg, cond_true, cond_false])) <;> (try (refine hK1 _ ?_; clear hK1 K1)) <;> (try simp only [BN3] at hg))) | (refine awp_seq_k fun K hK => ?_) | ((first | refine awp_region ?_ | refine awp_draw (by kernel_rfl) ?_ | refine awp_block ?_ | refine awp_exit ?_ | refine awp_skip ?_ | refine awp_ret ?_); (try simp only [NB, simprocAttr])))
    all_goals simp only [EndH, FinH, resA, resL, resA1, lastV, lastA, lastAs, pur, purs, wb_len, wb_take, wb_take0, wb_wb, S1, simprocAttr, TTRuX, Nat.le_add_right, Nat.le_refl]
    all_goals first | exact wb_keep' | exact ⟨wb_keep', rfl⟩ | exact ⟨wb_keep', rfl, rfl⟩
  · rw [if_neg hbig]
    have f1 : ((decide (n - 1 < 0) || decide (40 < d)) || decide (50 < (t.kids.length : Int))) = false := by
      simp; omega
    have hkl : t.kids.length ≤ 100 := by omega
    have hm0 : 0 ≤ n - 1 := by omega
    have hd3 : IntKind.i64.wrap (d + 1) = d + 1 := IntWalk.i64_in _ (by omega)
    let m := fun i => (lgS (t.kids.take i) (d + 1) (n - 1)).2
    refine awp_seq_k fun K hK => ?_
    repeat' (first | ((first | refine aops_nil ?_ | refine aqops_nil ?_); (try simp only [NB])) | ((repeat ((fail_if_success (refine hK _ ?_)); clear hK K)); refine hK _ ?_; clear hK K) | ((first | refine aops_k fun K1 hK1 => ?_ | refine aqops_k fun K1 hK1 => ?_ | refine awp_cond_k fun A B hA hB => ?_); simp only [S1, simprocAttr, TTRuX, f1, hw, List.length_map, wb_get hlt, wb_at hlt, wb_put, wb_set hlt, wb_get0, wb_geti, wb_len]; first | (refine hK1 _ ?_; clear hK1 K1) | ((first | refine hA ?_ | refine hB ?_); clear hA hB A B) | (refine join_x (v := ?_) (fun hg hk9 => ?_) ?_; rotate_left; (focus (try ((try simp only [BN] at hg); simp only [S1, simprocAttr, TTRuX, f1, hw, List.length_map, wb_get hlt, wb_at hlt, wb_put, wb_set hlt, wb_get0, wb_geti, wb_len, hg] at hk9 ⊢)); first | exact hk9); (refine hK1 _ ?_; clear hK1 K1)) | (((first | (refine ⟨fun hg => hA ?_, fun hg => hB ?_⟩ <;> clear hA hB A B) | refine ⟨fun hg => ?_, fun hg => ?_⟩) <;> (try simp only [BN2] at hg) <;> (try simp only [hg, cond_true, cond_false])) <;> (try (refine hK1 _ ?_; clear hK1 K1)) <;> (try simp only [BN3] at hg))) | (refine awp_seq_k fun K hK => ?_) | ((first | refine awp_region ?_ | refine awp_draw (by kernel_rfl) ?_ | refine awp_block ?_ | refine awp_exit ?_ | refine awp_skip ?_ | refine awp_ret ?_); (try simp only [NB, simprocAttr])))
    refine awp_forH t.kids.length 45 (fun i => withB h b (rB g (m i))) (fun i => [(35, .i i), (34, .i t.kids.length), (33, .p (.sl (t.kids.map eT))), (1, .ptr b g 0), (2, .i d)]) (fun i => []) (fun i => (lgS (t.kids.take i) (d + 1) (n - 1)).1 = false)
      (fun i => ⟨by rw [wb_len, wb_len], wb_keep⟩) ?_ (by simp [lgS]) fun i hi hp K hK => ?_
    · have e0 : m 0 = n - 1 := by simp [m, lgS]
      simp only [e0]
      refine ⟨rfl, ⟨_, rfl⟩, ?_, ?_⟩
      · simp [keeps, avlt, upd_get, wb_len]; omega
      · simp [blksLt]
    rcases Nat.lt_or_ge i t.kids.length with hlti | hge
    · obtain ⟨k, hx⟩ : ∃ k, t.kids[i]? = some k := ⟨_, List.getElem?_eq_getElem hlti⟩
      have hmem := List.mem_of_getElem? hx
      have hmi : 0 ≤ m i ∧ m i ≤ n - 1 := by
        have := lgS_room (l := t.kids.take i) (d := d + 1) hm0
        exact ⟨this.2.2 hp, this.2.1⟩
      have hr : ∀ L : Heap, ACalls Tryd.prog G 20 [aT k, .ptr b g 0, .i (d + 1)] (withB h b (rB g (m i)) ++ L) (fun r h' => r = .b (lgT k (d + 1) (m i)).1 ∧ h' = withB h b (rB g (lgT k (d + 1) (m i)).2) ++ L) := fun L => by
        have := ih k hmem (d + 1) (m i) b g (withB h b (rB g (m i)) ++ L) hmi.1 (by omega) (by omega) (by omega) (wb_get hlt L)
        rwa [wb_app L hlt] at this
      cases hb1 : (lgT k (d + 1) (m i)).1 with
      | false =>
        rw [hb1] at hr
        have hs := lgS_take hx hp
        repeat' (first | ((first | refine aops_nil ?_ | refine aqops_nil ?_); (try simp only [NB])) | ((repeat ((fail_if_success (refine hK _ ?_)); clear hK K)); refine hK _ ?_; clear hK K) | ((first | refine aops_k fun K1 hK1 => ?_ | refine aqops_k fun K1 hK1 => ?_ | refine awp_cond_k fun A B hA hB => ?_); simp only [S1, simprocAttr, TTRuX, row_of hx, idx_hit hlti, idx_next hkl hlti, eT_eq, hd3, List.length_map, wb_get hlt, wb_at hlt, wb_put, wb_set hlt, wb_get0, wb_geti, wb_len, wb_set0, wb_seti]; first | (refine hK1 _ ?_; clear hK1 K1) | ((first | refine hA ?_ | refine hB ?_); clear hA hB A B) | ((first | apply call_a E20 | apply call_q E20); exact (hr _); (refine hK1 _ ?_; clear hK1 K1)) | (refine join_x (v := ?_) (fun hg hk9 => ?_) ?_; rotate_left; (focus (try ((try simp only [BN] at hg); simp only [S1, simprocAttr, TTRuX, row_of hx, idx_hit hlti, idx_next hkl hlti, eT_eq, hd3, List.length_map, wb_get hlt, wb_at hlt, wb_put, wb_set hlt, wb_get0, wb_geti, wb_len, wb_set0, wb_seti, hg] at hk9 ⊢)); first | exact hk9 | ((first | apply call_a E20 | apply call_q E20); exact (hr _); exact hk9)); (refine hK1 _ ?_; clear hK1 K1)) | (((first | (refine ⟨fun hg => hA ?_, fun hg => hB ?_⟩ <;> clear hA hB A B) | refine ⟨fun hg => ?_, fun hg => ?_⟩) <;> (try simp only [BN2] at hg) <;> (try simp only [hg, cond_true, cond_false])) <;> (try (refine hK1 _ ?_; clear hK1 K1)) <;> (try simp only [BN3] at hg))) | (refine awp_seq_k fun K hK => ?_) | ((first | refine awp_region ?_ | refine awp_draw (by kernel_rfl) ?_ | refine awp_block ?_ | refine awp_exit ?_ | refine awp_skip ?_ | refine awp_ret ?_); (try simp only [NB, simprocAttr])))
        refine ⟨hlti, by rw [hs]; exact hb1, ?_⟩
        have em : m (i + 1) = (lgT k (d + 1) (m i)).2 := by simp only [m, hs]
        rw [em]
        refine ⟨rfl, ⟨_, rfl⟩, ?_, ?_⟩
        · simp [keeps, avlt, upd_get, frL, wb_len]; omega
        · simp [blksLt]
      | true =>
        rw [hb1] at hr
        have hs := lgS_stop hx hp hb1
        repeat' (first | ((first | refine aops_nil ?_ | refine aqops_nil ?_); (try simp only [NB])) | ((repeat ((fail_if_success (refine hK _ ?_)); clear hK K)); refine hK _ ?_; clear hK K) | ((first | refine aops_k fun K1 hK1 => ?_ | refine aqops_k fun K1 hK1 => ?_ | refine awp_cond_k fun A B hA hB => ?_); simp only [S1, simprocAttr, TTRuX, row_of hx, idx_hit hlti, idx_next hkl hlti, eT_eq, hd3, List.length_map, wb_get hlt, wb_at hlt, wb_put, wb_set hlt, wb_get0, wb_geti, wb_len, wb_set0, wb_seti]; first | (refine hK1 _ ?_; clear hK1 K1) | ((first | refine hA ?_ | refine hB ?_); clear hA hB A B) | ((first | apply call_a E20 | apply call_q E20); exact (hr _); (refine hK1 _ ?_; clear hK1 K1)) | (refine join_x (v := ?_) (fun hg hk9 => ?_) ?_; rotate_left; (focus (try ((try simp only [BN] at hg); simp only [S1, simprocAttr, TTRuX, row_of hx, idx_hit hlti, idx_next hkl hlti, eT_eq, hd3, List.length_map, wb_get hlt, wb_at hlt, wb_put, wb_set hlt, wb_get0, wb_geti, wb_len, wb_set0, wb_seti, hg] at hk9 ⊢)); first | exact hk9 | ((first | apply call_a E20 | apply call_q E20); exact (hr _); exact hk9)); (refine hK1 _ ?_; clear hK1 K1)) | (((first | (refine ⟨fun hg => hA ?_, fun hg => hB ?_⟩ <;> clear hA hB A B) | refine ⟨fun hg => ?_, fun hg => ?_⟩) <;> (try simp only [BN2] at hg) <;> (try simp only [hg, cond_true, cond_false])) <;> (try (refine hK1 _ ?_; clear hK1 K1)) <;> (try simp only [BN3] at hg))) | (refine awp_seq_k fun K hK => ?_) | ((first | refine awp_region ?_ | refine awp_draw (by kernel_rfl) ?_ | refine awp_block ?_ | refine awp_exit ?_ | refine awp_skip ?_ | refine awp_ret ?_); (try simp only [NB, simprocAttr])))
        rw [hs, hb1]
        simp only [EndH, FinH, resA, resL, resA1, lastV, lastA, lastAs, pur, purs, wb_len, wb_take, wb_take0, wb_wb, S1, simprocAttr, TTRuX, Nat.le_add_right, Nat.le_refl]
        first | exact wb_keep' | exact ⟨wb_keep', rfl⟩ | exact ⟨wb_keep', rfl, rfl⟩
    · obtain rfl : i = t.kids.length := by omega
      repeat' (first | ((first | refine aops_nil ?_ | refine aqops_nil ?_); (try simp only [NB])) | ((repeat ((fail_if_success (refine hK _ ?_)); clear hK K)); refine hK _ ?_; clear hK K) | ((first | refine aops_k fun K1 hK1 => ?_ | refine aqops_k fun K1 hK1 => ?_ | refine awp_cond_k fun A B hA hB => ?_); simp only [S1, simprocAttr, TTRuX, idx_end]; first | (refine hK1 _ ?_; clear hK1 K1) | ((first | refine hA ?_ | refine hB ?_); clear hA hB A B) | (refine join_x (v := ?_) (fun hg hk9 => ?_) ?_; rotate_left; (focus (try ((try simp only [BN] at hg); simp only [S1, simprocAttr, TTRuX, idx_end, hg] at hk9 ⊢)); first | exact hk9); (refine hK1 _ ?_; clear hK1 K1)) | (((first | (refine ⟨fun hg => hA ?_, fun hg => hB ?_⟩ <;> clear hA hB A B) | refine ⟨fun hg => ?_, fun hg => ?_⟩) <;> (try simp only [BN2] at hg) <;> (try simp only [hg, cond_true, cond_false])) <;> (try (refine hK1 _ ?_; clear hK1 K1)) <;> (try simp only [BN3] at hg))) | (refine awp_seq_k fun K hK => ?_) | ((first | refine awp_region ?_ | refine awp_draw (by kernel_rfl) ?_ | refine awp_block ?_ | refine awp_exit ?_ | refine awp_skip ?_ | refine awp_ret ?_); (try simp only [NB, simprocAttr])))
      have e : t.kids.take t.kids.length = t.kids := List.take_length
      rw [e] at hp
      have em : m t.kids.length = (lgS t.kids (d + 1) (n - 1)).2 := by simp only [m, e]
      rw [em, hp]
      simp only [EndH, FinH, resA, resL, resA1, lastV, lastA, lastAs, pur, purs, wb_len, wb_take, wb_take0, wb_wb, S1, simprocAttr, TTRuX, Nat.le_add_right, Nat.le_refl]
      first | exact wb_keep' | exact ⟨wb_keep', rfl⟩ | exact ⟨wb_keep', rfl, rfl⟩
end Go.Proofs.YtjpphhcimpclpaaDoor.AM
end

section
set_option linter.unusedVariables false
set_option linter.unusedSimpArgs false
set_option maxRecDepth 4000
set_option maxHeartbeats 4000000
namespace Go.Proofs.YtjpphhcimpclpaaDoor.AM
open Go Go.Proofs
set_option linter.defProp false in
def TTRuY := And.intro T2 (And.intro T3 (And.intro T4 (And.intro T22 (And.intro T23 (And.intro T25 (And.intro T56 (And.intro T58 (And.intro T60 (And.intro T66 (And.intro T68 T71))))))))))
attribute [local irreducible] awp aops aqops aeops arun arunT
variable {G : Nat → Option (List PV)}

/-- All terms of a process. -/
def termsN (ns : List Nd) (fl : List Fl) : List Tm := ns.map (·.term) ++ fl.map (·.cond)
def largeN (ns : List Nd) (fl : List Fl) : Bool := (decide (30 < (ns.length : Int)) || decide (50 < (fl.length : Int))) || (lgS (termsN ns fl) 1 1500).1

theorem lgS_all {l : List Tm} : ∀ {d n : Int}, 1 ≤ d → (lgS l d n).1 = false → ∀ k ∈ l, Tm.Ok (41 - d).toNat k := by
  induction l with
  | nil => intro d n _ _ k hk; simp at hk
  | cons x r ih =>
    intro d n hd hf k hk
    simp only [lgS] at hf
    split at hf
    · rename_i h2; rw [h2] at hf; cases hf
    · rename_i h2
      rcases List.mem_cons.mp hk with rfl | hk
      · exact lg_ok _ _ _ (by simpa using h2) hd
      · exact ih hd hf k hk

theorem large_ok {ns : List Nd} {fl : List Fl} (h : largeN ns fl = false) : NetOk ns fl := by
  unfold largeN at h
  simp only [Bool.or_eq_false_iff, decide_eq_false_iff_not] at h
  obtain ⟨⟨h1, h2⟩, h3⟩ := h
  have ha := lgS_all (by omega) h3
  refine ⟨by omega, by omega, ⟨40, by omega, fun k hk => ha _ ?_⟩, ⟨40, by omega, fun k hk => ha _ ?_⟩⟩
  · unfold termsN; exact List.mem_append_left _ (List.mem_map.mpr ⟨k, hk, rfl⟩)
  · unfold termsN; exact List.mem_append_right _ (List.mem_map.mpr ⟨k, hk, rfl⟩)

theorem deepL_at (k : Tm) (n : Int) (hn : 0 ≤ n) (hn2 : n ≤ 3000) (h : Heap) (A : Option Blk) (L : Heap) :
    ACalls Tryd.prog G 20 [aT k, .ptr (h.length + 1) 0 0, .i 1] (h ++ (A :: some ⟨0, [.i n]⟩ :: L)) (fun r h' => r = .b (lgT k 1 n).1 ∧ h' = h ++ (A :: some ⟨0, [.i (lgT k 1 n).2]⟩ :: L)) := by
  have := deepL_calls (G := G) k 1 n (h.length + 1) 0 (h ++ (A :: some ⟨0, [.i n]⟩ :: L)) hn hn2 (by omega) (by omega) (by simp [get_app])
  simpa only [withB, set_app, List.set_cons_succ, List.set_cons_zero] using this

theorem large_calls (ns : List Nd) (fl : List Fl) (h : Heap) : ACalls Tryd.prog G 8 [aNet ns fl] h (fun r h' => r = .b (largeN ns fl) ∧ h' = h) := by
  cases hsz : (decide (30 < (ns.length : Int)) || decide (50 < (fl.length : Int))) with
  | true =>
    have e : largeN ns fl = true := by unfold largeN; rw [hsz]; rfl
    rw [e]
    refine acalls_pure (rl := []) mixed Tryd.func8 rfl (rs := [.tmp 2]) rfl Tryd.ntmps8 (by simp) ?_
    repeat' (first | ((first | refine aops_nil ?_ | refine aqops_nil ?_); (try simp only [NB])) | ((repeat ((fail_if_success (refine hK _ ?_)); clear hK K)); refine hK _ ?_; clear hK K) | ((first | refine aops_k fun K1 hK1 => ?_ | refine aqops_k fun K1 hK1 => ?_ | refine awp_cond_k fun A B hA hB => ?_); simp only [S1, simprocAttr, TTRuY, List.length_map, hsz]; first | (refine hK1 _ ?_; clear hK1 K1) | ((first | refine hA ?_ | refine hB ?_); clear hA hB A B) | (refine join_x (v := ?_) (fun hg hk9 => ?_) ?_; rotate_left; (focus (try ((try simp only [BN] at hg); simp only [S1, simprocAttr, TTRuY, List.length_map, hsz, hg] at hk9 ⊢)); first | exact hk9); (refine hK1 _ ?_; clear hK1 K1)) | (((first | (refine ⟨fun hg => hA ?_, fun hg => hB ?_⟩ <;> clear hA hB A B) | refine ⟨fun hg => ?_, fun hg => ?_⟩) <;> (try simp only [BN2] at hg) <;> (try simp only [hg, cond_true, cond_false])) <;> (try (refine hK1 _ ?_; clear hK1 K1)) <;> (try simp only [BN3] at hg))) | (refine awp_seq_k fun K hK => ?_) | ((first | refine awp_region ?_ | refine awp_draw (by kernel_rfl) ?_ | refine awp_block ?_ | refine awp_exit ?_ | refine awp_skip ?_ | refine awp_ret ?_); (try simp only [NB, simprocAttr])))
    all_goals simp only [EndP, FinP, resA, resL, resA1, lastV, lastA, lastAs, pur, purs, take_app, List.take_length, S1, simprocAttr, TTRuY, Nat.le_add_right, Nat.le_refl]
  | false =>
    have e : largeN ns fl = (lgS (termsN ns fl) 1 1500).1 := by unfold largeN; rw [hsz]; rfl
    have hn : ns.length ≤ 100 := by simp at hsz; omega
    have hl : fl.length ≤ 100 := by simp at hsz; omega
    rw [e]
    let m := fun j => (lgS ((ns.map (·.term)).take j) 1 1500)
    let m2 := fun j => (lgS (ns.map (·.term) ++ (fl.map (·.cond)).take j) 1 1500)
    refine acalls_pure (rl := []) mixed Tryd.func8 rfl (rs := [.tmp 2]) rfl Tryd.ntmps8 (by simp) ?_
    repeat' (first | ((first | refine aops_nil ?_ | refine aqops_nil ?_); (try simp only [NB])) | ((repeat ((fail_if_success (refine hK _ ?_)); clear hK K)); refine hK _ ?_; clear hK K) | ((first | refine aops_k fun K1 hK1 => ?_ | refine aqops_k fun K1 hK1 => ?_ | refine awp_cond_k fun A B hA hB => ?_); simp only [S1, simprocAttr, TTRuY, List.length_map, hsz]; first | (refine hK1 _ ?_; clear hK1 K1) | ((first | refine hA ?_ | refine hB ?_); clear hA hB A B) | (refine join_x (v := ?_) (fun hg hk9 => ?_) ?_; rotate_left; (focus (try ((try simp only [BN] at hg); simp only [S1, simprocAttr, TTRuY, List.length_map, hsz, hg] at hk9 ⊢)); first | exact hk9); (refine hK1 _ ?_; clear hK1 K1)) | (((first | (refine ⟨fun hg => hA ?_, fun hg => hB ?_⟩ <;> clear hA hB A B) | refine ⟨fun hg => ?_, fun hg => ?_⟩) <;> (try simp only [BN2] at hg) <;> (try simp only [hg, cond_true, cond_false])) <;> (try (refine hK1 _ ?_; clear hK1 K1)) <;> (try simp only [BN3] at hg))) | (refine awp_seq_k fun K hK => ?_) | ((first | refine awp_region ?_ | refine awp_draw (by kernel_rfl) ?_ | refine awp_block ?_ | refine awp_exit ?_ | refine awp_skip ?_ | refine awp_ret ?_); (try simp only [NB, simprocAttr])))
    refine awp_for ns.length 44 (fun j => [(23, .i j), (22, .i ns.length), (21, .p (.sl (ns.map eN))), (3, .ptr (h.length + 1) 0 0), (1, .ptr h.length 0 0)])
      (fun j => [some ⟨0, cNet ns fl⟩, some ⟨0, [.i (m j).2]⟩]) (fun j => (m j).1 = false) ?_ (by simp [m, lgS]) fun j hj hp K hK => ?_
    · have e0 : (m 0).2 = 1500 := by simp [m, lgS]
      simp only [e0]
      (refine ⟨rfl, (by first | exact ⟨_, rfl⟩ | exact ⟨[], by simp⟩), ?_, ?_⟩ <;> simp only [keeps, avlt, avlts, blksLt, frL, upd_get, S1, simprocAttr, List.length_map, Int.natCast_zero, AV.p.injEq, PV.int.injEq, PV.bool.injEq, PV.sl.injEq] <;> (try and_intros) <;> (try assumption) <;> (try trivial) <;> (try omega))
    rcases Nat.lt_or_ge j ns.length with hlt | hge
    · obtain ⟨k, hx⟩ : ∃ k, ns[j]? = some k := ⟨_, List.getElem?_eq_getElem hlt⟩
      have hx2 : (ns.map (·.term))[j]? = some k.term := by simp [hx]
      have hr := lgS_room (l := (ns.map (·.term)).take j) (d := 1) (n := 1500) (by omega)
      have hd := fun A L => deepL_at (G := G) k.term (m j).2 (hr.2.2 hp) (by have := hr.2.1; show (lgS _ _ _).2 ≤ 3000; omega) h A L
      cases hq : (lgT k.term 1 (m j).2).1 with
      | false =>
        have hs := lgS_take hx2 hp
        rw [hq] at hd
        repeat' (first | ((first | refine aops_nil ?_ | refine aqops_nil ?_); (try simp only [NB])) | ((repeat ((fail_if_success (refine hK _ ?_)); clear hK K)); refine hK _ ?_; clear hK K) | ((first | refine aops_k fun K1 hK1 => ?_ | refine aqops_k fun K1 hK1 => ?_ | refine awp_cond_k fun A B hA hB => ?_); simp only [S1, simprocAttr, TTRuY, rowN hx, hitN hlt, nextN hn hlt, eN, List.length_map]; first | (refine hK1 _ ?_; clear hK1 K1) | ((first | refine hA ?_ | refine hB ?_); clear hA hB A B) | ((first | apply call_a E20 | apply call_q E20); exact (hd _ _); (refine hK1 _ ?_; clear hK1 K1)) | (refine join_x (v := ?_) (fun hg hk9 => ?_) ?_; rotate_left; (focus (try ((try simp only [BN] at hg); simp only [S1, simprocAttr, TTRuY, rowN hx, hitN hlt, nextN hn hlt, eN, List.length_map, hg] at hk9 ⊢)); first | exact hk9 | ((first | apply call_a E20 | apply call_q E20); exact (hd _ _); exact hk9)); (refine hK1 _ ?_; clear hK1 K1)) | (((first | (refine ⟨fun hg => hA ?_, fun hg => hB ?_⟩ <;> clear hA hB A B) | refine ⟨fun hg => ?_, fun hg => ?_⟩) <;> (try simp only [BN2] at hg) <;> (try simp only [hg, cond_true, cond_false])) <;> (try (refine hK1 _ ?_; clear hK1 K1)) <;> (try simp only [BN3] at hg))) | (refine awp_seq_k fun K hK => ?_) | ((first | refine awp_region ?_ | refine awp_draw (by kernel_rfl) ?_ | refine awp_block ?_ | refine awp_exit ?_ | refine awp_skip ?_ | refine awp_ret ?_); (try simp only [NB, simprocAttr])))
        refine ⟨hlt, by show (lgS _ _ _).1 = false; rw [hs]; exact hq, ?_⟩
        have em : m (j + 1) = lgT k.term 1 (m j).2 := hs
        rw [em]
        (refine ⟨rfl, (by first | exact ⟨_, rfl⟩ | exact ⟨[], by simp⟩), ?_, ?_⟩ <;> simp only [keeps, avlt, avlts, blksLt, frL, upd_get, S1, simprocAttr, List.length_map, Int.natCast_zero, AV.p.injEq, PV.int.injEq, PV.bool.injEq, PV.sl.injEq] <;> (try and_intros) <;> (try assumption) <;> (try trivial) <;> (try omega))
      | true =>
        have hs : (lgS (termsN ns fl) 1 1500).1 = true := by
          unfold termsN
          rw [lgS_app, lgS_stop hx2 hp hq, if_pos hq]; exact hq
        rw [hq] at hd
        repeat' (first | ((first | refine aops_nil ?_ | refine aqops_nil ?_); (try simp only [NB])) | ((repeat ((fail_if_success (refine hK _ ?_)); clear hK K)); refine hK _ ?_; clear hK K) | ((first | refine aops_k fun K1 hK1 => ?_ | refine aqops_k fun K1 hK1 => ?_ | refine awp_cond_k fun A B hA hB => ?_); simp only [S1, simprocAttr, TTRuY, rowN hx, hitN hlt, nextN hn hlt, eN, List.length_map]; first | (refine hK1 _ ?_; clear hK1 K1) | ((first | refine hA ?_ | refine hB ?_); clear hA hB A B) | ((first | apply call_a E20 | apply call_q E20); exact (hd _ _); (refine hK1 _ ?_; clear hK1 K1)) | (refine join_x (v := ?_) (fun hg hk9 => ?_) ?_; rotate_left; (focus (try ((try simp only [BN] at hg); simp only [S1, simprocAttr, TTRuY, rowN hx, hitN hlt, nextN hn hlt, eN, List.length_map, hg] at hk9 ⊢)); first | exact hk9 | ((first | apply call_a E20 | apply call_q E20); exact (hd _ _); exact hk9)); (refine hK1 _ ?_; clear hK1 K1)) | (((first | (refine ⟨fun hg => hA ?_, fun hg => hB ?_⟩ <;> clear hA hB A B) | refine ⟨fun hg => ?_, fun hg => ?_⟩) <;> (try simp only [BN2] at hg) <;> (try simp only [hg, cond_true, cond_false])) <;> (try (refine hK1 _ ?_; clear hK1 K1)) <;> (try simp only [BN3] at hg))) | (refine awp_seq_k fun K hK => ?_) | ((first | refine awp_region ?_ | refine awp_draw (by kernel_rfl) ?_ | refine awp_block ?_ | refine awp_exit ?_ | refine awp_skip ?_ | refine awp_ret ?_); (try simp only [NB, simprocAttr])))
        all_goals simp only [EndP, FinP, resA, resL, resA1, lastV, lastA, lastAs, pur, purs, take_app, List.take_length, S1, simprocAttr, TTRuY, Nat.le_add_right, Nat.le_refl]
        all_goals rw [hs]
    obtain rfl : j = ns.length := by omega
    have ef : (ns.map (·.term)).take ns.length = ns.map (·.term) := List.take_of_length_le (by simp)
    have hp0 : (lgS (ns.map (·.term)) 1 1500).1 = false := by have := hp; simp only [m, ef] at this; exact this
    have m0 : m2 0 = m ns.length := by simp only [m, m2, ef, List.take_zero, List.append_nil]
    repeat' (first | ((first | refine aops_nil ?_ | refine aqops_nil ?_); (try simp only [NB])) | ((repeat ((fail_if_success (refine hK _ ?_)); clear hK K)); refine hK _ ?_; clear hK K) | ((first | refine aops_k fun K1 hK1 => ?_ | refine aqops_k fun K1 hK1 => ?_ | refine awp_cond_k fun A B hA hB => ?_); simp only [S1, simprocAttr, TTRuY, endN, List.length_map]; first | (refine hK1 _ ?_; clear hK1 K1) | ((first | refine hA ?_ | refine hB ?_); clear hA hB A B) | (refine join_x (v := ?_) (fun hg hk9 => ?_) ?_; rotate_left; (focus (try ((try simp only [BN] at hg); simp only [S1, simprocAttr, TTRuY, endN, List.length_map, hg] at hk9 ⊢)); first | exact hk9); (refine hK1 _ ?_; clear hK1 K1)) | (((first | (refine ⟨fun hg => hA ?_, fun hg => hB ?_⟩ <;> clear hA hB A B) | refine ⟨fun hg => ?_, fun hg => ?_⟩) <;> (try simp only [BN2] at hg) <;> (try simp only [hg, cond_true, cond_false])) <;> (try (refine hK1 _ ?_; clear hK1 K1)) <;> (try simp only [BN3] at hg))) | (refine awp_seq_k fun K hK => ?_) | ((first | refine awp_region ?_ | refine awp_draw (by kernel_rfl) ?_ | refine awp_block ?_ | refine awp_exit ?_ | refine awp_skip ?_ | refine awp_ret ?_); (try simp only [NB, simprocAttr])))
    refine awp_for fl.length 44 (fun j => [(35, .i j), (34, .i fl.length), (33, .p (.sl (fl.map eF))), (3, .ptr (h.length + 1) 0 0), (1, .ptr h.length 0 0)])
      (fun j => [some ⟨0, cNet ns fl⟩, some ⟨0, [.i (m2 j).2]⟩]) (fun j => (m2 j).1 = false) ?_ (by rw [m0]; exact hp) fun j hj hp K hK => ?_
    · simp only [m0]
      (refine ⟨rfl, (by first | exact ⟨_, rfl⟩ | exact ⟨[], by simp⟩), ?_, ?_⟩ <;> simp only [keeps, avlt, avlts, blksLt, frL, upd_get, S1, simprocAttr, List.length_map, Int.natCast_zero, AV.p.injEq, PV.int.injEq, PV.bool.injEq, PV.sl.injEq] <;> (try and_intros) <;> (try assumption) <;> (try trivial) <;> (try omega))
    rcases Nat.lt_or_ge j fl.length with hlt | hge
    · obtain ⟨k, hx⟩ : ∃ k, fl[j]? = some k := ⟨_, List.getElem?_eq_getElem hlt⟩
      have hx2 : (termsN ns fl)[ns.length + j]? = some k.cond := by
        unfold termsN
        rw [List.getElem?_append_right (by simp)]
        simp [hx]
      have et : ∀ i, i ≤ fl.length → (termsN ns fl).take (ns.length + i) = ns.map (·.term) ++ (fl.map (·.cond)).take i := by
        intro i hi
        unfold termsN
        have : ns.length = (ns.map (·.term)).length := by simp
        rw [this, List.take_length_add_append]
      have hp' : (lgS ((termsN ns fl).take (ns.length + j)) 1 1500).1 = false := by rw [et j hj]; exact hp
      have em2 : (lgS ((termsN ns fl).take (ns.length + j)) 1 1500) = m2 j := by rw [et j hj]
      have hr := lgS_room (l := ns.map (·.term) ++ (fl.map (·.cond)).take j) (d := 1) (n := 1500) (by omega)
      have hd := fun A L => deepL_at (G := G) k.cond (m2 j).2 (hr.2.2 hp) (by have := hr.2.1; show (lgS _ _ _).2 ≤ 3000; omega) h A L
      cases hq : (lgT k.cond 1 (m2 j).2).1 with
      | false =>
        have hs := lgS_take hx2 hp'
        rw [em2] at hs
        have em : m2 (j + 1) = lgT k.cond 1 (m2 j).2 := by
          rw [← hs, Nat.add_assoc, et (j + 1) hlt]
        rw [hq] at hd
        repeat' (first | ((first | refine aops_nil ?_ | refine aqops_nil ?_); (try simp only [NB])) | ((repeat ((fail_if_success (refine hK _ ?_)); clear hK K)); refine hK _ ?_; clear hK K) | ((first | refine aops_k fun K1 hK1 => ?_ | refine aqops_k fun K1 hK1 => ?_ | refine awp_cond_k fun A B hA hB => ?_); simp only [S1, simprocAttr, TTRuY, rowF hx, hitF hlt, nextF hl hlt, eF, List.length_map]; first | (refine hK1 _ ?_; clear hK1 K1) | ((first | refine hA ?_ | refine hB ?_); clear hA hB A B) | ((first | apply call_a E20 | apply call_q E20); exact (hd _ _); (refine hK1 _ ?_; clear hK1 K1)) | (refine join_x (v := ?_) (fun hg hk9 => ?_) ?_; rotate_left; (focus (try ((try simp only [BN] at hg); simp only [S1, simprocAttr, TTRuY, rowF hx, hitF hlt, nextF hl hlt, eF, List.length_map, hg] at hk9 ⊢)); first | exact hk9 | ((first | apply call_a E20 | apply call_q E20); exact (hd _ _); exact hk9)); (refine hK1 _ ?_; clear hK1 K1)) | (((first | (refine ⟨fun hg => hA ?_, fun hg => hB ?_⟩ <;> clear hA hB A B) | refine ⟨fun hg => ?_, fun hg => ?_⟩) <;> (try simp only [BN2] at hg) <;> (try simp only [hg, cond_true, cond_false])) <;> (try (refine hK1 _ ?_; clear hK1 K1)) <;> (try simp only [BN3] at hg))) | (refine awp_seq_k fun K hK => ?_) | ((first | refine awp_region ?_ | refine awp_draw (by kernel_rfl) ?_ | refine awp_block ?_ | refine awp_exit ?_ | refine awp_skip ?_ | refine awp_ret ?_); (try simp only [NB, simprocAttr])))
        refine ⟨hlt, by rw [em]; exact hq, ?_⟩
        rw [em]
        (refine ⟨rfl, (by first | exact ⟨_, rfl⟩ | exact ⟨[], by simp⟩), ?_, ?_⟩ <;> simp only [keeps, avlt, avlts, blksLt, frL, upd_get, S1, simprocAttr, List.length_map, Int.natCast_zero, AV.p.injEq, PV.int.injEq, PV.bool.injEq, PV.sl.injEq] <;> (try and_intros) <;> (try assumption) <;> (try trivial) <;> (try omega))
      | true =>
        have hs : (lgS (termsN ns fl) 1 1500).1 = true := by
          rw [lgS_stop hx2 hp' (by rw [em2]; exact hq), em2]; exact hq
        rw [hq] at hd
        repeat' (first | ((first | refine aops_nil ?_ | refine aqops_nil ?_); (try simp only [NB])) | ((repeat ((fail_if_success (refine hK _ ?_)); clear hK K)); refine hK _ ?_; clear hK K) | ((first | refine aops_k fun K1 hK1 => ?_ | refine aqops_k fun K1 hK1 => ?_ | refine awp_cond_k fun A B hA hB => ?_); simp only [S1, simprocAttr, TTRuY, rowF hx, hitF hlt, nextF hl hlt, eF, List.length_map]; first | (refine hK1 _ ?_; clear hK1 K1) | ((first | refine hA ?_ | refine hB ?_); clear hA hB A B) | ((first | apply call_a E20 | apply call_q E20); exact (hd _ _); (refine hK1 _ ?_; clear hK1 K1)) | (refine join_x (v := ?_) (fun hg hk9 => ?_) ?_; rotate_left; (focus (try ((try simp only [BN] at hg); simp only [S1, simprocAttr, TTRuY, rowF hx, hitF hlt, nextF hl hlt, eF, List.length_map, hg] at hk9 ⊢)); first | exact hk9 | ((first | apply call_a E20 | apply call_q E20); exact (hd _ _); exact hk9)); (refine hK1 _ ?_; clear hK1 K1)) | (((first | (refine ⟨fun hg => hA ?_, fun hg => hB ?_⟩ <;> clear hA hB A B) | refine ⟨fun hg => ?_, fun hg => ?_⟩) <;> (try simp only [BN2] at hg) <;> (try simp only [hg, cond_true, cond_false])) <;> (try (refine hK1 _ ?_; clear hK1 K1)) <;> (try simp only [BN3] at hg))) | (refine awp_seq_k fun K hK => ?_) | ((first | refine awp_region ?_ | refine awp_draw (by kernel_rfl) ?_ | refine awp_block ?_ | refine awp_exit ?_ | refine awp_skip ?_ | refine awp_ret ?_); (try simp only [NB, simprocAttr])))
        all_goals simp only [EndP, FinP, resA, resL, resA1, lastV, lastA, lastAs, pur, purs, take_app, List.take_length, S1, simprocAttr, TTRuY, Nat.le_add_right, Nat.le_refl]
        all_goals rw [hs]
    obtain rfl : j = fl.length := by omega
    have ef2 : (fl.map (·.cond)).take fl.length = fl.map (·.cond) := List.take_of_length_le (by simp)
    have hs : (lgS (termsN ns fl) 1 1500).1 = false := by have := hp; simp only [m2, ef2] at this; exact this
    repeat' (first | ((first | refine aops_nil ?_ | refine aqops_nil ?_); (try simp only [NB])) | ((repeat ((fail_if_success (refine hK _ ?_)); clear hK K)); refine hK _ ?_; clear hK K) | ((first | refine aops_k fun K1 hK1 => ?_ | refine aqops_k fun K1 hK1 => ?_ | refine awp_cond_k fun A B hA hB => ?_); simp only [S1, simprocAttr, TTRuY, endF]; first | (refine hK1 _ ?_; clear hK1 K1) | ((first | refine hA ?_ | refine hB ?_); clear hA hB A B) | (refine join_x (v := ?_) (fun hg hk9 => ?_) ?_; rotate_left; (focus (try ((try simp only [BN] at hg); simp only [S1, simprocAttr, TTRuY, endF, hg] at hk9 ⊢)); first | exact hk9); (refine hK1 _ ?_; clear hK1 K1)) | (((first | (refine ⟨fun hg => hA ?_, fun hg => hB ?_⟩ <;> clear hA hB A B) | refine ⟨fun hg => ?_, fun hg => ?_⟩) <;> (try simp only [BN2] at hg) <;> (try simp only [hg, cond_true, cond_false])) <;> (try (refine hK1 _ ?_; clear hK1 K1)) <;> (try simp only [BN3] at hg))) | (refine awp_seq_k fun K hK => ?_) | ((first | refine awp_region ?_ | refine awp_draw (by kernel_rfl) ?_ | refine awp_block ?_ | refine awp_exit ?_ | refine awp_skip ?_ | refine awp_ret ?_); (try simp only [NB, simprocAttr])))
    all_goals simp only [EndP, FinP, resA, resL, resA1, lastV, lastA, lastAs, pur, purs, take_app, List.take_length, S1, simprocAttr, TTRuY, Nat.le_add_right, Nat.le_refl]
    all_goals rw [hs]
end Go.Proofs.YtjpphhcimpclpaaDoor.AM
end
