/- Proved here, in parts, for one law: Contracts: whether it is a state, as the document tells it. Contracts: all steps of a state, as the document tells them. Contract: all steps of a state, as the document tells them. Contract: whether numbers are within a channel's bounds. Contract: whether it is a state, as the program tells it. Contract: whether it is a state, as the program tells it. Plain: a step of a free rule does what the rule does. Plain: each free rule that goes has its step. Contracts: can a rule be done? Contract: what the document's answer makes of tokens. Contract: what a rule makes of tokens. Contract: the law RuleFree. The law RuleFree at what a row gives. Conditions: none. -/
import Derived.Test.YtjpphhcimpclpaaDoorZRuleFreeE

section
set_option linter.unusedVariables false
set_option linter.unusedSimpArgs false
set_option maxRecDepth 4000
set_option maxHeartbeats 4000000
namespace Go.Proofs.YtjpphhcimpclpaaDoor.AM
open Go Go.Proofs
set_option linter.defProp false in
def TTToJ := And.intro T2 (And.intro T3 (And.intro T4 (And.intro T22 (And.intro T23 (And.intro T25 (And.intro T26 (And.intro T27 (And.intro T39 (And.intro T40 (And.intro T46 (And.intro T58 (And.intro T60 (And.intro T71 T106)))))))))))))
attribute [local irreducible] awp aops aqops aeops arun arunT

def badT (n : Nat) (S : List Int) (i : Nat) : Bool := (decide (tk S i < 0) || decide (3 < tk S i)) || (decide ((n : Int) ≤ (i : Int)) && (tk S i != 0))
def badQ (S : List Int) (i : Nat) : Bool := decide (qAt S i < 0) || decide (3 < qAt S i)
def mdS (S : List Int) : Int := S.getD 48 0
def okS (n : Nat) (S : List Int) : Bool := ((List.range 40).all (fun i => !badT n S i) && (List.range 4).all (fun i => !badQ S i)) && (inV (vS S) && (decide (0 ≤ mdS S) && decide (mdS S ≤ 2)))
noncomputable def stC (ns : List Nd) (fl : List Fl) (S : List Int) : Int := if (netN ns fl).1 ≠ 0 then 4 else if okS fl.length S = true then 0 else 1

theorem at_get {S : List Int} (hS : S.length = 49) {k : Nat} (hk : k < 49) : S[k]? = some (S.getD k 0) := by
  rw [List.getD_eq_getElem?_getD, List.getElem?_eq_getElem (by omega)]; rfl
theorem vS_arr {S : List Int} (hS : S.length = 49) : ((S.map AV.i).drop 40).take 4 = [.p (.int .i64 (vS S 0)), .p (.int .i64 (vS S 1)), .p (.int .i64 (vS S 2)), .p (.int .i64 (vS S 3))] := by
  rw [← List.map_drop, ← List.map_take, vS_cells hS]

theorem stC_badT {ns : List Nd} {fl : List Fl} {S : List Int} (h0 : (netN ns fl).1 = 0) {i : Nat} (hi : i < 40) (hb : badT fl.length S i = true) : stC ns fl S = 1 := by
  unfold stC
  rw [if_neg (by simpa using h0), if_neg]
  intro e
  unfold okS at e
  simp only [Bool.and_eq_true, List.all_eq_true, List.mem_range] at e
  have := e.1.1 i hi
  rw [hb] at this
  cases this
theorem stC_badQ {ns : List Nd} {fl : List Fl} {S : List Int} (h0 : (netN ns fl).1 = 0) {i : Nat} (hi : i < 4) (hb : badQ S i = true) : stC ns fl S = 1 := by
  unfold stC
  rw [if_neg (by simpa using h0), if_neg]
  intro e
  unfold okS at e
  simp only [Bool.and_eq_true, List.all_eq_true, List.mem_range] at e
  have := e.1.2 i hi
  rw [hb] at this
  cases this

theorem next_bad {p : Nat → Bool} {i : Nat} (h : ∀ j, j < i → p j = false) (hi : p i = false) : ∀ j, j < i + 1 → p j = false := by
  intro j hj
  rcases Nat.lt_or_ge j i with h1 | h1
  · exact h j h1
  · obtain rfl : j = i := by omega
    exact hi

theorem rChk_calls {ns : List Nd} {fl : List Fl} (nk : NetOk ns fl) {S : List Int} (hS : S.length = 49) (h : Heap) :
    ACalls Tryd.prog gW 28 [aNet ns fl, aS S] h (fun r h' => r = .i (stC ns fl S) ∧ h' = h) := by
  have hne := ne_is hS
  by_cases h0 : (netN ns fl).1 = 0
  · have h0' : ((netN ns fl).1 != 0) = false := by simp [h0]
    refine acalls_pure (rl := []) mixed Tryd.func28 rfl (rs := [.tmp 4]) rfl Tryd.ntmps28 (by simp) ?_
    repeat' (first | ((first | refine aops_nil ?_ | refine aqops_nil ?_); (try simp only [NB])) | ((repeat ((fail_if_success (refine hK _ ?_)); clear hK K)); refine hK _ ?_; clear hK K) | ((first | refine aops_k fun K1 hK1 => ?_ | refine aqops_k fun K1 hK1 => ?_ | refine awp_cond_k fun A B hA hB => ?_); simp only [S1, simprocAttr, TTToJ, List.length_map, hS, hne, all_scalar, h0']; first | (refine hK1 _ ?_; clear hK1 K1) | ((first | refine hA ?_ | refine hB ?_); clear hA hB A B) | ((first | apply call_a E41 | apply call_q E41); exact (rCheck_calls ns fl nk _); (refine hK1 _ ?_; clear hK1 K1)) | (refine join_x (v := ?_) (fun hg hk9 => ?_) ?_; rotate_left; (focus (try ((try simp only [BN] at hg); simp only [S1, simprocAttr, TTToJ, List.length_map, hS, hne, all_scalar, h0', hg] at hk9 ⊢)); first | exact hk9 | ((first | apply call_a E41 | apply call_q E41); exact (rCheck_calls ns fl nk _); exact hk9)); (refine hK1 _ ?_; clear hK1 K1)) | (((first | (refine ⟨fun hg => hA ?_, fun hg => hB ?_⟩ <;> clear hA hB A B) | refine ⟨fun hg => ?_, fun hg => ?_⟩) <;> (try simp only [BN2] at hg) <;> (try simp only [hg, cond_true, cond_false])) <;> (try (refine hK1 _ ?_; clear hK1 K1)) <;> (try simp only [BN3] at hg))) | (refine awp_seq_k fun K hK => ?_) | ((first | refine awp_region ?_ | refine awp_draw (by kernel_rfl) ?_ | refine awp_block ?_ | refine awp_exit ?_ | refine awp_skip ?_ | refine awp_ret ?_); (try simp only [NB, simprocAttr])))
    refine awp_for 40 71 (fun i => [(5, .i i), (3, .ptr (h.length + 1) 0 0), (2, .ptr h.length 0 0)]) (fun i => [some ⟨0, [.p (.sl (ns.map eN)), .p (.sl (fl.map eF))]⟩, some ⟨0, S.map AV.i⟩]) (fun i => ∀ j, j < i → badT fl.length S j = false) ?_ (fun j hj => absurd hj (Nat.not_lt_zero _)) fun i hi hp K hK => ?_
    · refine ⟨rfl, ⟨[], by simp only [List.append_nil]⟩, ?_, ⟨trivial, trivial, trivial⟩, avlts_is _ _, trivial⟩
      simp only [keeps, avlt, avlts, blksLt, frL, upd_get, S1, simprocAttr, List.length_map, Int.natCast_zero, AV.p.injEq, PV.int.injEq, PV.bool.injEq, PV.sl.injEq] <;> (try and_intros) <;> (try assumption) <;> (try trivial) <;> (try omega)
    rcases Nat.lt_or_ge i 40 with hlt | hge
    · have i0 : (0 : Int) ≤ (i : Int) := by omega
      have i40 : (i : Int) < 40 := by omega
      have hx : S[i]? = some (tk S i) := at_get hS (by omega)
      have dr := dropI hx
      have ebt : badT fl.length S i = ((decide (tk S i < 0) || decide (3 < tk S i)) || (decide ((fl.length : Int) ≤ (i : Int)) && (tk S i != 0))) := rfl
      generalize tk S (i : Int) = v at *
      cases f1 : decide (v < 0) with
      | true =>
        have hbad : badT fl.length S i = true := by rw [ebt, f1]; rfl
        repeat' (first | ((first | refine aops_nil ?_ | refine aqops_nil ?_); (try simp only [NB])) | ((repeat ((fail_if_success (refine hK _ ?_)); clear hK K)); refine hK _ ?_; clear hK K) | ((first | refine aops_k fun K1 hK1 => ?_ | refine aqops_k fun K1 hK1 => ?_ | refine awp_cond_k fun A B hA hB => ?_); simp only [S1, simprocAttr, TTToJ, hit40 hlt rfl, i0, i40, dr, f1, hne, hS, all_scalar, takeA_arr, takeA_st, List.length_map, List.length_take, List.length_drop, Nat.mul_one, Nat.zero_add, Nat.add_zero, Int.toNat_natCast]; first | (refine hK1 _ ?_; clear hK1 K1) | ((first | refine hA ?_ | refine hB ?_); clear hA hB A B) | (refine join_x (v := ?_) (fun hg hk9 => ?_) ?_; rotate_left; (focus (try ((try simp only [BN] at hg); simp only [S1, simprocAttr, TTToJ, hit40 hlt rfl, i0, i40, dr, f1, hne, hS, all_scalar, takeA_arr, takeA_st, List.length_map, List.length_take, List.length_drop, Nat.mul_one, Nat.zero_add, Nat.add_zero, Int.toNat_natCast, hg] at hk9 ⊢)); first | exact hk9); (refine hK1 _ ?_; clear hK1 K1)) | (((first | (refine ⟨fun hg => hA ?_, fun hg => hB ?_⟩ <;> clear hA hB A B) | refine ⟨fun hg => ?_, fun hg => ?_⟩) <;> (try simp only [BN2] at hg) <;> (try simp only [hg, cond_true, cond_false])) <;> (try (refine hK1 _ ?_; clear hK1 K1)) <;> (try simp only [BN3] at hg))) | (refine awp_seq_k fun K hK => ?_) | ((first | refine awp_region ?_ | refine awp_draw (by kernel_rfl) ?_ | refine awp_block ?_ | refine awp_exit ?_ | refine awp_skip ?_ | refine awp_ret ?_); (try simp only [NB, simprocAttr])))
        all_goals simp only [EndP, FinP, resA, resL, resA1, lastV, lastA, lastAs, pur, purs, take_app, List.take_length, S1, simprocAttr, TTToJ, Nat.le_add_right, Nat.le_refl]
        all_goals rw [stC_badT h0 hlt hbad]
      | false =>
      cases f2 : decide (3 < v) with
      | true =>
        have hbad : badT fl.length S i = true := by rw [ebt, f1, f2]; rfl
        repeat' (first | ((first | refine aops_nil ?_ | refine aqops_nil ?_); (try simp only [NB])) | ((repeat ((fail_if_success (refine hK _ ?_)); clear hK K)); refine hK _ ?_; clear hK K) | ((first | refine aops_k fun K1 hK1 => ?_ | refine aqops_k fun K1 hK1 => ?_ | refine awp_cond_k fun A B hA hB => ?_); simp only [S1, simprocAttr, TTToJ, hit40 hlt rfl, i0, i40, dr, f1, f2, hne, hS, all_scalar, takeA_arr, takeA_st, List.length_map, List.length_take, List.length_drop, Nat.mul_one, Nat.zero_add, Nat.add_zero, Int.toNat_natCast]; first | (refine hK1 _ ?_; clear hK1 K1) | ((first | refine hA ?_ | refine hB ?_); clear hA hB A B) | (refine join_x (v := ?_) (fun hg hk9 => ?_) ?_; rotate_left; (focus (try ((try simp only [BN] at hg); simp only [S1, simprocAttr, TTToJ, hit40 hlt rfl, i0, i40, dr, f1, f2, hne, hS, all_scalar, takeA_arr, takeA_st, List.length_map, List.length_take, List.length_drop, Nat.mul_one, Nat.zero_add, Nat.add_zero, Int.toNat_natCast, hg] at hk9 ⊢)); first | exact hk9); (refine hK1 _ ?_; clear hK1 K1)) | (((first | (refine ⟨fun hg => hA ?_, fun hg => hB ?_⟩ <;> clear hA hB A B) | refine ⟨fun hg => ?_, fun hg => ?_⟩) <;> (try simp only [BN2] at hg) <;> (try simp only [hg, cond_true, cond_false])) <;> (try (refine hK1 _ ?_; clear hK1 K1)) <;> (try simp only [BN3] at hg))) | (refine awp_seq_k fun K hK => ?_) | ((first | refine awp_region ?_ | refine awp_draw (by kernel_rfl) ?_ | refine awp_block ?_ | refine awp_exit ?_ | refine awp_skip ?_ | refine awp_ret ?_); (try simp only [NB, simprocAttr])))
        all_goals simp only [EndP, FinP, resA, resL, resA1, lastV, lastA, lastAs, pur, purs, take_app, List.take_length, S1, simprocAttr, TTToJ, Nat.le_add_right, Nat.le_refl]
        all_goals rw [stC_badT h0 hlt hbad]
      | false =>
      cases f3 : decide ((fl.length : Int) ≤ (i : Int)) with
      | false =>
        have hbad : badT fl.length S i = false := by rw [ebt, f1, f2, f3]; rfl
        repeat' (first | ((first | refine aops_nil ?_ | refine aqops_nil ?_); (try simp only [NB])) | ((repeat ((fail_if_success (refine hK _ ?_)); clear hK K)); refine hK _ ?_; clear hK K) | ((first | refine aops_k fun K1 hK1 => ?_ | refine aqops_k fun K1 hK1 => ?_ | refine awp_cond_k fun A B hA hB => ?_); simp only [S1, simprocAttr, TTToJ, hit40 hlt rfl, next40 (n := 40) (by omega) hlt, i0, i40, dr, f1, f2, f3, hne, hS, all_scalar, takeA_arr, takeA_st, List.length_map, List.length_take, List.length_drop, Nat.mul_one, Nat.zero_add, Nat.add_zero, Int.toNat_natCast]; first | (refine hK1 _ ?_; clear hK1 K1) | ((first | refine hA ?_ | refine hB ?_); clear hA hB A B) | (refine join_x (v := ?_) (fun hg hk9 => ?_) ?_; rotate_left; (focus (try ((try simp only [BN] at hg); simp only [S1, simprocAttr, TTToJ, hit40 hlt rfl, next40 (n := 40) (by omega) hlt, i0, i40, dr, f1, f2, f3, hne, hS, all_scalar, takeA_arr, takeA_st, List.length_map, List.length_take, List.length_drop, Nat.mul_one, Nat.zero_add, Nat.add_zero, Int.toNat_natCast, hg] at hk9 ⊢)); first | exact hk9); (refine hK1 _ ?_; clear hK1 K1)) | (((first | (refine ⟨fun hg => hA ?_, fun hg => hB ?_⟩ <;> clear hA hB A B) | refine ⟨fun hg => ?_, fun hg => ?_⟩) <;> (try simp only [BN2] at hg) <;> (try simp only [hg, cond_true, cond_false])) <;> (try (refine hK1 _ ?_; clear hK1 K1)) <;> (try simp only [BN3] at hg))) | (refine awp_seq_k fun K hK => ?_) | ((first | refine awp_region ?_ | refine awp_draw (by kernel_rfl) ?_ | refine awp_block ?_ | refine awp_exit ?_ | refine awp_skip ?_ | refine awp_ret ?_); (try simp only [NB, simprocAttr])))
        all_goals refine ⟨hlt, next_bad hp hbad, ?_⟩
        all_goals refine ⟨rfl, ⟨[], by simp only [List.append_nil]⟩, ?_, ⟨trivial, trivial, trivial⟩, avlts_is _ _, trivial⟩
        all_goals simp only [keeps, avlt, avlts, blksLt, frL, upd_get, S1, simprocAttr, List.length_map, Int.natCast_zero, AV.p.injEq, PV.int.injEq, PV.bool.injEq, PV.sl.injEq] <;> (try and_intros) <;> (try assumption) <;> (try trivial) <;> (try omega)
      | true =>
      cases f4 : (v != 0) with
      | true =>
        have hbad : badT fl.length S i = true := by rw [ebt, f1, f2, f3, f4]; rfl
        repeat' (first | ((first | refine aops_nil ?_ | refine aqops_nil ?_); (try simp only [NB])) | ((repeat ((fail_if_success (refine hK _ ?_)); clear hK K)); refine hK _ ?_; clear hK K) | ((first | refine aops_k fun K1 hK1 => ?_ | refine aqops_k fun K1 hK1 => ?_ | refine awp_cond_k fun A B hA hB => ?_); simp only [S1, simprocAttr, TTToJ, hit40 hlt rfl, i0, i40, dr, f1, f2, f3, f4, hne, hS, all_scalar, takeA_arr, takeA_st, List.length_map, List.length_take, List.length_drop, Nat.mul_one, Nat.zero_add, Nat.add_zero, Int.toNat_natCast]; first | (refine hK1 _ ?_; clear hK1 K1) | ((first | refine hA ?_ | refine hB ?_); clear hA hB A B) | (refine join_x (v := ?_) (fun hg hk9 => ?_) ?_; rotate_left; (focus (try ((try simp only [BN] at hg); simp only [S1, simprocAttr, TTToJ, hit40 hlt rfl, i0, i40, dr, f1, f2, f3, f4, hne, hS, all_scalar, takeA_arr, takeA_st, List.length_map, List.length_take, List.length_drop, Nat.mul_one, Nat.zero_add, Nat.add_zero, Int.toNat_natCast, hg] at hk9 ⊢)); first | exact hk9); (refine hK1 _ ?_; clear hK1 K1)) | (((first | (refine ⟨fun hg => hA ?_, fun hg => hB ?_⟩ <;> clear hA hB A B) | refine ⟨fun hg => ?_, fun hg => ?_⟩) <;> (try simp only [BN2] at hg) <;> (try simp only [hg, cond_true, cond_false])) <;> (try (refine hK1 _ ?_; clear hK1 K1)) <;> (try simp only [BN3] at hg))) | (refine awp_seq_k fun K hK => ?_) | ((first | refine awp_region ?_ | refine awp_draw (by kernel_rfl) ?_ | refine awp_block ?_ | refine awp_exit ?_ | refine awp_skip ?_ | refine awp_ret ?_); (try simp only [NB, simprocAttr])))
        all_goals simp only [EndP, FinP, resA, resL, resA1, lastV, lastA, lastAs, pur, purs, take_app, List.take_length, S1, simprocAttr, TTToJ, Nat.le_add_right, Nat.le_refl]
        all_goals rw [stC_badT h0 hlt hbad]
      | false =>
        have hbad : badT fl.length S i = false := by rw [ebt, f1, f2, f3, f4]; rfl
        repeat' (first | ((first | refine aops_nil ?_ | refine aqops_nil ?_); (try simp only [NB])) | ((repeat ((fail_if_success (refine hK _ ?_)); clear hK K)); refine hK _ ?_; clear hK K) | ((first | refine aops_k fun K1 hK1 => ?_ | refine aqops_k fun K1 hK1 => ?_ | refine awp_cond_k fun A B hA hB => ?_); simp only [S1, simprocAttr, TTToJ, hit40 hlt rfl, next40 (n := 40) (by omega) hlt, i0, i40, dr, f1, f2, f3, f4, hne, hS, all_scalar, takeA_arr, takeA_st, List.length_map, List.length_take, List.length_drop, Nat.mul_one, Nat.zero_add, Nat.add_zero, Int.toNat_natCast]; first | (refine hK1 _ ?_; clear hK1 K1) | ((first | refine hA ?_ | refine hB ?_); clear hA hB A B) | (refine join_x (v := ?_) (fun hg hk9 => ?_) ?_; rotate_left; (focus (try ((try simp only [BN] at hg); simp only [S1, simprocAttr, TTToJ, hit40 hlt rfl, next40 (n := 40) (by omega) hlt, i0, i40, dr, f1, f2, f3, f4, hne, hS, all_scalar, takeA_arr, takeA_st, List.length_map, List.length_take, List.length_drop, Nat.mul_one, Nat.zero_add, Nat.add_zero, Int.toNat_natCast, hg] at hk9 ⊢)); first | exact hk9); (refine hK1 _ ?_; clear hK1 K1)) | (((first | (refine ⟨fun hg => hA ?_, fun hg => hB ?_⟩ <;> clear hA hB A B) | refine ⟨fun hg => ?_, fun hg => ?_⟩) <;> (try simp only [BN2] at hg) <;> (try simp only [hg, cond_true, cond_false])) <;> (try (refine hK1 _ ?_; clear hK1 K1)) <;> (try simp only [BN3] at hg))) | (refine awp_seq_k fun K hK => ?_) | ((first | refine awp_region ?_ | refine awp_draw (by kernel_rfl) ?_ | refine awp_block ?_ | refine awp_exit ?_ | refine awp_skip ?_ | refine awp_ret ?_); (try simp only [NB, simprocAttr])))
        all_goals refine ⟨hlt, next_bad hp hbad, ?_⟩
        all_goals refine ⟨rfl, ⟨[], by simp only [List.append_nil]⟩, ?_, ⟨trivial, trivial, trivial⟩, avlts_is _ _, trivial⟩
        all_goals simp only [keeps, avlt, avlts, blksLt, frL, upd_get, S1, simprocAttr, List.length_map, Int.natCast_zero, AV.p.injEq, PV.int.injEq, PV.bool.injEq, PV.sl.injEq] <;> (try and_intros) <;> (try assumption) <;> (try trivial) <;> (try omega)
    obtain rfl : i = 40 := by omega
    have hpT := hp
    repeat' (first | ((first | refine aops_nil ?_ | refine aqops_nil ?_); (try simp only [NB])) | ((repeat ((fail_if_success (refine hK _ ?_)); clear hK K)); refine hK _ ?_; clear hK K) | ((first | refine aops_k fun K1 hK1 => ?_ | refine aqops_k fun K1 hK1 => ?_ | refine awp_cond_k fun A B hA hB => ?_); simp only [S1, simprocAttr, TTToJ]; first | (refine hK1 _ ?_; clear hK1 K1) | ((first | refine hA ?_ | refine hB ?_); clear hA hB A B) | (refine join_x (v := ?_) (fun hg hk9 => ?_) ?_; rotate_left; (focus (try ((try simp only [BN] at hg); simp only [S1, simprocAttr, TTToJ, hg] at hk9 ⊢)); first | exact hk9); (refine hK1 _ ?_; clear hK1 K1)) | (((first | (refine ⟨fun hg => hA ?_, fun hg => hB ?_⟩ <;> clear hA hB A B) | refine ⟨fun hg => ?_, fun hg => ?_⟩) <;> (try simp only [BN2] at hg) <;> (try simp only [hg, cond_true, cond_false])) <;> (try (refine hK1 _ ?_; clear hK1 K1)) <;> (try simp only [BN3] at hg))) | (refine awp_seq_k fun K hK => ?_) | ((first | refine awp_region ?_ | refine awp_draw (by kernel_rfl) ?_ | refine awp_block ?_ | refine awp_exit ?_ | refine awp_skip ?_ | refine awp_ret ?_); (try simp only [NB, simprocAttr])))
    refine awp_for 4 71 (fun i => [(6, .i i), (3, .ptr (h.length + 1) 0 0), (2, .ptr h.length 0 0)]) (fun i => [some ⟨0, [.p (.sl (ns.map eN)), .p (.sl (fl.map eF))]⟩, some ⟨0, S.map AV.i⟩]) (fun i => ∀ j, j < i → badQ S j = false) ?_ (fun j hj => absurd hj (Nat.not_lt_zero _)) fun i hi hp K hK => ?_
    · refine ⟨rfl, ⟨[], by simp only [List.append_nil]⟩, ?_, ⟨trivial, trivial, trivial⟩, avlts_is _ _, trivial⟩
      simp only [keeps, avlt, avlts, blksLt, frL, upd_get, S1, simprocAttr, List.length_map, Int.natCast_zero, AV.p.injEq, PV.int.injEq, PV.bool.injEq, PV.sl.injEq] <;> (try and_intros) <;> (try assumption) <;> (try trivial) <;> (try omega)
    rcases Nat.lt_or_ge i 4 with hlt | hge
    · have i0 : (0 : Int) ≤ (i : Int) := by omega
      have i4 : (i : Int) < 4 := by omega
      have hx : S[44 + i]? = some (qAt S i) := at_get hS (by omega)
      have dr := dropI hx
      have ebt : badQ S i = (decide (qAt S i < 0) || decide (3 < qAt S i)) := rfl
      generalize qAt S (i : Int) = v at *
      cases f1 : decide (v < 0) with
      | true =>
        have hbad : badQ S i = true := by rw [ebt, f1]; rfl
        repeat' (first | ((first | refine aops_nil ?_ | refine aqops_nil ?_); (try simp only [NB])) | ((repeat ((fail_if_success (refine hK _ ?_)); clear hK K)); refine hK _ ?_; clear hK K) | ((first | refine aops_k fun K1 hK1 => ?_ | refine aqops_k fun K1 hK1 => ?_ | refine awp_cond_k fun A B hA hB => ?_); simp only [S1, simprocAttr, TTToJ, hit40 hlt rfl, i0, i4, dr, f1, hne, hS, all_scalar, takeA_arr, takeA_st, List.length_map, List.length_take, List.length_drop, Nat.mul_one, Nat.zero_add, Nat.add_zero, Int.toNat_natCast]; first | (refine hK1 _ ?_; clear hK1 K1) | ((first | refine hA ?_ | refine hB ?_); clear hA hB A B) | (refine join_x (v := ?_) (fun hg hk9 => ?_) ?_; rotate_left; (focus (try ((try simp only [BN] at hg); simp only [S1, simprocAttr, TTToJ, hit40 hlt rfl, i0, i4, dr, f1, hne, hS, all_scalar, takeA_arr, takeA_st, List.length_map, List.length_take, List.length_drop, Nat.mul_one, Nat.zero_add, Nat.add_zero, Int.toNat_natCast, hg] at hk9 ⊢)); first | exact hk9); (refine hK1 _ ?_; clear hK1 K1)) | (((first | (refine ⟨fun hg => hA ?_, fun hg => hB ?_⟩ <;> clear hA hB A B) | refine ⟨fun hg => ?_, fun hg => ?_⟩) <;> (try simp only [BN2] at hg) <;> (try simp only [hg, cond_true, cond_false])) <;> (try (refine hK1 _ ?_; clear hK1 K1)) <;> (try simp only [BN3] at hg))) | (refine awp_seq_k fun K hK => ?_) | ((first | refine awp_region ?_ | refine awp_draw (by kernel_rfl) ?_ | refine awp_block ?_ | refine awp_exit ?_ | refine awp_skip ?_ | refine awp_ret ?_); (try simp only [NB, simprocAttr])))
        all_goals simp only [EndP, FinP, resA, resL, resA1, lastV, lastA, lastAs, pur, purs, take_app, List.take_length, S1, simprocAttr, TTToJ, Nat.le_add_right, Nat.le_refl]
        all_goals rw [stC_badQ h0 hlt hbad]
      | false =>
      cases f2 : decide (3 < v) with
      | true =>
        have hbad : badQ S i = true := by rw [ebt, f1, f2]; rfl
        repeat' (first | ((first | refine aops_nil ?_ | refine aqops_nil ?_); (try simp only [NB])) | ((repeat ((fail_if_success (refine hK _ ?_)); clear hK K)); refine hK _ ?_; clear hK K) | ((first | refine aops_k fun K1 hK1 => ?_ | refine aqops_k fun K1 hK1 => ?_ | refine awp_cond_k fun A B hA hB => ?_); simp only [S1, simprocAttr, TTToJ, hit40 hlt rfl, i0, i4, dr, f1, f2, hne, hS, all_scalar, takeA_arr, takeA_st, List.length_map, List.length_take, List.length_drop, Nat.mul_one, Nat.zero_add, Nat.add_zero, Int.toNat_natCast]; first | (refine hK1 _ ?_; clear hK1 K1) | ((first | refine hA ?_ | refine hB ?_); clear hA hB A B) | (refine join_x (v := ?_) (fun hg hk9 => ?_) ?_; rotate_left; (focus (try ((try simp only [BN] at hg); simp only [S1, simprocAttr, TTToJ, hit40 hlt rfl, i0, i4, dr, f1, f2, hne, hS, all_scalar, takeA_arr, takeA_st, List.length_map, List.length_take, List.length_drop, Nat.mul_one, Nat.zero_add, Nat.add_zero, Int.toNat_natCast, hg] at hk9 ⊢)); first | exact hk9); (refine hK1 _ ?_; clear hK1 K1)) | (((first | (refine ⟨fun hg => hA ?_, fun hg => hB ?_⟩ <;> clear hA hB A B) | refine ⟨fun hg => ?_, fun hg => ?_⟩) <;> (try simp only [BN2] at hg) <;> (try simp only [hg, cond_true, cond_false])) <;> (try (refine hK1 _ ?_; clear hK1 K1)) <;> (try simp only [BN3] at hg))) | (refine awp_seq_k fun K hK => ?_) | ((first | refine awp_region ?_ | refine awp_draw (by kernel_rfl) ?_ | refine awp_block ?_ | refine awp_exit ?_ | refine awp_skip ?_ | refine awp_ret ?_); (try simp only [NB, simprocAttr])))
        all_goals simp only [EndP, FinP, resA, resL, resA1, lastV, lastA, lastAs, pur, purs, take_app, List.take_length, S1, simprocAttr, TTToJ, Nat.le_add_right, Nat.le_refl]
        all_goals rw [stC_badQ h0 hlt hbad]
      | false =>
        have hbad : badQ S i = false := by rw [ebt, f1, f2]; rfl
        repeat' (first | ((first | refine aops_nil ?_ | refine aqops_nil ?_); (try simp only [NB])) | ((repeat ((fail_if_success (refine hK _ ?_)); clear hK K)); refine hK _ ?_; clear hK K) | ((first | refine aops_k fun K1 hK1 => ?_ | refine aqops_k fun K1 hK1 => ?_ | refine awp_cond_k fun A B hA hB => ?_); simp only [S1, simprocAttr, TTToJ, hit40 hlt rfl, next40 (n := 4) (by omega) hlt, i0, i4, dr, f1, f2, hne, hS, all_scalar, takeA_arr, takeA_st, List.length_map, List.length_take, List.length_drop, Nat.mul_one, Nat.zero_add, Nat.add_zero, Int.toNat_natCast]; first | (refine hK1 _ ?_; clear hK1 K1) | ((first | refine hA ?_ | refine hB ?_); clear hA hB A B) | (refine join_x (v := ?_) (fun hg hk9 => ?_) ?_; rotate_left; (focus (try ((try simp only [BN] at hg); simp only [S1, simprocAttr, TTToJ, hit40 hlt rfl, next40 (n := 4) (by omega) hlt, i0, i4, dr, f1, f2, hne, hS, all_scalar, takeA_arr, takeA_st, List.length_map, List.length_take, List.length_drop, Nat.mul_one, Nat.zero_add, Nat.add_zero, Int.toNat_natCast, hg] at hk9 ⊢)); first | exact hk9); (refine hK1 _ ?_; clear hK1 K1)) | (((first | (refine ⟨fun hg => hA ?_, fun hg => hB ?_⟩ <;> clear hA hB A B) | refine ⟨fun hg => ?_, fun hg => ?_⟩) <;> (try simp only [BN2] at hg) <;> (try simp only [hg, cond_true, cond_false])) <;> (try (refine hK1 _ ?_; clear hK1 K1)) <;> (try simp only [BN3] at hg))) | (refine awp_seq_k fun K hK => ?_) | ((first | refine awp_region ?_ | refine awp_draw (by kernel_rfl) ?_ | refine awp_block ?_ | refine awp_exit ?_ | refine awp_skip ?_ | refine awp_ret ?_); (try simp only [NB, simprocAttr])))
        all_goals refine ⟨hlt, next_bad hp hbad, ?_⟩
        all_goals refine ⟨rfl, ⟨[], by simp only [List.append_nil]⟩, ?_, ⟨trivial, trivial, trivial⟩, avlts_is _ _, trivial⟩
        all_goals simp only [keeps, avlt, avlts, blksLt, frL, upd_get, S1, simprocAttr, List.length_map, Int.natCast_zero, AV.p.injEq, PV.int.injEq, PV.bool.injEq, PV.sl.injEq] <;> (try and_intros) <;> (try assumption) <;> (try trivial) <;> (try omega)
    obtain rfl : i = 4 := by omega
    have ar := vS_arr hS
    have dm := dropI (at_get hS (k := 48) (by omega))
    have hok : okS fl.length S = (inV (vS S) && (decide (0 ≤ mdS S) && decide (mdS S ≤ 2))) := by
      have a1 : (List.range 40).all (fun i => !badT fl.length S i) = true := by
        rw [List.all_eq_true]; intro j hj; rw [hpT j (List.mem_range.mp hj)]; rfl
      have a2 : (List.range 4).all (fun i => !badQ S i) = true := by
        rw [List.all_eq_true]; intro j hj; rw [hp j (List.mem_range.mp hj)]; rfl
      unfold okS; rw [a1, a2]; rfl
    have hst : stC ns fl S = if (inV (vS S) && (decide (0 ≤ mdS S) && decide (mdS S ≤ 2))) = true then 0 else 1 := by
      unfold stC; rw [if_neg (by simpa using h0), hok]
    have emd : S.getD 48 0 = mdS S := rfl
    rw [emd] at dm
    have hf4 := fun h => fits4_calls (G := gW) (vS S) h
    generalize mdS S = v at *
    cases f1 : inV (vS S) with
    | false =>
      rw [f1] at hst hf4
      repeat' (first | ((first | refine aops_nil ?_ | refine aqops_nil ?_); (try simp only [NB])) | ((repeat ((fail_if_success (refine hK _ ?_)); clear hK K)); refine hK _ ?_; clear hK K) | ((first | refine aops_k fun K1 hK1 => ?_ | refine aqops_k fun K1 hK1 => ?_ | refine awp_cond_k fun A B hA hB => ?_); simp only [S1, simprocAttr, TTToJ, ar, dm, hne, hS, all_scalar, takeA_arr, takeA_st, List.length_map, List.length_take, List.length_drop, Nat.mul_one, Nat.zero_add, Nat.add_zero, Int.toNat_natCast]; first | (refine hK1 _ ?_; clear hK1 K1) | ((first | refine hA ?_ | refine hB ?_); clear hA hB A B) | ((first | apply call_a E42 | apply call_q E42); exact (hf4 _); (refine hK1 _ ?_; clear hK1 K1)) | (refine join_x (v := ?_) (fun hg hk9 => ?_) ?_; rotate_left; (focus (try ((try simp only [BN] at hg); simp only [S1, simprocAttr, TTToJ, ar, dm, hne, hS, all_scalar, takeA_arr, takeA_st, List.length_map, List.length_take, List.length_drop, Nat.mul_one, Nat.zero_add, Nat.add_zero, Int.toNat_natCast, hg] at hk9 ⊢)); first | exact hk9 | ((first | apply call_a E42 | apply call_q E42); exact (hf4 _); exact hk9)); (refine hK1 _ ?_; clear hK1 K1)) | (((first | (refine ⟨fun hg => hA ?_, fun hg => hB ?_⟩ <;> clear hA hB A B) | refine ⟨fun hg => ?_, fun hg => ?_⟩) <;> (try simp only [BN2] at hg) <;> (try simp only [hg, cond_true, cond_false])) <;> (try (refine hK1 _ ?_; clear hK1 K1)) <;> (try simp only [BN3] at hg))) | (refine awp_seq_k fun K hK => ?_) | ((first | refine awp_region ?_ | refine awp_draw (by kernel_rfl) ?_ | refine awp_block ?_ | refine awp_exit ?_ | refine awp_skip ?_ | refine awp_ret ?_); (try simp only [NB, simprocAttr])))
      all_goals simp only [EndP, FinP, resA, resL, resA1, lastV, lastA, lastAs, pur, purs, take_app, List.take_length, S1, simprocAttr, TTToJ, Nat.le_add_right, Nat.le_refl]
      all_goals rw [hst]; rfl
    | true =>
    rw [f1] at hst hf4
    by_cases h1 : v < 0
    · have f2 : decide (v < 0) = true := decide_eq_true h1
      have f3 : decide (0 ≤ v) = false := decide_eq_false (by omega)
      rw [f3] at hst
      repeat' (first | ((first | refine aops_nil ?_ | refine aqops_nil ?_); (try simp only [NB])) | ((repeat ((fail_if_success (refine hK _ ?_)); clear hK K)); refine hK _ ?_; clear hK K) | ((first | refine aops_k fun K1 hK1 => ?_ | refine aqops_k fun K1 hK1 => ?_ | refine awp_cond_k fun A B hA hB => ?_); simp only [S1, simprocAttr, TTToJ, ar, dm, f2, hne, hS, all_scalar, takeA_arr, takeA_st, List.length_map, List.length_take, List.length_drop, Nat.mul_one, Nat.zero_add, Nat.add_zero, Int.toNat_natCast]; first | (refine hK1 _ ?_; clear hK1 K1) | ((first | refine hA ?_ | refine hB ?_); clear hA hB A B) | ((first | apply call_a E42 | apply call_q E42); exact (hf4 _); (refine hK1 _ ?_; clear hK1 K1)) | (refine join_x (v := ?_) (fun hg hk9 => ?_) ?_; rotate_left; (focus (try ((try simp only [BN] at hg); simp only [S1, simprocAttr, TTToJ, ar, dm, f2, hne, hS, all_scalar, takeA_arr, takeA_st, List.length_map, List.length_take, List.length_drop, Nat.mul_one, Nat.zero_add, Nat.add_zero, Int.toNat_natCast, hg] at hk9 ⊢)); first | exact hk9 | ((first | apply call_a E42 | apply call_q E42); exact (hf4 _); exact hk9)); (refine hK1 _ ?_; clear hK1 K1)) | (((first | (refine ⟨fun hg => hA ?_, fun hg => hB ?_⟩ <;> clear hA hB A B) | refine ⟨fun hg => ?_, fun hg => ?_⟩) <;> (try simp only [BN2] at hg) <;> (try simp only [hg, cond_true, cond_false])) <;> (try (refine hK1 _ ?_; clear hK1 K1)) <;> (try simp only [BN3] at hg))) | (refine awp_seq_k fun K hK => ?_) | ((first | refine awp_region ?_ | refine awp_draw (by kernel_rfl) ?_ | refine awp_block ?_ | refine awp_exit ?_ | refine awp_skip ?_ | refine awp_ret ?_); (try simp only [NB, simprocAttr])))
      all_goals simp only [EndP, FinP, resA, resL, resA1, lastV, lastA, lastAs, pur, purs, take_app, List.take_length, S1, simprocAttr, TTToJ, Nat.le_add_right, Nat.le_refl]
      all_goals rw [hst]; rfl
    · have f2 : decide (v < 0) = false := decide_eq_false h1
      have f3 : decide (0 ≤ v) = true := decide_eq_true (by omega)
      by_cases h2 : 2 < v
      · have f4 : decide (2 < v) = true := decide_eq_true h2
        have f5 : decide (v ≤ 2) = false := decide_eq_false (by omega)
        rw [f3, f5] at hst
        repeat' (first | ((first | refine aops_nil ?_ | refine aqops_nil ?_); (try simp only [NB])) | ((repeat ((fail_if_success (refine hK _ ?_)); clear hK K)); refine hK _ ?_; clear hK K) | ((first | refine aops_k fun K1 hK1 => ?_ | refine aqops_k fun K1 hK1 => ?_ | refine awp_cond_k fun A B hA hB => ?_); simp only [S1, simprocAttr, TTToJ, ar, dm, f2, f4, hne, hS, all_scalar, takeA_arr, takeA_st, List.length_map, List.length_take, List.length_drop, Nat.mul_one, Nat.zero_add, Nat.add_zero, Int.toNat_natCast]; first | (refine hK1 _ ?_; clear hK1 K1) | ((first | refine hA ?_ | refine hB ?_); clear hA hB A B) | ((first | apply call_a E42 | apply call_q E42); exact (hf4 _); (refine hK1 _ ?_; clear hK1 K1)) | (refine join_x (v := ?_) (fun hg hk9 => ?_) ?_; rotate_left; (focus (try ((try simp only [BN] at hg); simp only [S1, simprocAttr, TTToJ, ar, dm, f2, f4, hne, hS, all_scalar, takeA_arr, takeA_st, List.length_map, List.length_take, List.length_drop, Nat.mul_one, Nat.zero_add, Nat.add_zero, Int.toNat_natCast, hg] at hk9 ⊢)); first | exact hk9 | ((first | apply call_a E42 | apply call_q E42); exact (hf4 _); exact hk9)); (refine hK1 _ ?_; clear hK1 K1)) | (((first | (refine ⟨fun hg => hA ?_, fun hg => hB ?_⟩ <;> clear hA hB A B) | refine ⟨fun hg => ?_, fun hg => ?_⟩) <;> (try simp only [BN2] at hg) <;> (try simp only [hg, cond_true, cond_false])) <;> (try (refine hK1 _ ?_; clear hK1 K1)) <;> (try simp only [BN3] at hg))) | (refine awp_seq_k fun K hK => ?_) | ((first | refine awp_region ?_ | refine awp_draw (by kernel_rfl) ?_ | refine awp_block ?_ | refine awp_exit ?_ | refine awp_skip ?_ | refine awp_ret ?_); (try simp only [NB, simprocAttr])))
        all_goals simp only [EndP, FinP, resA, resL, resA1, lastV, lastA, lastAs, pur, purs, take_app, List.take_length, S1, simprocAttr, TTToJ, Nat.le_add_right, Nat.le_refl]
        all_goals rw [hst]; rfl
      · have f4 : decide (2 < v) = false := decide_eq_false h2
        have f5 : decide (v ≤ 2) = true := decide_eq_true (by omega)
        rw [f3, f5] at hst
        repeat' (first | ((first | refine aops_nil ?_ | refine aqops_nil ?_); (try simp only [NB])) | ((repeat ((fail_if_success (refine hK _ ?_)); clear hK K)); refine hK _ ?_; clear hK K) | ((first | refine aops_k fun K1 hK1 => ?_ | refine aqops_k fun K1 hK1 => ?_ | refine awp_cond_k fun A B hA hB => ?_); simp only [S1, simprocAttr, TTToJ, ar, dm, f2, f4, hne, hS, all_scalar, takeA_arr, takeA_st, List.length_map, List.length_take, List.length_drop, Nat.mul_one, Nat.zero_add, Nat.add_zero, Int.toNat_natCast]; first | (refine hK1 _ ?_; clear hK1 K1) | ((first | refine hA ?_ | refine hB ?_); clear hA hB A B) | ((first | apply call_a E42 | apply call_q E42); exact (hf4 _); (refine hK1 _ ?_; clear hK1 K1)) | (refine join_x (v := ?_) (fun hg hk9 => ?_) ?_; rotate_left; (focus (try ((try simp only [BN] at hg); simp only [S1, simprocAttr, TTToJ, ar, dm, f2, f4, hne, hS, all_scalar, takeA_arr, takeA_st, List.length_map, List.length_take, List.length_drop, Nat.mul_one, Nat.zero_add, Nat.add_zero, Int.toNat_natCast, hg] at hk9 ⊢)); first | exact hk9 | ((first | apply call_a E42 | apply call_q E42); exact (hf4 _); exact hk9)); (refine hK1 _ ?_; clear hK1 K1)) | (((first | (refine ⟨fun hg => hA ?_, fun hg => hB ?_⟩ <;> clear hA hB A B) | refine ⟨fun hg => ?_, fun hg => ?_⟩) <;> (try simp only [BN2] at hg) <;> (try simp only [hg, cond_true, cond_false])) <;> (try (refine hK1 _ ?_; clear hK1 K1)) <;> (try simp only [BN3] at hg))) | (refine awp_seq_k fun K hK => ?_) | ((first | refine awp_region ?_ | refine awp_draw (by kernel_rfl) ?_ | refine awp_block ?_ | refine awp_exit ?_ | refine awp_skip ?_ | refine awp_ret ?_); (try simp only [NB, simprocAttr])))
        all_goals simp only [EndP, FinP, resA, resL, resA1, lastV, lastA, lastAs, pur, purs, take_app, List.take_length, S1, simprocAttr, TTToJ, Nat.le_add_right, Nat.le_refl]
        all_goals rw [hst]; rfl
  · have h0' : ((netN ns fl).1 != 0) = true := by simp [h0]
    have hst : stC ns fl S = 4 := by unfold stC; rw [if_pos h0]
    refine acalls_pure (rl := []) mixed Tryd.func28 rfl (rs := [.tmp 4]) rfl Tryd.ntmps28 (by simp) ?_
    repeat' (first | ((first | refine aops_nil ?_ | refine aqops_nil ?_); (try simp only [NB])) | ((repeat ((fail_if_success (refine hK _ ?_)); clear hK K)); refine hK _ ?_; clear hK K) | ((first | refine aops_k fun K1 hK1 => ?_ | refine aqops_k fun K1 hK1 => ?_ | refine awp_cond_k fun A B hA hB => ?_); simp only [S1, simprocAttr, TTToJ, List.length_map, hS, hne, all_scalar, h0']; first | (refine hK1 _ ?_; clear hK1 K1) | ((first | refine hA ?_ | refine hB ?_); clear hA hB A B) | ((first | apply call_a E41 | apply call_q E41); exact (rCheck_calls ns fl nk _); (refine hK1 _ ?_; clear hK1 K1)) | (refine join_x (v := ?_) (fun hg hk9 => ?_) ?_; rotate_left; (focus (try ((try simp only [BN] at hg); simp only [S1, simprocAttr, TTToJ, List.length_map, hS, hne, all_scalar, h0', hg] at hk9 ⊢)); first | exact hk9 | ((first | apply call_a E41 | apply call_q E41); exact (rCheck_calls ns fl nk _); exact hk9)); (refine hK1 _ ?_; clear hK1 K1)) | (((first | (refine ⟨fun hg => hA ?_, fun hg => hB ?_⟩ <;> clear hA hB A B) | refine ⟨fun hg => ?_, fun hg => ?_⟩) <;> (try simp only [BN2] at hg) <;> (try simp only [hg, cond_true, cond_false])) <;> (try (refine hK1 _ ?_; clear hK1 K1)) <;> (try simp only [BN3] at hg))) | (refine awp_seq_k fun K hK => ?_) | ((first | refine awp_region ?_ | refine awp_draw (by kernel_rfl) ?_ | refine awp_block ?_ | refine awp_exit ?_ | refine awp_skip ?_ | refine awp_ret ?_); (try simp only [NB, simprocAttr])))
    all_goals simp only [EndP, FinP, resA, resL, resA1, lastV, lastA, lastAs, pur, purs, take_app, List.take_length, S1, simprocAttr, TTToJ, Nat.le_add_right, Nat.le_refl]
    all_goals rw [hst]
end Go.Proofs.YtjpphhcimpclpaaDoor.AM
end

section
set_option linter.unusedVariables false
set_option linter.unusedSimpArgs false
set_option maxRecDepth 4000
set_option maxHeartbeats 4000000
namespace Go.Proofs.YtjpphhcimpclpaaDoor.AM
open Go Go.Proofs
set_option linter.defProp false in
attribute [local irreducible] awp aops aqops aeops arun arunT

/-! ### The steps of the first nodes; of the first channels. -/
def nodesG (ns : List Nd) (fl : List Fl) (S : List Int) : Nat → List Sp
  | 0 => []
  | j + 1 => nodesG ns fl S j ++ (match ns[j]? with | some k => nodeG ns fl S j k | none => [])
def awaitsB (ns : List Nd) (m : Int) : Bool := ns.any fun k => k.kind == 8 && k.a == m
def sendG (ns : List Nd) (S : List Int) (m : Nat) : List Sp :=
  if awaitsB ns m = true ∧ qAt S m < 3 then moveG S ⟨-1, m, 5, 0, m, S.set (44 + m) (qAt S m + 1)⟩ [] [] else []
def sendsG (ns : List Nd) (S : List Int) : Nat → List Sp
  | 0 => []
  | m + 1 => sendsG ns S m ++ sendG ns S m
noncomputable def stepsG (ns : List Nd) (fl : List Fl) (S : List Int) : List Sp :=
  if stC ns fl S ≠ 0 ∨ mdS S ≠ 0 then [] else nodesG ns fl S ns.length ++ sendsG ns S 4

theorem pg_tail (h : Heap) (A B X Y : Option Blk) (L : Heap) (ns : List Nd) (fl : List Fl) (S : List Int) (l : List Sp) : putG (h ++ [A, B, X, Y]) (h.length + 2) (h.length + 3) ns fl S l ++ L = h ++ (A :: B :: gmB ns fl S (h.length + 3) l :: spB l :: L) := by
  unfold putG
  simp only [set_app, List.set_cons_succ, List.set_cons_zero, List.append_assoc, List.cons_append, List.nil_append]
theorem nodeG_len (ns : List Nd) (fl : List Fl) (S : List Int) (hf : fl.length ≤ 40) (i : Nat) (k : Nd) : (nodeG ns fl S i k).length ≤ 100 := by
  have hcl : ∀ f d fr, (catchG ns fl S i f d fr).length ≤ 1 := by
    intro f d fr
    unfold catchG
    split
    · split
      · simp
      · exact moveG_len _ _ _ _
    · exact moveG_len _ _ _ _
  have fm : ∀ (l : List Int) (g : Int → List Sp), (∀ x, (g x).length ≤ 1) → (l.flatMap g).length ≤ l.length := by
    intro l g hg
    induction l with
    | nil => simp
    | cons x r ih => rw [List.flatMap_cons, List.length_append, List.length_cons]; have := hg x; omega
  have hi := insN_le fl i
  have ho := outsN_le fl i
  have hm := fun x fr to => moveG_len S x fr to
  unfold nodeG
  split
  · unfold lastG; split <;> exact Nat.le_trans (hm _ _ _) (by omega)
  · split
    · unfold dataG
      repeat' split
      · simp
      · rw [List.length_append]
        have := hm ⟨i, 0, 1, i, 0, S.set (40 + k.a.toNat) 0⟩ (insN fl i) (outsN fl i)
        have := hm ⟨i, 1, 1, i, 1, S.set (40 + k.a.toNat) 1⟩ (insN fl i) (outsN fl i)
        omega
      · simp
      · exact Nat.le_trans (hm _ _ _) (by omega)
    · split
      · unfold xorG
        split
        · exact Nat.le_trans (fm _ _ fun x => hm _ _ _) (by omega)
        · repeat' split
          · simp
          · simp
          · exact Nat.le_trans (hm _ _ _) (by omega)
      · split
        · exact Nat.le_trans (hm _ _ _) (by omega)
        · split
          · exact Nat.le_trans (fm _ _ fun x => hcl _ _ _) (by omega)
          · split
            · exact Nat.le_trans (hcl _ _ _) (by omega)
            · simp
theorem nodeG_to {ns : List Nd} {fl : List Fl} {S : List Int} (hS : S.length = 49) (i : Nat) (k : Nd) : ∀ y ∈ nodeG ns fl S i k, y.to.length = 49 := by
  have hcl : ∀ f d fr, ∀ y ∈ catchG ns fl S i f d fr, y.to.length = 49 := by
    intro f d fr y hy
    unfold catchG at hy
    split at hy
    · split at hy
      · cases hy
      · exact moveG_to hS (by rw [List.length_set, hS]) y hy
    · exact moveG_to hS hS y hy
  have hst : ∀ (a : Nat) (v : Int), (S.set a v).length = 49 := fun a v => by rw [List.length_set, hS]
  have hfa : ∀ e, ∀ y ∈ [faultS S i e], y.to.length = 49 := by
    intro e y hy
    rw [List.mem_singleton.mp hy]; exact hst _ _
  intro y hy
  unfold nodeG at hy
  split at hy
  · unfold lastG at hy
    split at hy
    · exact moveG_to hS (hst _ _) y hy
    · exact moveG_to hS hS y hy
  · split at hy
    · unfold dataG at hy
      split at hy
      · cases hy
      · split at hy
        · rcases List.mem_append.mp hy with hy | hy <;> exact moveG_to hS (hst _ _) y hy
        · split at hy
          · exact hfa _ y hy
          · exact moveG_to hS (hst _ _) y hy
    · split at hy
      · unfold xorG at hy
        split at hy
        · obtain ⟨f, _, hy⟩ := List.mem_flatMap.mp hy
          exact moveG_to hS hS y hy
        · split at hy
          · cases hy
          · split at hy
            · exact hfa _ y hy
            · exact moveG_to hS hS y hy
      · split at hy
        · exact moveG_to hS hS y hy
        · split at hy
          · obtain ⟨f, _, hy⟩ := List.mem_flatMap.mp hy
            exact hcl _ _ _ y hy
          · split at hy
            · exact hcl _ _ _ y hy
            · cases hy
theorem nodesG_len (ns : List Nd) (fl : List Fl) (S : List Int) (hf : fl.length ≤ 40) : ∀ j, (nodesG ns fl S j).length ≤ 100 * j
  | 0 => by simp [nodesG]
  | j + 1 => by
    have := nodesG_len ns fl S hf j
    rw [nodesG, List.length_append]
    split
    · rename_i k _
      have := nodeG_len ns fl S hf j k
      omega
    · simp only [List.length_nil]; omega
theorem nodesG_to {ns : List Nd} {fl : List Fl} {S : List Int} (hS : S.length = 49) : ∀ j, ∀ y ∈ nodesG ns fl S j, y.to.length = 49
  | 0, y, hy => by simp [nodesG] at hy
  | j + 1, y, hy => by
    rw [nodesG] at hy
    rcases List.mem_append.mp hy with hy | hy
    · exact nodesG_to hS j y hy
    · split at hy
      · exact nodeG_to hS j _ y hy
      · cases hy
theorem sendsG_len (ns : List Nd) (S : List Int) : ∀ m, (sendsG ns S m).length ≤ m
  | 0 => by simp [sendsG]
  | m + 1 => by
    have := sendsG_len ns S m
    rw [sendsG, List.length_append]
    unfold sendG
    split
    · have := moveG_len S ⟨-1, m, 5, 0, m, S.set (44 + m) (qAt S m + 1)⟩ [] []
      omega
    · simp only [List.length_nil]; omega
theorem sendsG_to {ns : List Nd} {S : List Int} (hS : S.length = 49) : ∀ m, ∀ y ∈ sendsG ns S m, y.to.length = 49
  | 0, y, hy => by simp [sendsG] at hy
  | m + 1, y, hy => by
    rw [sendsG] at hy
    rcases List.mem_append.mp hy with hy | hy
    · exact sendsG_to hS m y hy
    · unfold sendG at hy
      split at hy
      · exact moveG_to hS (by rw [List.length_set, hS]) y hy
      · cases hy
theorem okS_st {n : Nat} {S : List Int} (hS : S.length = 49) (h : okS n S = true) : StOk S := by
  unfold okS at h
  simp only [Bool.and_eq_true, List.all_eq_true, List.mem_range, Bool.not_eq_true'] at h
  refine ⟨⟨hS, fun i x hi hx => ?_⟩, fun i x h44 h48 hx => ?_⟩
  · have := h.1.1 i hi
    unfold badT at this
    simp only [Bool.or_eq_false_iff, decide_eq_false_iff_not] at this
    have e := at_get hS (k := i) (by omega)
    rw [hx] at e
    have e2 : tk S (i : Int) = x := (Option.some.inj e).symm
    omega
  · have := h.1.2 (i - 44) (by omega)
    unfold badQ at this
    simp only [Bool.or_eq_false_iff, decide_eq_false_iff_not] at this
    have e := at_get hS (k := i) (by omega)
    rw [hx] at e
    have e2 : qAt S ((i - 44 : Nat) : Int) = x := by unfold qAt; rw [Int.toNat_natCast, show 44 + (i - 44) = i by omega]; exact (Option.some.inj e).symm
    omega
theorem eSp_ok (r : Sp) : ∀ x ∈ eSp r, x ≠ .nils := by
  intro x hx
  obtain ⟨n, _, rfl⟩ := List.mem_map.mp hx
  exact fun e => by cases e
theorem stC_zero {ns : List Nd} {fl : List Fl} {S : List Int} (h : stC ns fl S = 0) : (netN ns fl).1 = 0 ∧ okS fl.length S = true := by
  unfold stC at h
  split at h
  · cases h
  · rename_i h0
    split at h
    · rename_i h1; exact ⟨by simpa using h0, h1⟩
    · cases h
end Go.Proofs.YtjpphhcimpclpaaDoor.AM
end

section
set_option linter.unusedVariables false
set_option linter.unusedSimpArgs false
set_option maxRecDepth 4000
set_option maxHeartbeats 4000000
namespace Go.Proofs.YtjpphhcimpclpaaDoor.AM
open Go Go.Proofs
set_option linter.defProp false in
def TTToL := And.intro T2 (And.intro T3 (And.intro T4 (And.intro T22 (And.intro T23 (And.intro T25 (And.intro T26 (And.intro T27 (And.intro T37 (And.intro T39 (And.intro T40 (And.intro T46 (And.intro T48 (And.intro T58 (And.intro T60 (And.intro T71 (And.intro T83 T85))))))))))))))))
attribute [local irreducible] awp aops aqops aeops arun arunT

abbrev aSps (l : List Sp) : AV := .p (.sl (l.map eSp))

theorem over_gen : ∀ (l c : List AV) (k : Nat), k + l.length ≤ c.length → over c k l = c.take k ++ l ++ c.drop (k + l.length)
  | [], c, k, h => by simp [over]
  | x :: r, c, k, h => by
    simp only [List.length_cons] at h
    simp only [over]
    rw [over_gen r (c.set k x) (k + 1) (by simp; omega)]
    rw [List.take_add_one, List.getElem?_set_self (by omega), List.take_set_of_le (Nat.le_refl k), List.drop_set_of_lt (by omega)]
    simp only [Option.toList_some, List.length_cons, List.append_assoc, List.cons_append, List.nil_append]
    congr 4
    omega
theorem over_two {S : List Int} (hS : S.length = 49) (a b : AV) (t : List AV) (ht : t.length = 50) : over (a :: b :: t) 2 (S.map AV.i) = a :: b :: (S.map AV.i ++ t.drop 49) := by
  have h51 : 2 + (S.map AV.i).length ≤ (a :: b :: t).length := by rw [List.length_map, hS, List.length_cons, List.length_cons, ht]; decide
  rw [over_gen (S.map AV.i) (a :: b :: t) 2 h51]
  rw [List.length_map, hS]; rfl
def eSp' (x : Sp) : List PV := if x.to.length = 49 then eSp x else List.replicate 54 (.int .i64 0)
theorem eSp'_len (x : Sp) : (eSp' x).length = 54 := by
  unfold eSp'
  split
  · rename_i h; unfold eSp; rw [List.length_map, cSp_len h]
  · rw [List.length_replicate]
theorem eSp'_ok (r : Sp) : ∀ x ∈ eSp' r, x ≠ .nils := by
  intro x hx
  unfold eSp' at hx
  split at hx
  · exact eSp_ok r x hx
  · rw [(List.mem_replicate.mp hx).2]; exact fun e => by cases e
theorem eSp'_map {l : List Sp} (h : ∀ y ∈ l, y.to.length = 49) : l.map eSp' = l.map eSp := by
  apply List.map_congr_left
  intro x hx
  unfold eSp'; rw [if_pos (h x hx)]
theorem cSps_e {l : List Sp} (h : ∀ y ∈ l, y.to.length = 49) : cSps l = (flatE eSp' l).map AV.p := by
  unfold flatE
  rw [List.flatMap_def, eSp'_map h, ← List.flatMap_def]
  unfold cSps eSp
  rw [List.map_flatMap, List.map_flatMap]
  congr 1; funext x
  rw [List.map_map]; rfl
theorem any_take {α : Type} {p : α → Bool} {l : List α} {j : Nat} {x : α} (h : l[j]? = some x) : (l.take (j + 1)).any p = ((l.take j).any p || p x) := by
  rw [List.take_add_one, h, List.any_append]; simp

theorem Ghost.game {P : Program} {G : Nat → Option (List PV)} {h : Heap} {s : St} {A B : Option Blk} {ns : List Nd} {fl : List Fl} {S : List Int} (hS : S.length = 49) (hh : s.heap = h ++ [A, B, some ⟨0, .p (.sl (ns.map eN)) :: .p (.sl (fl.map eF)) :: (S.map AV.i ++ [.p .nils])⟩]) : Ghost P G h s ⟨s.fr, s.nt, h ++ [A, B, gmB ns fl S (h.length + 3) [], spB []]⟩ := by
  have := Ghost.adoptCell (P := P) (G := G) (h0 := h) (s := s) (b := h.length + 2) (j := 51) (bk := ⟨0, .p (.sl (ns.map eN)) :: .p (.sl (fl.map eF)) :: (S.map AV.i ++ [.p .nils])⟩) 54 (by rw [hh]; simp [get_app]) (by simp [hS]) (by omega)
  rw [hh] at this
  have e : (AV.p (.sl (ns.map eN)) :: .p (.sl (fl.map eF)) :: (S.map AV.i ++ [.p .nils])).set 51 (.ref (h.length + 3) 0 0 54 0) = gmC ns fl S (h.length + 3) 0 := by
    unfold gmC
    rw [show (51 : Nat) = 49 + 1 + 1 by rfl, List.set_cons_succ, List.set_cons_succ, List.set_append_right _ _ (by simp [hS])]
    simp [hS]
  simp only [List.length_append, List.length_cons, List.length_nil, List.append_assoc, List.cons_append, List.nil_append, set_app, List.set_cons_succ, List.set_cons_zero, Nat.zero_add, Nat.reduceAdd, e] at this
  exact this

theorem pg_avl2 {ns : List Nd} {fl : List Fl} {S : List Int} {m lb n : Nat} (hl : lb < m) : avlts m (gmC ns fl S lb n) := by
  have : ∀ (m : Nat) (a c : List AV), avlts m a → avlts m c → avlts m (a ++ c) := by
    intro m a c ha hc
    induction a with
    | nil => exact hc
    | cons x r ih => exact ⟨ha.1, ih ha.2⟩
  exact ⟨trivial, trivial, this _ _ _ (avlts_is _ S) ⟨hl, trivial⟩⟩

theorem rSteps_calls {ns : List Nd} {fl : List Fl} (nk : NetOk ns fl) {S : List Int} (hS : S.length = 49) (h : Heap) :
    ACalls Tryd.prog gW 12 [aNet ns fl, aS S] h (fun r h' => r = aSps (stepsG ns fl S) ∧ h' = h) := by
  have hne := ne_is hS
  have hck := fun h => rChk_calls nk hS h
  have dm := dropI (at_get hS (k := 48) (by omega))
  have emd : S.getD 48 0 = mdS S := rfl
  rw [emd] at dm
  have t49 : ((S.map AV.i).drop 0).take 49 = S.map AV.i := by rw [List.drop_zero]; exact List.take_of_length_le (by rw [List.length_map, hS]; exact Nat.le_refl _)
  have t49' : (S.map AV.i).take 49 = S.map AV.i := by rwa [List.drop_zero] at t49
  by_cases h0 : stC ns fl S = 0
  case neg =>
    have e : stepsG ns fl S = [] := by unfold stepsG; rw [if_pos (.inl h0)]
    have f0 : (stC ns fl S != 0) = true := by simp [h0]
    rw [e]
    refine acalls_pure (rl := []) mixed Tryd.func12 rfl (rs := [.tmp 4]) rfl Tryd.ntmps12 (by simp) ?_
    repeat' (first | ((first | refine aops_nil ?_ | refine aqops_nil ?_); (try simp only [NB])) | ((repeat ((fail_if_success (refine hK _ ?_)); clear hK K)); refine hK _ ?_; clear hK K) | ((first | refine aops_k fun K1 hK1 => ?_ | refine aqops_k fun K1 hK1 => ?_ | refine awp_cond_k fun A B hA hB => ?_); simp only [S1, simprocAttr, TTToL, f0, hne, hS, all_scalar, t49', dm, takeA_arr, takeA_st, List.length_map]; first | (refine hK1 _ ?_; clear hK1 K1) | ((first | refine hA ?_ | refine hB ?_); clear hA hB A B) | ((first | apply call_a E28 | apply call_q E28); exact (hck _); (refine hK1 _ ?_; clear hK1 K1)) | (refine join_x (v := ?_) (fun hg hk9 => ?_) ?_; rotate_left; (focus (try ((try simp only [BN] at hg); simp only [S1, simprocAttr, TTToL, f0, hne, hS, all_scalar, t49', dm, takeA_arr, takeA_st, List.length_map, hg] at hk9 ⊢)); first | exact hk9 | ((first | apply call_a E28 | apply call_q E28); exact (hck _); exact hk9)); (refine hK1 _ ?_; clear hK1 K1)) | (((first | (refine ⟨fun hg => hA ?_, fun hg => hB ?_⟩ <;> clear hA hB A B) | refine ⟨fun hg => ?_, fun hg => ?_⟩) <;> (try simp only [BN2] at hg) <;> (try simp only [hg, cond_true, cond_false])) <;> (try (refine hK1 _ ?_; clear hK1 K1)) <;> (try simp only [BN3] at hg))) | (refine awp_seq_k fun K hK => ?_) | ((first | refine awp_region ?_ | refine awp_draw (by kernel_rfl) ?_ | refine awp_block ?_ | refine awp_exit ?_ | refine awp_skip ?_ | refine awp_ret ?_); (try simp only [NB, simprocAttr])))
    all_goals simp only [EndP, FinP, resA, resL, resA1, lastV, lastA, lastAs, pur, purs, take_app, List.take_length, S1, simprocAttr, TTToL, Nat.le_add_right, Nat.le_refl]
    all_goals rfl
  have f0 : (stC ns fl S != 0) = false := by simp [h0]
  by_cases h1 : mdS S = 0
  case neg =>
    have e : stepsG ns fl S = [] := by unfold stepsG; rw [if_pos (.inr h1)]
    have f1 : (mdS S != 0) = true := by simp [h1]
    rw [e]
    refine acalls_pure (rl := []) mixed Tryd.func12 rfl (rs := [.tmp 4]) rfl Tryd.ntmps12 (by simp) ?_
    repeat' (first | ((first | refine aops_nil ?_ | refine aqops_nil ?_); (try simp only [NB])) | ((repeat ((fail_if_success (refine hK _ ?_)); clear hK K)); refine hK _ ?_; clear hK K) | ((first | refine aops_k fun K1 hK1 => ?_ | refine aqops_k fun K1 hK1 => ?_ | refine awp_cond_k fun A B hA hB => ?_); simp only [S1, simprocAttr, TTToL, f0, f1, hne, hS, all_scalar, t49', dm, takeA_arr, takeA_st, List.length_map]; first | (refine hK1 _ ?_; clear hK1 K1) | ((first | refine hA ?_ | refine hB ?_); clear hA hB A B) | ((first | apply call_a E28 | apply call_q E28); exact (hck _); (refine hK1 _ ?_; clear hK1 K1)) | (refine join_x (v := ?_) (fun hg hk9 => ?_) ?_; rotate_left; (focus (try ((try simp only [BN] at hg); simp only [S1, simprocAttr, TTToL, f0, f1, hne, hS, all_scalar, t49', dm, takeA_arr, takeA_st, List.length_map, hg] at hk9 ⊢)); first | exact hk9 | ((first | apply call_a E28 | apply call_q E28); exact (hck _); exact hk9)); (refine hK1 _ ?_; clear hK1 K1)) | (((first | (refine ⟨fun hg => hA ?_, fun hg => hB ?_⟩ <;> clear hA hB A B) | refine ⟨fun hg => ?_, fun hg => ?_⟩) <;> (try simp only [BN2] at hg) <;> (try simp only [hg, cond_true, cond_false])) <;> (try (refine hK1 _ ?_; clear hK1 K1)) <;> (try simp only [BN3] at hg))) | (refine awp_seq_k fun K hK => ?_) | ((first | refine awp_region ?_ | refine awp_draw (by kernel_rfl) ?_ | refine awp_block ?_ | refine awp_exit ?_ | refine awp_skip ?_ | refine awp_ret ?_); (try simp only [NB, simprocAttr])))
    all_goals simp only [EndP, FinP, resA, resL, resA1, lastV, lastA, lastAs, pur, purs, take_app, List.take_length, S1, simprocAttr, TTToL, Nat.le_add_right, Nat.le_refl]
    all_goals rfl
  have f1 : (mdS S != 0) = false := by simp [h1]
  have e : stepsG ns fl S = nodesG ns fl S ns.length ++ sendsG ns S 4 := by unfold stepsG; rw [if_neg (by simp [h0, h1])]
  rw [e]
  refine acalls_pure (rl := []) mixed Tryd.func12 rfl (rs := [.tmp 4]) rfl Tryd.ntmps12 (by simp) ?_
  have ov2 := over_two hS
  repeat' (first | ((first | refine aops_nil ?_ | refine aqops_nil ?_); (try simp only [NB])) | ((repeat ((fail_if_success (refine hK _ ?_)); clear hK K)); refine hK _ ?_; clear hK K) | ((first | refine aops_k fun K1 hK1 => ?_ | refine aqops_k fun K1 hK1 => ?_ | refine awp_cond_k fun A B hA hB => ?_); simp only [S1, simprocAttr, TTToL, f0, f1, hne, hS, ov2, all_scalar, t49', dm, takeA_arr, takeA_st, List.length_map, List.length_cons, List.length_nil, List.drop_succ_cons, List.drop_zero, List.all_append, List.length_append]; first | (refine hK1 _ ?_; clear hK1 K1) | ((first | refine hA ?_ | refine hB ?_); clear hA hB A B) | ((first | apply call_a E28 | apply call_q E28); exact (hck _); (refine hK1 _ ?_; clear hK1 K1)) | (refine join_x (v := ?_) (fun hg hk9 => ?_) ?_; rotate_left; (focus (try ((try simp only [BN] at hg); simp only [S1, simprocAttr, TTToL, f0, f1, hne, hS, ov2, all_scalar, t49', dm, takeA_arr, takeA_st, List.length_map, List.length_cons, List.length_nil, List.drop_succ_cons, List.drop_zero, List.all_append, List.length_append, hg] at hk9 ⊢)); first | exact hk9 | ((first | apply call_a E28 | apply call_q E28); exact (hck _); exact hk9)); (refine hK1 _ ?_; clear hK1 K1)) | (((first | (refine ⟨fun hg => hA ?_, fun hg => hB ?_⟩ <;> clear hA hB A B) | refine ⟨fun hg => ?_, fun hg => ?_⟩) <;> (try simp only [BN2] at hg) <;> (try simp only [hg, cond_true, cond_false])) <;> (try (refine hK1 _ ?_; clear hK1 K1)) <;> (try simp only [BN3] at hg))) | (refine awp_seq_k fun K hK => ?_) | ((first | refine awp_region ?_ | refine awp_draw (by kernel_rfl) ?_ | refine awp_block ?_ | refine awp_exit ?_ | refine awp_skip ?_ | refine awp_ret ?_); (try simp only [NB, simprocAttr])))
  obtain ⟨hn0, hok⟩ := stC_zero h0
  have rt := Right.of hn0
  have st := okS_st hS hok
  have hn := rt.n
  have hf := rt.f
  have hnl : ∀ j, j ≤ ns.length → (nodesG ns fl S j).length ≤ 2400 := fun j hj => Nat.le_trans (nodesG_len ns fl S hf j) (by omega)
  have gok : ∀ l : List Sp, (∀ y ∈ l, y.to.length = 49) → l.length ≤ 3000 → GmOk (h ++ [some ⟨0, cNet ns fl⟩, some ⟨0, S.map AV.i⟩, none, none]) (h.length + 2) (h.length + 3) S l :=
    fun l h1 h2 => ⟨by simp, by simp, by omega, st.held, h1, by omega⟩
  have hnode : ∀ (l : List Sp), (∀ y ∈ l, y.to.length = 49) → l.length ≤ 3000 → ∀ (c : Nat) (k : Nd), ns[c]? = some k → ACalls Tryd.prog gW 29 [.ptr (h.length + 2) 0 0, .i c] (h ++ [some ⟨0, cNet ns fl⟩, some ⟨0, S.map AV.i⟩, gmB ns fl S (h.length + 3) l, spB l])
      (fun r h' => r = .undef ∧ h' = h ++ [some ⟨0, cNet ns fl⟩, some ⟨0, S.map AV.i⟩, gmB ns fl S (h.length + 3) (l ++ nodeG ns fl S c k), spB (l ++ nodeG ns fl S c k)]) := by
    intro l h1 h2 c k hc
    have := nodeG_calls nk rt (gok l h1 h2) st (by omega) c hc
    have e1 := pg_tail h (some ⟨0, cNet ns fl⟩) (some ⟨0, S.map AV.i⟩) none none [] ns fl S l
    have e2 := pg_tail h (some ⟨0, cNet ns fl⟩) (some ⟨0, S.map AV.i⟩) none none [] ns fl S (l ++ nodeG ns fl S c k)
    rw [List.append_nil] at e1 e2
    rwa [e1, e2] at this
  refine awp_forG ns.length 87 (fun j => [(28, .i j), (27, .i ns.length), (5, .ptr (h.length + 2) 0 0), (3, .ptr (h.length + 1) 0 0), (2, .ptr h.length 0 0)])
    (fun j => [some ⟨0, cNet ns fl⟩, some ⟨0, S.map AV.i⟩, gmB ns fl S (h.length + 3) (nodesG ns fl S j), spB (nodesG ns fl S j)]) (fun j => True) ?_ trivial fun j hj hp K hK => ?_
  · refine (Ghost.game hS rfl).trans (Sub.ghost ⟨rfl, ⟨[], by simp only [List.append_nil]; rfl⟩, ?_, ⟨trivial, trivial, trivial⟩, avlts_is _ _, pg_avl2 (by simp), avlts_is _ _, trivial⟩)
    simp only [keeps, avlt, avlts, blksLt, frL, upd_get, S1, simprocAttr, List.length_map, Int.natCast_zero, AV.p.injEq, PV.int.injEq, PV.bool.injEq, PV.sl.injEq] <;> (try and_intros) <;> (try assumption) <;> (try trivial) <;> (try omega)
  rcases Nat.lt_or_ge j ns.length with hlt | hge
  · obtain ⟨k, hx⟩ : ∃ k, ns[j]? = some k := ⟨_, List.getElem?_eq_getElem hlt⟩
    have ej : nodesG ns fl S (j + 1) = nodesG ns fl S j ++ nodeG ns fl S j k := by rw [nodesG, hx]
    have hnd := hnode (nodesG ns fl S j) (nodesG_to hS j) (by have := hnl j hj; omega) j k hx
    repeat' (first | ((first | refine aops_nil ?_ | refine aqops_nil ?_); (try simp only [NB])) | ((repeat ((fail_if_success (refine hK _ ?_)); clear hK K)); refine hK _ ?_; clear hK K) | ((first | refine aops_k fun K1 hK1 => ?_ | refine aqops_k fun K1 hK1 => ?_ | refine awp_cond_k fun A B hA hB => ?_); simp only [S1, simprocAttr, TTToL, hitN hlt, nextN nk.n hlt]; first | (refine hK1 _ ?_; clear hK1 K1) | ((first | refine hA ?_ | refine hB ?_); clear hA hB A B) | ((first | apply call_a E29 | apply call_q E29); exact hnd; (refine hK1 _ ?_; clear hK1 K1)) | (refine join_x (v := ?_) (fun hg hk9 => ?_) ?_; rotate_left; (focus (try ((try simp only [BN] at hg); simp only [S1, simprocAttr, TTToL, hitN hlt, nextN nk.n hlt, hg] at hk9 ⊢)); first | exact hk9 | ((first | apply call_a E29 | apply call_q E29); exact hnd; exact hk9)); (refine hK1 _ ?_; clear hK1 K1)) | (((first | (refine ⟨fun hg => hA ?_, fun hg => hB ?_⟩ <;> clear hA hB A B) | refine ⟨fun hg => ?_, fun hg => ?_⟩) <;> (try simp only [BN2] at hg) <;> (try simp only [hg, cond_true, cond_false])) <;> (try (refine hK1 _ ?_; clear hK1 K1)) <;> (try simp only [BN3] at hg))) | (refine awp_seq_k fun K hK => ?_) | ((first | refine awp_region ?_ | refine awp_draw (by kernel_rfl) ?_ | refine awp_block ?_ | refine awp_exit ?_ | refine awp_skip ?_ | refine awp_ret ?_); (try simp only [NB, simprocAttr])))
    all_goals refine ⟨hlt, trivial, ?_⟩
    all_goals simp only [ej]
    all_goals refine ⟨rfl, ⟨_, rfl⟩, ?_, ⟨trivial, trivial, trivial⟩, avlts_is _ _, pg_avl2 (by simp), avlts_is _ _, trivial⟩
    all_goals simp only [keeps, avlt, avlts, blksLt, frL, upd_get, S1, simprocAttr, List.length_map, Int.natCast_zero, AV.p.injEq, PV.int.injEq, PV.bool.injEq, PV.sl.injEq] <;> (try and_intros) <;> (try assumption) <;> (try trivial) <;> (try omega)
  obtain rfl : j = ns.length := by omega
  repeat' (first | ((first | refine aops_nil ?_ | refine aqops_nil ?_); (try simp only [NB])) | ((repeat ((fail_if_success (refine hK _ ?_)); clear hK K)); refine hK _ ?_; clear hK K) | ((first | refine aops_k fun K1 hK1 => ?_ | refine aqops_k fun K1 hK1 => ?_ | refine awp_cond_k fun A B hA hB => ?_); simp only [S1, simprocAttr, TTToL, endN]; first | (refine hK1 _ ?_; clear hK1 K1) | ((first | refine hA ?_ | refine hB ?_); clear hA hB A B) | (refine join_x (v := ?_) (fun hg hk9 => ?_) ?_; rotate_left; (focus (try ((try simp only [BN] at hg); simp only [S1, simprocAttr, TTToL, endN, hg] at hk9 ⊢)); first | exact hk9); (refine hK1 _ ?_; clear hK1 K1)) | (((first | (refine ⟨fun hg => hA ?_, fun hg => hB ?_⟩ <;> clear hA hB A B) | refine ⟨fun hg => ?_, fun hg => ?_⟩) <;> (try simp only [BN2] at hg) <;> (try simp only [hg, cond_true, cond_false])) <;> (try (refine hK1 _ ?_; clear hK1 K1)) <;> (try simp only [BN3] at hg))) | (refine awp_seq_k fun K hK => ?_) | ((first | refine awp_region ?_ | refine awp_draw (by kernel_rfl) ?_ | refine awp_block ?_ | refine awp_exit ?_ | refine awp_skip ?_ | refine awp_ret ?_); (try simp only [NB, simprocAttr])))
  have hl0 : ∀ y ∈ nodesG ns fl S ns.length, y.to.length = 49 := nodesG_to hS ns.length
  have hl1 : (nodesG ns fl S ns.length).length ≤ 2400 := hnl _ (Nat.le_refl _)
  generalize nodesG ns fl S ns.length = l0 at *
  have hlm : ∀ m, m ≤ 4 → (l0 ++ sendsG ns S m).length ≤ 2500 := fun m hm => by
    rw [List.length_append]; have := sendsG_len ns S m; omega
  have htm : ∀ m, ∀ y ∈ l0 ++ sendsG ns S m, y.to.length = 49 := fun m y hy => (List.mem_append.mp hy).elim (hl0 y) (sendsG_to hS m y)
  refine awp_for 4 87 (fun m => [(7, .i m), (5, .ptr (h.length + 2) 0 0), (3, .ptr (h.length + 1) 0 0), (2, .ptr h.length 0 0)])
    (fun m => [some ⟨0, cNet ns fl⟩, some ⟨0, S.map AV.i⟩, gmB ns fl S (h.length + 3) (l0 ++ sendsG ns S m), spB (l0 ++ sendsG ns S m)]) (fun m => True) ?_ trivial fun m hm hp K hK => ?_
  · have s0 : sendsG ns S 0 = [] := rfl
    simp only [s0, List.append_nil]
    refine ⟨rfl, ⟨[], by simp only [List.append_nil]⟩, ?_, ⟨trivial, trivial, trivial⟩, avlts_is _ _, pg_avl2 (by simp), avlts_is _ _, trivial⟩
    simp only [keeps, avlt, avlts, blksLt, frL, upd_get, S1, simprocAttr, List.length_map, Int.natCast_zero, AV.p.injEq, PV.int.injEq, PV.bool.injEq, PV.sl.injEq] <;> (try and_intros) <;> (try assumption) <;> (try trivial) <;> (try omega)
  rcases Nat.lt_or_ge m 4 with hlt | hge
  · have m0 : (0 : Int) ≤ (m : Int) := by omega
    have m4 : (m : Int) < 4 := by omega
    repeat' (first | ((first | refine aops_nil ?_ | refine aqops_nil ?_); (try simp only [NB])) | ((repeat ((fail_if_success (refine hK _ ?_)); clear hK K)); refine hK _ ?_; clear hK K) | ((first | refine aops_k fun K1 hK1 => ?_ | refine aqops_k fun K1 hK1 => ?_ | refine awp_cond_k fun A B hA hB => ?_); simp only [S1, simprocAttr, TTToL, m4, List.length_map]; first | (refine hK1 _ ?_; clear hK1 K1) | ((first | refine hA ?_ | refine hB ?_); clear hA hB A B) | (refine join_x (v := ?_) (fun hg hk9 => ?_) ?_; rotate_left; (focus (try ((try simp only [BN] at hg); simp only [S1, simprocAttr, TTToL, m4, List.length_map, hg] at hk9 ⊢)); first | exact hk9); (refine hK1 _ ?_; clear hK1 K1)) | (((first | (refine ⟨fun hg => hA ?_, fun hg => hB ?_⟩ <;> clear hA hB A B) | refine ⟨fun hg => ?_, fun hg => ?_⟩) <;> (try simp only [BN2] at hg) <;> (try simp only [hg, cond_true, cond_false])) <;> (try (refine hK1 _ ?_; clear hK1 K1)) <;> (try simp only [BN3] at hg))) | (refine awp_seq_k fun K hK => ?_) | ((first | refine awp_region ?_ | refine awp_draw (by kernel_rfl) ?_ | refine awp_block ?_ | refine awp_exit ?_ | refine awp_skip ?_ | refine awp_ret ?_); (try simp only [NB, simprocAttr])))
    refine awp_for ns.length 87 (fun j => [(42, .i j), (41, .i ns.length), (40, .p (.sl (ns.map eN))), (8, .b ((ns.take j).any fun k => k.kind == 8 && k.a == m)), (7, .i m), (5, .ptr (h.length + 2) 0 0), (3, .ptr (h.length + 1) 0 0), (2, .ptr h.length 0 0)])
      (fun j => [some ⟨0, cNet ns fl⟩, some ⟨0, S.map AV.i⟩, gmB ns fl S (h.length + 3) (l0 ++ sendsG ns S m), spB (l0 ++ sendsG ns S m)]) (fun j => True) ?_ trivial fun j hj hp K hK => ?_
    · refine ⟨rfl, ⟨[], by simp only [List.append_nil]⟩, ?_, ⟨trivial, trivial, trivial⟩, avlts_is _ _, pg_avl2 (by simp), avlts_is _ _, trivial⟩
      simp only [List.take_zero, List.any_nil]
      simp only [keeps, avlt, avlts, blksLt, frL, upd_get, S1, simprocAttr, List.length_map, Int.natCast_zero, AV.p.injEq, PV.int.injEq, PV.bool.injEq, PV.sl.injEq] <;> (try and_intros) <;> (try assumption) <;> (try trivial) <;> (try omega)
    rcases Nat.lt_or_ge j ns.length with hltj | hgej
    · obtain ⟨k, hx⟩ : ∃ k, ns[j]? = some k := ⟨_, List.getElem?_eq_getElem hltj⟩
      have hat := any_take (p := fun k : Nd => k.kind == 8 && k.a == (m : Int)) hx
      generalize (ns.take j).any (fun k : Nd => k.kind == 8 && k.a == (m : Int)) = u at *
      have kh : ∀ v : Bool, (ns.take (j + 1)).any (fun k : Nd => k.kind == 8 && k.a == (m : Int)) = v → (u || (k.kind == 8 && k.a == (m : Int))) = v := fun v e => by rw [← hat]; exact e
      cases u with
      | true =>
        have hat' : (ns.take (j + 1)).any (fun k : Nd => k.kind == 8 && k.a == (m : Int)) = true := by rw [hat]; rfl
        repeat' (first | ((first | refine aops_nil ?_ | refine aqops_nil ?_); (try simp only [NB])) | ((repeat ((fail_if_success (refine hK _ ?_)); clear hK K)); refine hK _ ?_; clear hK K) | ((first | refine aops_k fun K1 hK1 => ?_ | refine aqops_k fun K1 hK1 => ?_ | refine awp_cond_k fun A B hA hB => ?_); simp only [S1, simprocAttr, TTToL, rowN hx, hitN hltj, nextN nk.n hltj, eN]; first | (refine hK1 _ ?_; clear hK1 K1) | ((first | refine hA ?_ | refine hB ?_); clear hA hB A B) | (refine join_x (v := ?_) (fun hg hk9 => ?_) ?_; rotate_left; (focus (try ((try simp only [BN] at hg); simp only [S1, simprocAttr, TTToL, rowN hx, hitN hltj, nextN nk.n hltj, eN, hg] at hk9 ⊢)); first | exact hk9); (refine hK1 _ ?_; clear hK1 K1)) | (((first | (refine ⟨fun hg => hA ?_, fun hg => hB ?_⟩ <;> clear hA hB A B) | refine ⟨fun hg => ?_, fun hg => ?_⟩) <;> (try simp only [BN2] at hg) <;> (try simp only [hg, cond_true, cond_false])) <;> (try (refine hK1 _ ?_; clear hK1 K1)) <;> (try simp only [BN3] at hg))) | (refine awp_seq_k fun K hK => ?_) | ((first | refine awp_region ?_ | refine awp_draw (by kernel_rfl) ?_ | refine awp_block ?_ | refine awp_exit ?_ | refine awp_skip ?_ | refine awp_ret ?_); (try simp only [NB, simprocAttr])))
        all_goals refine ⟨hltj, trivial, ?_⟩
        all_goals simp only [hat']
        all_goals refine ⟨rfl, ⟨_, rfl⟩, ?_, ⟨trivial, trivial, trivial⟩, avlts_is _ _, pg_avl2 (by simp), avlts_is _ _, trivial⟩
        all_goals simp only [keeps, avlt, avlts, blksLt, frL, upd_get, S1, simprocAttr, List.length_map, Int.natCast_zero, AV.p.injEq, PV.int.injEq, PV.bool.injEq, PV.sl.injEq] <;> (try and_intros) <;> (try assumption) <;> (try trivial) <;> (try omega)
      | false =>
      cases e8 : (k.kind == 8) with
      | false =>
        have hat' : (ns.take (j + 1)).any (fun k : Nd => k.kind == 8 && k.a == (m : Int)) = false := by rw [hat, e8]; rfl
        repeat' (first | ((first | refine aops_nil ?_ | refine aqops_nil ?_); (try simp only [NB])) | ((repeat ((fail_if_success (refine hK _ ?_)); clear hK K)); refine hK _ ?_; clear hK K) | ((first | refine aops_k fun K1 hK1 => ?_ | refine aqops_k fun K1 hK1 => ?_ | refine awp_cond_k fun A B hA hB => ?_); simp only [S1, simprocAttr, TTToL, rowN hx, hitN hltj, nextN nk.n hltj, eN, e8]; first | (refine hK1 _ ?_; clear hK1 K1) | ((first | refine hA ?_ | refine hB ?_); clear hA hB A B) | (refine join_x (v := ?_) (fun hg hk9 => ?_) ?_; rotate_left; (focus (try ((try simp only [BN] at hg); simp only [S1, simprocAttr, TTToL, rowN hx, hitN hltj, nextN nk.n hltj, eN, e8, hg] at hk9 ⊢)); first | exact hk9); (refine hK1 _ ?_; clear hK1 K1)) | (((first | (refine ⟨fun hg => hA ?_, fun hg => hB ?_⟩ <;> clear hA hB A B) | refine ⟨fun hg => ?_, fun hg => ?_⟩) <;> (try simp only [BN2] at hg) <;> (try simp only [hg, cond_true, cond_false])) <;> (try (refine hK1 _ ?_; clear hK1 K1)) <;> (try simp only [BN3] at hg))) | (refine awp_seq_k fun K hK => ?_) | ((first | refine awp_region ?_ | refine awp_draw (by kernel_rfl) ?_ | refine awp_block ?_ | refine awp_exit ?_ | refine awp_skip ?_ | refine awp_ret ?_); (try simp only [NB, simprocAttr])))
        all_goals refine ⟨hltj, trivial, ?_⟩
        all_goals simp only [hat']
        all_goals refine ⟨rfl, ⟨_, rfl⟩, ?_, ⟨trivial, trivial, trivial⟩, avlts_is _ _, pg_avl2 (by simp), avlts_is _ _, trivial⟩
        all_goals simp only [keeps, avlt, avlts, blksLt, frL, upd_get, S1, simprocAttr, List.length_map, Int.natCast_zero, AV.p.injEq, PV.int.injEq, PV.bool.injEq, PV.sl.injEq] <;> (try and_intros) <;> (try assumption) <;> (try trivial) <;> (try omega)
      | true =>
      cases em : (k.a == (m : Int)) with
      | false =>
        have hat' : (ns.take (j + 1)).any (fun k : Nd => k.kind == 8 && k.a == (m : Int)) = false := by rw [hat, e8, em]; rfl
        repeat' (first | ((first | refine aops_nil ?_ | refine aqops_nil ?_); (try simp only [NB])) | ((repeat ((fail_if_success (refine hK _ ?_)); clear hK K)); refine hK _ ?_; clear hK K) | ((first | refine aops_k fun K1 hK1 => ?_ | refine aqops_k fun K1 hK1 => ?_ | refine awp_cond_k fun A B hA hB => ?_); simp only [S1, simprocAttr, TTToL, rowN hx, hitN hltj, nextN nk.n hltj, eN, e8, em]; first | (refine hK1 _ ?_; clear hK1 K1) | ((first | refine hA ?_ | refine hB ?_); clear hA hB A B) | (refine join_x (v := ?_) (fun hg hk9 => ?_) ?_; rotate_left; (focus (try ((try simp only [BN] at hg); simp only [S1, simprocAttr, TTToL, rowN hx, hitN hltj, nextN nk.n hltj, eN, e8, em, hg] at hk9 ⊢)); first | exact hk9); (refine hK1 _ ?_; clear hK1 K1)) | (((first | (refine ⟨fun hg => hA ?_, fun hg => hB ?_⟩ <;> clear hA hB A B) | refine ⟨fun hg => ?_, fun hg => ?_⟩) <;> (try simp only [BN2] at hg) <;> (try simp only [hg, cond_true, cond_false])) <;> (try (refine hK1 _ ?_; clear hK1 K1)) <;> (try simp only [BN3] at hg))) | (refine awp_seq_k fun K hK => ?_) | ((first | refine awp_region ?_ | refine awp_draw (by kernel_rfl) ?_ | refine awp_block ?_ | refine awp_exit ?_ | refine awp_skip ?_ | refine awp_ret ?_); (try simp only [NB, simprocAttr])))
        all_goals refine ⟨hltj, trivial, ?_⟩
        all_goals simp only [hat']
        all_goals refine ⟨rfl, ⟨_, rfl⟩, ?_, ⟨trivial, trivial, trivial⟩, avlts_is _ _, pg_avl2 (by simp), avlts_is _ _, trivial⟩
        all_goals simp only [keeps, avlt, avlts, blksLt, frL, upd_get, S1, simprocAttr, List.length_map, Int.natCast_zero, AV.p.injEq, PV.int.injEq, PV.bool.injEq, PV.sl.injEq] <;> (try and_intros) <;> (try assumption) <;> (try trivial) <;> (try omega)
      | true =>
        have hat' : (ns.take (j + 1)).any (fun k : Nd => k.kind == 8 && k.a == (m : Int)) = true := by rw [hat, e8, em]; rfl
        repeat' (first | ((first | refine aops_nil ?_ | refine aqops_nil ?_); (try simp only [NB])) | ((repeat ((fail_if_success (refine hK _ ?_)); clear hK K)); refine hK _ ?_; clear hK K) | ((first | refine aops_k fun K1 hK1 => ?_ | refine aqops_k fun K1 hK1 => ?_ | refine awp_cond_k fun A B hA hB => ?_); simp only [S1, simprocAttr, TTToL, rowN hx, hitN hltj, nextN nk.n hltj, eN, e8, em]; first | (refine hK1 _ ?_; clear hK1 K1) | ((first | refine hA ?_ | refine hB ?_); clear hA hB A B) | (refine join_x (v := ?_) (fun hg hk9 => ?_) ?_; rotate_left; (focus (try ((try simp only [BN] at hg); simp only [S1, simprocAttr, TTToL, rowN hx, hitN hltj, nextN nk.n hltj, eN, e8, em, hg] at hk9 ⊢)); first | exact hk9); (refine hK1 _ ?_; clear hK1 K1)) | (((first | (refine ⟨fun hg => hA ?_, fun hg => hB ?_⟩ <;> clear hA hB A B) | refine ⟨fun hg => ?_, fun hg => ?_⟩) <;> (try simp only [BN2] at hg) <;> (try simp only [hg, cond_true, cond_false])) <;> (try (refine hK1 _ ?_; clear hK1 K1)) <;> (try simp only [BN3] at hg))) | (refine awp_seq_k fun K hK => ?_) | ((first | refine awp_region ?_ | refine awp_draw (by kernel_rfl) ?_ | refine awp_block ?_ | refine awp_exit ?_ | refine awp_skip ?_ | refine awp_ret ?_); (try simp only [NB, simprocAttr])))
        all_goals refine ⟨hltj, trivial, ?_⟩
        all_goals simp only [hat']
        all_goals refine ⟨rfl, ⟨_, rfl⟩, ?_, ⟨trivial, trivial, trivial⟩, avlts_is _ _, pg_avl2 (by simp), avlts_is _ _, trivial⟩
        all_goals simp only [keeps, avlt, avlts, blksLt, frL, upd_get, S1, simprocAttr, List.length_map, Int.natCast_zero, AV.p.injEq, PV.int.injEq, PV.bool.injEq, PV.sl.injEq] <;> (try and_intros) <;> (try assumption) <;> (try trivial) <;> (try omega)
    obtain rfl : j = ns.length := by omega
    have eaw : ((ns.take ns.length).any fun k : Nd => k.kind == 8 && k.a == (m : Int)) = awaitsB ns m := by rw [List.take_length]; rfl
    simp only [eaw]
    obtain ⟨hq, q0, q3⟩ := st.q hlt
    have es : sendsG ns S (m + 1) = sendsG ns S m ++ sendG ns S m := rfl
    cases ew : awaitsB ns m with
    | false =>
      have hs : sendG ns S m = [] := by unfold sendG; rw [if_neg (by simp [ew])]
      repeat' (first | ((first | refine aops_nil ?_ | refine aqops_nil ?_); (try simp only [NB])) | ((repeat ((fail_if_success (refine hK _ ?_)); clear hK K)); refine hK _ ?_; clear hK K) | ((first | refine aops_k fun K1 hK1 => ?_ | refine aqops_k fun K1 hK1 => ?_ | refine awp_cond_k fun A B hA hB => ?_); simp only [S1, simprocAttr, TTToL, endN, next40 (n := 4) (by omega) hlt]; first | (refine hK1 _ ?_; clear hK1 K1) | ((first | refine hA ?_ | refine hB ?_); clear hA hB A B) | (refine join_x (v := ?_) (fun hg hk9 => ?_) ?_; rotate_left; (focus (try ((try simp only [BN] at hg); simp only [S1, simprocAttr, TTToL, endN, next40 (n := 4) (by omega) hlt, hg] at hk9 ⊢)); first | exact hk9); (refine hK1 _ ?_; clear hK1 K1)) | (((first | (refine ⟨fun hg => hA ?_, fun hg => hB ?_⟩ <;> clear hA hB A B) | refine ⟨fun hg => ?_, fun hg => ?_⟩) <;> (try simp only [BN2] at hg) <;> (try simp only [hg, cond_true, cond_false])) <;> (try (refine hK1 _ ?_; clear hK1 K1)) <;> (try simp only [BN3] at hg))) | (refine awp_seq_k fun K hK => ?_) | ((first | refine awp_region ?_ | refine awp_draw (by kernel_rfl) ?_ | refine awp_block ?_ | refine awp_exit ?_ | refine awp_skip ?_ | refine awp_ret ?_); (try simp only [NB, simprocAttr])))
      all_goals refine ⟨hlt, trivial, ?_⟩
      all_goals simp only [es, hs, List.append_nil]
      all_goals refine ⟨rfl, ⟨_, rfl⟩, ?_, ⟨trivial, trivial, trivial⟩, avlts_is _ _, pg_avl2 (by simp), avlts_is _ _, trivial⟩
      all_goals simp only [keeps, avlt, avlts, blksLt, frL, upd_get, S1, simprocAttr, List.length_map, Int.natCast_zero, AV.p.injEq, PV.int.injEq, PV.bool.injEq, PV.sl.injEq] <;> (try and_intros) <;> (try assumption) <;> (try trivial) <;> (try omega)
    | true =>
      have dr := dropI hq
      by_cases h3 : qAt S (m : Int) < 3
      · have h3' : decide (qAt S (m : Int) < 3) = true := decide_eq_true h3
        have hs : sendG ns S m = moveG S ⟨-1, m, 5, 0, m, S.set (44 + m) (qAt S m + 1)⟩ [] [] := by unfold sendG; rw [if_pos ⟨ew, h3⟩]
        generalize qAt S (m : Int) = q at *
        have hw : IntKind.i64.wrap (q + 1) = q + 1 := IntWalk.i64_in _ (by omega)
        have hov := over_full (cs := S.map AV.i) (n := 49) (by rw [List.length_map, hS])
        have hS2 : (S.set (44 + m) (q + 1)).length = 49 := by rw [List.length_set, hS]
        have htk : ((S.set (44 + m) (q + 1)).map AV.i).take 49 = (S.set (44 + m) (q + 1)).map AV.i := List.take_of_length_le (by rw [List.length_map, hS2]; exact Nat.le_refl _)
        have htl := over_tail hS2
        have hset := setI_c S (44 + m) (q + 1)
        have h49 : 44 + m + 1 ≤ 49 := by omega
        have hadd : ∀ L : Heap, ACalls Tryd.prog gW 30 [.ptr (h.length + 2) 0 0, aSp ⟨-1, m, 5, 0, m, S.set (44 + m) (q + 1)⟩, .p .nils, .p .nils] (h ++ (some ⟨0, cNet ns fl⟩ :: some ⟨0, S.map AV.i⟩ :: gmB ns fl S (h.length + 3) (l0 ++ sendsG ns S m) :: spB (l0 ++ sendsG ns S m) :: L))
            (fun r h' => r = .undef ∧ h' = h ++ (some ⟨0, cNet ns fl⟩ :: some ⟨0, S.map AV.i⟩ :: gmB ns fl S (h.length + 3) (l0 ++ sendsG ns S m ++ sendG ns S m) :: spB (l0 ++ sendsG ns S m ++ sendG ns S m) :: L)) := by
          intro L
          have := add_nils (ns := ns) (fl := fl) (gok _ (htm m) (by have := hlm m (by omega); omega)) ⟨-1, m, 5, 0, m, S.set (44 + m) (q + 1)⟩ hS2 L
          rw [hs]
          rwa [pg_tail, pg_tail] at this
        repeat' (first | ((first | refine aops_nil ?_ | refine aqops_nil ?_); (try simp only [NB])) | ((repeat ((fail_if_success (refine hK _ ?_)); clear hK K)); refine hK _ ?_; clear hK K) | ((first | refine aops_k fun K1 hK1 => ?_ | refine aqops_k fun K1 hK1 => ?_ | refine awp_cond_k fun A B hA hB => ?_); simp only [S1, simprocAttr, TTToL, endN, next40 (n := 4) (by omega) hlt, m0, m4, dr, h3', hw, hov, hS, hS2, htk, htl, hset, h49, t49', takeA_arr, takeA_st, List.length_map, List.length_cons, List.length_nil, all_scalar, Nat.mul_one, Nat.zero_add, Nat.add_zero, Int.toNat_natCast]; first | (refine hK1 _ ?_; clear hK1 K1) | ((first | refine hA ?_ | refine hB ?_); clear hA hB A B) | ((first | apply call_a E30 | apply call_q E30); exact (hadd _); (refine hK1 _ ?_; clear hK1 K1)) | (refine join_x (v := ?_) (fun hg hk9 => ?_) ?_; rotate_left; (focus (try ((try simp only [BN] at hg); simp only [S1, simprocAttr, TTToL, endN, next40 (n := 4) (by omega) hlt, m0, m4, dr, h3', hw, hov, hS, hS2, htk, htl, hset, h49, t49', takeA_arr, takeA_st, List.length_map, List.length_cons, List.length_nil, all_scalar, Nat.mul_one, Nat.zero_add, Nat.add_zero, Int.toNat_natCast, hg] at hk9 ⊢)); first | exact hk9 | ((first | apply call_a E30 | apply call_q E30); exact (hadd _); exact hk9)); (refine hK1 _ ?_; clear hK1 K1)) | (((first | (refine ⟨fun hg => hA ?_, fun hg => hB ?_⟩ <;> clear hA hB A B) | refine ⟨fun hg => ?_, fun hg => ?_⟩) <;> (try simp only [BN2] at hg) <;> (try simp only [hg, cond_true, cond_false])) <;> (try (refine hK1 _ ?_; clear hK1 K1)) <;> (try simp only [BN3] at hg))) | (refine awp_seq_k fun K hK => ?_) | ((first | refine awp_region ?_ | refine awp_draw (by kernel_rfl) ?_ | refine awp_block ?_ | refine awp_exit ?_ | refine awp_skip ?_ | refine awp_ret ?_); (try simp only [NB, simprocAttr])))
        all_goals refine ⟨hlt, trivial, ?_⟩
        all_goals simp only [es, ← List.append_assoc]
        all_goals refine ⟨rfl, ⟨_, by simp only [List.append_assoc, List.cons_append, List.nil_append]; rfl⟩, ?_, ⟨trivial, trivial, trivial⟩, avlts_is _ _, pg_avl2 (by simp), avlts_is _ _, trivial⟩
        all_goals simp only [keeps, avlt, avlts, blksLt, frL, upd_get, S1, simprocAttr, List.length_map, Int.natCast_zero, AV.p.injEq, PV.int.injEq, PV.bool.injEq, PV.sl.injEq] <;> (try and_intros) <;> (try assumption) <;> (try trivial) <;> (try omega)
      · have h3' : decide (qAt S (m : Int) < 3) = false := decide_eq_false h3
        have hs : sendG ns S m = [] := by unfold sendG; rw [if_neg (by simp [h3])]
        repeat' (first | ((first | refine aops_nil ?_ | refine aqops_nil ?_); (try simp only [NB])) | ((repeat ((fail_if_success (refine hK _ ?_)); clear hK K)); refine hK _ ?_; clear hK K) | ((first | refine aops_k fun K1 hK1 => ?_ | refine aqops_k fun K1 hK1 => ?_ | refine awp_cond_k fun A B hA hB => ?_); simp only [S1, simprocAttr, TTToL, endN, next40 (n := 4) (by omega) hlt, m0, m4, dr, h3', takeA_arr, takeA_st, List.length_map, Nat.mul_one, Nat.zero_add, Nat.add_zero, Int.toNat_natCast]; first | (refine hK1 _ ?_; clear hK1 K1) | ((first | refine hA ?_ | refine hB ?_); clear hA hB A B) | (refine join_x (v := ?_) (fun hg hk9 => ?_) ?_; rotate_left; (focus (try ((try simp only [BN] at hg); simp only [S1, simprocAttr, TTToL, endN, next40 (n := 4) (by omega) hlt, m0, m4, dr, h3', takeA_arr, takeA_st, List.length_map, Nat.mul_one, Nat.zero_add, Nat.add_zero, Int.toNat_natCast, hg] at hk9 ⊢)); first | exact hk9); (refine hK1 _ ?_; clear hK1 K1)) | (((first | (refine ⟨fun hg => hA ?_, fun hg => hB ?_⟩ <;> clear hA hB A B) | refine ⟨fun hg => ?_, fun hg => ?_⟩) <;> (try simp only [BN2] at hg) <;> (try simp only [hg, cond_true, cond_false])) <;> (try (refine hK1 _ ?_; clear hK1 K1)) <;> (try simp only [BN3] at hg))) | (refine awp_seq_k fun K hK => ?_) | ((first | refine awp_region ?_ | refine awp_draw (by kernel_rfl) ?_ | refine awp_block ?_ | refine awp_exit ?_ | refine awp_skip ?_ | refine awp_ret ?_); (try simp only [NB, simprocAttr])))
        all_goals refine ⟨hlt, trivial, ?_⟩
        all_goals simp only [es, hs, List.append_nil]
        all_goals refine ⟨rfl, ⟨_, rfl⟩, ?_, ⟨trivial, trivial, trivial⟩, avlts_is _ _, pg_avl2 (by simp), avlts_is _ _, trivial⟩
        all_goals simp only [keeps, avlt, avlts, blksLt, frL, upd_get, S1, simprocAttr, List.length_map, Int.natCast_zero, AV.p.injEq, PV.int.injEq, PV.bool.injEq, PV.sl.injEq] <;> (try and_intros) <;> (try assumption) <;> (try trivial) <;> (try omega)
  obtain rfl : m = 4 := by omega
  have hz := htm 4
  have hrf := gmC_ref (ns := ns) (fl := fl) (lb := h.length + 3) (n := (l0 ++ sendsG ns S 4).length) hS
  rw [List.length_append] at hrf
  repeat' (first | ((first | refine aops_nil ?_ | refine aqops_nil ?_); (try simp only [NB])) | ((repeat ((fail_if_success (refine hK _ ?_)); clear hK K)); refine hK _ ?_; clear hK K) | ((first | refine aops_k fun K1 hK1 => ?_ | refine aqops_k fun K1 hK1 => ?_ | refine awp_cond_k fun A B hA hB => ?_); simp only [S1, simprocAttr, TTToL, gmB, hrf]; first | (refine hK1 _ ?_; clear hK1 K1) | ((first | refine hA ?_ | refine hB ?_); clear hA hB A B) | (refine join_x (v := ?_) (fun hg hk9 => ?_) ?_; rotate_left; (focus (try ((try simp only [BN] at hg); simp only [S1, simprocAttr, TTToL, gmB, hrf, hg] at hk9 ⊢)); first | exact hk9); (refine hK1 _ ?_; clear hK1 K1)) | (((first | (refine ⟨fun hg => hA ?_, fun hg => hB ?_⟩ <;> clear hA hB A B) | refine ⟨fun hg => ?_, fun hg => ?_⟩) <;> (try simp only [BN2] at hg) <;> (try simp only [hg, cond_true, cond_false])) <;> (try (refine hK1 _ ?_; clear hK1 K1)) <;> (try simp only [BN3] at hg))) | (refine awp_seq_k fun K hK => ?_) | ((first | refine awp_region ?_ | refine awp_draw (by kernel_rfl) ?_ | refine awp_block ?_ | refine awp_exit ?_ | refine awp_skip ?_ | refine awp_ret ?_); (try simp only [NB, simprocAttr])))
  rw [show aSps (l0 ++ sendsG ns S 4) = .p (.sl ((l0 ++ sendsG ns S 4).map eSp')) from congrArg (fun x => AV.p (.sl x)) (eSp'_map hz).symm]
  exact EndP_rows eSp'_len eSp'_ok (.inr rfl) (l := l0 ++ sendsG ns S 4) (List.length_append).symm rfl (by simp only [spB, cSps_e hz, blkAt, get_app, List.getElem?_cons_succ, List.getElem?_cons_zero, List.length_append, if_true]) (by omega) (by simp) (by simp) rfl
end Go.Proofs.YtjpphhcimpclpaaDoor.AM
end

section
set_option linter.unusedVariables false
set_option linter.unusedSimpArgs false
set_option maxRecDepth 4000
set_option maxHeartbeats 4000000
namespace Go.Proofs.YtjpphhcimpclpaaDoor.AM
open Go Go.Proofs
set_option linter.defProp false in
def TTToM := And.intro T2 (And.intro T3 (And.intro T4 (And.intro T22 (And.intro T23 (And.intro T25 (And.intro T26 (And.intro T27 (And.intro T29 (And.intro T31 (And.intro T40 (And.intro T60 T71)))))))))))
attribute [local irreducible] awp aops aqops aeops arun arunT
variable {G : Nat → Option (List PV)}

def okH (l : List Int) : Bool := l.all fun x => !(decide (x < 0) || decide (3 < x))
theorem okH_step {l : List Int} {i : Nat} {x : Int} (h : l[i]? = some x) : okH (l.take (i + 1)) = (okH (l.take i) && !(decide (x < 0) || decide (3 < x))) := by
  unfold okH
  rw [List.take_add_one, h, List.all_append]; simp
theorem okH_no {l : List Int} {i : Nat} {x : Int} (h : l[i]? = some x) (hx : (decide (x < 0) || decide (3 < x)) = true) : okH l = false := by
  unfold okH
  rw [List.all_eq_false]
  exact ⟨x, List.mem_of_getElem? h, by rw [hx]; decide⟩

theorem held_calls {h : Heap} {b g off n : Nat} {S : List Int} (hb : h[b]? = some (some ⟨g, S.map AV.i⟩)) (hn : off + n ≤ S.length) (h1 : n ≤ 100) :
    ACalls Tryd.prog G 22 [.ref b g off 1 n] h (fun r h' => r = .b (okH ((S.drop off).take n)) ∧ h' = h) := by
  have hlt : b < h.length := (List.getElem?_eq_some_iff.mp hb).1
  refine acalls_pure (rl := []) mixed Tryd.func22 rfl (rs := [.tmp 2]) rfl Tryd.ntmps22 (by simp) ?_
  repeat' (first | ((first | refine aops_nil ?_ | refine aqops_nil ?_); (try simp only [NB])) | ((repeat ((fail_if_success (refine hK _ ?_)); clear hK K)); refine hK _ ?_; clear hK K) | ((first | refine aops_k fun K1 hK1 => ?_ | refine aqops_k fun K1 hK1 => ?_ | refine awp_cond_k fun A B hA hB => ?_); simp only [S1, simprocAttr, TTToM]; first | (refine hK1 _ ?_; clear hK1 K1) | ((first | refine hA ?_ | refine hB ?_); clear hA hB A B) | (refine join_x (v := ?_) (fun hg hk9 => ?_) ?_; rotate_left; (focus (try ((try simp only [BN] at hg); simp only [S1, simprocAttr, TTToM, hg] at hk9 ⊢)); first | exact hk9); (refine hK1 _ ?_; clear hK1 K1)) | (((first | (refine ⟨fun hg => hA ?_, fun hg => hB ?_⟩ <;> clear hA hB A B) | refine ⟨fun hg => ?_, fun hg => ?_⟩) <;> (try simp only [BN2] at hg) <;> (try simp only [hg, cond_true, cond_false])) <;> (try (refine hK1 _ ?_; clear hK1 K1)) <;> (try simp only [BN3] at hg))) | (refine awp_seq_k fun K hK => ?_) | ((first | refine awp_region ?_ | refine awp_draw (by kernel_rfl) ?_ | refine awp_block ?_ | refine awp_exit ?_ | refine awp_skip ?_ | refine awp_ret ?_); (try simp only [NB, simprocAttr])))
  refine awp_for n 18 (fun i => [(7, .i i), (6, .i n), (5, .ref b g off 1 n)]) (fun i => []) (fun i => okH (((S.drop off).take n).take i) = true) ?_ rfl fun i hi hp K hK => ?_
  · refine ⟨rfl, ⟨[], by simp only [List.append_nil]⟩, ?_, trivial⟩
    simp only [keeps, avlt, avlts, blksLt, frL, upd_get, S1, simprocAttr, List.length_map, Int.natCast_zero, AV.p.injEq, PV.int.injEq, PV.bool.injEq, PV.sl.injEq] <;> (try and_intros) <;> (try assumption) <;> (try trivial) <;> (try omega)
  rcases Nat.lt_or_ge i n with hlti | hge
  · have hx0 : S[off + i]? = some (S.getD (off + i) 0) := by rw [List.getD_eq_getElem?_getD, List.getElem?_eq_getElem (by omega)]; rfl
    generalize S.getD (off + i) 0 = x at *
    have hx : ((S.drop off).take n)[i]? = some x := by rw [List.getElem?_take_of_lt hlti, List.getElem?_drop]; exact hx0
    have dr := dropI hx0
    have hst := okH_step hx
    have i0 : (0 : Int) ≤ (i : Int) := by omega
    have hlt' : (i : Int) < (n : Int) := by omega
    cases f1 : decide (x < 0) with
    | true =>
      have ho := okH_no hx (by rw [f1]; rfl)
      rw [ho]
      repeat' (first | ((first | refine aops_nil ?_ | refine aqops_nil ?_); (try simp only [NB])) | ((repeat ((fail_if_success (refine hK _ ?_)); clear hK K)); refine hK _ ?_; clear hK K) | ((first | refine aops_k fun K1 hK1 => ?_ | refine aqops_k fun K1 hK1 => ?_ | refine awp_cond_k fun A B hA hB => ?_); simp only [S1, simprocAttr, TTToM, hb, hlt', i0, dr, f1, Int.toNat_natCast, Nat.mul_one, Nat.zero_add, Nat.add_zero]; first | (refine hK1 _ ?_; clear hK1 K1) | ((first | refine hA ?_ | refine hB ?_); clear hA hB A B) | (refine join_x (v := ?_) (fun hg hk9 => ?_) ?_; rotate_left; (focus (try ((try simp only [BN] at hg); simp only [S1, simprocAttr, TTToM, hb, hlt', i0, dr, f1, Int.toNat_natCast, Nat.mul_one, Nat.zero_add, Nat.add_zero, hg] at hk9 ⊢)); first | exact hk9); (refine hK1 _ ?_; clear hK1 K1)) | (((first | (refine ⟨fun hg => hA ?_, fun hg => hB ?_⟩ <;> clear hA hB A B) | refine ⟨fun hg => ?_, fun hg => ?_⟩) <;> (try simp only [BN2] at hg) <;> (try simp only [hg, cond_true, cond_false])) <;> (try (refine hK1 _ ?_; clear hK1 K1)) <;> (try simp only [BN3] at hg))) | (refine awp_seq_k fun K hK => ?_) | ((first | refine awp_region ?_ | refine awp_draw (by kernel_rfl) ?_ | refine awp_block ?_ | refine awp_exit ?_ | refine awp_skip ?_ | refine awp_ret ?_); (try simp only [NB, simprocAttr])))
      all_goals simp only [EndP, FinP, resA, resL, resA1, lastV, lastA, lastAs, pur, purs, take_app, List.take_length, S1, simprocAttr, TTToM, Nat.le_add_right, Nat.le_refl]
    | false =>
    cases f2 : decide (3 < x) with
    | true =>
      have ho := okH_no hx (by rw [f1, f2]; rfl)
      rw [ho]
      repeat' (first | ((first | refine aops_nil ?_ | refine aqops_nil ?_); (try simp only [NB])) | ((repeat ((fail_if_success (refine hK _ ?_)); clear hK K)); refine hK _ ?_; clear hK K) | ((first | refine aops_k fun K1 hK1 => ?_ | refine aqops_k fun K1 hK1 => ?_ | refine awp_cond_k fun A B hA hB => ?_); simp only [S1, simprocAttr, TTToM, hb, hlt', i0, dr, f1, f2, Int.toNat_natCast, Nat.mul_one, Nat.zero_add, Nat.add_zero]; first | (refine hK1 _ ?_; clear hK1 K1) | ((first | refine hA ?_ | refine hB ?_); clear hA hB A B) | (refine join_x (v := ?_) (fun hg hk9 => ?_) ?_; rotate_left; (focus (try ((try simp only [BN] at hg); simp only [S1, simprocAttr, TTToM, hb, hlt', i0, dr, f1, f2, Int.toNat_natCast, Nat.mul_one, Nat.zero_add, Nat.add_zero, hg] at hk9 ⊢)); first | exact hk9); (refine hK1 _ ?_; clear hK1 K1)) | (((first | (refine ⟨fun hg => hA ?_, fun hg => hB ?_⟩ <;> clear hA hB A B) | refine ⟨fun hg => ?_, fun hg => ?_⟩) <;> (try simp only [BN2] at hg) <;> (try simp only [hg, cond_true, cond_false])) <;> (try (refine hK1 _ ?_; clear hK1 K1)) <;> (try simp only [BN3] at hg))) | (refine awp_seq_k fun K hK => ?_) | ((first | refine awp_region ?_ | refine awp_draw (by kernel_rfl) ?_ | refine awp_block ?_ | refine awp_exit ?_ | refine awp_skip ?_ | refine awp_ret ?_); (try simp only [NB, simprocAttr])))
      all_goals simp only [EndP, FinP, resA, resL, resA1, lastV, lastA, lastAs, pur, purs, take_app, List.take_length, S1, simprocAttr, TTToM, Nat.le_add_right, Nat.le_refl]
    | false =>
      rw [hp, f1, f2] at hst
      repeat' (first | ((first | refine aops_nil ?_ | refine aqops_nil ?_); (try simp only [NB])) | ((repeat ((fail_if_success (refine hK _ ?_)); clear hK K)); refine hK _ ?_; clear hK K) | ((first | refine aops_k fun K1 hK1 => ?_ | refine aqops_k fun K1 hK1 => ?_ | refine awp_cond_k fun A B hA hB => ?_); simp only [S1, simprocAttr, TTToM, hb, hlt', next40 (n := n) (by omega) hlti, i0, dr, f1, f2, Int.toNat_natCast, Nat.mul_one, Nat.zero_add, Nat.add_zero]; first | (refine hK1 _ ?_; clear hK1 K1) | ((first | refine hA ?_ | refine hB ?_); clear hA hB A B) | (refine join_x (v := ?_) (fun hg hk9 => ?_) ?_; rotate_left; (focus (try ((try simp only [BN] at hg); simp only [S1, simprocAttr, TTToM, hb, hlt', next40 (n := n) (by omega) hlti, i0, dr, f1, f2, Int.toNat_natCast, Nat.mul_one, Nat.zero_add, Nat.add_zero, hg] at hk9 ⊢)); first | exact hk9); (refine hK1 _ ?_; clear hK1 K1)) | (((first | (refine ⟨fun hg => hA ?_, fun hg => hB ?_⟩ <;> clear hA hB A B) | refine ⟨fun hg => ?_, fun hg => ?_⟩) <;> (try simp only [BN2] at hg) <;> (try simp only [hg, cond_true, cond_false])) <;> (try (refine hK1 _ ?_; clear hK1 K1)) <;> (try simp only [BN3] at hg))) | (refine awp_seq_k fun K hK => ?_) | ((first | refine awp_region ?_ | refine awp_draw (by kernel_rfl) ?_ | refine awp_block ?_ | refine awp_exit ?_ | refine awp_skip ?_ | refine awp_ret ?_); (try simp only [NB, simprocAttr])))
      all_goals refine ⟨hlti, hst, ?_⟩
      all_goals refine ⟨rfl, ⟨[], by simp only [List.append_nil]⟩, ?_, trivial⟩
      all_goals simp only [keeps, avlt, avlts, blksLt, frL, upd_get, S1, simprocAttr, List.length_map, Int.natCast_zero, AV.p.injEq, PV.int.injEq, PV.bool.injEq, PV.sl.injEq] <;> (try and_intros) <;> (try assumption) <;> (try trivial) <;> (try omega)
  · obtain rfl : i = n := by omega
    rw [List.take_take, Nat.min_self] at hp
    repeat' (first | ((first | refine aops_nil ?_ | refine aqops_nil ?_); (try simp only [NB])) | ((repeat ((fail_if_success (refine hK _ ?_)); clear hK K)); refine hK _ ?_; clear hK K) | ((first | refine aops_k fun K1 hK1 => ?_ | refine aqops_k fun K1 hK1 => ?_ | refine awp_cond_k fun A B hA hB => ?_); simp only [S1, simprocAttr, TTToM, Int.lt_irrefl]; first | (refine hK1 _ ?_; clear hK1 K1) | ((first | refine hA ?_ | refine hB ?_); clear hA hB A B) | (refine join_x (v := ?_) (fun hg hk9 => ?_) ?_; rotate_left; (focus (try ((try simp only [BN] at hg); simp only [S1, simprocAttr, TTToM, Int.lt_irrefl, hg] at hk9 ⊢)); first | exact hk9); (refine hK1 _ ?_; clear hK1 K1)) | (((first | (refine ⟨fun hg => hA ?_, fun hg => hB ?_⟩ <;> clear hA hB A B) | refine ⟨fun hg => ?_, fun hg => ?_⟩) <;> (try simp only [BN2] at hg) <;> (try simp only [hg, cond_true, cond_false])) <;> (try (refine hK1 _ ?_; clear hK1 K1)) <;> (try simp only [BN3] at hg))) | (refine awp_seq_k fun K hK => ?_) | ((first | refine awp_region ?_ | refine awp_draw (by kernel_rfl) ?_ | refine awp_block ?_ | refine awp_exit ?_ | refine awp_skip ?_ | refine awp_ret ?_); (try simp only [NB, simprocAttr])))
    all_goals simp only [EndP, FinP, resA, resL, resA1, lastV, lastA, lastAs, pur, purs, take_app, List.take_length, S1, simprocAttr, TTToM, Nat.le_add_right, Nat.le_refl]
    all_goals rw [hp]
end Go.Proofs.YtjpphhcimpclpaaDoor.AM
end

section
set_option linter.unusedVariables false
set_option linter.unusedSimpArgs false
set_option maxRecDepth 4000
set_option maxHeartbeats 4000000
namespace Go.Proofs.YtjpphhcimpclpaaDoor.AM
open Go Go.Proofs
set_option linter.defProp false in
attribute [local irreducible] awp aops aqops aeops arun arunT

/-- The tokens, of which the first so many are put to nought. -/
def restZ (S : List Int) (j : Nat) : List Int := List.replicate j 0 ++ (S.take 40).drop j
theorem restZ_len {S : List Int} (hS : S.length = 49) {j : Nat} (hj : j ≤ 40) : (restZ S j).length = 40 := by simp [restZ, hS]; omega
theorem restZ_set {S : List Int} (hS : S.length = 49) {j : Nat} (hj : j < 40) : (restZ S j).set j 0 = restZ S (j + 1) := by
  have hl : j < (S.take 40).length := by rw [List.length_take]; omega
  unfold restZ
  rw [List.set_append_right _ _ (by simp), List.length_replicate, Nat.sub_self, List.drop_eq_getElem_cons hl, List.set_cons_zero, List.replicate_succ', List.append_assoc]; rfl
theorem eqI : ∀ {S T : List Int}, S.length = T.length → eqCells true (S.map AV.i) (T.map AV.i) = some (S == T)
  | [], [], _ => rfl
  | x :: r, [], h => by cases h
  | [], y :: q, h => by cases h
  | x :: r, y :: q, h => by
    have := eqI (S := r) (T := q) (by simpa using h)
    simp only [List.map_cons, eqCells, this]
    rfl
theorem restZ_eq {S : List Int} {n : Nat} (hS : S.length = 49) (hn : n ≤ 40) : (restZ S n == List.replicate 40 0) = (List.range 40).all fun i => !(decide ((n : Int) ≤ (i : Int)) && (tk S i != 0)) := by
  rw [Bool.eq_iff_iff, beq_iff_eq, List.all_eq_true]
  constructor
  · intro e i hi
    have hi := List.mem_range.mp hi
    by_cases h : n ≤ i
    · have e1 : (restZ S n)[i]? = some 0 := by rw [e, List.getElem?_replicate, if_pos hi]
      unfold restZ at e1
      rw [List.getElem?_append_right (by simpa using h), List.length_replicate, List.getElem?_drop, show n + (i - n) = i by omega, List.getElem?_take_of_lt hi, at_get hS (by omega)] at e1
      have e2 : tk S (i : Int) = 0 := Option.some.inj e1
      simp [e2]
    · have : decide ((n : Int) ≤ (i : Int)) = false := decide_eq_false (by omega)
      rw [this]; rfl
  · intro h
    apply List.ext_getElem?
    intro i
    rw [List.getElem?_replicate]
    split
    · rename_i hi
      unfold restZ
      by_cases hni : n ≤ i
      · have h1 := h i (List.mem_range.mpr hi)
        have : decide ((n : Int) ≤ (i : Int)) = true := decide_eq_true (by omega)
        rw [this] at h1
        simp at h1
        rw [List.getElem?_append_right (by simpa using hni), List.length_replicate, List.getElem?_drop, show n + (i - n) = i by omega, List.getElem?_take_of_lt hi, at_get hS (by omega)]
        exact congrArg some h1
      · rw [List.getElem?_append_left (by simp; omega), List.getElem?_replicate, if_pos (by omega)]
    · exact List.getElem?_eq_none (by rw [restZ_len hS hn]; omega)

/-- A state's bounds, told by lists. -/
theorem okS_eq {n : Nat} {S : List Int} (hS : S.length = 49) (hn : n ≤ 40) : okS n S = ((restZ S n == List.replicate 40 0) && (okH (S.take 40) && (okH ((S.drop 44).take 4) && (inV (vS S) && (decide (0 ≤ mdS S) && decide (mdS S ≤ 2)))))) := by
  have a : (List.range 40).all (fun i => !badT n S i) = ((restZ S n == List.replicate 40 0) && okH (S.take 40)) := by
    rw [restZ_eq hS hn, Bool.eq_iff_iff]
    unfold okH badT
    simp only [Bool.and_eq_true, List.all_eq_true, List.mem_range, Bool.not_eq_true', Bool.or_eq_false_iff]
    constructor
    · refine fun h => ⟨fun i hi => (h i hi).2, fun x hx => ?_⟩
      obtain ⟨i, hi, e⟩ := List.mem_iff_getElem.mp hx
      rw [List.length_take] at hi
      have h1 := (h i (by omega)).1
      have e2 : tk S (i : Int) = x := by
        have := at_get hS (k := i) (by omega)
        rw [← e, List.getElem_take]
        rw [List.getElem?_eq_getElem (by omega)] at this
        exact (Option.some.inj this).symm
      rw [e2] at h1; exact h1
    · refine fun h i hi => ⟨?_, h.1 i hi⟩
      have := h.2 (tk S i) (List.mem_of_getElem? (i := i) (by rw [List.getElem?_take_of_lt hi]; exact at_get hS (by omega)))
      exact this
  have b : (List.range 4).all (fun i => !badQ S i) = okH ((S.drop 44).take 4) := by
    rw [Bool.eq_iff_iff]
    unfold okH badQ
    simp only [List.all_eq_true, List.mem_range, Bool.not_eq_true', Bool.or_eq_false_iff]
    constructor
    · intro h x hx
      obtain ⟨i, hi, e⟩ := List.mem_iff_getElem.mp hx
      rw [List.length_take, List.length_drop] at hi
      have h1 := h i (by omega)
      have e2 : qAt S (i : Int) = x := by
        have := at_get hS (k := 44 + i) (by omega)
        rw [← e, List.getElem_take, List.getElem_drop]
        rw [List.getElem?_eq_getElem (by omega)] at this
        exact (Option.some.inj this).symm
      rw [e2] at h1; exact h1
    · intro h i hi
      exact h (qAt S i) (List.mem_of_getElem? (i := i) (by rw [List.getElem?_take_of_lt hi, List.getElem?_drop]; exact at_get hS (by omega)))
  unfold okS
  rw [a, b]
  simp only [Bool.and_assoc]
end Go.Proofs.YtjpphhcimpclpaaDoor.AM
end

section
set_option linter.unusedVariables false
set_option linter.unusedSimpArgs false
set_option maxRecDepth 4000
set_option maxHeartbeats 4000000
namespace Go.Proofs.YtjpphhcimpclpaaDoor.AM
open Go Go.Proofs
set_option linter.defProp false in
def TTToO := And.intro T2 (And.intro T3 (And.intro T4 (And.intro T22 (And.intro T23 (And.intro T25 (And.intro T26 (And.intro T27 (And.intro T29 (And.intro T31 (And.intro T40 (And.intro T60 T71)))))))))))
attribute [local irreducible] awp aops aqops aeops arun arunT

theorem tChk_calls {ns : List Nd} {fl : List Fl} (nk : NetOk ns fl) {S : List Int} (hS : S.length = 49) (h : Heap) :
    ACalls Tryd.prog gW 9 [aNet ns fl, aS S] h (fun r h' => r = .i (stC ns fl S) ∧ h' = h) := by
  have hne := ne_is hS
  have hc := fun h => Check_calls ns fl nk h
  by_cases h0 : (netN ns fl).1 = 0
  case neg =>
    have h0' : ((netN ns fl).1 != 0) = true := by simp [h0]
    have hst : stC ns fl S = 4 := by unfold stC; rw [if_pos h0]
    rw [hst]
    refine acalls_pure (rl := []) mixed Tryd.func9 rfl (rs := [.tmp 4]) rfl Tryd.ntmps9 (by simp) ?_
    repeat' (first | ((first | refine aops_nil ?_ | refine aqops_nil ?_); (try simp only [NB])) | ((repeat ((fail_if_success (refine hK _ ?_)); clear hK K)); refine hK _ ?_; clear hK K) | ((first | refine aops_k fun K1 hK1 => ?_ | refine aqops_k fun K1 hK1 => ?_ | refine awp_cond_k fun A B hA hB => ?_); simp only [S1, simprocAttr, TTToO, List.length_map, hS, hne, all_scalar, h0']; first | (refine hK1 _ ?_; clear hK1 K1) | ((first | refine hA ?_ | refine hB ?_); clear hA hB A B) | ((first | apply call_a E21 | apply call_q E21); exact (hc _); (refine hK1 _ ?_; clear hK1 K1)) | (refine join_x (v := ?_) (fun hg hk9 => ?_) ?_; rotate_left; (focus (try ((try simp only [BN] at hg); simp only [S1, simprocAttr, TTToO, List.length_map, hS, hne, all_scalar, h0', hg] at hk9 ⊢)); first | exact hk9 | ((first | apply call_a E21 | apply call_q E21); exact (hc _); exact hk9)); (refine hK1 _ ?_; clear hK1 K1)) | (((first | (refine ⟨fun hg => hA ?_, fun hg => hB ?_⟩ <;> clear hA hB A B) | refine ⟨fun hg => ?_, fun hg => ?_⟩) <;> (try simp only [BN2] at hg) <;> (try simp only [hg, cond_true, cond_false])) <;> (try (refine hK1 _ ?_; clear hK1 K1)) <;> (try simp only [BN3] at hg))) | (refine awp_seq_k fun K hK => ?_) | ((first | refine awp_region ?_ | refine awp_draw (by kernel_rfl) ?_ | refine awp_block ?_ | refine awp_exit ?_ | refine awp_skip ?_ | refine awp_ret ?_); (try simp only [NB, simprocAttr])))
    all_goals simp only [EndP, FinP, resA, resL, resA1, lastV, lastA, lastAs, pur, purs, take_app, List.take_length, S1, simprocAttr, TTToO, Nat.le_add_right, Nat.le_refl]
  have h0' : ((netN ns fl).1 != 0) = false := by simp [h0]
  have rt := Right.of h0
  have hf := rt.f
  have t40 : (S.map AV.i).take 40 = (S.take 40).map AV.i := by rw [List.map_take]
  have l40 : (S.take 40).length = 40 := by rw [List.length_take, hS]; rfl
  have hov := over_full (cs := (S.take 40).map AV.i) (n := 40) (by rw [List.length_map, l40])
  refine acalls_pure (rl := []) mixed Tryd.func9 rfl (rs := [.tmp 4]) rfl Tryd.ntmps9 (by simp) ?_
  repeat' (first | ((first | refine aops_nil ?_ | refine aqops_nil ?_); (try simp only [NB])) | ((repeat ((fail_if_success (refine hK _ ?_)); clear hK K)); refine hK _ ?_; clear hK K) | ((first | refine aops_k fun K1 hK1 => ?_ | refine aqops_k fun K1 hK1 => ?_ | refine awp_cond_k fun A B hA hB => ?_); simp only [S1, simprocAttr, TTToO, h0', t40, l40, hov, hne, hS, all_scalar, takeA_arr, takeA_st, eqA, Q26, List.length_map, List.length_take, List.length_drop, Nat.mul_one, Nat.zero_add, Nat.add_zero, Int.toNat_natCast, and_self]; first | (refine hK1 _ ?_; clear hK1 K1) | ((first | refine hA ?_ | refine hB ?_); clear hA hB A B) | ((first | apply call_a E21 | apply call_q E21); exact (hc _); (refine hK1 _ ?_; clear hK1 K1)) | (refine join_x (v := ?_) (fun hg hk9 => ?_) ?_; rotate_left; (focus (try ((try simp only [BN] at hg); simp only [S1, simprocAttr, TTToO, h0', t40, l40, hov, hne, hS, all_scalar, takeA_arr, takeA_st, eqA, Q26, List.length_map, List.length_take, List.length_drop, Nat.mul_one, Nat.zero_add, Nat.add_zero, Int.toNat_natCast, and_self, hg] at hk9 ⊢)); first | exact hk9 | ((first | apply call_a E21 | apply call_q E21); exact (hc _); exact hk9)); (refine hK1 _ ?_; clear hK1 K1)) | (((first | (refine ⟨fun hg => hA ?_, fun hg => hB ?_⟩ <;> clear hA hB A B) | refine ⟨fun hg => ?_, fun hg => ?_⟩) <;> (try simp only [BN2] at hg) <;> (try simp only [hg, cond_true, cond_false])) <;> (try (refine hK1 _ ?_; clear hK1 K1)) <;> (try simp only [BN3] at hg))) | (refine awp_seq_k fun K hK => ?_) | ((first | refine awp_region ?_ | refine awp_draw (by kernel_rfl) ?_ | refine awp_block ?_ | refine awp_exit ?_ | refine awp_skip ?_ | refine awp_ret ?_); (try simp only [NB, simprocAttr])))
  refine awp_for fl.length 58 (fun j => [(21, .i j), (20, .i fl.length), (7, .ptr (h.length + 2) 0 0), (3, .ptr (h.length + 1) 0 0), (2, .ptr h.length 0 0)])
    (fun j => [some ⟨0, cNet ns fl⟩, some ⟨0, S.map AV.i⟩, some ⟨0, (restZ S j).map AV.i⟩]) (fun j => True) ?_ trivial fun j hj hp K hK => ?_
  · have r0 : restZ S 0 = S.take 40 := rfl
    simp only [r0]
    refine ⟨rfl, ⟨[], by simp only [List.append_nil]⟩, ?_, ⟨trivial, trivial, trivial⟩, avlts_is _ _, avlts_is _ _, trivial⟩
    simp only [keeps, avlt, avlts, blksLt, frL, upd_get, S1, simprocAttr, List.length_map, Int.natCast_zero, AV.p.injEq, PV.int.injEq, PV.bool.injEq, PV.sl.injEq] <;> (try and_intros) <;> (try assumption) <;> (try trivial) <;> (try omega)
  rcases Nat.lt_or_ge j fl.length with hlt | hge
  · have j0 : (0 : Int) ≤ (j : Int) := by omega
    have j40 : (j : Int) < 40 := by omega
    have jl : (j : Int) < (fl.length : Int) := by omega
    have hj41 : j + 1 ≤ 40 := by omega
    have rl := restZ_len hS (j := j) (by omega)
    have rs : ((restZ S j).map AV.i).set j (.p (.int .i64 0)) = (restZ S (j + 1)).map AV.i := by rw [setI_c, restZ_set hS (by omega)]
    repeat' (first | ((first | refine aops_nil ?_ | refine aqops_nil ?_); (try simp only [NB])) | ((repeat ((fail_if_success (refine hK _ ?_)); clear hK K)); refine hK _ ?_; clear hK K) | ((first | refine aops_k fun K1 hK1 => ?_ | refine aqops_k fun K1 hK1 => ?_ | refine awp_cond_k fun A B hA hB => ?_); simp only [S1, simprocAttr, TTToO, jl, next40 (n := fl.length) (by omega) hlt, j0, j40, hj41, rl, rs, hne, hS, all_scalar, takeA_arr, takeA_st, eqA, Q26, List.length_map, List.length_take, List.length_drop, Nat.mul_one, Nat.zero_add, Nat.add_zero, Int.toNat_natCast, and_self]; first | (refine hK1 _ ?_; clear hK1 K1) | ((first | refine hA ?_ | refine hB ?_); clear hA hB A B) | (refine join_x (v := ?_) (fun hg hk9 => ?_) ?_; rotate_left; (focus (try ((try simp only [BN] at hg); simp only [S1, simprocAttr, TTToO, jl, next40 (n := fl.length) (by omega) hlt, j0, j40, hj41, rl, rs, hne, hS, all_scalar, takeA_arr, takeA_st, eqA, Q26, List.length_map, List.length_take, List.length_drop, Nat.mul_one, Nat.zero_add, Nat.add_zero, Int.toNat_natCast, and_self, hg] at hk9 ⊢)); first | exact hk9); (refine hK1 _ ?_; clear hK1 K1)) | (((first | (refine ⟨fun hg => hA ?_, fun hg => hB ?_⟩ <;> clear hA hB A B) | refine ⟨fun hg => ?_, fun hg => ?_⟩) <;> (try simp only [BN2] at hg) <;> (try simp only [hg, cond_true, cond_false])) <;> (try (refine hK1 _ ?_; clear hK1 K1)) <;> (try simp only [BN3] at hg))) | (refine awp_seq_k fun K hK => ?_) | ((first | refine awp_region ?_ | refine awp_draw (by kernel_rfl) ?_ | refine awp_block ?_ | refine awp_exit ?_ | refine awp_skip ?_ | refine awp_ret ?_); (try simp only [NB, simprocAttr])))
    all_goals refine ⟨hlt, trivial, ?_⟩
    all_goals refine ⟨rfl, ⟨[], by simp only [List.append_nil]⟩, ?_, ⟨trivial, trivial, trivial⟩, avlts_is _ _, avlts_is _ _, trivial⟩
    all_goals simp only [keeps, avlt, avlts, blksLt, frL, upd_get, S1, simprocAttr, List.length_map, Int.natCast_zero, AV.p.injEq, PV.int.injEq, PV.bool.injEq, PV.sl.injEq] <;> (try and_intros) <;> (try assumption) <;> (try trivial) <;> (try omega)
  obtain rfl : j = fl.length := by omega
  have hok := okS_eq hS hf
  have hst : stC ns fl S = if okS fl.length S = true then 0 else 1 := by unfold stC; rw [if_neg (by simpa using h0)]
  rw [hok] at hst
  have hH : ∀ j, (h ++ [some ⟨0, cNet ns fl⟩, some ⟨0, S.map AV.i⟩, some ⟨0, (restZ S j).map AV.i⟩])[h.length + 1]? = some (some ⟨0, S.map AV.i⟩) := fun j => by simp [get_app]
  have hh1 := held_calls (G := gW) (off := 0) (n := 40) (hH fl.length) (by omega) (by omega)
  have hh2 := held_calls (G := gW) (off := 44) (n := 4) (hH fl.length) (by omega) (by omega)
  rw [List.drop_zero] at hh1
  have hf4 := fun h => fitsV_calls (G := gW) (vS S) h
  have eq0 := eqI (S := restZ S fl.length) (T := List.replicate 40 0) (by rw [restZ_len hS hf, List.length_replicate])
  generalize (restZ S fl.length == List.replicate 40 0) = z0 at eq0 hst
  simp only [List.replicate_succ, List.replicate_zero, List.map_cons, List.map_nil] at eq0
  have rl := restZ_len hS (j := fl.length) hf
  have ar := vS_arr hS
  have dm := dropI (at_get hS (k := 48) (by omega))
  have emd : S.getD 48 0 = mdS S := rfl
  rw [emd] at dm
  have rtk : ((restZ S fl.length).map AV.i).take 40 = (restZ S fl.length).map AV.i := List.take_of_length_le (by rw [List.length_map, rl]; exact Nat.le_refl _)
  generalize mdS S = v at hst dm
  cases z0 with
  | false =>
    repeat' (first | ((first | refine aops_nil ?_ | refine aqops_nil ?_); (try simp only [NB])) | ((repeat ((fail_if_success (refine hK _ ?_)); clear hK K)); refine hK _ ?_; clear hK K) | ((first | refine aops_k fun K1 hK1 => ?_ | refine aqops_k fun K1 hK1 => ?_ | refine awp_cond_k fun A B hA hB => ?_); simp only [S1, simprocAttr, TTToO, Int.lt_irrefl, eq0, rl, rtk, ar, dm,  hne, hS, all_scalar, takeA_arr, takeA_st, eqA, Q26, List.length_map, List.length_take, List.length_drop, Nat.mul_one, Nat.zero_add, Nat.add_zero, Int.toNat_natCast, and_self]; first | (refine hK1 _ ?_; clear hK1 K1) | ((first | refine hA ?_ | refine hB ?_); clear hA hB A B) | ((first | apply call_a E22 | apply call_q E22); exact hh1; (refine hK1 _ ?_; clear hK1 K1)) | ((first | apply call_a E22 | apply call_q E22); exact hh2; (refine hK1 _ ?_; clear hK1 K1)) | ((first | apply call_a E23 | apply call_q E23); exact (hf4 _); (refine hK1 _ ?_; clear hK1 K1)) | (refine join_x (v := ?_) (fun hg hk9 => ?_) ?_; rotate_left; (focus (try ((try simp only [BN] at hg); simp only [S1, simprocAttr, TTToO, Int.lt_irrefl, eq0, rl, rtk, ar, dm,  hne, hS, all_scalar, takeA_arr, takeA_st, eqA, Q26, List.length_map, List.length_take, List.length_drop, Nat.mul_one, Nat.zero_add, Nat.add_zero, Int.toNat_natCast, and_self, hg] at hk9 ⊢)); first | exact hk9 | ((first | apply call_a E22 | apply call_q E22); exact hh1; exact hk9) | ((first | apply call_a E22 | apply call_q E22); exact hh2; exact hk9) | ((first | apply call_a E23 | apply call_q E23); exact (hf4 _); exact hk9)); (refine hK1 _ ?_; clear hK1 K1)) | (((first | (refine ⟨fun hg => hA ?_, fun hg => hB ?_⟩ <;> clear hA hB A B) | refine ⟨fun hg => ?_, fun hg => ?_⟩) <;> (try simp only [BN2] at hg) <;> (try simp only [hg, cond_true, cond_false])) <;> (try (refine hK1 _ ?_; clear hK1 K1)) <;> (try simp only [BN3] at hg))) | (refine awp_seq_k fun K hK => ?_) | ((first | refine awp_region ?_ | refine awp_draw (by kernel_rfl) ?_ | refine awp_block ?_ | refine awp_exit ?_ | refine awp_skip ?_ | refine awp_ret ?_); (try simp only [NB, simprocAttr])))
    all_goals simp only [EndP, FinP, resA, resL, resA1, lastV, lastA, lastAs, pur, purs, take_app, List.take_length, S1, simprocAttr, TTToO, Nat.le_add_right, Nat.le_refl]
    all_goals rw [hst]; rfl
  | true =>
  cases f1 : okH (S.take 40) with
  | false =>
    rw [f1] at hst hh1
    repeat' (first | ((first | refine aops_nil ?_ | refine aqops_nil ?_); (try simp only [NB])) | ((repeat ((fail_if_success (refine hK _ ?_)); clear hK K)); refine hK _ ?_; clear hK K) | ((first | refine aops_k fun K1 hK1 => ?_ | refine aqops_k fun K1 hK1 => ?_ | refine awp_cond_k fun A B hA hB => ?_); simp only [S1, simprocAttr, TTToO, Int.lt_irrefl, eq0, rl, rtk, ar, dm,  hne, hS, all_scalar, takeA_arr, takeA_st, eqA, Q26, List.length_map, List.length_take, List.length_drop, Nat.mul_one, Nat.zero_add, Nat.add_zero, Int.toNat_natCast, and_self]; first | (refine hK1 _ ?_; clear hK1 K1) | ((first | refine hA ?_ | refine hB ?_); clear hA hB A B) | ((first | apply call_a E22 | apply call_q E22); exact hh1; (refine hK1 _ ?_; clear hK1 K1)) | ((first | apply call_a E22 | apply call_q E22); exact hh2; (refine hK1 _ ?_; clear hK1 K1)) | ((first | apply call_a E23 | apply call_q E23); exact (hf4 _); (refine hK1 _ ?_; clear hK1 K1)) | (refine join_x (v := ?_) (fun hg hk9 => ?_) ?_; rotate_left; (focus (try ((try simp only [BN] at hg); simp only [S1, simprocAttr, TTToO, Int.lt_irrefl, eq0, rl, rtk, ar, dm,  hne, hS, all_scalar, takeA_arr, takeA_st, eqA, Q26, List.length_map, List.length_take, List.length_drop, Nat.mul_one, Nat.zero_add, Nat.add_zero, Int.toNat_natCast, and_self, hg] at hk9 ⊢)); first | exact hk9 | ((first | apply call_a E22 | apply call_q E22); exact hh1; exact hk9) | ((first | apply call_a E22 | apply call_q E22); exact hh2; exact hk9) | ((first | apply call_a E23 | apply call_q E23); exact (hf4 _); exact hk9)); (refine hK1 _ ?_; clear hK1 K1)) | (((first | (refine ⟨fun hg => hA ?_, fun hg => hB ?_⟩ <;> clear hA hB A B) | refine ⟨fun hg => ?_, fun hg => ?_⟩) <;> (try simp only [BN2] at hg) <;> (try simp only [hg, cond_true, cond_false])) <;> (try (refine hK1 _ ?_; clear hK1 K1)) <;> (try simp only [BN3] at hg))) | (refine awp_seq_k fun K hK => ?_) | ((first | refine awp_region ?_ | refine awp_draw (by kernel_rfl) ?_ | refine awp_block ?_ | refine awp_exit ?_ | refine awp_skip ?_ | refine awp_ret ?_); (try simp only [NB, simprocAttr])))
    all_goals simp only [EndP, FinP, resA, resL, resA1, lastV, lastA, lastAs, pur, purs, take_app, List.take_length, S1, simprocAttr, TTToO, Nat.le_add_right, Nat.le_refl]
    all_goals rw [hst]; rfl
  | true =>
  rw [f1] at hst hh1
  cases f2 : okH ((S.drop 44).take 4) with
  | false =>
    rw [f2] at hst hh2
    repeat' (first | ((first | refine aops_nil ?_ | refine aqops_nil ?_); (try simp only [NB])) | ((repeat ((fail_if_success (refine hK _ ?_)); clear hK K)); refine hK _ ?_; clear hK K) | ((first | refine aops_k fun K1 hK1 => ?_ | refine aqops_k fun K1 hK1 => ?_ | refine awp_cond_k fun A B hA hB => ?_); simp only [S1, simprocAttr, TTToO, Int.lt_irrefl, eq0, rl, rtk, ar, dm,  hne, hS, all_scalar, takeA_arr, takeA_st, eqA, Q26, List.length_map, List.length_take, List.length_drop, Nat.mul_one, Nat.zero_add, Nat.add_zero, Int.toNat_natCast, and_self]; first | (refine hK1 _ ?_; clear hK1 K1) | ((first | refine hA ?_ | refine hB ?_); clear hA hB A B) | ((first | apply call_a E22 | apply call_q E22); exact hh1; (refine hK1 _ ?_; clear hK1 K1)) | ((first | apply call_a E22 | apply call_q E22); exact hh2; (refine hK1 _ ?_; clear hK1 K1)) | ((first | apply call_a E23 | apply call_q E23); exact (hf4 _); (refine hK1 _ ?_; clear hK1 K1)) | (refine join_x (v := ?_) (fun hg hk9 => ?_) ?_; rotate_left; (focus (try ((try simp only [BN] at hg); simp only [S1, simprocAttr, TTToO, Int.lt_irrefl, eq0, rl, rtk, ar, dm,  hne, hS, all_scalar, takeA_arr, takeA_st, eqA, Q26, List.length_map, List.length_take, List.length_drop, Nat.mul_one, Nat.zero_add, Nat.add_zero, Int.toNat_natCast, and_self, hg] at hk9 ⊢)); first | exact hk9 | ((first | apply call_a E22 | apply call_q E22); exact hh1; exact hk9) | ((first | apply call_a E22 | apply call_q E22); exact hh2; exact hk9) | ((first | apply call_a E23 | apply call_q E23); exact (hf4 _); exact hk9)); (refine hK1 _ ?_; clear hK1 K1)) | (((first | (refine ⟨fun hg => hA ?_, fun hg => hB ?_⟩ <;> clear hA hB A B) | refine ⟨fun hg => ?_, fun hg => ?_⟩) <;> (try simp only [BN2] at hg) <;> (try simp only [hg, cond_true, cond_false])) <;> (try (refine hK1 _ ?_; clear hK1 K1)) <;> (try simp only [BN3] at hg))) | (refine awp_seq_k fun K hK => ?_) | ((first | refine awp_region ?_ | refine awp_draw (by kernel_rfl) ?_ | refine awp_block ?_ | refine awp_exit ?_ | refine awp_skip ?_ | refine awp_ret ?_); (try simp only [NB, simprocAttr])))
    all_goals simp only [EndP, FinP, resA, resL, resA1, lastV, lastA, lastAs, pur, purs, take_app, List.take_length, S1, simprocAttr, TTToO, Nat.le_add_right, Nat.le_refl]
    all_goals rw [hst]; rfl
  | true =>
  rw [f2] at hst hh2
  cases f3 : inV (vS S) with
  | false =>
    rw [f3] at hst hf4
    repeat' (first | ((first | refine aops_nil ?_ | refine aqops_nil ?_); (try simp only [NB])) | ((repeat ((fail_if_success (refine hK _ ?_)); clear hK K)); refine hK _ ?_; clear hK K) | ((first | refine aops_k fun K1 hK1 => ?_ | refine aqops_k fun K1 hK1 => ?_ | refine awp_cond_k fun A B hA hB => ?_); simp only [S1, simprocAttr, TTToO, Int.lt_irrefl, eq0, rl, rtk, ar, dm,  hne, hS, all_scalar, takeA_arr, takeA_st, eqA, Q26, List.length_map, List.length_take, List.length_drop, Nat.mul_one, Nat.zero_add, Nat.add_zero, Int.toNat_natCast, and_self]; first | (refine hK1 _ ?_; clear hK1 K1) | ((first | refine hA ?_ | refine hB ?_); clear hA hB A B) | ((first | apply call_a E22 | apply call_q E22); exact hh1; (refine hK1 _ ?_; clear hK1 K1)) | ((first | apply call_a E22 | apply call_q E22); exact hh2; (refine hK1 _ ?_; clear hK1 K1)) | ((first | apply call_a E23 | apply call_q E23); exact (hf4 _); (refine hK1 _ ?_; clear hK1 K1)) | (refine join_x (v := ?_) (fun hg hk9 => ?_) ?_; rotate_left; (focus (try ((try simp only [BN] at hg); simp only [S1, simprocAttr, TTToO, Int.lt_irrefl, eq0, rl, rtk, ar, dm,  hne, hS, all_scalar, takeA_arr, takeA_st, eqA, Q26, List.length_map, List.length_take, List.length_drop, Nat.mul_one, Nat.zero_add, Nat.add_zero, Int.toNat_natCast, and_self, hg] at hk9 ⊢)); first | exact hk9 | ((first | apply call_a E22 | apply call_q E22); exact hh1; exact hk9) | ((first | apply call_a E22 | apply call_q E22); exact hh2; exact hk9) | ((first | apply call_a E23 | apply call_q E23); exact (hf4 _); exact hk9)); (refine hK1 _ ?_; clear hK1 K1)) | (((first | (refine ⟨fun hg => hA ?_, fun hg => hB ?_⟩ <;> clear hA hB A B) | refine ⟨fun hg => ?_, fun hg => ?_⟩) <;> (try simp only [BN2] at hg) <;> (try simp only [hg, cond_true, cond_false])) <;> (try (refine hK1 _ ?_; clear hK1 K1)) <;> (try simp only [BN3] at hg))) | (refine awp_seq_k fun K hK => ?_) | ((first | refine awp_region ?_ | refine awp_draw (by kernel_rfl) ?_ | refine awp_block ?_ | refine awp_exit ?_ | refine awp_skip ?_ | refine awp_ret ?_); (try simp only [NB, simprocAttr])))
    all_goals simp only [EndP, FinP, resA, resL, resA1, lastV, lastA, lastAs, pur, purs, take_app, List.take_length, S1, simprocAttr, TTToO, Nat.le_add_right, Nat.le_refl]
    all_goals rw [hst]; rfl
  | true =>
  rw [f3] at hst hf4
  by_cases h1 : v < 0
  · have f4 : decide (v < 0) = true := decide_eq_true h1
    have f5 : decide (0 ≤ v) = false := decide_eq_false (by omega)
    rw [f5] at hst
    repeat' (first | ((first | refine aops_nil ?_ | refine aqops_nil ?_); (try simp only [NB])) | ((repeat ((fail_if_success (refine hK _ ?_)); clear hK K)); refine hK _ ?_; clear hK K) | ((first | refine aops_k fun K1 hK1 => ?_ | refine aqops_k fun K1 hK1 => ?_ | refine awp_cond_k fun A B hA hB => ?_); simp only [S1, simprocAttr, TTToO, Int.lt_irrefl, eq0, rl, rtk, ar, dm, f4, hne, hS, all_scalar, takeA_arr, takeA_st, eqA, Q26, List.length_map, List.length_take, List.length_drop, Nat.mul_one, Nat.zero_add, Nat.add_zero, Int.toNat_natCast, and_self]; first | (refine hK1 _ ?_; clear hK1 K1) | ((first | refine hA ?_ | refine hB ?_); clear hA hB A B) | ((first | apply call_a E22 | apply call_q E22); exact hh1; (refine hK1 _ ?_; clear hK1 K1)) | ((first | apply call_a E22 | apply call_q E22); exact hh2; (refine hK1 _ ?_; clear hK1 K1)) | ((first | apply call_a E23 | apply call_q E23); exact (hf4 _); (refine hK1 _ ?_; clear hK1 K1)) | (refine join_x (v := ?_) (fun hg hk9 => ?_) ?_; rotate_left; (focus (try ((try simp only [BN] at hg); simp only [S1, simprocAttr, TTToO, Int.lt_irrefl, eq0, rl, rtk, ar, dm, f4, hne, hS, all_scalar, takeA_arr, takeA_st, eqA, Q26, List.length_map, List.length_take, List.length_drop, Nat.mul_one, Nat.zero_add, Nat.add_zero, Int.toNat_natCast, and_self, hg] at hk9 ⊢)); first | exact hk9 | ((first | apply call_a E22 | apply call_q E22); exact hh1; exact hk9) | ((first | apply call_a E22 | apply call_q E22); exact hh2; exact hk9) | ((first | apply call_a E23 | apply call_q E23); exact (hf4 _); exact hk9)); (refine hK1 _ ?_; clear hK1 K1)) | (((first | (refine ⟨fun hg => hA ?_, fun hg => hB ?_⟩ <;> clear hA hB A B) | refine ⟨fun hg => ?_, fun hg => ?_⟩) <;> (try simp only [BN2] at hg) <;> (try simp only [hg, cond_true, cond_false])) <;> (try (refine hK1 _ ?_; clear hK1 K1)) <;> (try simp only [BN3] at hg))) | (refine awp_seq_k fun K hK => ?_) | ((first | refine awp_region ?_ | refine awp_draw (by kernel_rfl) ?_ | refine awp_block ?_ | refine awp_exit ?_ | refine awp_skip ?_ | refine awp_ret ?_); (try simp only [NB, simprocAttr])))
    all_goals simp only [EndP, FinP, resA, resL, resA1, lastV, lastA, lastAs, pur, purs, take_app, List.take_length, S1, simprocAttr, TTToO, Nat.le_add_right, Nat.le_refl]
    all_goals rw [hst]; rfl
  have f4 : decide (v < 0) = false := decide_eq_false h1
  have f5 : decide (0 ≤ v) = true := decide_eq_true (by omega)
  by_cases h2 : 2 < v
  · have f6 : decide (2 < v) = true := decide_eq_true h2
    have f7 : decide (v ≤ 2) = false := decide_eq_false (by omega)
    rw [f5, f7] at hst
    repeat' (first | ((first | refine aops_nil ?_ | refine aqops_nil ?_); (try simp only [NB])) | ((repeat ((fail_if_success (refine hK _ ?_)); clear hK K)); refine hK _ ?_; clear hK K) | ((first | refine aops_k fun K1 hK1 => ?_ | refine aqops_k fun K1 hK1 => ?_ | refine awp_cond_k fun A B hA hB => ?_); simp only [S1, simprocAttr, TTToO, Int.lt_irrefl, eq0, rl, rtk, ar, dm, f4, f6, hne, hS, all_scalar, takeA_arr, takeA_st, eqA, Q26, List.length_map, List.length_take, List.length_drop, Nat.mul_one, Nat.zero_add, Nat.add_zero, Int.toNat_natCast, and_self]; first | (refine hK1 _ ?_; clear hK1 K1) | ((first | refine hA ?_ | refine hB ?_); clear hA hB A B) | ((first | apply call_a E22 | apply call_q E22); exact hh1; (refine hK1 _ ?_; clear hK1 K1)) | ((first | apply call_a E22 | apply call_q E22); exact hh2; (refine hK1 _ ?_; clear hK1 K1)) | ((first | apply call_a E23 | apply call_q E23); exact (hf4 _); (refine hK1 _ ?_; clear hK1 K1)) | (refine join_x (v := ?_) (fun hg hk9 => ?_) ?_; rotate_left; (focus (try ((try simp only [BN] at hg); simp only [S1, simprocAttr, TTToO, Int.lt_irrefl, eq0, rl, rtk, ar, dm, f4, f6, hne, hS, all_scalar, takeA_arr, takeA_st, eqA, Q26, List.length_map, List.length_take, List.length_drop, Nat.mul_one, Nat.zero_add, Nat.add_zero, Int.toNat_natCast, and_self, hg] at hk9 ⊢)); first | exact hk9 | ((first | apply call_a E22 | apply call_q E22); exact hh1; exact hk9) | ((first | apply call_a E22 | apply call_q E22); exact hh2; exact hk9) | ((first | apply call_a E23 | apply call_q E23); exact (hf4 _); exact hk9)); (refine hK1 _ ?_; clear hK1 K1)) | (((first | (refine ⟨fun hg => hA ?_, fun hg => hB ?_⟩ <;> clear hA hB A B) | refine ⟨fun hg => ?_, fun hg => ?_⟩) <;> (try simp only [BN2] at hg) <;> (try simp only [hg, cond_true, cond_false])) <;> (try (refine hK1 _ ?_; clear hK1 K1)) <;> (try simp only [BN3] at hg))) | (refine awp_seq_k fun K hK => ?_) | ((first | refine awp_region ?_ | refine awp_draw (by kernel_rfl) ?_ | refine awp_block ?_ | refine awp_exit ?_ | refine awp_skip ?_ | refine awp_ret ?_); (try simp only [NB, simprocAttr])))
    all_goals simp only [EndP, FinP, resA, resL, resA1, lastV, lastA, lastAs, pur, purs, take_app, List.take_length, S1, simprocAttr, TTToO, Nat.le_add_right, Nat.le_refl]
    all_goals rw [hst]; rfl
  have f6 : decide (2 < v) = false := decide_eq_false h2
  have f7 : decide (v ≤ 2) = true := decide_eq_true (by omega)
  rw [f5, f7] at hst
  repeat' (first | ((first | refine aops_nil ?_ | refine aqops_nil ?_); (try simp only [NB])) | ((repeat ((fail_if_success (refine hK _ ?_)); clear hK K)); refine hK _ ?_; clear hK K) | ((first | refine aops_k fun K1 hK1 => ?_ | refine aqops_k fun K1 hK1 => ?_ | refine awp_cond_k fun A B hA hB => ?_); simp only [S1, simprocAttr, TTToO, Int.lt_irrefl, eq0, rl, rtk, ar, dm, f4, f6, hne, hS, all_scalar, takeA_arr, takeA_st, eqA, Q26, List.length_map, List.length_take, List.length_drop, Nat.mul_one, Nat.zero_add, Nat.add_zero, Int.toNat_natCast, and_self]; first | (refine hK1 _ ?_; clear hK1 K1) | ((first | refine hA ?_ | refine hB ?_); clear hA hB A B) | ((first | apply call_a E22 | apply call_q E22); exact hh1; (refine hK1 _ ?_; clear hK1 K1)) | ((first | apply call_a E22 | apply call_q E22); exact hh2; (refine hK1 _ ?_; clear hK1 K1)) | ((first | apply call_a E23 | apply call_q E23); exact (hf4 _); (refine hK1 _ ?_; clear hK1 K1)) | (refine join_x (v := ?_) (fun hg hk9 => ?_) ?_; rotate_left; (focus (try ((try simp only [BN] at hg); simp only [S1, simprocAttr, TTToO, Int.lt_irrefl, eq0, rl, rtk, ar, dm, f4, f6, hne, hS, all_scalar, takeA_arr, takeA_st, eqA, Q26, List.length_map, List.length_take, List.length_drop, Nat.mul_one, Nat.zero_add, Nat.add_zero, Int.toNat_natCast, and_self, hg] at hk9 ⊢)); first | exact hk9 | ((first | apply call_a E22 | apply call_q E22); exact hh1; exact hk9) | ((first | apply call_a E22 | apply call_q E22); exact hh2; exact hk9) | ((first | apply call_a E23 | apply call_q E23); exact (hf4 _); exact hk9)); (refine hK1 _ ?_; clear hK1 K1)) | (((first | (refine ⟨fun hg => hA ?_, fun hg => hB ?_⟩ <;> clear hA hB A B) | refine ⟨fun hg => ?_, fun hg => ?_⟩) <;> (try simp only [BN2] at hg) <;> (try simp only [hg, cond_true, cond_false])) <;> (try (refine hK1 _ ?_; clear hK1 K1)) <;> (try simp only [BN3] at hg))) | (refine awp_seq_k fun K hK => ?_) | ((first | refine awp_region ?_ | refine awp_draw (by kernel_rfl) ?_ | refine awp_block ?_ | refine awp_exit ?_ | refine awp_skip ?_ | refine awp_ret ?_); (try simp only [NB, simprocAttr])))
  all_goals simp only [EndP, FinP, resA, resL, resA1, lastV, lastA, lastAs, pur, purs, take_app, List.take_length, S1, simprocAttr, TTToO, Nat.le_add_right, Nat.le_refl]
  all_goals rw [hst]; rfl
end Go.Proofs.YtjpphhcimpclpaaDoor.AM
end

section
set_option linter.unusedVariables false
set_option linter.unusedSimpArgs false
namespace Go.Proofs.YtjpphhcimpclpaaDoor.AM
open Go Go.Proofs

/-- The tokens of a state, as a function. -/
def tokF (S : List Int) : Int → Int := fun i => if 0 ≤ i ∧ i < 40 then tk S i else 0
def listF (t : Int → Int) : List Int := (List.range 40).map fun (i : Nat) => t (i : Int)
theorem aA_listF (t : Int → Int) : aA t = (listF t).map AV.i := by unfold aA listF; rw [List.map_map]; rfl
theorem listF_tokF {S : List Int} (hS : S.length = 49) : listF (tokF S) = S.take 40 := by
  apply List.ext_getElem?
  intro i
  unfold listF
  rw [List.getElem?_map]
  rcases Nat.lt_or_ge i 40 with hi | hi
  · rw [List.getElem?_range hi, List.getElem?_take_of_lt hi, at_get hS (by omega)]
    unfold tokF
    rw [Option.map_some, if_pos ⟨by omega, by omega⟩]; rfl
  · rw [List.getElem?_eq_none (by simpa using hi), List.getElem?_eq_none (by rw [List.length_take]; omega)]; rfl

structure RelT (S : List Int) (t : Int → Int) : Prop where
  len : S.length = 49
  eq : ∀ i : Int, 0 ≤ i → i < 40 → tk S i = t i
theorem RelT.tokF {S : List Int} (hS : S.length = 49) : RelT S (tokF S) := ⟨hS, fun i h0 h1 => by unfold AM.tokF; rw [if_pos ⟨h0, h1⟩]⟩
theorem RelT.take {S : List Int} {t : Int → Int} (h : RelT S t) : S.take 40 = listF t := by
  rw [← listF_tokF h.len]
  unfold listF
  apply List.map_congr_left
  intro i hi
  have := List.mem_range.mp hi
  unfold AM.tokF
  rw [if_pos ⟨by omega, by omega⟩, h.eq _ (by omega) (by omega)]
theorem RelT.set {S : List Int} {t : Int → Int} (h : RelT S t) {f v : Int} (h0 : 0 ≤ f) (h1 : f < 40) : RelT (S.set f.toNat v) (setT t f v) := by
  have hl := h.len
  refine ⟨by rw [List.length_set, hl], fun i i0 i1 => ?_⟩
  unfold tk setT
  rw [List.getD_eq_getElem?_getD, List.getElem?_set]
  by_cases e : i = f
  · subst e; rw [if_pos rfl, if_pos rfl, if_pos (by omega)]; rfl
  · rw [if_neg (by omega), if_neg e, ← List.getD_eq_getElem?_getD]
    exact h.eq i i0 i1
theorem flow_in {f : Int} (h : flowB f = true) : 0 ≤ f ∧ f < 40 := by
  simp only [flowB, Bool.and_eq_true, decide_eq_true_eq] at h; omega
theorem run_takeT : ∀ {l : List Int} {S : List Int} {t u : Int → Int}, RelT S t → takeT l t = some u → ∃ T, runO stepT l S = some T ∧ RelT T u
  | [], S, t, u, h, e => by cases e; exact ⟨S, rfl, h⟩
  | f :: r, S, t, u, h, e => by
    unfold takeT at e
    split at e
    · rename_i hc
      obtain ⟨f0, f1⟩ := flow_in hc.1
      have ek := h.eq f f0 f1
      obtain ⟨T, h1, h2⟩ := run_takeT (h.set (v := t f - 1) f0 f1) e
      refine ⟨T, ?_, h2⟩
      unfold runO at h1 ⊢
      rw [List.foldlM_cons]
      have : stepT S f = some (S.set f.toNat (t f - 1)) := by unfold stepT; rw [if_neg (by omega), ek]
      rw [this]; exact h1
    · cases e
theorem run_giveT : ∀ {l : List Int} {S : List Int} {t u : Int → Int}, inF l = true → RelT S t → giveT l t = some u → ∃ T, runO stepP l S = some T ∧ RelT T u
  | [], S, t, u, _, h, e => by cases e; exact ⟨S, rfl, h⟩
  | f :: r, S, t, u, hi, h, e => by
    unfold inF at hi
    rw [List.all_cons, Bool.and_eq_true] at hi
    unfold giveT at e
    split at e
    · cases e
    · rename_i hc
      obtain ⟨f0, f1⟩ := flow_in hi.1
      have ek := h.eq f f0 f1
      obtain ⟨T, h1, h2⟩ := run_giveT (l := r) hi.2 (h.set (v := t f + 1) f0 f1) e
      refine ⟨T, ?_, h2⟩
      unfold runO at h1 ⊢
      rw [List.foldlM_cons]
      have : stepP S f = some (S.set f.toNat (t f + 1)) := by unfold stepP; rw [if_neg (by omega), ek]
      rw [this]; exact h1
theorem joinS_len {S T : List Int} (hS : S.length = 49) (hT : T.length = 49) : (joinS S T).length = 49 := by simp [joinS, hS, hT]
theorem joinS_rel {S T : List Int} {t : Int → Int} (h : RelT S t) (hT : T.length = 49) : RelT (joinS S T) t := by
  have hl := h.len
  refine ⟨joinS_len hl hT, fun i i0 i1 => ?_⟩
  rw [← h.eq i i0 i1]
  unfold tk joinS
  rw [List.getD_eq_getElem?_getD, List.getElem?_append_left (by rw [List.length_take]; omega), List.getElem?_take_of_lt (by omega), ← List.getD_eq_getElem?_getD]

/-- A move goes just as the rule does. -/
theorem moveG_do {S : List Int} {t u : Int → Int} (h : RelT S t) {x : Sp} (hx : x.to.length = 49) {fr to : List Int} (e : doR fr to t = (some u, 0)) : ∃ U, moveG S x fr to = [{ x with to := U }] ∧ RelT U u := by
  unfold doR at e
  split at e
  · rename_i hi
    split at e
    · rename_i hc
      split at e
      · rename_i v hv
        cases e
        have ht : takeT fr t = some (lessT fr t) := by rw [takeT_eq, if_pos hc]
        obtain ⟨T, a1, a2⟩ := run_takeT (joinS_rel h hx) ht
        obtain ⟨U, b1, b2⟩ := run_giveT hi.2 a2 hv
        exact ⟨U, by unfold moveG; rw [a1]; simp only; rw [b1], b2⟩
      · cases e
    · cases e
  · cases e
/-- A rule that goes takes from its first flow. -/
theorem doR_first {t u : Int → Int} {fr to : List Int} (e : doR fr to t = (some u, 0)) : ∀ f ∈ fr, 0 < t f := by
  intro f hf
  unfold doR at e
  split at e
  · split at e
    · rename_i hc
      simp only [canB, Bool.and_eq_true, List.all_eq_true, Bool.not_eq_true', decide_eq_false_iff_not] at hc
      have h1 := hc.2 f hf
      have h2 : 0 < cnt fr f := by
        unfold cnt
        have : f ∈ fr.filter (· == f) := List.mem_filter.mpr ⟨hf, by simp⟩
        have := List.length_pos_of_mem this
        omega
      omega
    · cases e
  · cases e
end Go.Proofs.YtjpphhcimpclpaaDoor.AM
end

section
set_option linter.unusedVariables false
set_option linter.unusedSimpArgs false
namespace Go.Proofs.YtjpphhcimpclpaaDoor.AM
open Go Go.Proofs

theorem mem_ruTo {ns : List Nd} {fl : List Fl} {r : Ru} : ∀ {n : Nat}, r ∈ ruTo ns fl n → ∃ j, j < n ∧ r ∈ ruOf fl j (kindAt ns j)
  | 0, h => by simp [ruTo] at h
  | n + 1, h => by
    rw [ruTo] at h
    rcases List.mem_append.mp h with h | h
    · obtain ⟨j, h1, h2⟩ := mem_ruTo h; exact ⟨j, by omega, h2⟩
    · exact ⟨n, by omega, h⟩
theorem mem_nodesG {ns : List Nd} {fl : List Fl} {S : List Int} {j : Nat} {k : Nd} (hk : ns[j]? = some k) {y : Sp} (hy : y ∈ nodeG ns fl S j k) : ∀ {n : Nat}, j < n → y ∈ nodesG ns fl S n
  | 0, h => by omega
  | n + 1, h => by
    rw [nodesG]
    by_cases e : j = n
    · subst e; rw [hk]; exact List.mem_append.mpr (.inr hy)
    · exact List.mem_append.mpr (.inl (mem_nodesG hk hy (by omega)))

def FreeOk (u : Int → Int) (node : Int) (y : Sp) : Prop := y.node = node ∧ (RelT y.to u ∨ y.lk = 6)

theorem free_move {S : List Int} {u : Int → Int} (hS : S.length = 49) {x : Sp} (hx : x.to.length = 49) {fr to : List Int} (e : doR fr to (tokF S) = (some u, 0)) : ∃ y ∈ moveG S x fr to, FreeOk u x.node y := by
  obtain ⟨U, h1, h2⟩ := moveG_do (RelT.tokF hS) hx e
  exact ⟨{ x with to := U }, by rw [h1]; exact List.mem_singleton.mpr rfl, rfl, .inl h2⟩
theorem tk_first {S : List Int} {u : Int → Int} {fr to : List Int} (hf : InF fr) (hne : fr ≠ []) (e : doR fr to (tokF S) = (some u, 0)) : tk S (fr.headD 0) ≠ 0 := by
  cases fr with
  | nil => exact absurd rfl hne
  | cons f r =>
    have h1 := doR_first e f (by simp)
    obtain ⟨f0, f1⟩ := hf.2 f (by simp)
    unfold tokF at h1
    rw [if_pos ⟨f0, f1⟩] at h1
    simp only [List.headD_cons]
    omega

theorem free_node {ns : List Nd} {fl : List Fl} (rt : Right ns fl) {S : List Int} (hS : S.length = 49) {j : Nat} {k : Nd} (hk : ns[j]? = some k) {r : Ru} (hr : r ∈ ruOf fl j k.kind) (h1 : r.kind = 1) {u : Int → Int} (e : doR r.needs r.gives (tokF S) = (some u, 0)) :
    ∃ y ∈ nodeG ns fl S j k, FreeOk u r.node y := by
  have hf := rt.f
  have hkd := rt.kind hk
  have hst : ∀ (a : Nat) (v : Int), (S.set a v).length = 49 := fun a v => by rw [List.length_set, hS]
  have hj := (List.getElem?_eq_some_iff.mp hk).1
  unfold ruOf at hr
  split at hr
  · cases hr
  rename_i n1
  have hin := rt.ins hk n1
  split at hr
  · obtain ⟨f, _, rfl⟩ := List.mem_map.mp hr
    simp at h1
  rename_i n7
  split at hr
  · rw [List.mem_singleton.mp hr] at h1
    simp at h1
  rename_i n8
  split at hr
  · rename_i k5
    split at hr
    · obtain ⟨f, _, rfl⟩ := List.mem_map.mp hr
      simp at h1
    · rename_i hlt
      obtain ⟨f, hfm, rfl⟩ := List.mem_map.mp hr
      have hx := rt.xor hj (by rw [kind_of hk]; exact k5)
      have ho : (outsN fl j).length = 1 := by omega
      obtain ⟨o, hoo⟩ := List.length_eq_one_iff.mp ho
      rw [hoo] at e
      simp only [List.headD_cons] at e
      obtain ⟨y, hy, hg⟩ := free_move hS (x := ⟨j, f, 0, 0, 0, S⟩) hS e
      refine ⟨y, ?_, hg⟩
      unfold nodeG
      rw [if_neg (by omega), if_neg (by omega), if_pos k5]
      unfold xorG
      rw [if_pos ho]
      exact List.mem_flatMap.mpr ⟨f, hfm, by rw [hoo]; exact hy⟩
  rename_i n5
  rw [List.mem_singleton.mp hr] at e ⊢
  simp only at e ⊢
  by_cases k2 : k.kind = 2
  · have h3 := rt.three hj
    unfold threeB at h3
    simp only [kind_of hk, k2] at h3
    simp only [Int.reduceEq, reduceIte, Bool.and_eq_true, beq_iff_eq] at h3
    have ho : outsN fl j = [] := List.eq_nil_of_length_eq_zero h3.2
    rw [ho] at e
    unfold nodeG
    rw [if_pos k2]
    unfold lastG
    split
    · exact free_move hS (x := ⟨j, 0, 7, 0, 0, S.set 48 1⟩) (hst _ _) e
    · exact free_move hS (x := ⟨j, 0, 0, 0, 0, S⟩) hS e
  by_cases k34 : k.kind = 3 ∨ k.kind = 4
  · unfold nodeG
    rw [if_neg k2, if_pos k34]
    have ht := tk_first (InF_ins hf j) hin e
    unfold dataG
    rw [if_neg ht]
    split
    · obtain ⟨y, hy, hg⟩ := free_move hS (x := ⟨j, 0, 1, j, 0, S.set (40 + k.a.toNat) 0⟩) (hst _ _) e
      exact ⟨y, List.mem_append.mpr (.inl hy), hg⟩
    · split
      · exact ⟨_, List.mem_singleton.mpr rfl, rfl, .inr rfl⟩
      · exact free_move hS (x := ⟨j, 0, 2, j, 0, S.set (40 + k.a.toNat) (numR k.term (vS S)).1⟩) (hst _ _) e
  have k6 : k.kind = 6 := by omega
  unfold nodeG
  rw [if_neg k2, if_neg k34, if_neg n5, if_pos k6]
  exact free_move hS (x := ⟨j, 0, 0, 0, 0, S⟩) hS e

theorem free_steps {ns : List Nd} {fl : List Fl} {S : List Int} (hS : S.length = 49) (h0 : stC ns fl S = 0) (hm : mdS S = 0) {r : Ru} (hr : r ∈ (allRu ns fl).1) (h1 : r.kind = 1) {u : Int → Int} (e : doR r.needs r.gives (tokF S) = (some u, 0)) :
    ∃ y ∈ stepsG ns fl S, FreeOk u r.node y := by
  obtain ⟨hn, hok⟩ := stC_zero h0
  have rt := Right.of hn
  unfold allRu at hr
  rw [if_pos hn] at hr
  obtain ⟨j, hj, hr⟩ := mem_ruTo hr
  obtain ⟨k, hk⟩ : ∃ k, ns[j]? = some k := ⟨_, List.getElem?_eq_getElem hj⟩
  rw [kind_of hk] at hr
  obtain ⟨y, hy, hg⟩ := free_node rt hS hk hr h1 e
  refine ⟨y, ?_, hg⟩
  unfold stepsG
  rw [if_neg (by simp [h0, hm])]
  exact List.mem_append.mpr (.inl (mem_nodesG hk hy hj))
end Go.Proofs.YtjpphhcimpclpaaDoor.AM
end

section
set_option linter.unusedVariables false
set_option linter.unusedSimpArgs false
set_option maxRecDepth 4000
set_option maxHeartbeats 4000000
namespace Go.Proofs.YtjpphhcimpclpaaDoor.AM
open Go Go.Proofs
set_option linter.defProp false in
attribute [local irreducible] awp aops aqops aeops
variable {G : Nat → Option (List PV)}

abbrev aR (kind node : Int) (needs gives : List Int) : AV := .agg [.i kind, .i node, aI needs, aI gives]

/- left out: not in this program -/

end Go.Proofs.YtjpphhcimpclpaaDoor.AM
end

section
set_option linter.unusedVariables false
set_option linter.unusedSimpArgs false
set_option maxRecDepth 4000
set_option maxHeartbeats 4000000
namespace Go.Proofs.YtjpphhcimpclpaaDoor.AM
open Go Go.Proofs
set_option linter.defProp false in
attribute [local irreducible] awp aops aqops aeops
variable {G : Nat → Option (List PV)}

abbrev resD (needs gives : List Int) (tok : Int → Int) : AV := .tup [.agg (aA ((doR needs gives tok).1.getD zT)), .i (doR needs gives tok).2]

theorem giveT_app : ∀ (a b : List Int) (tok : Int → Int), giveT (a ++ b) tok = (giveT a tok).bind (giveT b)
  | [], b, tok => rfl
  | f :: r, b, tok => by
    simp only [List.cons_append, giveT]
    split
    · rfl
    · exact giveT_app r b _

theorem giveT_next {l : List Int} {i : Nat} {k : Int} (hx : l[i]? = some k) {tok t : Int → Int} (hp : giveT (l.take i) tok = some t) :
    giveT (l.take (i + 1)) tok = if 2 < t k then none else some (setT t k (t k + 1)) := by
  rw [List.take_add_one, hx, Option.toList_some, giveT_app, hp]
  simp [giveT]

theorem giveT_stop {l : List Int} {i : Nat} {k : Int} (hx : l[i]? = some k) {tok t : Int → Int} (hp : giveT (l.take i) tok = some t) (hn : 2 < t k) : giveT l tok = none := by
  have h := giveT_next hx hp
  rw [if_pos hn] at h
  rw [← List.take_append_drop (i + 1) l, giveT_app, h]; rfl

theorem giveT_ge : ∀ (l : List Int) (tok t : Int → Int), giveT l tok = some t → ∀ i, tok i ≤ t i
  | [], tok, t, h, i => by simp [giveT] at h; subst h; exact Int.le_refl _
  | f :: r, tok, t, h, i => by
    unfold giveT at h
    split at h
    · cases h
    · have := giveT_ge r _ t h i
      simp only [setT] at this
      split at this <;> (try subst_vars) <;> omega

theorem less_low {needs : List Int} {tok : Int → Int} (hc : canB needs tok = true) (hb : ∀ i, -9223372036854775808 ≤ tok i) (i : Int) : -9223372036854775808 ≤ lessT needs tok i := by
  unfold lessT
  by_cases hm : i ∈ needs
  · unfold canB at hc
    simp only [Bool.and_eq_true, List.all_eq_true, Bool.not_eq_true', decide_eq_false_iff_not] at hc
    have := hc.2 i hm
    omega
  · have : cnt needs i = 0 := by
      unfold cnt
      rw [List.filter_eq_nil_iff.mpr (fun x hx => by intro e; exact hm ((beq_iff_eq.mp e) ▸ hx))]
      rfl
    have := hb i
    omega

/- left out: not in this program -/

/- left out: not in this program -/

/- left out: not in this program -/

/- left out: not in this program -/

end Go.Proofs.YtjpphhcimpclpaaDoor.AM
end

section
set_option linter.unusedVariables false
set_option linter.unusedSimpArgs false
set_option maxRecDepth 4000
set_option maxHeartbeats 4000000
namespace Go.Proofs.YtjpphhcimpclpaaDoor.AM
open Go Go.Proofs
set_option linter.defProp false in
def TTRdF := And.intro T2 (And.intro T3 (And.intro T4 (And.intro T31 (And.intro T40 (And.intro T42 T88)))))
attribute [local irreducible] awp aops aqops aeops
variable {G : Nat → Option (List PV)}

theorem rDo_calls (kind node : Int) (needs gives : List Int) (hl : needs.length ≤ 200) (hl2 : gives.length ≤ 200) (tok : Int → Int) (ht : ∀ i, tok i ≤ 9223372036854775807) (hb : ∀ i, -9223372036854775808 ≤ tok i) (h : Heap) :
    ACalls Tryd.prog G 13 [aR kind node needs gives, .agg (aA tok)] h (fun r h' => r = resD needs gives tok ∧ h' = h) := by
  refine acalls_pure (rl := []) mixed Tryd.func13 rfl (rs := [.cell 4 26, .tmp 5]) rfl Tryd.ntmps13 (by simp) ?_
  refine awp_seq_k fun K hK => ?_
  repeat' (first | ((first | refine aops_nil ?_ | refine aqops_nil ?_); (try simp only [NB]); ((repeat ((fail_if_success (refine hK _ ?_)); clear hK K)); refine hK _ ?_; clear hK K)) | ((first | refine aops_k fun K1 hK1 => ?_ | refine aqops_k fun K1 hK1 => ?_ | refine awp_cond_k fun A B hA hB => ?_); simp only [S1, simprocAttr, TTRdF, T40z, z40_ne, z40_map, aA_len, aA_scalar, aA_ne, over_aA, aA_take40, aA_load]; first | (refine hK1 _ ?_; clear hK1 K1) | ((first | refine hA ?_ | refine hB ?_); clear hA hB A B) | (((first | (refine ⟨fun hg => hA ?_, fun hg => hB ?_⟩ <;> clear hA hB A B) | refine ⟨fun hg => ?_, fun hg => ?_⟩) <;> (try simp only [BN2] at hg) <;> (try simp only [hg, cond_true, cond_false])) <;> (try (refine hK1 _ ?_; clear hK1 K1)) <;> (try simp only [BN3] at hg))) | (fail) | ((first | refine awp_region ?_ | refine awp_draw (by kernel_rfl) ?_ | refine awp_block ?_ | refine awp_exit ?_ | refine awp_skip ?_ | refine awp_ret ?_); (try simp only [NB, simprocAttr]); (try ((repeat ((fail_if_success (refine hK _ ?_)); clear hK K)); refine hK _ ?_; clear hK K))))
  refine awp_seq_k fun K hK => ?_
  refine awp_seq_k fun K hK => ?_
  repeat' (first | ((first | refine aops_nil ?_ | refine aqops_nil ?_); (try simp only [NB]); ((repeat ((fail_if_success (refine hK _ ?_)); clear hK K)); refine hK _ ?_; clear hK K)) | ((first | refine aops_k fun K1 hK1 => ?_ | refine aqops_k fun K1 hK1 => ?_ | refine awp_cond_k fun A B hA hB => ?_); simp only [S1, simprocAttr, TTRdF]; first | (refine hK1 _ ?_; clear hK1 K1) | ((first | refine hA ?_ | refine hB ?_); clear hA hB A B) | (((first | (refine ⟨fun hg => hA ?_, fun hg => hB ?_⟩ <;> clear hA hB A B) | refine ⟨fun hg => ?_, fun hg => ?_⟩) <;> (try simp only [BN2] at hg) <;> (try simp only [hg, cond_true, cond_false])) <;> (try (refine hK1 _ ?_; clear hK1 K1)) <;> (try simp only [BN3] at hg))) | (fail) | ((first | refine awp_region ?_ | refine awp_draw (by kernel_rfl) ?_ | refine awp_block ?_ | refine awp_exit ?_ | refine awp_skip ?_ | refine awp_ret ?_); (try simp only [NB, simprocAttr]); (try ((repeat ((fail_if_success (refine hK _ ?_)); clear hK K)); refine hK _ ?_; clear hK K))))
  refine awp_for 2 63 (fun j => [(19, .i j), (18, .agg [aI needs, aI gives]), (2, .ptr h.length 0 0), (3, .ptr (h.length + 1) 0 0), (4, .ptr (h.length + 2) 0 0)]) (fun j => [some ⟨0, [.i kind, .i node, aI needs, aI gives]⟩, some ⟨0, aA tok⟩, some ⟨0, aA zT⟩]) (fun j => (1 ≤ j → inF needs = true) ∧ (2 ≤ j → inF gives = true)) ?_ ⟨fun e => by omega, fun e => by omega⟩ fun j hj hpj K hK => ?_
  · refine ⟨rfl, ⟨[], by simp⟩, ?_, ⟨trivial, trivial, trivial, trivial, trivial⟩, avlts_aA _ _, avlts_aA _ _, trivial⟩
    simp only [keeps, avlt, avlts, blksLt, frL, upd_get, S1, simprocAttr, List.length_map, Int.natCast_zero, AV.p.injEq, PV.int.injEq, PV.bool.injEq, PV.sl.injEq] <;> (try and_intros) <;> (try assumption) <;> (try trivial) <;> (try omega)
  rcases (by omega : j = 0 ∨ j = 1 ∨ j = 2) with rfl | rfl | rfl
  · have c0 : ((0 : Nat) : Int) = 0 := rfl
    simp only [c0]
    -- round 0
    repeat' (first | ((first | refine aops_nil ?_ | refine aqops_nil ?_); (try simp only [NB])) | ((repeat ((fail_if_success (refine hK _ ?_)); clear hK K)); refine hK _ ?_; clear hK K) | ((first | refine aops_k fun K1 hK1 => ?_ | refine aqops_k fun K1 hK1 => ?_ | refine awp_cond_k fun A B hA hB => ?_); simp only [S1, simprocAttr, TTRdF, List.length_map, Nat.mul_one, Nat.zero_mul]; first | (refine hK1 _ ?_; clear hK1 K1) | ((first | refine hA ?_ | refine hB ?_); clear hA hB A B) | (((first | (refine ⟨fun hg => hA ?_, fun hg => hB ?_⟩ <;> clear hA hB A B) | refine ⟨fun hg => ?_, fun hg => ?_⟩) <;> (try simp only [BN2] at hg) <;> (try simp only [hg, cond_true, cond_false])) <;> (try (refine hK1 _ ?_; clear hK1 K1)) <;> (try simp only [BN3] at hg))) | (refine awp_seq_k fun K hK => ?_) | ((first | refine awp_region ?_ | refine awp_draw (by kernel_rfl) ?_ | refine awp_block ?_ | refine awp_exit ?_ | refine awp_skip ?_ | refine awp_ret ?_); (try simp only [NB, simprocAttr])))
    refine awp_for needs.length 63 (fun i => [(24, .i i), (23, .i needs.length), (22, aI needs), (19, .i 0), (18, .agg [aI needs, aI gives]), (2, .ptr h.length 0 0), (3, .ptr (h.length + 1) 0 0), (4, .ptr (h.length + 2) 0 0)]) (fun i => [some ⟨0, [.i kind, .i node, aI needs, aI gives]⟩, some ⟨0, aA tok⟩, some ⟨0, aA zT⟩]) (fun i => (needs.take i).all flowB = true) ?_ rfl fun i hi hp K hK => ?_
    · refine ⟨rfl, ⟨[], by simp⟩, ?_, ⟨trivial, trivial, trivial, trivial, trivial⟩, avlts_aA _ _, avlts_aA _ _, trivial⟩
      simp only [keeps, avlt, avlts, blksLt, frL, upd_get, S1, simprocAttr, List.length_map, Int.natCast_zero, AV.p.injEq, PV.int.injEq, PV.bool.injEq, PV.sl.injEq] <;> (try and_intros) <;> (try assumption) <;> (try trivial) <;> (try omega)
    rcases Nat.lt_or_ge i needs.length with hlt | hge
    · obtain ⟨k, hx⟩ : ∃ k, needs[i]? = some k := ⟨_, List.getElem?_eq_getElem hlt⟩
      have hm := List.mem_of_getElem? hx
      have hfl := fun h => flow_calls (G := G) k h
      cases hf : flowB k with
      | true =>
        rw [hf] at hfl
        repeat' (first | ((first | refine aops_nil ?_ | refine aqops_nil ?_); (try simp only [NB])) | ((repeat ((fail_if_success (refine hK _ ?_)); clear hK K)); refine hK _ ?_; clear hK K) | ((first | refine aops_k fun K1 hK1 => ?_ | refine aqops_k fun K1 hK1 => ?_ | refine awp_cond_k fun A B hA hB => ?_); simp only [S1, simprocAttr, TTRdF, rowI hx, hitI hlt, nextI hl hlt]; first | (refine hK1 _ ?_; clear hK1 K1) | ((first | refine hA ?_ | refine hB ?_); clear hA hB A B) | ((first | apply call_a E31 | apply call_q E31); exact (hfl _); (refine hK1 _ ?_; clear hK1 K1)) | (((first | (refine ⟨fun hg => hA ?_, fun hg => hB ?_⟩ <;> clear hA hB A B) | refine ⟨fun hg => ?_, fun hg => ?_⟩) <;> (try simp only [BN2] at hg) <;> (try simp only [hg, cond_true, cond_false])) <;> (try (refine hK1 _ ?_; clear hK1 K1)) <;> (try simp only [BN3] at hg))) | (refine awp_seq_k fun K hK => ?_) | ((first | refine awp_region ?_ | refine awp_draw (by kernel_rfl) ?_ | refine awp_block ?_ | refine awp_exit ?_ | refine awp_skip ?_ | refine awp_ret ?_); (try simp only [NB, simprocAttr])))
        all_goals refine ⟨hlt, allI_take hx hp hf, ?_⟩
        all_goals refine ⟨rfl, ⟨[], by simp⟩, ?_, ⟨trivial, trivial, trivial, trivial, trivial⟩, avlts_aA _ _, avlts_aA _ _, trivial⟩
        all_goals simp only [keeps, avlt, avlts, blksLt, frL, upd_get, S1, simprocAttr, List.length_map, Int.natCast_zero, AV.p.injEq, PV.int.injEq, PV.bool.injEq, PV.sl.injEq] <;> (try and_intros) <;> (try assumption) <;> (try trivial) <;> (try omega)
      | false =>
        rw [hf] at hfl
        have hno : inF needs = false := allI_no hm hf
        have hin : ¬ (inF needs = true ∧ inF gives = true) := by simp [hno]
        have hR : resD needs gives tok = .tup [.agg (aA zT), .i 4] := by unfold resD doR; rw [if_neg hin]; rfl
        rw [hR]
        repeat' (first | ((first | refine aops_nil ?_ | refine aqops_nil ?_); (try simp only [NB])) | ((repeat ((fail_if_success (refine hK _ ?_)); clear hK K)); refine hK _ ?_; clear hK K) | ((first | refine aops_k fun K1 hK1 => ?_ | refine aqops_k fun K1 hK1 => ?_ | refine awp_cond_k fun A B hA hB => ?_); simp only [S1, simprocAttr, TTRdF, rowI hx, hitI hlt, nextI hl hlt, T40z, z40_ne, z40_map, aA_len, aA_scalar, aA_ne, over_aA, aA_take40, aA_load]; first | (refine hK1 _ ?_; clear hK1 K1) | ((first | refine hA ?_ | refine hB ?_); clear hA hB A B) | ((first | apply call_a E31 | apply call_q E31); exact (hfl _); (refine hK1 _ ?_; clear hK1 K1)) | (((first | (refine ⟨fun hg => hA ?_, fun hg => hB ?_⟩ <;> clear hA hB A B) | refine ⟨fun hg => ?_, fun hg => ?_⟩) <;> (try simp only [BN2] at hg) <;> (try simp only [hg, cond_true, cond_false])) <;> (try (refine hK1 _ ?_; clear hK1 K1)) <;> (try simp only [BN3] at hg))) | (refine awp_seq_k fun K hK => ?_) | ((first | refine awp_region ?_ | refine awp_draw (by kernel_rfl) ?_ | refine awp_block ?_ | refine awp_exit ?_ | refine awp_skip ?_ | refine awp_ret ?_); (try simp only [NB, simprocAttr])))
        all_goals simp only [EndP, FinP, resA, resL, resA1, lastV, lastA, lastAs, pur, purs, take_app, List.take_length, S1, simprocAttr, TTRdF, Nat.le_add_right, Nat.le_refl, T40z, aA_len, aA_take40, aA_load, purs_aA, aP_map]
        all_goals trace_state
    · obtain rfl : i = needs.length := by omega
      have hin : inF needs = true := by rw [List.take_length] at hp; exact hp
      have hw1 : IntKind.i64.wrap ((0 : Int) + 1) = 1 := rfl
      repeat' (first | ((first | refine aops_nil ?_ | refine aqops_nil ?_); (try simp only [NB])) | ((repeat ((fail_if_success (refine hK _ ?_)); clear hK K)); refine hK _ ?_; clear hK K) | ((first | refine aops_k fun K1 hK1 => ?_ | refine aqops_k fun K1 hK1 => ?_ | refine awp_cond_k fun A B hA hB => ?_); simp only [S1, simprocAttr, TTRdF, endI, hw1]; first | (refine hK1 _ ?_; clear hK1 K1) | ((first | refine hA ?_ | refine hB ?_); clear hA hB A B) | (((first | (refine ⟨fun hg => hA ?_, fun hg => hB ?_⟩ <;> clear hA hB A B) | refine ⟨fun hg => ?_, fun hg => ?_⟩) <;> (try simp only [BN2] at hg) <;> (try simp only [hg, cond_true, cond_false])) <;> (try (refine hK1 _ ?_; clear hK1 K1)) <;> (try simp only [BN3] at hg))) | (refine awp_seq_k fun K hK => ?_) | ((first | refine awp_region ?_ | refine awp_draw (by kernel_rfl) ?_ | refine awp_block ?_ | refine awp_exit ?_ | refine awp_skip ?_ | refine awp_ret ?_); (try simp only [NB, simprocAttr])))
      all_goals refine ⟨by omega, ⟨fun _ => ?_, fun h2 => ?_⟩, ?_⟩
      · exact hin
      · omega
      all_goals refine ⟨rfl, ⟨[], by simp⟩, ?_, ⟨trivial, trivial, trivial, trivial, trivial⟩, avlts_aA _ _, avlts_aA _ _, trivial⟩
      all_goals simp only [keeps, avlt, avlts, blksLt, frL, upd_get, S1, simprocAttr, List.length_map, Int.natCast_zero, AV.p.injEq, PV.int.injEq, PV.bool.injEq, PV.sl.injEq] <;> (try and_intros) <;> (try assumption) <;> (try trivial) <;> (try omega)
  · have c0 : ((1 : Nat) : Int) = 1 := rfl
    simp only [c0]
    -- round 1
    repeat' (first | ((first | refine aops_nil ?_ | refine aqops_nil ?_); (try simp only [NB])) | ((repeat ((fail_if_success (refine hK _ ?_)); clear hK K)); refine hK _ ?_; clear hK K) | ((first | refine aops_k fun K1 hK1 => ?_ | refine aqops_k fun K1 hK1 => ?_ | refine awp_cond_k fun A B hA hB => ?_); simp only [S1, simprocAttr, TTRdF, List.length_map, Nat.mul_one, Nat.zero_mul]; first | (refine hK1 _ ?_; clear hK1 K1) | ((first | refine hA ?_ | refine hB ?_); clear hA hB A B) | (((first | (refine ⟨fun hg => hA ?_, fun hg => hB ?_⟩ <;> clear hA hB A B) | refine ⟨fun hg => ?_, fun hg => ?_⟩) <;> (try simp only [BN2] at hg) <;> (try simp only [hg, cond_true, cond_false])) <;> (try (refine hK1 _ ?_; clear hK1 K1)) <;> (try simp only [BN3] at hg))) | (refine awp_seq_k fun K hK => ?_) | ((first | refine awp_region ?_ | refine awp_draw (by kernel_rfl) ?_ | refine awp_block ?_ | refine awp_exit ?_ | refine awp_skip ?_ | refine awp_ret ?_); (try simp only [NB, simprocAttr])))
    refine awp_for gives.length 63 (fun i => [(24, .i i), (23, .i gives.length), (22, aI gives), (19, .i 1), (18, .agg [aI needs, aI gives]), (2, .ptr h.length 0 0), (3, .ptr (h.length + 1) 0 0), (4, .ptr (h.length + 2) 0 0)]) (fun i => [some ⟨0, [.i kind, .i node, aI needs, aI gives]⟩, some ⟨0, aA tok⟩, some ⟨0, aA zT⟩]) (fun i => (gives.take i).all flowB = true) ?_ rfl fun i hi hp K hK => ?_
    · refine ⟨rfl, ⟨[], by simp⟩, ?_, ⟨trivial, trivial, trivial, trivial, trivial⟩, avlts_aA _ _, avlts_aA _ _, trivial⟩
      simp only [keeps, avlt, avlts, blksLt, frL, upd_get, S1, simprocAttr, List.length_map, Int.natCast_zero, AV.p.injEq, PV.int.injEq, PV.bool.injEq, PV.sl.injEq] <;> (try and_intros) <;> (try assumption) <;> (try trivial) <;> (try omega)
    rcases Nat.lt_or_ge i gives.length with hlt | hge
    · obtain ⟨k, hx⟩ : ∃ k, gives[i]? = some k := ⟨_, List.getElem?_eq_getElem hlt⟩
      have hm := List.mem_of_getElem? hx
      have hfl := fun h => flow_calls (G := G) k h
      cases hf : flowB k with
      | true =>
        rw [hf] at hfl
        repeat' (first | ((first | refine aops_nil ?_ | refine aqops_nil ?_); (try simp only [NB])) | ((repeat ((fail_if_success (refine hK _ ?_)); clear hK K)); refine hK _ ?_; clear hK K) | ((first | refine aops_k fun K1 hK1 => ?_ | refine aqops_k fun K1 hK1 => ?_ | refine awp_cond_k fun A B hA hB => ?_); simp only [S1, simprocAttr, TTRdF, rowI hx, hitI hlt, nextI hl2 hlt]; first | (refine hK1 _ ?_; clear hK1 K1) | ((first | refine hA ?_ | refine hB ?_); clear hA hB A B) | ((first | apply call_a E31 | apply call_q E31); exact (hfl _); (refine hK1 _ ?_; clear hK1 K1)) | (((first | (refine ⟨fun hg => hA ?_, fun hg => hB ?_⟩ <;> clear hA hB A B) | refine ⟨fun hg => ?_, fun hg => ?_⟩) <;> (try simp only [BN2] at hg) <;> (try simp only [hg, cond_true, cond_false])) <;> (try (refine hK1 _ ?_; clear hK1 K1)) <;> (try simp only [BN3] at hg))) | (refine awp_seq_k fun K hK => ?_) | ((first | refine awp_region ?_ | refine awp_draw (by kernel_rfl) ?_ | refine awp_block ?_ | refine awp_exit ?_ | refine awp_skip ?_ | refine awp_ret ?_); (try simp only [NB, simprocAttr])))
        all_goals refine ⟨hlt, allI_take hx hp hf, ?_⟩
        all_goals refine ⟨rfl, ⟨[], by simp⟩, ?_, ⟨trivial, trivial, trivial, trivial, trivial⟩, avlts_aA _ _, avlts_aA _ _, trivial⟩
        all_goals simp only [keeps, avlt, avlts, blksLt, frL, upd_get, S1, simprocAttr, List.length_map, Int.natCast_zero, AV.p.injEq, PV.int.injEq, PV.bool.injEq, PV.sl.injEq] <;> (try and_intros) <;> (try assumption) <;> (try trivial) <;> (try omega)
      | false =>
        rw [hf] at hfl
        have hno : inF gives = false := allI_no hm hf
        have hin : ¬ (inF needs = true ∧ inF gives = true) := by simp [hno]
        have hR : resD needs gives tok = .tup [.agg (aA zT), .i 4] := by unfold resD doR; rw [if_neg hin]; rfl
        rw [hR]
        repeat' (first | ((first | refine aops_nil ?_ | refine aqops_nil ?_); (try simp only [NB])) | ((repeat ((fail_if_success (refine hK _ ?_)); clear hK K)); refine hK _ ?_; clear hK K) | ((first | refine aops_k fun K1 hK1 => ?_ | refine aqops_k fun K1 hK1 => ?_ | refine awp_cond_k fun A B hA hB => ?_); simp only [S1, simprocAttr, TTRdF, rowI hx, hitI hlt, nextI hl2 hlt, T40z, z40_ne, z40_map, aA_len, aA_scalar, aA_ne, over_aA, aA_take40, aA_load]; first | (refine hK1 _ ?_; clear hK1 K1) | ((first | refine hA ?_ | refine hB ?_); clear hA hB A B) | ((first | apply call_a E31 | apply call_q E31); exact (hfl _); (refine hK1 _ ?_; clear hK1 K1)) | (((first | (refine ⟨fun hg => hA ?_, fun hg => hB ?_⟩ <;> clear hA hB A B) | refine ⟨fun hg => ?_, fun hg => ?_⟩) <;> (try simp only [BN2] at hg) <;> (try simp only [hg, cond_true, cond_false])) <;> (try (refine hK1 _ ?_; clear hK1 K1)) <;> (try simp only [BN3] at hg))) | (refine awp_seq_k fun K hK => ?_) | ((first | refine awp_region ?_ | refine awp_draw (by kernel_rfl) ?_ | refine awp_block ?_ | refine awp_exit ?_ | refine awp_skip ?_ | refine awp_ret ?_); (try simp only [NB, simprocAttr])))
        all_goals simp only [EndP, FinP, resA, resL, resA1, lastV, lastA, lastAs, pur, purs, take_app, List.take_length, S1, simprocAttr, TTRdF, Nat.le_add_right, Nat.le_refl, T40z, aA_len, aA_take40, aA_load, purs_aA, aP_map]
        all_goals trace_state
    · obtain rfl : i = gives.length := by omega
      have hin : inF gives = true := by rw [List.take_length] at hp; exact hp
      have hw1 : IntKind.i64.wrap ((1 : Int) + 1) = 2 := rfl
      repeat' (first | ((first | refine aops_nil ?_ | refine aqops_nil ?_); (try simp only [NB])) | ((repeat ((fail_if_success (refine hK _ ?_)); clear hK K)); refine hK _ ?_; clear hK K) | ((first | refine aops_k fun K1 hK1 => ?_ | refine aqops_k fun K1 hK1 => ?_ | refine awp_cond_k fun A B hA hB => ?_); simp only [S1, simprocAttr, TTRdF, endI, hw1]; first | (refine hK1 _ ?_; clear hK1 K1) | ((first | refine hA ?_ | refine hB ?_); clear hA hB A B) | (((first | (refine ⟨fun hg => hA ?_, fun hg => hB ?_⟩ <;> clear hA hB A B) | refine ⟨fun hg => ?_, fun hg => ?_⟩) <;> (try simp only [BN2] at hg) <;> (try simp only [hg, cond_true, cond_false])) <;> (try (refine hK1 _ ?_; clear hK1 K1)) <;> (try simp only [BN3] at hg))) | (refine awp_seq_k fun K hK => ?_) | ((first | refine awp_region ?_ | refine awp_draw (by kernel_rfl) ?_ | refine awp_block ?_ | refine awp_exit ?_ | refine awp_skip ?_ | refine awp_ret ?_); (try simp only [NB, simprocAttr])))
      all_goals refine ⟨by omega, ⟨fun _ => ?_, fun h2 => ?_⟩, ?_⟩
      · exact hpj.1 (by omega)
      · exact hin
      all_goals refine ⟨rfl, ⟨[], by simp⟩, ?_, ⟨trivial, trivial, trivial, trivial, trivial⟩, avlts_aA _ _, avlts_aA _ _, trivial⟩
      all_goals simp only [keeps, avlt, avlts, blksLt, frL, upd_get, S1, simprocAttr, List.length_map, Int.natCast_zero, AV.p.injEq, PV.int.injEq, PV.bool.injEq, PV.sl.injEq] <;> (try and_intros) <;> (try assumption) <;> (try trivial) <;> (try omega)
  · have c0 : ((2 : Nat) : Int) = 2 := rfl
    simp only [c0]
    have h1 := hpj.1 (by omega)
    have h2 := hpj.2 (by omega)
    have hwo := fun h => without_calls (G := G) needs hl tok ht h
    cases hc : canB needs tok with
    | false =>
      have hR : resD needs gives tok = .tup [.agg (aA zT), .i 6] := by unfold resD doR; rw [if_pos ⟨h1, h2⟩, hc]; rfl
      have e0 : takeT needs tok = none := by rw [takeT_eq, hc]; rfl
      rw [e0] at hwo
      repeat' (first | ((first | refine aops_nil ?_ | refine aqops_nil ?_); (try simp only [NB])) | ((repeat ((fail_if_success (refine hK _ ?_)); clear hK K)); refine hK _ ?_; clear hK K) | ((first | refine aops_k fun K1 hK1 => ?_ | refine aqops_k fun K1 hK1 => ?_ | refine awp_cond_k fun A B hA hB => ?_); simp only [S1, simprocAttr, TTRdF, T40z, z40_ne, z40_map, aA_len, aA_scalar, aA_ne, over_aA, aA_take40, aA_load, Option.getD]; first | (refine hK1 _ ?_; clear hK1 K1) | ((first | refine hA ?_ | refine hB ?_); clear hA hB A B) | ((first | apply call_a E32 | apply call_q E32); exact (hwo _); (refine hK1 _ ?_; clear hK1 K1)) | (((first | (refine ⟨fun hg => hA ?_, fun hg => hB ?_⟩ <;> clear hA hB A B) | refine ⟨fun hg => ?_, fun hg => ?_⟩) <;> (try simp only [BN2] at hg) <;> (try simp only [hg, cond_true, cond_false])) <;> (try (refine hK1 _ ?_; clear hK1 K1)) <;> (try simp only [BN3] at hg))) | (refine awp_seq_k fun K hK => ?_) | ((first | refine awp_region ?_ | refine awp_draw (by kernel_rfl) ?_ | refine awp_block ?_ | refine awp_exit ?_ | refine awp_skip ?_ | refine awp_ret ?_); (try simp only [NB, simprocAttr])))
      all_goals simp only [EndP, FinP, resA, resL, resA1, lastV, lastA, lastAs, pur, purs, take_app, List.take_length, S1, simprocAttr, TTRdF, Nat.le_add_right, Nat.le_refl, T40z, aA_len, aA_take40, aA_load, purs_aA, aP_map]
      all_goals exact hR.symm
    | true =>
      have hR : resD needs gives tok = .tup [.agg (aA ((giveT gives (lessT needs tok)).getD zT)), .i (if (giveT gives (lessT needs tok)).isSome then 0 else 5)] := by
        unfold resD doR; rw [if_pos ⟨h1, h2⟩, hc, if_pos rfl]
        cases giveT gives (lessT needs tok) <;> rfl
      have e0 : takeT needs tok = some (lessT needs tok) := by rw [takeT_eq, hc]; rfl
      rw [e0] at hwo
      have e1 : (some (lessT needs tok)).getD zT = lessT needs tok := rfl
      repeat' (first | ((first | refine aops_nil ?_ | refine aqops_nil ?_); (try simp only [NB])) | ((repeat ((fail_if_success (refine hK _ ?_)); clear hK K)); refine hK _ ?_; clear hK K) | ((first | refine aops_k fun K1 hK1 => ?_ | refine aqops_k fun K1 hK1 => ?_ | refine awp_cond_k fun A B hA hB => ?_); simp only [S1, simprocAttr, TTRdF, T40z, z40_ne, z40_map, aA_len, aA_scalar, aA_ne, over_aA, aA_take40, aA_load, e1, List.length_map]; first | (refine hK1 _ ?_; clear hK1 K1) | ((first | refine hA ?_ | refine hB ?_); clear hA hB A B) | ((first | apply call_a E32 | apply call_q E32); exact (hwo _); (refine hK1 _ ?_; clear hK1 K1)) | (((first | (refine ⟨fun hg => hA ?_, fun hg => hB ?_⟩ <;> clear hA hB A B) | refine ⟨fun hg => ?_, fun hg => ?_⟩) <;> (try simp only [BN2] at hg) <;> (try simp only [hg, cond_true, cond_false])) <;> (try (refine hK1 _ ?_; clear hK1 K1)) <;> (try simp only [BN3] at hg))) | (refine awp_seq_k fun K hK => ?_) | ((first | refine awp_region ?_ | refine awp_draw (by kernel_rfl) ?_ | refine awp_block ?_ | refine awp_exit ?_ | refine awp_skip ?_ | refine awp_ret ?_); (try simp only [NB, simprocAttr])))
      let gk := fun i => (giveT (gives.take i) (lessT needs tok)).getD zT
      refine awp_for gives.length 63 (fun i => [(47, .i i), (46, .i gives.length), (45, aI gives), (4, .ptr (h.length + 2) 0 0), (10, .ptr (h.length + 3) 0 0)])
        (fun i => [some ⟨0, [.i kind, .i node, aI needs, aI gives]⟩, some ⟨0, aA tok⟩, some ⟨0, aA zT⟩, some ⟨0, aA (gk i)⟩]) (fun i => giveT (gives.take i) (lessT needs tok) = some (gk i)) ?_ rfl fun i hi hp K hK => ?_
      · refine ⟨rfl, ⟨[], by simp [gk, giveT]⟩, ?_, ⟨trivial, trivial, trivial, trivial, trivial⟩, avlts_aA _ _, avlts_aA _ _, avlts_aA _ _, trivial⟩
        simp only [keeps, avlt, avlts, blksLt, frL, upd_get, S1, simprocAttr, List.length_map, Int.natCast_zero, AV.p.injEq, PV.int.injEq, PV.bool.injEq, PV.sl.injEq] <;> (try and_intros) <;> (try assumption) <;> (try trivial) <;> (try omega)
      rcases Nat.lt_or_ge i gives.length with hlt | hge
      · obtain ⟨k, hx⟩ : ∃ k, gives[i]? = some k := ⟨_, List.getElem?_eq_getElem hlt⟩
        have hm := List.mem_of_getElem? hx
        have hfl : flowB k = true := List.all_eq_true.mp h2 k hm
        have hr : 0 ≤ k ∧ k ≤ 39 := by simp [flowB] at hfl; exact hfl
        have hk40 : k < 40 := by omega
        have hk3 : k.toNat + 1 ≤ 40 := by omega
        have hnx := giveT_next hx hp
        have hget := aA_take (tok := gk i) (b := 8) (z := some [.int .i64 0]) hr.1 hr.2
        by_cases hbig : 2 < gk i k
        · have hstop := giveT_stop hx hp hbig
          have f1 : decide (3 ≤ gk i k) = true := by simp; omega
          repeat' (first | ((first | refine aops_nil ?_ | refine aqops_nil ?_); (try simp only [NB])) | ((repeat ((fail_if_success (refine hK _ ?_)); clear hK K)); refine hK _ ?_; clear hK K) | ((first | refine aops_k fun K1 hK1 => ?_ | refine aqops_k fun K1 hK1 => ?_ | refine awp_cond_k fun A B hA hB => ?_); simp only [S1, simprocAttr, TTRdF, rowI hx, hitI hlt, nextI hl2 hlt, f1, hget, hr.1, hk40, Nat.mul_one, T40z, z40_ne, z40_map, aA_len, aA_scalar, aA_ne, over_aA, aA_take40, aA_load]; first | (refine hK1 _ ?_; clear hK1 K1) | ((first | refine hA ?_ | refine hB ?_); clear hA hB A B) | (((first | (refine ⟨fun hg => hA ?_, fun hg => hB ?_⟩ <;> clear hA hB A B) | refine ⟨fun hg => ?_, fun hg => ?_⟩) <;> (try simp only [BN2] at hg) <;> (try simp only [hg, cond_true, cond_false])) <;> (try (refine hK1 _ ?_; clear hK1 K1)) <;> (try simp only [BN3] at hg))) | (refine awp_seq_k fun K hK => ?_) | ((first | refine awp_region ?_ | refine awp_draw (by kernel_rfl) ?_ | refine awp_block ?_ | refine awp_exit ?_ | refine awp_skip ?_ | refine awp_ret ?_); (try simp only [NB, simprocAttr])))
          all_goals simp only [EndP, FinP, resA, resL, resA1, lastV, lastA, lastAs, pur, purs, take_app, List.take_length, S1, simprocAttr, TTRdF, Nat.le_add_right, Nat.le_refl, T40z, aA_len, aA_take40, aA_load, purs_aA, aP_map]
          all_goals (rw [hR, hstop]; simp)
        · rw [if_neg hbig] at hnx
          have f1 : decide (3 ≤ gk i k) = false := by simp; omega
          have hlow : -9223372036854775808 ≤ gk i k := by have e1 := giveT_ge _ _ _ hp k; have e2 := less_low hc hb k; omega
          have hw : IntKind.i64.wrap (gk i k + 1) = gk i k + 1 := IntWalk.i64_in _ (by omega)
          have hset := aA_set (tok := gk i) (x := gk i k + 1) hr.1 hr.2
          have e2 : gk (i + 1) = setT (gk i) k (gk i k + 1) := by simp only [gk]; rw [hnx]; rfl
          repeat' (first | ((first | refine aops_nil ?_ | refine aqops_nil ?_); (try simp only [NB])) | ((repeat ((fail_if_success (refine hK _ ?_)); clear hK K)); refine hK _ ?_; clear hK K) | ((first | refine aops_k fun K1 hK1 => ?_ | refine aqops_k fun K1 hK1 => ?_ | refine awp_cond_k fun A B hA hB => ?_); simp only [S1, simprocAttr, TTRdF, rowI hx, hitI hlt, nextI hl2 hlt, f1, hw, hget, hset, hr.1, hk40, hk3, Nat.mul_one, aA_len, T40z]; first | (refine hK1 _ ?_; clear hK1 K1) | ((first | refine hA ?_ | refine hB ?_); clear hA hB A B) | (((first | (refine ⟨fun hg => hA ?_, fun hg => hB ?_⟩ <;> clear hA hB A B) | refine ⟨fun hg => ?_, fun hg => ?_⟩) <;> (try simp only [BN2] at hg) <;> (try simp only [hg, cond_true, cond_false])) <;> (try (refine hK1 _ ?_; clear hK1 K1)) <;> (try simp only [BN3] at hg))) | (refine awp_seq_k fun K hK => ?_) | ((first | refine awp_region ?_ | refine awp_draw (by kernel_rfl) ?_ | refine awp_block ?_ | refine awp_exit ?_ | refine awp_skip ?_ | refine awp_ret ?_); (try simp only [NB, simprocAttr])))
          all_goals refine ⟨hlt, by rw [hnx, e2], ?_⟩
          all_goals rw [e2]
          all_goals refine ⟨rfl, ⟨[], by simp⟩, ?_, ⟨trivial, trivial, trivial, trivial, trivial⟩, avlts_aA _ _, avlts_aA _ _, avlts_aA _ _, trivial⟩
          all_goals simp only [keeps, avlt, avlts, blksLt, frL, upd_get, S1, simprocAttr, List.length_map, Int.natCast_zero, AV.p.injEq, PV.int.injEq, PV.bool.injEq, PV.sl.injEq] <;> (try and_intros) <;> (try assumption) <;> (try trivial) <;> (try omega)
      · obtain rfl : i = gives.length := by omega
        repeat' (first | ((first | refine aops_nil ?_ | refine aqops_nil ?_); (try simp only [NB])) | ((repeat ((fail_if_success (refine hK _ ?_)); clear hK K)); refine hK _ ?_; clear hK K) | ((first | refine aops_k fun K1 hK1 => ?_ | refine aqops_k fun K1 hK1 => ?_ | refine awp_cond_k fun A B hA hB => ?_); simp only [S1, simprocAttr, TTRdF, endI, T40z, z40_ne, z40_map, aA_len, aA_scalar, aA_ne, over_aA, aA_take40, aA_load]; first | (refine hK1 _ ?_; clear hK1 K1) | ((first | refine hA ?_ | refine hB ?_); clear hA hB A B) | (((first | (refine ⟨fun hg => hA ?_, fun hg => hB ?_⟩ <;> clear hA hB A B) | refine ⟨fun hg => ?_, fun hg => ?_⟩) <;> (try simp only [BN2] at hg) <;> (try simp only [hg, cond_true, cond_false])) <;> (try (refine hK1 _ ?_; clear hK1 K1)) <;> (try simp only [BN3] at hg))) | (refine awp_seq_k fun K hK => ?_) | ((first | refine awp_region ?_ | refine awp_draw (by kernel_rfl) ?_ | refine awp_block ?_ | refine awp_exit ?_ | refine awp_skip ?_ | refine awp_ret ?_); (try simp only [NB, simprocAttr])))
        simp only [EndP, FinP, resA, resL, resA1, lastV, lastA, lastAs, pur, purs, take_app, List.take_length, S1, simprocAttr, TTRdF, Nat.le_add_right, Nat.le_refl, T40z, aA_len, aA_take40, aA_load, purs_aA, aP_map]
        have e : gives.take gives.length = gives := List.take_length
        have e1 : gk gives.length = (giveT gives (lessT needs tok)).getD zT := by simp only [gk, e]
        have e2 : (giveT gives (lessT needs tok)).isSome = true := by rw [e] at hp; rw [hp]; rfl
        rw [hR, e1, e2]
        all_goals simp
end Go.Proofs.YtjpphhcimpclpaaDoor.AM
end

section
set_option linter.unusedVariables false
set_option linter.unusedSimpArgs false
set_option maxRecDepth 4000
set_option maxHeartbeats 4000000
namespace Go.Proofs.YtjpphhcimpclpaaDoor.AM
open Go Go.Proofs
set_option linter.defProp false in
def TTToR := And.intro T2 (And.intro T3 (And.intro T4 (And.intro T22 (And.intro T23 (And.intro T25 (And.intro T26 (And.intro T27 (And.intro T29 (And.intro T31 (And.intro T34 (And.intro T37 (And.intro T39 (And.intro T40 (And.intro T42 (And.intro T46 (And.intro T48 (And.intro T60 T71)))))))))))))))))
attribute [local irreducible] awp aops aqops aeops arun arunT

theorem listF_len (t : Int → Int) : (listF t).length = 40 := by simp [listF]
theorem tokF_in {S : List Int} (st : StOk S) (i : Int) : 0 ≤ tokF S i ∧ tokF S i ≤ 3 := by
  unfold tokF
  split
  · rename_i h
    obtain ⟨k, rfl⟩ := Int.eq_ofNat_of_zero_le h.1
    exact (st.held.at (k := k) (by omega)).2
  · omega
theorem stepsG_to {ns : List Nd} {fl : List Fl} {S : List Int} (hS : S.length = 49) : ∀ y ∈ stepsG ns fl S, y.to.length = 49 := by
  intro y hy
  unfold stepsG at hy
  split at hy
  · cases hy
  · rcases List.mem_append.mp hy with hy | hy
    · exact nodesG_to hS _ y hy
    · exact sendsG_to hS _ y hy
theorem stepsG_len {ns : List Nd} {fl : List Fl} {S : List Int} (hn : ns.length ≤ 24) (hf : fl.length ≤ 40) : (stepsG ns fl S).length ≤ 2500 := by
  unfold stepsG
  split
  · simp
  · rw [List.length_append]
    have := nodesG_len ns fl S hf ns.length
    have := sendsG_len ns S 4
    omega
/-- Whether a step does what a rule made of the tokens. -/
def doneP (u : Int → Int) (node : Int) (y : Sp) : Bool := (y.node == node) && ((y.to.take 40 == listF u) || (y.lk == 6))
theorem doneP_of {u : Int → Int} {node : Int} {y : Sp} (h : FreeOk u node y) : doneP u node y = true := by
  unfold doneP
  rcases h.2 with h2 | h2
  · rw [h.1, h2.take]; simp
  · rw [h.1, h2]; simp

theorem free_calls (ns : List Nd) (fl : List Fl) {S : List Int} (hS : S.length = 49) (h : Heap) : ACalls Tryd.prog gW 3 [aNet ns fl, aS S] h (fun r h' => r = .b true ∧ h' = h) := by
  have hne := ne_is hS
  have hline := fun h => line_calls h
  have hlg := fun h => large_calls (G := gW) ns fl h
  have dm := dropI (at_get hS (k := 48) (by omega))
  have emd : S.getD 48 0 = mdS S := rfl
  rw [emd] at dm
  have t49' : (S.map AV.i).take 49 = S.map AV.i := List.take_of_length_le (by rw [List.length_map, hS]; exact Nat.le_refl _)
  cases hl : largeN ns fl with
  | true =>
    rw [hl] at hlg
    refine acalls_pure (rl := []) mixed Tryd.func3 rfl (rs := [.tmp 4]) rfl Tryd.ntmps3 (by simp) ?_
    repeat' (first | ((first | refine aops_nil ?_ | refine aqops_nil ?_); (try simp only [NB])) | ((repeat ((fail_if_success (refine hK _ ?_)); clear hK K)); refine hK _ ?_; clear hK K) | ((first | refine aops_k fun K1 hK1 => ?_ | refine aqops_k fun K1 hK1 => ?_ | refine awp_cond_k fun A B hA hB => ?_); simp only [S1, simprocAttr, TTToR, hne, hS, all_scalar, t49', dm, takeA_arr, takeA_st, List.length_map]; first | (refine hK1 _ ?_; clear hK1 K1) | ((first | refine hA ?_ | refine hB ?_); clear hA hB A B) | ((first | apply call_a E8 | apply call_q E8); exact (hlg _); (refine hK1 _ ?_; clear hK1 K1)) | ((first | apply call_a E10 | apply call_q E10); exact (hline _); (refine hK1 _ ?_; clear hK1 K1)) | (refine join_x (v := ?_) (fun hg hk9 => ?_) ?_; rotate_left; (focus (try ((try simp only [BN] at hg); simp only [S1, simprocAttr, TTToR, hne, hS, all_scalar, t49', dm, takeA_arr, takeA_st, List.length_map, hg] at hk9 ⊢)); first | exact hk9 | ((first | apply call_a E8 | apply call_q E8); exact (hlg _); exact hk9) | ((first | apply call_a E10 | apply call_q E10); exact (hline _); exact hk9)); (refine hK1 _ ?_; clear hK1 K1)) | (((first | (refine ⟨fun hg => hA ?_, fun hg => hB ?_⟩ <;> clear hA hB A B) | refine ⟨fun hg => ?_, fun hg => ?_⟩) <;> (try simp only [BN2] at hg) <;> (try simp only [hg, cond_true, cond_false])) <;> (try (refine hK1 _ ?_; clear hK1 K1)) <;> (try simp only [BN3] at hg))) | (refine awp_seq_k fun K hK => ?_) | ((first | refine awp_region ?_ | refine awp_draw (by kernel_rfl) ?_ | refine awp_block ?_ | refine awp_exit ?_ | refine awp_skip ?_ | refine awp_ret ?_); (try simp only [NB, simprocAttr])))
    all_goals simp only [EndP, FinP, resA, resL, resA1, lastV, lastA, lastAs, pur, purs, take_app, List.take_length, S1, simprocAttr, TTToR, Nat.le_add_right, Nat.le_refl]
  | false =>
  rw [hl] at hlg
  have nk := large_ok hl
  have hck := fun h => tChk_calls nk hS h
  by_cases h0 : stC ns fl S = 0
  case neg =>
    have f0 : (stC ns fl S != 0) = true := by simp [h0]
    refine acalls_pure (rl := []) mixed Tryd.func3 rfl (rs := [.tmp 4]) rfl Tryd.ntmps3 (by simp) ?_
    repeat' (first | ((first | refine aops_nil ?_ | refine aqops_nil ?_); (try simp only [NB])) | ((repeat ((fail_if_success (refine hK _ ?_)); clear hK K)); refine hK _ ?_; clear hK K) | ((first | refine aops_k fun K1 hK1 => ?_ | refine aqops_k fun K1 hK1 => ?_ | refine awp_cond_k fun A B hA hB => ?_); simp only [S1, simprocAttr, TTToR, f0, hne, hS, all_scalar, t49', dm, takeA_arr, takeA_st, List.length_map]; first | (refine hK1 _ ?_; clear hK1 K1) | ((first | refine hA ?_ | refine hB ?_); clear hA hB A B) | ((first | apply call_a E8 | apply call_q E8); exact (hlg _); (refine hK1 _ ?_; clear hK1 K1)) | ((first | apply call_a E9 | apply call_q E9); exact (hck _); (refine hK1 _ ?_; clear hK1 K1)) | ((first | apply call_a E10 | apply call_q E10); exact (hline _); (refine hK1 _ ?_; clear hK1 K1)) | (refine join_x (v := ?_) (fun hg hk9 => ?_) ?_; rotate_left; (focus (try ((try simp only [BN] at hg); simp only [S1, simprocAttr, TTToR, f0, hne, hS, all_scalar, t49', dm, takeA_arr, takeA_st, List.length_map, hg] at hk9 ⊢)); first | exact hk9 | ((first | apply call_a E8 | apply call_q E8); exact (hlg _); exact hk9) | ((first | apply call_a E9 | apply call_q E9); exact (hck _); exact hk9) | ((first | apply call_a E10 | apply call_q E10); exact (hline _); exact hk9)); (refine hK1 _ ?_; clear hK1 K1)) | (((first | (refine ⟨fun hg => hA ?_, fun hg => hB ?_⟩ <;> clear hA hB A B) | refine ⟨fun hg => ?_, fun hg => ?_⟩) <;> (try simp only [BN2] at hg) <;> (try simp only [hg, cond_true, cond_false])) <;> (try (refine hK1 _ ?_; clear hK1 K1)) <;> (try simp only [BN3] at hg))) | (refine awp_seq_k fun K hK => ?_) | ((first | refine awp_region ?_ | refine awp_draw (by kernel_rfl) ?_ | refine awp_block ?_ | refine awp_exit ?_ | refine awp_skip ?_ | refine awp_ret ?_); (try simp only [NB, simprocAttr])))
    all_goals simp only [EndP, FinP, resA, resL, resA1, lastV, lastA, lastAs, pur, purs, take_app, List.take_length, S1, simprocAttr, TTToR, Nat.le_add_right, Nat.le_refl]
  have f0 : (stC ns fl S != 0) = false := by simp [h0]
  by_cases h1 : mdS S = 0
  case neg =>
    have f1 : (mdS S != 0) = true := by simp [h1]
    refine acalls_pure (rl := []) mixed Tryd.func3 rfl (rs := [.tmp 4]) rfl Tryd.ntmps3 (by simp) ?_
    repeat' (first | ((first | refine aops_nil ?_ | refine aqops_nil ?_); (try simp only [NB])) | ((repeat ((fail_if_success (refine hK _ ?_)); clear hK K)); refine hK _ ?_; clear hK K) | ((first | refine aops_k fun K1 hK1 => ?_ | refine aqops_k fun K1 hK1 => ?_ | refine awp_cond_k fun A B hA hB => ?_); simp only [S1, simprocAttr, TTToR, f0, f1, hne, hS, all_scalar, t49', dm, takeA_arr, takeA_st, List.length_map]; first | (refine hK1 _ ?_; clear hK1 K1) | ((first | refine hA ?_ | refine hB ?_); clear hA hB A B) | ((first | apply call_a E8 | apply call_q E8); exact (hlg _); (refine hK1 _ ?_; clear hK1 K1)) | ((first | apply call_a E9 | apply call_q E9); exact (hck _); (refine hK1 _ ?_; clear hK1 K1)) | ((first | apply call_a E10 | apply call_q E10); exact (hline _); (refine hK1 _ ?_; clear hK1 K1)) | (refine join_x (v := ?_) (fun hg hk9 => ?_) ?_; rotate_left; (focus (try ((try simp only [BN] at hg); simp only [S1, simprocAttr, TTToR, f0, f1, hne, hS, all_scalar, t49', dm, takeA_arr, takeA_st, List.length_map, hg] at hk9 ⊢)); first | exact hk9 | ((first | apply call_a E8 | apply call_q E8); exact (hlg _); exact hk9) | ((first | apply call_a E9 | apply call_q E9); exact (hck _); exact hk9) | ((first | apply call_a E10 | apply call_q E10); exact (hline _); exact hk9)); (refine hK1 _ ?_; clear hK1 K1)) | (((first | (refine ⟨fun hg => hA ?_, fun hg => hB ?_⟩ <;> clear hA hB A B) | refine ⟨fun hg => ?_, fun hg => ?_⟩) <;> (try simp only [BN2] at hg) <;> (try simp only [hg, cond_true, cond_false])) <;> (try (refine hK1 _ ?_; clear hK1 K1)) <;> (try simp only [BN3] at hg))) | (refine awp_seq_k fun K hK => ?_) | ((first | refine awp_region ?_ | refine awp_draw (by kernel_rfl) ?_ | refine awp_block ?_ | refine awp_exit ?_ | refine awp_skip ?_ | refine awp_ret ?_); (try simp only [NB, simprocAttr])))
    all_goals simp only [EndP, FinP, resA, resL, resA1, lastV, lastA, lastAs, pur, purs, take_app, List.take_length, S1, simprocAttr, TTToR, Nat.le_add_right, Nat.le_refl]
  have f1 : (mdS S != 0) = false := by simp [h1]
  have hall := fun h => rAll_calls ns fl nk h
  have ha2 : (allRu ns fl).2 = 0 := by unfold allRu; rw [if_pos (stC_zero h0).1]
  rw [ha2] at hall
  have hst := fun h => rSteps_calls nk hS h
  have t40 : (S.map AV.i).take 40 = (S.take 40).map AV.i := by rw [List.map_take]
  have ar40 : ((S.map AV.i).drop 40).take 4 = ((S.drop 40).take 4).map AV.i := by rw [List.map_take, List.map_drop]
  have ar44 : ((S.map AV.i).drop 44).take 4 = ((S.drop 44).take 4).map AV.i := by rw [List.map_take, List.map_drop]
  have hbuild : ∀ c : List AV, c.length = 49 → (over (over (over c 0 ((S.take 40).map AV.i)) 40 (((S.drop 40).take 4).map AV.i)) 44 (((S.drop 44).take 4).map AV.i)).set 48 (.p (.int .i64 (mdS S))) = S.map AV.i := by
    intro c hc
    have l1 : ((S.take 40).map AV.i).length = 40 := by simp [hS]
    have l2 : (((S.drop 40).take 4).map AV.i).length = 4 := by simp [hS]
    have l3 : (((S.drop 44).take 4).map AV.i).length = 4 := by simp [hS]
    have eS : S.map AV.i = (S.take 40).map AV.i ++ (((S.drop 40).take 4).map AV.i ++ (((S.drop 44).take 4).map AV.i ++ [.p (.int .i64 (mdS S))])) := by
      have h1 : S = S.take 40 ++ ((S.drop 40).take 4 ++ ((S.drop 44).take 4 ++ [mdS S])) := by
        have a1 : S.drop 48 = [mdS S] := by
          rw [List.drop_eq_getElem_cons (by omega), List.drop_of_length_le (by omega)]
          congr 1
          have := at_get hS (k := 48) (by omega)
          rw [List.getElem?_eq_getElem (by omega)] at this
          exact Option.some.inj this
        have a2 : S.drop 44 = (S.drop 44).take 4 ++ [mdS S] := by
          rw [← a1, show S.drop 48 = (S.drop 44).drop 4 by rw [List.drop_drop], List.take_append_drop]
        have a3 : S.drop 40 = (S.drop 40).take 4 ++ ((S.drop 44).take 4 ++ [mdS S]) := by
          rw [← a2, show S.drop 44 = (S.drop 40).drop 4 by rw [List.drop_drop], List.take_append_drop]
        rw [← a3, List.take_append_drop]
      conv => lhs; rw [h1]
      simp only [List.map_append, List.map_cons, List.map_nil]
    generalize (S.take 40).map AV.i = A at *
    generalize ((S.drop 40).take 4).map AV.i = B at *
    generalize ((S.drop 44).take 4).map AV.i = C at *
    have o1 : over c 0 A = A ++ c.drop 40 := by rw [over_gen _ c 0 (by omega)]; simp [l1]
    have o2 : over (A ++ c.drop 40) 40 B = A ++ (B ++ c.drop 44) := by
      rw [over_gen _ _ 40 (by rw [List.length_append, List.length_drop]; omega)]
      rw [List.take_left' l1, l2, List.drop_append, l1, List.drop_of_length_le (by omega), List.drop_drop, List.append_assoc]; rfl
    have o3 : over (A ++ (B ++ c.drop 44)) 44 C = A ++ (B ++ (C ++ c.drop 48)) := by
      have l4 : (A ++ B).length = 44 := by rw [List.length_append]; omega
      rw [← List.append_assoc, over_gen _ _ 44 (by rw [List.length_append, List.length_drop]; omega)]
      rw [List.take_left' l4, l3, List.drop_append, l4, List.drop_of_length_le (by omega), List.drop_drop, List.append_assoc, List.append_assoc]; rfl
    rw [o1, o2, o3, eS]
    have l5 : (A ++ (B ++ C)).length = 48 := by rw [List.length_append, List.length_append]; omega
    have c1 : ∃ x, c.drop 48 = [x] := List.length_eq_one_iff.mp (by rw [List.length_drop]; omega)
    obtain ⟨x, hx⟩ := c1
    rw [hx, show A ++ (B ++ (C ++ [x])) = (A ++ (B ++ C)) ++ [x] by simp only [List.append_assoc], List.set_append_right _ _ (by omega), l5]
    simp only [List.append_assoc]; rfl
  refine acalls_pure (rl := []) mixed Tryd.func3 rfl (rs := [.tmp 4]) rfl Tryd.ntmps3 (by simp) ?_
  repeat' (first | ((first | refine aops_nil ?_ | refine aqops_nil ?_); (try simp only [NB])) | ((repeat ((fail_if_success (refine hK _ ?_)); clear hK K)); refine hK _ ?_; clear hK K) | ((first | refine aops_k fun K1 hK1 => ?_ | refine aqops_k fun K1 hK1 => ?_ | refine awp_cond_k fun A B hA hB => ?_); simp only [S1, simprocAttr, TTToR, f0, f1, hne, hS, hbuild, over_length, all_scalar, t49', t40, ar40, ar44, dm, takeA_arr, takeA_st, List.length_map, List.length_drop, List.length_take]; first | (refine hK1 _ ?_; clear hK1 K1) | ((first | refine hA ?_ | refine hB ?_); clear hA hB A B) | ((first | apply call_a E8 | apply call_q E8); exact (hlg _); (refine hK1 _ ?_; clear hK1 K1)) | ((first | apply call_a E9 | apply call_q E9); exact (hck _); (refine hK1 _ ?_; clear hK1 K1)) | ((first | apply call_a E10 | apply call_q E10); exact (hline _); (refine hK1 _ ?_; clear hK1 K1)) | ((first | apply call_a E11 | apply call_q E11); exact (hall _); (refine hK1 _ ?_; clear hK1 K1)) | ((first | apply call_a E12 | apply call_q E12); exact (hst _); (refine hK1 _ ?_; clear hK1 K1)) | (refine join_x (v := ?_) (fun hg hk9 => ?_) ?_; rotate_left; (focus (try ((try simp only [BN] at hg); simp only [S1, simprocAttr, TTToR, f0, f1, hne, hS, hbuild, over_length, all_scalar, t49', t40, ar40, ar44, dm, takeA_arr, takeA_st, List.length_map, List.length_drop, List.length_take, hg] at hk9 ⊢)); first | exact hk9 | ((first | apply call_a E8 | apply call_q E8); exact (hlg _); exact hk9) | ((first | apply call_a E9 | apply call_q E9); exact (hck _); exact hk9) | ((first | apply call_a E10 | apply call_q E10); exact (hline _); exact hk9) | ((first | apply call_a E11 | apply call_q E11); exact (hall _); exact hk9) | ((first | apply call_a E12 | apply call_q E12); exact (hst _); exact hk9)); (refine hK1 _ ?_; clear hK1 K1)) | (((first | (refine ⟨fun hg => hA ?_, fun hg => hB ?_⟩ <;> clear hA hB A B) | refine ⟨fun hg => ?_, fun hg => ?_⟩) <;> (try simp only [BN2] at hg) <;> (try simp only [hg, cond_true, cond_false])) <;> (try (refine hK1 _ ?_; clear hK1 K1)) <;> (try simp only [BN3] at hg))) | (refine awp_seq_k fun K hK => ?_) | ((first | refine awp_region ?_ | refine awp_draw (by kernel_rfl) ?_ | refine awp_block ?_ | refine awp_exit ?_ | refine awp_skip ?_ | refine awp_ret ?_); (try simp only [NB, simprocAttr])))
  obtain ⟨hn0, hok⟩ := stC_zero h0
  have rt := Right.of hn0
  have st := okS_st hS hok
  have hn := rt.n
  have hf := rt.f
  have hrk : ∀ r ∈ (allRu ns fl).1, r.needs.length ≤ 200 ∧ r.gives.length ≤ 200 := by
    intro r hr
    unfold allRu at hr
    rw [if_pos hn0] at hr
    have := ruTo_ok r hr
    omega
  have hrl : (allRu ns fl).1.length ≤ 1000 := by
    unfold allRu
    rw [if_pos hn0]
    have h1 := ruTo_le ns fl ns.length
    have h2 : ns.length * (fl.length + 1) ≤ 24 * 41 := Nat.mul_le_mul hn (by omega)
    simp only; omega
  have hfree := fun r hr h1 u e => free_steps hS h0 h1 (r := r) hr (u := u) e
  have hsl : (stepsG ns fl S).length ≤ 2500 := stepsG_len hn hf
  have hst2 : ∀ y ∈ stepsG ns fl S, y.to.length = 49 := stepsG_to hS
  have hfr : ∀ r ∈ (allRu ns fl).1, r.kind = 1 → ∀ u, doR r.needs r.gives (tokF S) = (some u, 0) → (stepsG ns fl S).any (doneP u r.node) = true := by
    intro r hr hk u e
    obtain ⟨y, hy, hg⟩ := free_steps hS h0 h1 hr hk e
    exact List.any_eq_true.mpr ⟨y, hy, doneP_of hg⟩
  have hdo : ∀ r ∈ (allRu ns fl).1, ∀ h, ACalls Tryd.prog gW 13 [aRu r, .agg ((S.take 40).map AV.i)] h (fun x h' => x = .tup [.agg ((listF ((doR r.needs r.gives (tokF S)).1.getD zT)).map AV.i), .i (doR r.needs r.gives (tokF S)).2] ∧ h' = h) := by
    intro r hr h
    have := rDo_calls (G := gW) r.kind r.node r.needs r.gives (hrk r hr).1 (hrk r hr).2 (tokF S) (fun i => by have := tokF_in st i; omega) (fun i => by have := tokF_in st i; omega) h
    simp only [resD, aA_listF, listF_tokF hS] at this
    exact this
  clear hfree hall hst
  generalize (allRu ns fl).1 = rs at *
  generalize stepsG ns fl S = sl at *
  refine awp_for rs.length 99 (fun j => [(49, .i j), (48, .i rs.length), (47, aRus rs), (7, aSps sl), (3, .ptr (h.length + 1) 0 0), (2, .ptr h.length 0 0)])
    (fun j => [some ⟨0, cNet ns fl⟩, some ⟨0, S.map AV.i⟩]) (fun j => True) ?_ trivial fun j hj hp K hK => ?_
  · refine ⟨rfl, ⟨[], by simp only [List.append_nil]⟩, ?_, ⟨trivial, trivial, trivial⟩, avlts_is _ _, trivial⟩
    simp only [keeps, avlt, avlts, blksLt, frL, upd_get, S1, simprocAttr, List.length_map, Int.natCast_zero, AV.p.injEq, PV.int.injEq, PV.bool.injEq, PV.sl.injEq] <;> (try and_intros) <;> (try assumption) <;> (try trivial) <;> (try omega)
  rcases Nat.lt_or_ge j rs.length with hlt | hge
  · obtain ⟨r, hx⟩ : ∃ r, rs[j]? = some r := ⟨_, List.getElem?_eq_getElem hlt⟩
    have hm := List.mem_of_getElem? hx
    have hx' : (rs.map eRu)[j]? = some (eRu r) := by rw [List.getElem?_map, hx]; rfl
    have jl : (j : Int) < (rs.length : Int) := by omega
    have j0 : (0 : Int) ≤ (j : Int) := by omega
    have hd := hdo r hm
    have hnx := next40 (n := rs.length) hrl hlt
    generalize hdr : doR r.needs r.gives (tokF S) = dr at *
    obtain ⟨du, de⟩ := dr
    simp only at hd
    have hll := listF_len (du.getD zT)
    have hov := over_full (cs := (listF (du.getD zT)).map AV.i) (n := 40) (by rw [List.length_map, hll])
    by_cases e0 : de = 0
    case neg =>
      have e0' : (de != 0) = true := by simp [e0]
      repeat' (first | ((first | refine aops_nil ?_ | refine aqops_nil ?_); (try simp only [NB])) | ((repeat ((fail_if_success (refine hK _ ?_)); clear hK K)); refine hK _ ?_; clear hK K) | ((first | refine aops_k fun K1 hK1 => ?_ | refine aqops_k fun K1 hK1 => ?_ | refine awp_cond_k fun A B hA hB => ?_); simp only [S1, simprocAttr, TTToR, jl, j0, hx', eRu, e0', hnx, hll, hov, takeA_arr, takeA_st, all_scalar, List.length_map, List.length_take, List.length_drop, hS, t40, Nat.mul_one, Nat.zero_add, Nat.add_zero, Int.toNat_natCast]; first | (refine hK1 _ ?_; clear hK1 K1) | ((first | refine hA ?_ | refine hB ?_); clear hA hB A B) | ((first | apply call_a E13 | apply call_q E13); exact (hd _); (refine hK1 _ ?_; clear hK1 K1)) | (refine join_x (v := ?_) (fun hg hk9 => ?_) ?_; rotate_left; (focus (try ((try simp only [BN] at hg); simp only [S1, simprocAttr, TTToR, jl, j0, hx', eRu, e0', hnx, hll, hov, takeA_arr, takeA_st, all_scalar, List.length_map, List.length_take, List.length_drop, hS, t40, Nat.mul_one, Nat.zero_add, Nat.add_zero, Int.toNat_natCast, hg] at hk9 ⊢)); first | exact hk9 | ((first | apply call_a E13 | apply call_q E13); exact (hd _); exact hk9)); (refine hK1 _ ?_; clear hK1 K1)) | (((first | (refine ⟨fun hg => hA ?_, fun hg => hB ?_⟩ <;> clear hA hB A B) | refine ⟨fun hg => ?_, fun hg => ?_⟩) <;> (try simp only [BN2] at hg) <;> (try simp only [hg, cond_true, cond_false])) <;> (try (refine hK1 _ ?_; clear hK1 K1)) <;> (try simp only [BN3] at hg))) | (refine awp_seq_k fun K hK => ?_) | ((first | refine awp_region ?_ | refine awp_draw (by kernel_rfl) ?_ | refine awp_block ?_ | refine awp_exit ?_ | refine awp_skip ?_ | refine awp_ret ?_); (try simp only [NB, simprocAttr])))
      all_goals refine ⟨hlt, trivial, ?_⟩
      all_goals refine ⟨rfl, ⟨_, rfl⟩, ?_, ⟨trivial, trivial, trivial⟩, avlts_is _ _, trivial⟩
      all_goals simp only [keeps, avlt, avlts, blksLt, frL, upd_get, S1, simprocAttr, List.length_map, Int.natCast_zero, AV.p.injEq, PV.int.injEq, PV.bool.injEq, PV.sl.injEq] <;> (try and_intros) <;> (try assumption) <;> (try trivial) <;> (try omega)
    have e0' : (de != 0) = false := by simp [e0]
    by_cases k1 : r.kind = 1
    case neg =>
      have k1' : (r.kind != 1) = true := by simp [k1]
      repeat' (first | ((first | refine aops_nil ?_ | refine aqops_nil ?_); (try simp only [NB])) | ((repeat ((fail_if_success (refine hK _ ?_)); clear hK K)); refine hK _ ?_; clear hK K) | ((first | refine aops_k fun K1 hK1 => ?_ | refine aqops_k fun K1 hK1 => ?_ | refine awp_cond_k fun A B hA hB => ?_); simp only [S1, simprocAttr, TTToR, jl, j0, hx', eRu, e0', k1', hnx, hll, hov, takeA_arr, takeA_st, all_scalar, List.length_map, List.length_take, List.length_drop, hS, t40, Nat.mul_one, Nat.zero_add, Nat.add_zero, Int.toNat_natCast]; first | (refine hK1 _ ?_; clear hK1 K1) | ((first | refine hA ?_ | refine hB ?_); clear hA hB A B) | ((first | apply call_a E13 | apply call_q E13); exact (hd _); (refine hK1 _ ?_; clear hK1 K1)) | (refine join_x (v := ?_) (fun hg hk9 => ?_) ?_; rotate_left; (focus (try ((try simp only [BN] at hg); simp only [S1, simprocAttr, TTToR, jl, j0, hx', eRu, e0', k1', hnx, hll, hov, takeA_arr, takeA_st, all_scalar, List.length_map, List.length_take, List.length_drop, hS, t40, Nat.mul_one, Nat.zero_add, Nat.add_zero, Int.toNat_natCast, hg] at hk9 ⊢)); first | exact hk9 | ((first | apply call_a E13 | apply call_q E13); exact (hd _); exact hk9)); (refine hK1 _ ?_; clear hK1 K1)) | (((first | (refine ⟨fun hg => hA ?_, fun hg => hB ?_⟩ <;> clear hA hB A B) | refine ⟨fun hg => ?_, fun hg => ?_⟩) <;> (try simp only [BN2] at hg) <;> (try simp only [hg, cond_true, cond_false])) <;> (try (refine hK1 _ ?_; clear hK1 K1)) <;> (try simp only [BN3] at hg))) | (refine awp_seq_k fun K hK => ?_) | ((first | refine awp_region ?_ | refine awp_draw (by kernel_rfl) ?_ | refine awp_block ?_ | refine awp_exit ?_ | refine awp_skip ?_ | refine awp_ret ?_); (try simp only [NB, simprocAttr])))
      all_goals refine ⟨hlt, trivial, ?_⟩
      all_goals refine ⟨rfl, ⟨_, rfl⟩, ?_, ⟨trivial, trivial, trivial⟩, avlts_is _ _, trivial⟩
      all_goals simp only [keeps, avlt, avlts, blksLt, frL, upd_get, S1, simprocAttr, List.length_map, Int.natCast_zero, AV.p.injEq, PV.int.injEq, PV.bool.injEq, PV.sl.injEq] <;> (try and_intros) <;> (try assumption) <;> (try trivial) <;> (try omega)
    have k1' : (r.kind != 1) = false := by simp [k1]
    repeat' (first | ((first | refine aops_nil ?_ | refine aqops_nil ?_); (try simp only [NB])) | ((repeat ((fail_if_success (refine hK _ ?_)); clear hK K)); refine hK _ ?_; clear hK K) | ((first | refine aops_k fun K1 hK1 => ?_ | refine aqops_k fun K1 hK1 => ?_ | refine awp_cond_k fun A B hA hB => ?_); simp only [S1, simprocAttr, TTToR, jl, j0, hx', eRu, e0', k1', hnx, hll, hov, takeA_arr, takeA_st, all_scalar, List.length_map, List.length_take, List.length_drop, hS, t40, Nat.mul_one, Nat.zero_add, Nat.add_zero, Int.toNat_natCast]; first | (refine hK1 _ ?_; clear hK1 K1) | ((first | refine hA ?_ | refine hB ?_); clear hA hB A B) | ((first | apply call_a E13 | apply call_q E13); exact (hd _); (refine hK1 _ ?_; clear hK1 K1)) | (refine join_x (v := ?_) (fun hg hk9 => ?_) ?_; rotate_left; (focus (try ((try simp only [BN] at hg); simp only [S1, simprocAttr, TTToR, jl, j0, hx', eRu, e0', k1', hnx, hll, hov, takeA_arr, takeA_st, all_scalar, List.length_map, List.length_take, List.length_drop, hS, t40, Nat.mul_one, Nat.zero_add, Nat.add_zero, Int.toNat_natCast, hg] at hk9 ⊢)); first | exact hk9 | ((first | apply call_a E13 | apply call_q E13); exact (hd _); exact hk9)); (refine hK1 _ ?_; clear hK1 K1)) | (((first | (refine ⟨fun hg => hA ?_, fun hg => hB ?_⟩ <;> clear hA hB A B) | refine ⟨fun hg => ?_, fun hg => ?_⟩) <;> (try simp only [BN2] at hg) <;> (try simp only [hg, cond_true, cond_false])) <;> (try (refine hK1 _ ?_; clear hK1 K1)) <;> (try simp only [BN3] at hg))) | (refine awp_seq_k fun K hK => ?_) | ((first | refine awp_region ?_ | refine awp_draw (by kernel_rfl) ?_ | refine awp_block ?_ | refine awp_exit ?_ | refine awp_skip ?_ | refine awp_ret ?_); (try simp only [NB, simprocAttr])))
    obtain ⟨u, rfl⟩ : ∃ u, du = some u := by
      unfold doR at hdr
      split at hdr
      · split at hdr
        · split at hdr
          · rename_i v _; exact ⟨v, by cases hdr; rfl⟩
          · cases hdr; omega
        · cases hdr; omega
      · cases hdr; omega
    have hfin := hfr r hm k1 u (by rw [hdr, e0])
    simp only [Option.getD_some] at hll hov ⊢
    refine awp_for sl.length 99 (fun i => [(69, .i i), (68, .i sl.length), (67, aSps sl), (12, .b ((sl.take i).any (doneP u r.node)))] ++ [(49, .i j), (48, .i rs.length), (47, aRus rs), (10, .ptr (h.length + 3) 0 0), (9, .ptr (h.length + 2) 0 0), (7, aSps sl), (3, .ptr (h.length + 1) 0 0), (2, .ptr h.length 0 0)])
      (fun i => [some ⟨0, cNet ns fl⟩, some ⟨0, S.map AV.i⟩, some ⟨0, [.i r.kind, .i r.node, aI r.needs, aI r.gives]⟩, some ⟨0, (listF u).map AV.i⟩]) (fun i => True) ?_ trivial fun i hi hp K hK => ?_
    · refine ⟨rfl, ⟨[], by simp only [List.append_nil]⟩, ?_, ⟨trivial, trivial, trivial⟩, avlts_is _ _, ⟨trivial, trivial, trivial, trivial, trivial⟩, avlts_is _ _, trivial⟩
      simp only [List.take_zero, List.any_nil, List.cons_append, List.nil_append]
      simp only [keeps, avlt, avlts, blksLt, frL, upd_get, S1, simprocAttr, List.length_map, Int.natCast_zero, AV.p.injEq, PV.int.injEq, PV.bool.injEq, PV.sl.injEq] <;> (try and_intros) <;> (try assumption) <;> (try trivial) <;> (try omega)
    rcases Nat.lt_or_ge i sl.length with hlti | hgei
    · obtain ⟨y, hy⟩ : ∃ y, sl[i]? = some y := ⟨_, List.getElem?_eq_getElem hlti⟩
      have hxy : (sl.map eSp)[i]? = some ((cSp y).map (PV.int .i64)) := by rw [List.getElem?_map, hy]; rfl
      have hyl := hst2 y (List.mem_of_getElem? hy)
      have il : (i : Int) < (sl.length : Int) := by omega
      have i0 : (0 : Int) ≤ (i : Int) := by omega
      have hnxi : IntKind.i64.wrap ((i : Int) + 1) = ((i + 1 : Nat) : Int) := by rw [IntWalk.i64_in _ (by omega)]; omega
      have y54 : (cSp y).length = 54 := cSp_len hyl
      have ymm := (mapmap (cSp y)).trans (cSp_eq y)
      have yt49 : (y.to.map AV.i).take 49 = y.to.map AV.i := List.take_of_length_le (by rw [List.length_map, hyl]; exact Nat.le_refl _)
      have yov := over_tail hyl
      have yt : (y.to.map AV.i).take 40 = (y.to.take 40).map AV.i := by rw [List.map_take]
      have hat := any_take (p := doneP u r.node) hy
      have hpy : doneP u r.node y = ((y.node == r.node) && ((y.to.take 40 == listF u) || (y.lk == 6))) := rfl
      have heq := eqI (S := y.to.take 40) (T := listF u) (by rw [List.length_take, hyl, hll]; rfl)
      simp only [List.cons_append, List.nil_append]
      generalize (sl.take i).any (doneP u r.node) = g0 at hat ⊢
      generalize (y.to.take 40 == listF u) = g2 at heq hpy
      have lt40 : ((listF u).map AV.i).take 40 = (listF u).map AV.i := List.take_of_length_le (by rw [List.length_map, hll]; exact Nat.le_refl _)
      cases g0 with
      | true =>
        have hat' : (sl.take (i + 1)).any (doneP u r.node) = true := by rw [hat, hpy]; rfl
        repeat' (first | ((first | refine aops_nil ?_ | refine aqops_nil ?_); (try simp only [NB])) | ((repeat ((fail_if_success (refine hK _ ?_)); clear hK K)); refine hK _ ?_; clear hK K) | ((first | refine aops_k fun K1 hK1 => ?_ | refine aqops_k fun K1 hK1 => ?_ | refine awp_cond_k fun A B hA hB => ?_); simp only [S1, simprocAttr, TTToR, il, i0, hxy, hnxi, y54, ymm, yt49, yov, hyl, hll, yt, heq, lt40, eqA, Q26, and_self,  takeA_arr, takeA_st, all_scalar, List.length_map, List.length_take, List.length_drop, hS, t40, Nat.mul_one, Nat.zero_add, Nat.add_zero, Int.toNat_natCast]; first | (refine hK1 _ ?_; clear hK1 K1) | ((first | refine hA ?_ | refine hB ?_); clear hA hB A B) | (refine join_x (v := ?_) (fun hg hk9 => ?_) ?_; rotate_left; (focus (try ((try simp only [BN] at hg); simp only [S1, simprocAttr, TTToR, il, i0, hxy, hnxi, y54, ymm, yt49, yov, hyl, hll, yt, heq, lt40, eqA, Q26, and_self,  takeA_arr, takeA_st, all_scalar, List.length_map, List.length_take, List.length_drop, hS, t40, Nat.mul_one, Nat.zero_add, Nat.add_zero, Int.toNat_natCast, hg] at hk9 ⊢)); first | exact hk9); (refine hK1 _ ?_; clear hK1 K1)) | (((first | (refine ⟨fun hg => hA ?_, fun hg => hB ?_⟩ <;> clear hA hB A B) | refine ⟨fun hg => ?_, fun hg => ?_⟩) <;> (try simp only [BN2] at hg) <;> (try simp only [hg, cond_true, cond_false])) <;> (try (refine hK1 _ ?_; clear hK1 K1)) <;> (try simp only [BN3] at hg))) | (refine awp_seq_k fun K hK => ?_) | ((first | refine awp_region ?_ | refine awp_draw (by kernel_rfl) ?_ | refine awp_block ?_ | refine awp_exit ?_ | refine awp_skip ?_ | refine awp_ret ?_); (try simp only [NB, simprocAttr])))
        all_goals refine ⟨hlti, trivial, ?_⟩
        all_goals simp only [hat', List.cons_append, List.nil_append]
        all_goals refine ⟨rfl, ⟨_, by simp only [List.cons_append, List.nil_append]; rfl⟩, ?_, ⟨trivial, trivial, trivial⟩, avlts_is _ _, ⟨trivial, trivial, trivial, trivial, trivial⟩, avlts_is _ _, trivial⟩
        all_goals simp only [keeps, avlt, avlts, blksLt, frL, upd_get, S1, simprocAttr, List.length_map, Int.natCast_zero, AV.p.injEq, PV.int.injEq, PV.bool.injEq, PV.sl.injEq] <;> (try and_intros) <;> (try assumption) <;> (try trivial) <;> (try omega)
      | false =>
      cases gn : (y.node == r.node) with
      | false =>
        have hat' : (sl.take (i + 1)).any (doneP u r.node) = false := by rw [hat, hpy, gn]; rfl
        repeat' (first | ((first | refine aops_nil ?_ | refine aqops_nil ?_); (try simp only [NB])) | ((repeat ((fail_if_success (refine hK _ ?_)); clear hK K)); refine hK _ ?_; clear hK K) | ((first | refine aops_k fun K1 hK1 => ?_ | refine aqops_k fun K1 hK1 => ?_ | refine awp_cond_k fun A B hA hB => ?_); simp only [S1, simprocAttr, TTToR, il, i0, hxy, hnxi, y54, ymm, yt49, yov, hyl, hll, yt, heq, lt40, eqA, Q26, and_self, gn, takeA_arr, takeA_st, all_scalar, List.length_map, List.length_take, List.length_drop, hS, t40, Nat.mul_one, Nat.zero_add, Nat.add_zero, Int.toNat_natCast]; first | (refine hK1 _ ?_; clear hK1 K1) | ((first | refine hA ?_ | refine hB ?_); clear hA hB A B) | (refine join_x (v := ?_) (fun hg hk9 => ?_) ?_; rotate_left; (focus (try ((try simp only [BN] at hg); simp only [S1, simprocAttr, TTToR, il, i0, hxy, hnxi, y54, ymm, yt49, yov, hyl, hll, yt, heq, lt40, eqA, Q26, and_self, gn, takeA_arr, takeA_st, all_scalar, List.length_map, List.length_take, List.length_drop, hS, t40, Nat.mul_one, Nat.zero_add, Nat.add_zero, Int.toNat_natCast, hg] at hk9 ⊢)); first | exact hk9); (refine hK1 _ ?_; clear hK1 K1)) | (((first | (refine ⟨fun hg => hA ?_, fun hg => hB ?_⟩ <;> clear hA hB A B) | refine ⟨fun hg => ?_, fun hg => ?_⟩) <;> (try simp only [BN2] at hg) <;> (try simp only [hg, cond_true, cond_false])) <;> (try (refine hK1 _ ?_; clear hK1 K1)) <;> (try simp only [BN3] at hg))) | (refine awp_seq_k fun K hK => ?_) | ((first | refine awp_region ?_ | refine awp_draw (by kernel_rfl) ?_ | refine awp_block ?_ | refine awp_exit ?_ | refine awp_skip ?_ | refine awp_ret ?_); (try simp only [NB, simprocAttr])))
        all_goals refine ⟨hlti, trivial, ?_⟩
        all_goals simp only [hat', List.cons_append, List.nil_append]
        all_goals refine ⟨rfl, ⟨_, by simp only [List.cons_append, List.nil_append]; rfl⟩, ?_, ⟨trivial, trivial, trivial⟩, avlts_is _ _, ⟨trivial, trivial, trivial, trivial, trivial⟩, avlts_is _ _, trivial⟩
        all_goals simp only [keeps, avlt, avlts, blksLt, frL, upd_get, S1, simprocAttr, List.length_map, Int.natCast_zero, AV.p.injEq, PV.int.injEq, PV.bool.injEq, PV.sl.injEq] <;> (try and_intros) <;> (try assumption) <;> (try trivial) <;> (try omega)
      | true =>
      cases g2 with
      | true =>
        have hat' : (sl.take (i + 1)).any (doneP u r.node) = true := by rw [hat, hpy, gn]; rfl
        repeat' (first | ((first | refine aops_nil ?_ | refine aqops_nil ?_); (try simp only [NB])) | ((repeat ((fail_if_success (refine hK _ ?_)); clear hK K)); refine hK _ ?_; clear hK K) | ((first | refine aops_k fun K1 hK1 => ?_ | refine aqops_k fun K1 hK1 => ?_ | refine awp_cond_k fun A B hA hB => ?_); simp only [S1, simprocAttr, TTToR, il, i0, hxy, hnxi, y54, ymm, yt49, yov, hyl, hll, yt, heq, lt40, eqA, Q26, and_self, gn, takeA_arr, takeA_st, all_scalar, List.length_map, List.length_take, List.length_drop, hS, t40, Nat.mul_one, Nat.zero_add, Nat.add_zero, Int.toNat_natCast]; first | (refine hK1 _ ?_; clear hK1 K1) | ((first | refine hA ?_ | refine hB ?_); clear hA hB A B) | (refine join_x (v := ?_) (fun hg hk9 => ?_) ?_; rotate_left; (focus (try ((try simp only [BN] at hg); simp only [S1, simprocAttr, TTToR, il, i0, hxy, hnxi, y54, ymm, yt49, yov, hyl, hll, yt, heq, lt40, eqA, Q26, and_self, gn, takeA_arr, takeA_st, all_scalar, List.length_map, List.length_take, List.length_drop, hS, t40, Nat.mul_one, Nat.zero_add, Nat.add_zero, Int.toNat_natCast, hg] at hk9 ⊢)); first | exact hk9); (refine hK1 _ ?_; clear hK1 K1)) | (((first | (refine ⟨fun hg => hA ?_, fun hg => hB ?_⟩ <;> clear hA hB A B) | refine ⟨fun hg => ?_, fun hg => ?_⟩) <;> (try simp only [BN2] at hg) <;> (try simp only [hg, cond_true, cond_false])) <;> (try (refine hK1 _ ?_; clear hK1 K1)) <;> (try simp only [BN3] at hg))) | (refine awp_seq_k fun K hK => ?_) | ((first | refine awp_region ?_ | refine awp_draw (by kernel_rfl) ?_ | refine awp_block ?_ | refine awp_exit ?_ | refine awp_skip ?_ | refine awp_ret ?_); (try simp only [NB, simprocAttr])))
        all_goals refine ⟨hlti, trivial, ?_⟩
        all_goals simp only [hat', List.cons_append, List.nil_append]
        all_goals refine ⟨rfl, ⟨_, by simp only [List.cons_append, List.nil_append]; rfl⟩, ?_, ⟨trivial, trivial, trivial⟩, avlts_is _ _, ⟨trivial, trivial, trivial, trivial, trivial⟩, avlts_is _ _, trivial⟩
        all_goals simp only [keeps, avlt, avlts, blksLt, frL, upd_get, S1, simprocAttr, List.length_map, Int.natCast_zero, AV.p.injEq, PV.int.injEq, PV.bool.injEq, PV.sl.injEq] <;> (try and_intros) <;> (try assumption) <;> (try trivial) <;> (try omega)
      | false =>
      cases g3 : (y.lk == 6) with
      | true =>
        have hat' : (sl.take (i + 1)).any (doneP u r.node) = true := by rw [hat, hpy, gn, g3]; rfl
        repeat' (first | ((first | refine aops_nil ?_ | refine aqops_nil ?_); (try simp only [NB])) | ((repeat ((fail_if_success (refine hK _ ?_)); clear hK K)); refine hK _ ?_; clear hK K) | ((first | refine aops_k fun K1 hK1 => ?_ | refine aqops_k fun K1 hK1 => ?_ | refine awp_cond_k fun A B hA hB => ?_); simp only [S1, simprocAttr, TTToR, il, i0, hxy, hnxi, y54, ymm, yt49, yov, hyl, hll, yt, heq, lt40, eqA, Q26, and_self, gn, g3, takeA_arr, takeA_st, all_scalar, List.length_map, List.length_take, List.length_drop, hS, t40, Nat.mul_one, Nat.zero_add, Nat.add_zero, Int.toNat_natCast]; first | (refine hK1 _ ?_; clear hK1 K1) | ((first | refine hA ?_ | refine hB ?_); clear hA hB A B) | (refine join_x (v := ?_) (fun hg hk9 => ?_) ?_; rotate_left; (focus (try ((try simp only [BN] at hg); simp only [S1, simprocAttr, TTToR, il, i0, hxy, hnxi, y54, ymm, yt49, yov, hyl, hll, yt, heq, lt40, eqA, Q26, and_self, gn, g3, takeA_arr, takeA_st, all_scalar, List.length_map, List.length_take, List.length_drop, hS, t40, Nat.mul_one, Nat.zero_add, Nat.add_zero, Int.toNat_natCast, hg] at hk9 ⊢)); first | exact hk9); (refine hK1 _ ?_; clear hK1 K1)) | (((first | (refine ⟨fun hg => hA ?_, fun hg => hB ?_⟩ <;> clear hA hB A B) | refine ⟨fun hg => ?_, fun hg => ?_⟩) <;> (try simp only [BN2] at hg) <;> (try simp only [hg, cond_true, cond_false])) <;> (try (refine hK1 _ ?_; clear hK1 K1)) <;> (try simp only [BN3] at hg))) | (refine awp_seq_k fun K hK => ?_) | ((first | refine awp_region ?_ | refine awp_draw (by kernel_rfl) ?_ | refine awp_block ?_ | refine awp_exit ?_ | refine awp_skip ?_ | refine awp_ret ?_); (try simp only [NB, simprocAttr])))
        all_goals refine ⟨hlti, trivial, ?_⟩
        all_goals simp only [hat', List.cons_append, List.nil_append]
        all_goals refine ⟨rfl, ⟨_, by simp only [List.cons_append, List.nil_append]; rfl⟩, ?_, ⟨trivial, trivial, trivial⟩, avlts_is _ _, ⟨trivial, trivial, trivial, trivial, trivial⟩, avlts_is _ _, trivial⟩
        all_goals simp only [keeps, avlt, avlts, blksLt, frL, upd_get, S1, simprocAttr, List.length_map, Int.natCast_zero, AV.p.injEq, PV.int.injEq, PV.bool.injEq, PV.sl.injEq] <;> (try and_intros) <;> (try assumption) <;> (try trivial) <;> (try omega)
      | false =>
        have hat' : (sl.take (i + 1)).any (doneP u r.node) = false := by rw [hat, hpy, gn, g3]; rfl
        repeat' (first | ((first | refine aops_nil ?_ | refine aqops_nil ?_); (try simp only [NB])) | ((repeat ((fail_if_success (refine hK _ ?_)); clear hK K)); refine hK _ ?_; clear hK K) | ((first | refine aops_k fun K1 hK1 => ?_ | refine aqops_k fun K1 hK1 => ?_ | refine awp_cond_k fun A B hA hB => ?_); simp only [S1, simprocAttr, TTToR, il, i0, hxy, hnxi, y54, ymm, yt49, yov, hyl, hll, yt, heq, lt40, eqA, Q26, and_self, gn, g3, takeA_arr, takeA_st, all_scalar, List.length_map, List.length_take, List.length_drop, hS, t40, Nat.mul_one, Nat.zero_add, Nat.add_zero, Int.toNat_natCast]; first | (refine hK1 _ ?_; clear hK1 K1) | ((first | refine hA ?_ | refine hB ?_); clear hA hB A B) | (refine join_x (v := ?_) (fun hg hk9 => ?_) ?_; rotate_left; (focus (try ((try simp only [BN] at hg); simp only [S1, simprocAttr, TTToR, il, i0, hxy, hnxi, y54, ymm, yt49, yov, hyl, hll, yt, heq, lt40, eqA, Q26, and_self, gn, g3, takeA_arr, takeA_st, all_scalar, List.length_map, List.length_take, List.length_drop, hS, t40, Nat.mul_one, Nat.zero_add, Nat.add_zero, Int.toNat_natCast, hg] at hk9 ⊢)); first | exact hk9); (refine hK1 _ ?_; clear hK1 K1)) | (((first | (refine ⟨fun hg => hA ?_, fun hg => hB ?_⟩ <;> clear hA hB A B) | refine ⟨fun hg => ?_, fun hg => ?_⟩) <;> (try simp only [BN2] at hg) <;> (try simp only [hg, cond_true, cond_false])) <;> (try (refine hK1 _ ?_; clear hK1 K1)) <;> (try simp only [BN3] at hg))) | (refine awp_seq_k fun K hK => ?_) | ((first | refine awp_region ?_ | refine awp_draw (by kernel_rfl) ?_ | refine awp_block ?_ | refine awp_exit ?_ | refine awp_skip ?_ | refine awp_ret ?_); (try simp only [NB, simprocAttr])))
        all_goals refine ⟨hlti, trivial, ?_⟩
        all_goals simp only [hat', List.cons_append, List.nil_append]
        all_goals refine ⟨rfl, ⟨_, by simp only [List.cons_append, List.nil_append]; rfl⟩, ?_, ⟨trivial, trivial, trivial⟩, avlts_is _ _, ⟨trivial, trivial, trivial, trivial, trivial⟩, avlts_is _ _, trivial⟩
        all_goals simp only [keeps, avlt, avlts, blksLt, frL, upd_get, S1, simprocAttr, List.length_map, Int.natCast_zero, AV.p.injEq, PV.int.injEq, PV.bool.injEq, PV.sl.injEq] <;> (try and_intros) <;> (try assumption) <;> (try trivial) <;> (try omega)
    · obtain rfl : i = sl.length := by omega
      simp only [List.take_length, hfin, List.cons_append, List.nil_append]
      repeat' (first | ((first | refine aops_nil ?_ | refine aqops_nil ?_); (try simp only [NB])) | ((repeat ((fail_if_success (refine hK _ ?_)); clear hK K)); refine hK _ ?_; clear hK K) | ((first | refine aops_k fun K1 hK1 => ?_ | refine aqops_k fun K1 hK1 => ?_ | refine awp_cond_k fun A B hA hB => ?_); simp only [S1, simprocAttr, TTToR, Int.lt_irrefl, hnx]; first | (refine hK1 _ ?_; clear hK1 K1) | ((first | refine hA ?_ | refine hB ?_); clear hA hB A B) | (refine join_x (v := ?_) (fun hg hk9 => ?_) ?_; rotate_left; (focus (try ((try simp only [BN] at hg); simp only [S1, simprocAttr, TTToR, Int.lt_irrefl, hnx, hg] at hk9 ⊢)); first | exact hk9); (refine hK1 _ ?_; clear hK1 K1)) | (((first | (refine ⟨fun hg => hA ?_, fun hg => hB ?_⟩ <;> clear hA hB A B) | refine ⟨fun hg => ?_, fun hg => ?_⟩) <;> (try simp only [BN2] at hg) <;> (try simp only [hg, cond_true, cond_false])) <;> (try (refine hK1 _ ?_; clear hK1 K1)) <;> (try simp only [BN3] at hg))) | (refine awp_seq_k fun K hK => ?_) | ((first | refine awp_region ?_ | refine awp_draw (by kernel_rfl) ?_ | refine awp_block ?_ | refine awp_exit ?_ | refine awp_skip ?_ | refine awp_ret ?_); (try simp only [NB, simprocAttr])))
      all_goals refine ⟨hlt, trivial, ?_⟩
      all_goals refine ⟨rfl, ⟨_, rfl⟩, ?_, ⟨trivial, trivial, trivial⟩, avlts_is _ _, trivial⟩
      all_goals simp only [keeps, avlt, avlts, blksLt, frL, upd_get, S1, simprocAttr, List.length_map, Int.natCast_zero, AV.p.injEq, PV.int.injEq, PV.bool.injEq, PV.sl.injEq] <;> (try and_intros) <;> (try assumption) <;> (try trivial) <;> (try omega)
  obtain rfl : j = rs.length := by omega
  repeat' (first | ((first | refine aops_nil ?_ | refine aqops_nil ?_); (try simp only [NB])) | ((repeat ((fail_if_success (refine hK _ ?_)); clear hK K)); refine hK _ ?_; clear hK K) | ((first | refine aops_k fun K1 hK1 => ?_ | refine aqops_k fun K1 hK1 => ?_ | refine awp_cond_k fun A B hA hB => ?_); simp only [S1, simprocAttr, TTToR, Int.lt_irrefl]; first | (refine hK1 _ ?_; clear hK1 K1) | ((first | refine hA ?_ | refine hB ?_); clear hA hB A B) | ((first | apply call_a E10 | apply call_q E10); exact (hline _); (refine hK1 _ ?_; clear hK1 K1)) | (refine join_x (v := ?_) (fun hg hk9 => ?_) ?_; rotate_left; (focus (try ((try simp only [BN] at hg); simp only [S1, simprocAttr, TTToR, Int.lt_irrefl, hg] at hk9 ⊢)); first | exact hk9 | ((first | apply call_a E10 | apply call_q E10); exact (hline _); exact hk9)); (refine hK1 _ ?_; clear hK1 K1)) | (((first | (refine ⟨fun hg => hA ?_, fun hg => hB ?_⟩ <;> clear hA hB A B) | refine ⟨fun hg => ?_, fun hg => ?_⟩) <;> (try simp only [BN2] at hg) <;> (try simp only [hg, cond_true, cond_false])) <;> (try (refine hK1 _ ?_; clear hK1 K1)) <;> (try simp only [BN3] at hg))) | (refine awp_seq_k fun K hK => ?_) | ((first | refine awp_region ?_ | refine awp_draw (by kernel_rfl) ?_ | refine awp_block ?_ | refine awp_exit ?_ | refine awp_skip ?_ | refine awp_ret ?_); (try simp only [NB, simprocAttr])))
  all_goals simp only [EndP, FinP, resA, resL, resA1, lastV, lastA, lastAs, pur, purs, take_app, List.take_length, S1, simprocAttr, TTToR, Nat.le_add_right, Nat.le_refl]
end Go.Proofs.YtjpphhcimpclpaaDoor.AM
end

section
set_option linter.unusedVariables false
namespace Go.Proofs.YtjpphhcimpclpaaDoor.AM
open Go Go.Proofs
set_option linter.defProp false in
theorem arg_state {fuel : Nat} {xs : List PV} (h : Ty Tryd.prog fuel 29 xs) : ∃ S : List Int, S.length = 49 ∧ argA Tryd.prog 29 xs = aS S := by
  obtain ⟨m, rows, e, hl, rfl, hf⟩ := ty_struct T29 h
  match rows, hl with
  | [r0, r1, r2, r3], _ =>
    have h0 : Ty Tryd.prog m 26 r0 := hf 0 _ r0 rfl rfl
    have h1 : Ty Tryd.prog m 27 r1 := hf 1 _ r1 rfl rfl
    have h2 : Ty Tryd.prog m 27 r2 := hf 2 _ r2 rfl rfl
    have h3 : Ty Tryd.prog m 3 r3 := hf 3 _ r3 rfl rfl
    obtain ⟨l0, hl0, _, rfl⟩ := ty_intarr T26 T3 h0
    obtain ⟨l1, hl1, _, rfl⟩ := ty_intarr T27 T3 h1
    obtain ⟨l2, hl2, _, rfl⟩ := ty_intarr T27 T3 h2
    obtain ⟨o, _, rfl⟩ := ty_int T3 h3
    refine ⟨l0 ++ (l1 ++ (l2 ++ [o])), by simp only [List.length_append, List.length_cons, List.length_nil]; omega, ?_⟩
    rw [argA_at T29]
    have e2 : (([l0.map (PV.int .i64), l1.map (PV.int .i64), l2.map (PV.int .i64), [.int .i64 o]] : List (List PV)).flatMap id).map AV.p = (l0 ++ (l1 ++ (l2 ++ [o]))).map AV.i := by
      simp only [List.flatMap_cons, List.flatMap_nil, List.append_nil, id_eq, List.map_append, List.map_map, List.map_cons, List.map_nil]; rfl
    rw [e2]; rfl

theorem free_given (xss : List (List PV)) (hl : xss.length = [25, 29].length) (ht : ∀ (j : Nat) t xs, [25, 29][j]? = some t → xss[j]? = some xs → ∃ fuel, Ty Tryd.prog fuel t xs) :
    ACalls Tryd.prog gW 3 (List.zipWith (argA Tryd.prog) [25, 29] xss) [] fun r h' => r = .b true ∧ h' = [] := by
  match xss, hl, ht with
  | [x0, x1], _, ht =>
    obtain ⟨_, h0⟩ := ht 0 25 x0 rfl rfl
    obtain ⟨_, h1⟩ := ht 1 29 x1 rfl rfl
    obtain ⟨ns, fl, e0⟩ := arg_net h0
    obtain ⟨S, hS, e1⟩ := arg_state h1
    simp only [List.zipWith_cons_cons, List.zipWith_nil_left, e0, e1]
    exact free_calls ns fl hS []
end Go.Proofs.YtjpphhcimpclpaaDoor.AM
end
