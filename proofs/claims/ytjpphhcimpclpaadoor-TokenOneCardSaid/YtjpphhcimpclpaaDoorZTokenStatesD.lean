/- Proved here, in parts, for one law: Contracts: what operators make of numbers. Right terms, and what they are. Contracts: the number that a right term is. Contracts: the truth that a right term is. Contracts: the truth that a right term is, second part. Contracts: whether values are numbers. Contracts: what is asked of a term; Number, Truth. Contracts: which flow a splitting Xor takes, as the document tells it. Contracts: the steps of an Xor, as the document tells them. Contracts: the steps of a node of data, as the document tells them. Contracts: the steps of a node, as the document tells them. Contracts: whether it is a state, as the document tells it. Contracts: all steps of a state, as the document tells them. Contracts: tokens that are moved, as the program does it. Plain: what is moved, as the document tells it. Contracts: a step more; a fault, as the program does it. Contracts: a step more that changes the rest of a state; the functions that change it. Contracts: the functions that change the rest of a state. Contracts: a fault; the step of a catch that goes, as the program does it. Contracts: how many tokens there are; which messages are awaited; what stands on nothing. Contracts: the steps of an Xor, as the program does them. Contracts: the steps of a node, as the program does them: what returns at once; tasks and assignments. Conditions: none. -/
import Derived.Test.YtjpphhcimpclpaaDoorZTokenStatesC
import Derived.IntWalk

section
set_option linter.unusedVariables false
set_option linter.unusedSimpArgs false
set_option maxRecDepth 4000
set_option maxHeartbeats 4000000
namespace Go.Proofs.YtjpphhcimpclpaaDoor.AM
open Go Go.Proofs
set_option linter.defProp false in
def TTEvI := And.intro T2 (And.intro T3 (And.intro T4 (And.intro T27 (And.intro T31 (And.intro T58 (And.intro T141 T142))))))
attribute [local irreducible] awp aops aqops
variable {G : Nat → Option (List PV)}

def Num (n : Int) : Prop := -1099511627776 ≤ n ∧ n ≤ 1099511627776

theorem abs_calls' {n : Int} (hn : -9223372036854775807 ≤ n ∧ n ≤ 9223372036854775807) (h : Heap) : ACalls Tryd.prog G 115 [.i n] h (fun r h' => r = .i (n.natAbs : Int) ∧ h' = h) := by
  have hw := IntWalk.i64_in (0 - n) (by omega)
  refine ACalls.mono (abs_calls n h) ?_
  rintro r h' ⟨rfl, rfl⟩
  refine ⟨?_, rfl⟩
  rw [hw]
  refine congrArg AV.i ?_
  split <;> omega

def prodS (a b : Int) : Int × Int := if b ≠ 0 ∧ 1099511627776 / b.natAbs < a.natAbs then (0, 40) else (a * b, 0)

theorem prod_num {a b : Int} (hb : b ≠ 0) (h : ¬ (1099511627776 / b.natAbs < a.natAbs)) : Num (a * b) := by
  have h1 : a.natAbs ≤ 1099511627776 / b.natAbs := Nat.le_of_not_lt h
  have h2 : a.natAbs * b.natAbs ≤ 1099511627776 := by
    have := Nat.mul_le_mul_right b.natAbs h1
    exact Nat.le_trans this (Nat.div_mul_le_self _ _)
  have h3 : (a * b).natAbs ≤ 1099511627776 := by rw [Int.natAbs_mul]; exact h2
  unfold Num; omega

theorem quo_abs {b : Int} (hb : b ≠ 0) : IntKind.i64.wrap ((1099511627776 : Int).tdiv (b.natAbs : Int)) = ((1099511627776 / b.natAbs : Nat) : Int) := by
  have e : (1099511627776 : Int).tdiv (b.natAbs : Int) = ((1099511627776 / b.natAbs : Nat) : Int) := by
    rw [show (1099511627776 : Int) = ((1099511627776 : Nat) : Int) from rfl, ← Int.ofNat_tdiv]
  have h1 : 1099511627776 / b.natAbs ≤ 1099511627776 := Nat.div_le_self _ _
  rw [e]
  generalize 1099511627776 / b.natAbs = q at *
  rw [IntWalk.i64_in _ (by omega)]

theorem product_calls {a b : Int} (ha : Num a) (hb : Num b) (h : Heap) : ACalls Tryd.prog G 108 [.i a, .i b] h (fun r h' => r = .tup [.i (prodS a b).1, .i (prodS a b).2] ∧ h' = h) := by
  unfold Num at ha hb
  by_cases hz : a = 0 ∨ b = 0
  · have f1 : (a == 0 || b == 0) = true := by rcases hz with e | e <;> simp [e]
    have e : prodS a b = (0, 0) := by
      unfold prodS
      rcases hz with e | e
      · subst e; simp
      · subst e; simp
    rw [e]
    refine acalls_pure (rl := []) mixed Tryd.func108 rfl (rs := [.tmp 4, .tmp 5]) rfl Tryd.ntmps108 (by simp) ?_
    repeat' (first | ((first | refine aops_nil ?_ | refine aqops_nil ?_); (try simp only [NB])) | ((repeat ((fail_if_success (refine hK _ ?_)); clear hK K)); refine hK _ ?_; clear hK K) | ((first | refine aops_k fun K1 hK1 => ?_ | refine aqops_k fun K1 hK1 => ?_ | refine awp_cond_k fun A B hA hB => ?_); simp only [S1, simprocAttr, TTEvI, f1]; first | (refine hK1 _ ?_; clear hK1 K1) | ((first | refine hA ?_ | refine hB ?_); clear hA hB A B) | (refine join_x (v := ?_) (fun hg hk9 => ?_) ?_; rotate_left; (focus (try ((try simp only [BN] at hg); simp only [S1, simprocAttr, TTEvI, f1, hg] at hk9 ⊢)); first | exact hk9); (refine hK1 _ ?_; clear hK1 K1)) | (((first | (refine ⟨fun hg => hA ?_, fun hg => hB ?_⟩ <;> clear hA hB A B) | refine ⟨fun hg => ?_, fun hg => ?_⟩) <;> (try simp only [BN2] at hg) <;> (try simp only [hg, cond_true, cond_false])) <;> (try (refine hK1 _ ?_; clear hK1 K1)) <;> (try simp only [BN3] at hg))) | (refine awp_seq_k fun K hK => ?_) | ((first | refine awp_region ?_ | refine awp_draw (by kernel_rfl) ?_ | refine awp_block ?_ | refine awp_exit ?_ | refine awp_skip ?_ | refine awp_ret ?_); (try simp only [NB, simprocAttr])))
    simp only [EndP, FinP, resA, resL, resA1, lastV, lastA, lastAs, pur, purs, take_app, List.take_length, S1, simprocAttr, TTEvI, Nat.le_add_right, Nat.le_refl]
  · have f0 : ¬ b = 0 := fun e => hz (.inr e)
    have f1 : (a == 0) = false := by simpa using fun e => hz (.inl e)
    have f2 : (b == 0) = false := by simpa using f0
    have f3 : ¬ ((b.natAbs : Int) = 0) := by omega
    have f4 := quo_abs f0
    refine acalls_pure (rl := []) mixed Tryd.func108 rfl (rs := [.tmp 4, .tmp 5]) rfl Tryd.ntmps108 (by simp) ?_
    repeat' (first | ((first | refine aops_nil ?_ | refine aqops_nil ?_); (try simp only [NB])) | ((repeat ((fail_if_success (refine hK _ ?_)); clear hK K)); refine hK _ ?_; clear hK K) | ((first | refine aops_k fun K1 hK1 => ?_ | refine aqops_k fun K1 hK1 => ?_ | refine awp_cond_k fun A B hA hB => ?_); simp only [S1, simprocAttr, TTEvI, f1, f2, f3, f4]; first | (refine hK1 _ ?_; clear hK1 K1) | ((first | refine hA ?_ | refine hB ?_); clear hA hB A B) | ((first | apply call_a E115 | apply call_q E115); exact (abs_calls' (by omega) _); (refine hK1 _ ?_; clear hK1 K1)) | (refine join_x (v := ?_) (fun hg hk9 => ?_) ?_; rotate_left; (focus (try ((try simp only [BN] at hg); simp only [S1, simprocAttr, TTEvI, f1, f2, f3, f4, hg] at hk9 ⊢)); first | exact hk9 | ((first | apply call_a E115 | apply call_q E115); exact (abs_calls' (by omega) _); exact hk9)); (refine hK1 _ ?_; clear hK1 K1)) | (((first | (refine ⟨fun hg => hA ?_, fun hg => hB ?_⟩ <;> clear hA hB A B) | refine ⟨fun hg => ?_, fun hg => ?_⟩) <;> (try simp only [BN2] at hg) <;> (try simp only [hg, cond_true, cond_false])) <;> (try (refine hK1 _ ?_; clear hK1 K1)) <;> (try simp only [BN3] at hg))) | (refine awp_seq_k fun K hK => ?_) | ((first | refine awp_region ?_ | refine awp_draw (by kernel_rfl) ?_ | refine awp_block ?_ | refine awp_exit ?_ | refine awp_skip ?_ | refine awp_ret ?_); (try simp only [NB, simprocAttr])))
    · simp only [EndP, FinP, resA, resL, resA1, lastV, lastA, lastAs, pur, purs, take_app, List.take_length, S1, simprocAttr, TTEvI, Nat.le_add_right, Nat.le_refl]
      have hq : 1099511627776 / b.natAbs < a.natAbs := by generalize 1099511627776 / b.natAbs = q at *; omega
      simp [prodS, f0, hq]
    · simp only [EndP, FinP, resA, resL, resA1, lastV, lastA, lastAs, pur, purs, take_app, List.take_length, S1, simprocAttr, TTEvI, Nat.le_add_right, Nat.le_refl]
      have hq : ¬ 1099511627776 / b.natAbs < a.natAbs := by generalize 1099511627776 / b.natAbs = q at *; omega
      have hn := prod_num f0 hq
      unfold Num at hn
      rw [IntWalk.i64_in _ (by omega)]
      simp [prodS, f0, hq]

def sumS (op a b : Int) : Int × Bool × Int :=
  if op = 10 then (0, a == b, 0) else if op = 11 then (0, decide (a < b), 0) else if op = 12 then (0, a == b || decide (a < b), 0)
  else if op = 8 then (if b = 0 then (0, false, 41) else (a.tdiv b, false, 0))
  else if op = 9 then (if b = 0 then (0, false, 41) else (a.tmod b, false, 0))
  else if op = 7 then ((prodS a b).1, false, (prodS a b).2)
  else if op = 6 then (if 1099511627776 < (a - b).natAbs then (0, false, 40) else (a - b, false, 0))
  else (if 1099511627776 < (a + b).natAbs then (0, false, 40) else (a + b, false, 0))

theorem tdiv_num {a b : Int} (ha : Num a) : Num (a.tdiv b) := by
  have : (a.tdiv b).natAbs ≤ a.natAbs := Int.natAbs_tdiv_le_natAbs a b
  unfold Num at *; omega
theorem tmod_num {a b : Int} (ha : Num a) : Num (a.tmod b) := by
  have : (a.tmod b).natAbs ≤ a.natAbs := by rw [Int.natAbs_tmod]; exact Nat.mod_le _ _
  unfold Num at *; omega
theorem fits_iff {n : Int} : inM n = true ↔ ¬ 1099511627776 < n.natAbs := by unfold inM; simp; omega

theorem reckon_add {a b : Int} (ha : Num a) (hb : Num b) (h : Heap) : ACalls Tryd.prog G 100 [.i 5, .i a, .i b] h (fun r h' => r = .tup [.i (sumS 5 a b).1, .i (sumS 5 a b).2.2] ∧ h' = h) := by
  unfold Num at *
  have w1 := IntWalk.i64_in (a + b) (by omega)
  refine acalls_pure (rl := []) mixed Tryd.func100 rfl (rs := [.tmp 6, .tmp 7]) rfl Tryd.ntmps100 (by simp) ?_
  repeat' (first | ((first | refine aops_nil ?_ | refine aqops_nil ?_); (try simp only [NB])) | ((repeat ((fail_if_success (refine hK _ ?_)); clear hK K)); refine hK _ ?_; clear hK K) | ((first | refine aops_k fun K1 hK1 => ?_ | refine aqops_k fun K1 hK1 => ?_ | refine awp_cond_k fun A B hA hB => ?_); simp only [S1, simprocAttr, TTEvI, w1]; first | (refine hK1 _ ?_; clear hK1 K1) | ((first | refine hA ?_ | refine hB ?_); clear hA hB A B) | ((first | apply call_a E37 | apply call_q E37); exact (fits_calls _ _); (refine hK1 _ ?_; clear hK1 K1)) | (((first | (refine ⟨fun hg => hA ?_, fun hg => hB ?_⟩ <;> clear hA hB A B) | refine ⟨fun hg => ?_, fun hg => ?_⟩) <;> (try simp only [BN2] at hg) <;> (try simp only [hg, cond_true, cond_false])) <;> (try (refine hK1 _ ?_; clear hK1 K1)) <;> (try simp only [BN3] at hg))) | (refine awp_seq_k fun K hK => ?_) | ((first | refine awp_region ?_ | refine awp_draw (by kernel_rfl) ?_ | refine awp_block ?_ | refine awp_exit ?_ | refine awp_skip ?_ | refine awp_ret ?_); (try simp only [NB, simprocAttr])))
  all_goals simp only [EndP, FinP, resA, resL, resA1, lastV, lastA, lastAs, pur, purs, take_app, List.take_length, S1, simprocAttr, TTEvI, Nat.le_add_right, Nat.le_refl]
  all_goals (try simp only [Bool.not_eq_true', Bool.not_eq_false'] at hg)
  all_goals (first
    | (have := fits_iff.mp hg; simp [sumS, this])
    | (have := Classical.byContradiction (fun e => Bool.false_ne_true (hg.symm.trans (fits_iff.mpr e))); simp [sumS, this]))

theorem reckon_sub {a b : Int} (ha : Num a) (hb : Num b) (h : Heap) : ACalls Tryd.prog G 100 [.i 6, .i a, .i b] h (fun r h' => r = .tup [.i (sumS 6 a b).1, .i (sumS 6 a b).2.2] ∧ h' = h) := by
  unfold Num at *
  have w1 := IntWalk.i64_in (a - b) (by omega)
  refine acalls_pure (rl := []) mixed Tryd.func100 rfl (rs := [.tmp 6, .tmp 7]) rfl Tryd.ntmps100 (by simp) ?_
  repeat' (first | ((first | refine aops_nil ?_ | refine aqops_nil ?_); (try simp only [NB])) | ((repeat ((fail_if_success (refine hK _ ?_)); clear hK K)); refine hK _ ?_; clear hK K) | ((first | refine aops_k fun K1 hK1 => ?_ | refine aqops_k fun K1 hK1 => ?_ | refine awp_cond_k fun A B hA hB => ?_); simp only [S1, simprocAttr, TTEvI, w1]; first | (refine hK1 _ ?_; clear hK1 K1) | ((first | refine hA ?_ | refine hB ?_); clear hA hB A B) | ((first | apply call_a E37 | apply call_q E37); exact (fits_calls _ _); (refine hK1 _ ?_; clear hK1 K1)) | (((first | (refine ⟨fun hg => hA ?_, fun hg => hB ?_⟩ <;> clear hA hB A B) | refine ⟨fun hg => ?_, fun hg => ?_⟩) <;> (try simp only [BN2] at hg) <;> (try simp only [hg, cond_true, cond_false])) <;> (try (refine hK1 _ ?_; clear hK1 K1)) <;> (try simp only [BN3] at hg))) | (refine awp_seq_k fun K hK => ?_) | ((first | refine awp_region ?_ | refine awp_draw (by kernel_rfl) ?_ | refine awp_block ?_ | refine awp_exit ?_ | refine awp_skip ?_ | refine awp_ret ?_); (try simp only [NB, simprocAttr])))
  all_goals simp only [EndP, FinP, resA, resL, resA1, lastV, lastA, lastAs, pur, purs, take_app, List.take_length, S1, simprocAttr, TTEvI, Nat.le_add_right, Nat.le_refl]
  all_goals (try simp only [Bool.not_eq_true', Bool.not_eq_false'] at hg)
  all_goals (first
    | (have := fits_iff.mp hg; simp [sumS, this])
    | (have := Classical.byContradiction (fun e => Bool.false_ne_true (hg.symm.trans (fits_iff.mpr e))); simp [sumS, this]))

theorem reckon_mul {a b : Int} (ha : Num a) (hb : Num b) (h : Heap) : ACalls Tryd.prog G 100 [.i 7, .i a, .i b] h (fun r h' => r = .tup [.i (sumS 7 a b).1, .i (sumS 7 a b).2.2] ∧ h' = h) := by
  unfold Num at *
  skip
  refine acalls_pure (rl := []) mixed Tryd.func100 rfl (rs := [.tmp 6, .tmp 7]) rfl Tryd.ntmps100 (by simp) ?_
  repeat' (first | ((first | refine aops_nil ?_ | refine aqops_nil ?_); (try simp only [NB])) | ((repeat ((fail_if_success (refine hK _ ?_)); clear hK K)); refine hK _ ?_; clear hK K) | ((first | refine aops_k fun K1 hK1 => ?_ | refine aqops_k fun K1 hK1 => ?_ | refine awp_cond_k fun A B hA hB => ?_); simp only [S1, simprocAttr, TTEvI, Nat.add_zero]; first | (refine hK1 _ ?_; clear hK1 K1) | ((first | refine hA ?_ | refine hB ?_); clear hA hB A B) | ((first | apply call_a E108 | apply call_q E108); exact (product_calls (by assumption) (by assumption) _); (refine hK1 _ ?_; clear hK1 K1)) | (((first | (refine ⟨fun hg => hA ?_, fun hg => hB ?_⟩ <;> clear hA hB A B) | refine ⟨fun hg => ?_, fun hg => ?_⟩) <;> (try simp only [BN2] at hg) <;> (try simp only [hg, cond_true, cond_false])) <;> (try (refine hK1 _ ?_; clear hK1 K1)) <;> (try simp only [BN3] at hg))) | (refine awp_seq_k fun K hK => ?_) | ((first | refine awp_region ?_ | refine awp_draw (by kernel_rfl) ?_ | refine awp_block ?_ | refine awp_exit ?_ | refine awp_skip ?_ | refine awp_ret ?_); (try simp only [NB, simprocAttr])))
  all_goals simp only [EndP, FinP, resA, resL, resA1, lastV, lastA, lastAs, pur, purs, take_app, List.take_length, S1, simprocAttr, TTEvI, Nat.le_add_right, Nat.le_refl]
  all_goals simp [sumS]
theorem reckon_quo {a b : Int} (ha : Num a) (hb : Num b) (hz : ¬ b = 0) (h : Heap) : ACalls Tryd.prog G 100 [.i 8, .i a, .i b] h (fun r h' => r = .tup [.i (sumS 8 a b).1, .i (sumS 8 a b).2.2] ∧ h' = h) := by
  have hd := tdiv_num (b := b) ha
  unfold Num at *
  have f2 : (b == 0) = false := by simpa using hz
  have w1 := IntWalk.i64_in (a.tdiv b) (by omega)
  refine acalls_pure (rl := []) mixed Tryd.func100 rfl (rs := [.tmp 6, .tmp 7]) rfl Tryd.ntmps100 (by simp) ?_
  repeat' (first | ((first | refine aops_nil ?_ | refine aqops_nil ?_); (try simp only [NB])) | ((repeat ((fail_if_success (refine hK _ ?_)); clear hK K)); refine hK _ ?_; clear hK K) | ((first | refine aops_k fun K1 hK1 => ?_ | refine aqops_k fun K1 hK1 => ?_ | refine awp_cond_k fun A B hA hB => ?_); simp only [S1, simprocAttr, TTEvI, w1, f2, hz]; first | (refine hK1 _ ?_; clear hK1 K1) | ((first | refine hA ?_ | refine hB ?_); clear hA hB A B) | (((first | (refine ⟨fun hg => hA ?_, fun hg => hB ?_⟩ <;> clear hA hB A B) | refine ⟨fun hg => ?_, fun hg => ?_⟩) <;> (try simp only [BN2] at hg) <;> (try simp only [hg, cond_true, cond_false])) <;> (try (refine hK1 _ ?_; clear hK1 K1)) <;> (try simp only [BN3] at hg))) | (refine awp_seq_k fun K hK => ?_) | ((first | refine awp_region ?_ | refine awp_draw (by kernel_rfl) ?_ | refine awp_block ?_ | refine awp_exit ?_ | refine awp_skip ?_ | refine awp_ret ?_); (try simp only [NB, simprocAttr])))
  all_goals simp only [EndP, FinP, resA, resL, resA1, lastV, lastA, lastAs, pur, purs, take_app, List.take_length, S1, simprocAttr, TTEvI, Nat.le_add_right, Nat.le_refl]
  all_goals simp [sumS, hz]
theorem reckon_rem {a b : Int} (ha : Num a) (hb : Num b) (hz : ¬ b = 0) (h : Heap) : ACalls Tryd.prog G 100 [.i 9, .i a, .i b] h (fun r h' => r = .tup [.i (sumS 9 a b).1, .i (sumS 9 a b).2.2] ∧ h' = h) := by
  have hd := tmod_num (b := b) ha
  unfold Num at *
  have f2 : (b == 0) = false := by simpa using hz
  have w5 : (-9223372036854775808 ≤ a.tmod b) := by omega
  have w6 : (a.tmod b ≤ 9223372036854775807) := by omega
  refine acalls_pure (rl := []) mixed Tryd.func100 rfl (rs := [.tmp 6, .tmp 7]) rfl Tryd.ntmps100 (by simp) ?_
  repeat' (first | ((first | refine aops_nil ?_ | refine aqops_nil ?_); (try simp only [NB])) | ((repeat ((fail_if_success (refine hK _ ?_)); clear hK K)); refine hK _ ?_; clear hK K) | ((first | refine aops_k fun K1 hK1 => ?_ | refine aqops_k fun K1 hK1 => ?_ | refine awp_cond_k fun A B hA hB => ?_); simp only [S1, simprocAttr, TTEvI, w5, w6, f2, hz]; first | (refine hK1 _ ?_; clear hK1 K1) | ((first | refine hA ?_ | refine hB ?_); clear hA hB A B) | (((first | (refine ⟨fun hg => hA ?_, fun hg => hB ?_⟩ <;> clear hA hB A B) | refine ⟨fun hg => ?_, fun hg => ?_⟩) <;> (try simp only [BN2] at hg) <;> (try simp only [hg, cond_true, cond_false])) <;> (try (refine hK1 _ ?_; clear hK1 K1)) <;> (try simp only [BN3] at hg))) | (refine awp_seq_k fun K hK => ?_) | ((first | refine awp_region ?_ | refine awp_draw (by kernel_rfl) ?_ | refine awp_block ?_ | refine awp_exit ?_ | refine awp_skip ?_ | refine awp_ret ?_); (try simp only [NB, simprocAttr])))
  all_goals simp only [EndP, FinP, resA, resL, resA1, lastV, lastA, lastAs, pur, purs, take_app, List.take_length, S1, simprocAttr, TTEvI, Nat.le_add_right, Nat.le_refl]
  all_goals simp [sumS, hz]
theorem reckon_z8 {a : Int} (h : Heap) : ACalls Tryd.prog G 100 [.i 8, .i a, .i 0] h (fun r h' => r = .tup [.i (sumS 8 a 0).1, .i (sumS 8 a 0).2.2] ∧ h' = h) := by
  refine acalls_pure (rl := []) mixed Tryd.func100 rfl (rs := [.tmp 6, .tmp 7]) rfl Tryd.ntmps100 (by simp) ?_
  repeat' (first | ((first | refine aops_nil ?_ | refine aqops_nil ?_); (try simp only [NB])) | ((repeat ((fail_if_success (refine hK _ ?_)); clear hK K)); refine hK _ ?_; clear hK K) | ((first | refine aops_k fun K1 hK1 => ?_ | refine aqops_k fun K1 hK1 => ?_ | refine awp_cond_k fun A B hA hB => ?_); simp only [S1, simprocAttr, TTEvI]; first | (refine hK1 _ ?_; clear hK1 K1) | ((first | refine hA ?_ | refine hB ?_); clear hA hB A B) | (((first | (refine ⟨fun hg => hA ?_, fun hg => hB ?_⟩ <;> clear hA hB A B) | refine ⟨fun hg => ?_, fun hg => ?_⟩) <;> (try simp only [BN2] at hg) <;> (try simp only [hg, cond_true, cond_false])) <;> (try (refine hK1 _ ?_; clear hK1 K1)) <;> (try simp only [BN3] at hg))) | (refine awp_seq_k fun K hK => ?_) | ((first | refine awp_region ?_ | refine awp_draw (by kernel_rfl) ?_ | refine awp_block ?_ | refine awp_exit ?_ | refine awp_skip ?_ | refine awp_ret ?_); (try simp only [NB, simprocAttr])))
  all_goals simp only [EndP, FinP, resA, resL, resA1, lastV, lastA, lastAs, pur, purs, take_app, List.take_length, S1, simprocAttr, TTEvI, Nat.le_add_right, Nat.le_refl]
  all_goals simp [sumS]
theorem reckon_z9 {a : Int} (h : Heap) : ACalls Tryd.prog G 100 [.i 9, .i a, .i 0] h (fun r h' => r = .tup [.i (sumS 9 a 0).1, .i (sumS 9 a 0).2.2] ∧ h' = h) := by
  refine acalls_pure (rl := []) mixed Tryd.func100 rfl (rs := [.tmp 6, .tmp 7]) rfl Tryd.ntmps100 (by simp) ?_
  repeat' (first | ((first | refine aops_nil ?_ | refine aqops_nil ?_); (try simp only [NB])) | ((repeat ((fail_if_success (refine hK _ ?_)); clear hK K)); refine hK _ ?_; clear hK K) | ((first | refine aops_k fun K1 hK1 => ?_ | refine aqops_k fun K1 hK1 => ?_ | refine awp_cond_k fun A B hA hB => ?_); simp only [S1, simprocAttr, TTEvI]; first | (refine hK1 _ ?_; clear hK1 K1) | ((first | refine hA ?_ | refine hB ?_); clear hA hB A B) | (((first | (refine ⟨fun hg => hA ?_, fun hg => hB ?_⟩ <;> clear hA hB A B) | refine ⟨fun hg => ?_, fun hg => ?_⟩) <;> (try simp only [BN2] at hg) <;> (try simp only [hg, cond_true, cond_false])) <;> (try (refine hK1 _ ?_; clear hK1 K1)) <;> (try simp only [BN3] at hg))) | (refine awp_seq_k fun K hK => ?_) | ((first | refine awp_region ?_ | refine awp_draw (by kernel_rfl) ?_ | refine awp_block ?_ | refine awp_exit ?_ | refine awp_skip ?_ | refine awp_ret ?_); (try simp only [NB, simprocAttr])))
  all_goals simp only [EndP, FinP, resA, resL, resA1, lastV, lastA, lastAs, pur, purs, take_app, List.take_length, S1, simprocAttr, TTEvI, Nat.le_add_right, Nat.le_refl]
  all_goals simp [sumS]

theorem reckon_calls {op a b : Int} (h1 : 5 ≤ op) (h2 : op ≤ 9) (ha : Num a) (hb : Num b) (h : Heap) : ACalls Tryd.prog G 100 [.i op, .i a, .i b] h (fun r h' => r = .tup [.i (sumS op a b).1, .i (sumS op a b).2.2] ∧ h' = h) := by
  rcases (by omega : op = 5 ∨ op = 6 ∨ op = 7 ∨ op = 8 ∨ op = 9) with rfl | rfl | rfl | rfl | rfl
  · exact reckon_add ha hb h
  · exact reckon_sub ha hb h
  · exact reckon_mul ha hb h
  · by_cases hz : b = 0
    · subst hz; exact reckon_z8 h
    · exact reckon_quo ha hb hz h
  · by_cases hz : b = 0
    · subst hz; exact reckon_z9 h
    · exact reckon_rem ha hb hz h
end Go.Proofs.YtjpphhcimpclpaaDoor.AM
end

section
set_option linter.unusedVariables false
set_option linter.unusedSimpArgs false
set_option maxRecDepth 4000
set_option maxHeartbeats 4000000
namespace Go.Proofs.YtjpphhcimpclpaaDoor.AM
open Go Go.Proofs
set_option linter.defProp false in
attribute [local irreducible] awp aops aqops
variable {G : Nat → Option (List PV)}

/-- A right term; true: of a truth. -/
inductive Good : Tm → Bool → Prop where
  | num (n : Int) (h1 : 0 ≤ n) (h2 : n ≤ 1099511627776) : Good (.mk 1 n []) false
  | var (n : Int) (h : n = 0 ∨ n = 1 ∨ n = 2 ∨ n = 3) : Good (.mk 2 n []) false
  | neg (a : Tm) (h : Good a false) : Good (.mk 3 0 [a]) false
  | not (a : Tm) (h : Good a true) : Good (.mk 4 0 [a]) true
  | bin (o : Int) (a b : Tm) (h1 : 5 ≤ o) (h2 : o ≤ 9) (ha : Good a false) (hb : Good b false) : Good (.mk o 0 [a, b]) false
  | cmp (o : Int) (a b : Tm) (h1 : 10 ≤ o) (h2 : o ≤ 12) (ha : Good a false) (hb : Good b false) : Good (.mk o 0 [a, b]) true
  | log (o : Int) (a b : Tm) (h : o = 13 ∨ o = 14) (ha : Good a true) (hb : Good b true) : Good (.mk o 0 [a, b]) true

theorem good_of (t : Tm) : t.form = true → t.typed = true → Good t (truthOp t.op) := by
  refine Tm.ind (p := fun t => t.form = true → t.typed = true → Good t (truthOp t.op)) (fun t ih hf ht => ?_) t
  rw [Tm.form_eq, Bool.and_eq_true, List.all_eq_true] at hf
  rw [Tm.typed_eq, List.all_eq_true] at ht
  obtain ⟨h1, h2⟩ := hf
  cases t with
  | mk o n ks =>
    simp only [Tm.op, Tm.n, Tm.kids] at *
    simp only [headOk, Bool.and_eq_true, decide_eq_true_eq] at h1
    obtain ⟨⟨⟨⟨⟨⟨g1, g2⟩, g3⟩, g4⟩, g5⟩, g6⟩, g7⟩ := h1
    have hk : ∀ k ∈ ks, truthOp k.op = wantOp o ∧ Good k (wantOp o) := fun k hm => by
      have := ht k hm
      simp only [kidTyped, Bool.and_eq_true, beq_iff_eq] at this
      exact ⟨this.1, this.1 ▸ ih k hm (h2 k hm) this.2⟩
    unfold kidsN at g3
    match ks, hk, g3 with
    | [], hk, g3 =>
      have : o = 1 ∨ o = 2 := by
        simp only [List.length_nil] at g3
        split at g3
        · omega
        · split at g3 <;> omega
      rcases this with rfl | rfl
      · exact Good.num n g4 (g5 rfl)
      · exact Good.var n (by have := g6 rfl; omega)
    | [a], hk, g3 =>
      have : o = 3 ∨ o = 4 := by
        simp only [List.length_cons, List.length_nil] at g3
        split at g3
        · omega
        · split at g3 <;> omega
      have ha := (hk a (by simp)).2
      have hn := g7 (by omega)
      subst hn
      rcases this with rfl | rfl
      · exact Good.neg a ha
      · exact Good.not a ha
    | [a, b], hk, g3 =>
      have h5 : 5 ≤ o := by
        simp only [List.length_cons, List.length_nil] at g3
        split at g3
        · omega
        · split at g3 <;> omega
      have ha := (hk a (by simp)).2
      have hb := (hk b (by simp)).2
      have hn := g7 (by omega)
      subst hn
      rcases (by omega : o ≤ 9 ∨ (10 ≤ o ∧ o ≤ 12) ∨ (o = 13 ∨ o = 14)) with e | e | e
      · have w : wantOp o = false := by unfold wantOp; simp; omega
        have u : truthOp o = false := by unfold truthOp; simp; omega
        rw [w] at ha hb; rw [u]
        exact Good.bin o a b h5 e ha hb
      · have w : wantOp o = false := by unfold wantOp; simp; omega
        have u : truthOp o = true := by unfold truthOp; simp; omega
        rw [w] at ha hb; rw [u]
        exact Good.cmp o a b e.1 e.2 ha hb
      · have w : wantOp o = true := by unfold wantOp; simp; omega
        have u : truthOp o = true := by unfold truthOp; simp; omega
        rw [w] at ha hb; rw [u]
        exact Good.log o a b e ha hb
    | a :: b :: c :: r, hk, g3 =>
      exfalso
      simp only [List.length_cons] at g3
      split at g3
      · omega
      · split at g3 <;> omega

def evOp (v : Int → Int) (o n : Int) : List (Int × Bool × Int) → Int × Bool × Int
  | [] => if o = 1 then (n, false, 0) else (v n, false, 0)
  | [a] => if a.2.2 ≠ 0 then (0, false, a.2.2) else if o = 3 then (-a.1, false, 0) else (0, !a.2.1, 0)
  | a :: b :: _ => if a.2.2 ≠ 0 then (0, false, a.2.2) else if o = 13 then (if a.2.1 then b else a) else if o = 14 then (if a.2.1 then a else b)
    else if b.2.2 ≠ 0 then (0, false, b.2.2) else sumS o a.1 b.1

def ev (v : Int → Int) : Tm → Int × Bool × Int
  | .mk o n ks => evOp v o n (ks.map (ev v))

theorem ev_nil (v : Int → Int) (o n : Int) : ev v (.mk o n []) = if o = 1 then (n, false, 0) else (v n, false, 0) := by simp [ev, evOp]
theorem ev_one (v : Int → Int) (o n : Int) (a : Tm) : ev v (.mk o n [a]) = if (ev v a).2.2 ≠ 0 then (0, false, (ev v a).2.2) else if o = 3 then (-(ev v a).1, false, 0) else (0, !(ev v a).2.1, 0) := by simp [ev, evOp]
theorem ev_two (v : Int → Int) (o n : Int) (a b : Tm) : ev v (.mk o n [a, b]) = if (ev v a).2.2 ≠ 0 then (0, false, (ev v a).2.2) else if o = 13 then (if (ev v a).2.1 then ev v b else ev v a) else if o = 14 then (if (ev v a).2.1 then ev v a else ev v b)
    else if (ev v b).2.2 ≠ 0 then (0, false, (ev v b).2.2) else sumS o (ev v a).1 (ev v b).1 := by simp [ev, evOp]

theorem prodS_num {a b : Int} : Num (prodS a b).1 ∧ ((prodS a b).2 ≠ 0 → (prodS a b).1 = 0) ∧ ((prodS a b).2 = 0 ∨ (prodS a b).2 = 40) := by
  unfold prodS
  split
  · exact ⟨⟨by decide, by decide⟩, fun _ => rfl, .inr rfl⟩
  · rename_i h
    refine ⟨?_, fun h => absurd rfl h, .inl rfl⟩
    by_cases hb : b = 0
    · subst hb; simp; exact ⟨by decide, by decide⟩
    · exact prod_num hb fun e => h ⟨hb, e⟩

theorem sumS_num {o a b : Int} (ha : Num a) : Num (sumS o a b).1 ∧ ((sumS o a b).2.2 ≠ 0 → (sumS o a b).1 = 0 ∧ (sumS o a b).2.1 = false) ∧ ((sumS o a b).2.2 = 0 ∨ (sumS o a b).2.2 = 40 ∨ (sumS o a b).2.2 = 41) := by
  have z : Num 0 := ⟨by decide, by decide⟩
  have hp := prodS_num (a := a) (b := b)
  unfold sumS
  repeat' split
  all_goals first
    | exact ⟨z, fun h => ⟨rfl, rfl⟩, .inr (.inl rfl)⟩
    | exact ⟨z, fun h => ⟨rfl, rfl⟩, .inr (.inr rfl)⟩
    | exact ⟨z, fun h => absurd rfl h, .inl rfl⟩
    | exact ⟨tdiv_num ha, fun h => absurd rfl h, .inl rfl⟩
    | exact ⟨tmod_num ha, fun h => absurd rfl h, .inl rfl⟩
    | exact ⟨hp.1, fun h => ⟨hp.2.1 h, rfl⟩, by rcases hp.2.2 with e | e <;> simp [e]⟩
    | exact ⟨(by unfold Num; dsimp only; omega), fun h => absurd rfl h, .inl rfl⟩

/-- A number is one; behind a fault there is nothing; which faults there are. -/
theorem ev_good {v : Int → Int} (hv : ∀ i, Num (v i)) {t : Tm} {k : Bool} (h : Good t k) : (k = false → Num (ev v t).1) ∧ ((ev v t).2.2 ≠ 0 → (ev v t).1 = 0 ∧ (ev v t).2.1 = false) ∧ ((ev v t).2.2 = 0 ∨ (ev v t).2.2 = 40 ∨ (ev v t).2.2 = 41) := by
  have z : Num 0 := ⟨by decide, by decide⟩
  induction h with
  | num n h1 h2 => rw [ev_nil]; simp; unfold Num; omega
  | var n h => rw [ev_nil, if_neg (by decide)]; exact ⟨fun _ => hv n, fun h => absurd rfl h, .inl rfl⟩
  | neg a h ih =>
    rw [ev_one]
    split
    · rename_i e; exact ⟨fun _ => z, fun _ => ⟨rfl, rfl⟩, ih.2.2⟩
    · have := ih.1 rfl
      rw [if_pos rfl]
      exact ⟨fun _ => (by unfold Num at *; simp only; omega), fun h => absurd rfl h, .inl rfl⟩
  | not a h ih =>
    rw [ev_one]
    split
    · exact ⟨fun _ => z, fun _ => ⟨rfl, rfl⟩, ih.2.2⟩
    · rw [if_neg (by decide)]; exact ⟨fun e => (by cases e), fun h => absurd rfl h, .inl rfl⟩
  | bin o a b h1 h2 ha hb iha ihb =>
    rw [ev_two]
    split
    · exact ⟨fun _ => z, fun _ => ⟨rfl, rfl⟩, iha.2.2⟩
    · rw [if_neg (by omega), if_neg (by omega)]
      split
      · exact ⟨fun _ => z, fun _ => ⟨rfl, rfl⟩, ihb.2.2⟩
      · have := sumS_num (o := o) (b := (ev v b).1) (iha.1 rfl)
        exact ⟨fun _ => this.1, this.2⟩
  | cmp o a b h1 h2 ha hb iha ihb =>
    rw [ev_two]
    split
    · exact ⟨fun _ => z, fun _ => ⟨rfl, rfl⟩, iha.2.2⟩
    · rw [if_neg (by omega), if_neg (by omega)]
      split
      · exact ⟨fun _ => z, fun _ => ⟨rfl, rfl⟩, ihb.2.2⟩
      · have := sumS_num (o := o) (b := (ev v b).1) (iha.1 rfl)
        exact ⟨fun e => (by cases e), this.2⟩
  | log o a b h ha hb iha ihb =>
    rw [ev_two]
    split
    · exact ⟨fun e => (by cases e), fun _ => ⟨rfl, rfl⟩, iha.2.2⟩
    · rcases h with rfl | rfl
      · rw [if_pos rfl]; split
        · exact ⟨fun e => (by cases e), ihb.2⟩
        · exact ⟨fun e => (by cases e), iha.2⟩
      · rw [if_neg (by decide), if_pos rfl]; split
        · exact ⟨fun e => (by cases e), iha.2⟩
        · exact ⟨fun e => (by cases e), ihb.2⟩
end Go.Proofs.YtjpphhcimpclpaaDoor.AM
end

section
set_option linter.unusedVariables false
set_option linter.unusedSimpArgs false
set_option maxRecDepth 4000
set_option maxHeartbeats 4000000
namespace Go.Proofs.YtjpphhcimpclpaaDoor.AM
open Go Go.Proofs
set_option linter.defProp false in
def TTEvL := And.intro T2 (And.intro T3 (And.intro T4 (And.intro T27 (And.intro T31 (And.intro T56 (And.intro T58 (And.intro T141 T142)))))))
attribute [local irreducible] awp aops aqops
variable {G : Nat → Option (List PV)}

abbrev aV (v : Int → Int) : AV := .agg [.i (v 0), .i (v 1), .i (v 2), .i (v 3)]
abbrev aN (x : Int × Bool × Int) : AV := .tup [.i x.1, .i x.2.2]
abbrev aB (x : Int × Bool × Int) : AV := .tup [.b x.2.1, .i x.2.2]

theorem number_var (v : Int → Int) (n : Int) (hn : n = 0 ∨ n = 1 ∨ n = 2 ∨ n = 3) (h : Heap) : ACalls Tryd.prog G 94 [.agg [.i 2, .i n, .p (.sl [])], aV v] h (fun r h' => r = .tup [.i (v n), .i 0] ∧ h' = h) := by
  rcases hn with rfl | rfl | rfl | rfl
  all_goals
    refine acalls_pure (rl := []) mixed Tryd.func94 rfl (rs := [.tmp 4, .tmp 5]) rfl Tryd.ntmps94 (by simp) ?_
    repeat' (first | ((first | refine aops_nil ?_ | refine aqops_nil ?_); (try simp only [NB])) | ((repeat ((fail_if_success (refine hK _ ?_)); clear hK K)); refine hK _ ?_; clear hK K) | ((first | refine aops_k fun K1 hK1 => ?_ | refine aqops_k fun K1 hK1 => ?_ | refine awp_cond_k fun A B hA hB => ?_); simp only [S1, simprocAttr, TTEvL]; first | (refine hK1 _ ?_; clear hK1 K1) | ((first | refine hA ?_ | refine hB ?_); clear hA hB A B) | (refine join_x (v := ?_) (fun hg hk9 => ?_) ?_; rotate_left; (focus (try ((try simp only [BN] at hg); simp only [S1, simprocAttr, TTEvL, hg] at hk9 ⊢)); first | exact hk9); (refine hK1 _ ?_; clear hK1 K1)) | (((first | (refine ⟨fun hg => hA ?_, fun hg => hB ?_⟩ <;> clear hA hB A B) | refine ⟨fun hg => ?_, fun hg => ?_⟩) <;> (try simp only [BN2] at hg) <;> (try simp only [hg, cond_true, cond_false])) <;> (try (refine hK1 _ ?_; clear hK1 K1)) <;> (try simp only [BN3] at hg))) | (refine awp_seq_k fun K hK => ?_) | ((first | refine awp_region ?_ | refine awp_draw (by kernel_rfl) ?_ | refine awp_block ?_ | refine awp_exit ?_ | refine awp_skip ?_ | refine awp_ret ?_); (try simp only [NB, simprocAttr])))
    all_goals simp only [EndP, FinP, resA, resL, resA1, lastV, lastA, lastAs, pur, purs, take_app, List.take_length, S1, simprocAttr, TTEvL, Nat.le_add_right, Nat.le_refl]

theorem number_num (v : Int → Int) (n : Int) (h : Heap) : ACalls Tryd.prog G 94 [.agg [.i 1, .i n, .p (.sl [])], aV v] h (fun r h' => r = .tup [.i n, .i 0] ∧ h' = h) := by
  refine acalls_pure (rl := []) mixed Tryd.func94 rfl (rs := [.tmp 4, .tmp 5]) rfl Tryd.ntmps94 (by simp) ?_
  repeat' (first | ((first | refine aops_nil ?_ | refine aqops_nil ?_); (try simp only [NB])) | ((repeat ((fail_if_success (refine hK _ ?_)); clear hK K)); refine hK _ ?_; clear hK K) | ((first | refine aops_k fun K1 hK1 => ?_ | refine aqops_k fun K1 hK1 => ?_ | refine awp_cond_k fun A B hA hB => ?_); simp only [S1, simprocAttr, TTEvL]; first | (refine hK1 _ ?_; clear hK1 K1) | ((first | refine hA ?_ | refine hB ?_); clear hA hB A B) | (refine join_x (v := ?_) (fun hg hk9 => ?_) ?_; rotate_left; (focus (try ((try simp only [BN] at hg); simp only [S1, simprocAttr, TTEvL, hg] at hk9 ⊢)); first | exact hk9); (refine hK1 _ ?_; clear hK1 K1)) | (((first | (refine ⟨fun hg => hA ?_, fun hg => hB ?_⟩ <;> clear hA hB A B) | refine ⟨fun hg => ?_, fun hg => ?_⟩) <;> (try simp only [BN2] at hg) <;> (try simp only [hg, cond_true, cond_false])) <;> (try (refine hK1 _ ?_; clear hK1 K1)) <;> (try simp only [BN3] at hg))) | (refine awp_seq_k fun K hK => ?_) | ((first | refine awp_region ?_ | refine awp_draw (by kernel_rfl) ?_ | refine awp_block ?_ | refine awp_exit ?_ | refine awp_skip ?_ | refine awp_ret ?_); (try simp only [NB, simprocAttr])))
  all_goals simp only [EndP, FinP, resA, resL, resA1, lastV, lastA, lastAs, pur, purs, take_app, List.take_length, S1, simprocAttr, TTEvL, Nat.le_add_right, Nat.le_refl]

theorem number_neg (v : Int → Int) (a : Tm) {x : Int × Bool × Int} (hx : Num x.1) (ih : ∀ h : Heap, ACalls Tryd.prog G 94 [aT a, aV v] h (fun r h' => r = aN x ∧ h' = h)) (h : Heap) :
    ACalls Tryd.prog G 94 [.agg [.i 3, .i 0, .p (.sl [eT a])], aV v] h (fun r h' => r = .tup [.i (-x.1), .i x.2.2] ∧ h' = h) := by
  unfold Num at hx
  have hw := IntWalk.i64_in (-x.1) (by omega)
  have hz : (0 : Int) - x.1 = - x.1 := by omega
  refine acalls_pure (rl := []) mixed Tryd.func94 rfl (rs := [.tmp 4, .tmp 5]) rfl Tryd.ntmps94 (by simp) ?_
  repeat' (first | ((first | refine aops_nil ?_ | refine aqops_nil ?_); (try simp only [NB])) | ((repeat ((fail_if_success (refine hK _ ?_)); clear hK K)); refine hK _ ?_; clear hK K) | ((first | refine aops_k fun K1 hK1 => ?_ | refine aqops_k fun K1 hK1 => ?_ | refine awp_cond_k fun A B hA hB => ?_); simp only [S1, simprocAttr, TTEvL, eT_eq, hw, hz]; first | (refine hK1 _ ?_; clear hK1 K1) | ((first | refine hA ?_ | refine hB ?_); clear hA hB A B) | ((first | apply call_a E94 | apply call_q E94); exact (ih _); (refine hK1 _ ?_; clear hK1 K1)) | (refine join_x (v := ?_) (fun hg hk9 => ?_) ?_; rotate_left; (focus (try ((try simp only [BN] at hg); simp only [S1, simprocAttr, TTEvL, eT_eq, hw, hz, hg] at hk9 ⊢)); first | exact hk9 | ((first | apply call_a E94 | apply call_q E94); exact (ih _); exact hk9)); (refine hK1 _ ?_; clear hK1 K1)) | (((first | (refine ⟨fun hg => hA ?_, fun hg => hB ?_⟩ <;> clear hA hB A B) | refine ⟨fun hg => ?_, fun hg => ?_⟩) <;> (try simp only [BN2] at hg) <;> (try simp only [hg, cond_true, cond_false])) <;> (try (refine hK1 _ ?_; clear hK1 K1)) <;> (try simp only [BN3] at hg))) | (refine awp_seq_k fun K hK => ?_) | ((first | refine awp_region ?_ | refine awp_draw (by kernel_rfl) ?_ | refine awp_block ?_ | refine awp_exit ?_ | refine awp_skip ?_ | refine awp_ret ?_); (try simp only [NB, simprocAttr])))
  all_goals simp only [EndP, FinP, resA, resL, resA1, lastV, lastA, lastAs, pur, purs, take_app, List.take_length, S1, simprocAttr, TTEvL, Nat.le_add_right, Nat.le_refl]

theorem number_bin (v : Int → Int) (o : Int) (h1 : 5 ≤ o) (h2 : o ≤ 9) (a b : Tm) {x y : Int × Bool × Int} (hx : Num x.1) (hy : Num y.1)
    (iha : ∀ h : Heap, ACalls Tryd.prog G 94 [aT a, aV v] h (fun r h' => r = aN x ∧ h' = h))
    (ihb : ∀ h : Heap, ACalls Tryd.prog G 94 [aT b, aV v] h (fun r h' => r = aN y ∧ h' = h)) (hx0 : x.2.2 ≠ 0 → x.1 = 0) (h : Heap) :
    ACalls Tryd.prog G 94 [.agg [.i o, .i 0, .p (.sl [eT a, eT b])], aV v] h (fun r h' => r = aN (if x.2.2 ≠ 0 then (0, false, x.2.2) else if y.2.2 ≠ 0 then (0, false, y.2.2) else sumS o x.1 y.1) ∧ h' = h) := by
  have f1 : (o == 1) = false := by simp; omega
  have f2 : (o == 2) = false := by simp; omega
  have f3 : (o == 3) = false := by simp; omega
  have hz : IntKind.i64.wrap (0 - 0) = 0 := rfl
  have hz0 : IntKind.i64.wrap 0 = 0 := rfl
  by_cases e1 : x.2.2 = 0
  · have f4 : (x.2.2 != 0) = false := by simp [e1]
    by_cases e2 : y.2.2 = 0
    · have f5 : (y.2.2 != 0) = false := by simp [e2]
      refine acalls_pure (rl := []) mixed Tryd.func94 rfl (rs := [.tmp 4, .tmp 5]) rfl Tryd.ntmps94 (by simp) ?_
      repeat' (first | ((first | refine aops_nil ?_ | refine aqops_nil ?_); (try simp only [NB])) | ((repeat ((fail_if_success (refine hK _ ?_)); clear hK K)); refine hK _ ?_; clear hK K) | ((first | refine aops_k fun K1 hK1 => ?_ | refine aqops_k fun K1 hK1 => ?_ | refine awp_cond_k fun A B hA hB => ?_); simp only [S1, simprocAttr, TTEvL, eT_eq, f1, f2, f3, f4, f5]; first | (refine hK1 _ ?_; clear hK1 K1) | ((first | refine hA ?_ | refine hB ?_); clear hA hB A B) | ((first | apply call_a E94 | apply call_q E94); exact (iha _); (refine hK1 _ ?_; clear hK1 K1)) | ((first | apply call_a E94 | apply call_q E94); exact (ihb _); (refine hK1 _ ?_; clear hK1 K1)) | ((first | apply call_a E100 | apply call_q E100); exact (reckon_calls h1 h2 hx hy _); (refine hK1 _ ?_; clear hK1 K1)) | (refine join_x (v := ?_) (fun hg hk9 => ?_) ?_; rotate_left; (focus (try ((try simp only [BN] at hg); simp only [S1, simprocAttr, TTEvL, eT_eq, f1, f2, f3, f4, f5, hg] at hk9 ⊢)); first | exact hk9 | ((first | apply call_a E94 | apply call_q E94); exact (iha _); exact hk9) | ((first | apply call_a E94 | apply call_q E94); exact (ihb _); exact hk9) | ((first | apply call_a E100 | apply call_q E100); exact (reckon_calls h1 h2 hx hy _); exact hk9)); (refine hK1 _ ?_; clear hK1 K1)) | (((first | (refine ⟨fun hg => hA ?_, fun hg => hB ?_⟩ <;> clear hA hB A B) | refine ⟨fun hg => ?_, fun hg => ?_⟩) <;> (try simp only [BN2] at hg) <;> (try simp only [hg, cond_true, cond_false])) <;> (try (refine hK1 _ ?_; clear hK1 K1)) <;> (try simp only [BN3] at hg))) | (refine awp_seq_k fun K hK => ?_) | ((first | refine awp_region ?_ | refine awp_draw (by kernel_rfl) ?_ | refine awp_block ?_ | refine awp_exit ?_ | refine awp_skip ?_ | refine awp_ret ?_); (try simp only [NB, simprocAttr])))
      all_goals simp only [EndP, FinP, resA, resL, resA1, lastV, lastA, lastAs, pur, purs, take_app, List.take_length, S1, simprocAttr, TTEvL, Nat.le_add_right, Nat.le_refl]
      all_goals simp [e1, e2]
    · have f5 : (y.2.2 != 0) = true := by simp [e2]
      refine acalls_pure (rl := []) mixed Tryd.func94 rfl (rs := [.tmp 4, .tmp 5]) rfl Tryd.ntmps94 (by simp) ?_
      repeat' (first | ((first | refine aops_nil ?_ | refine aqops_nil ?_); (try simp only [NB])) | ((repeat ((fail_if_success (refine hK _ ?_)); clear hK K)); refine hK _ ?_; clear hK K) | ((first | refine aops_k fun K1 hK1 => ?_ | refine aqops_k fun K1 hK1 => ?_ | refine awp_cond_k fun A B hA hB => ?_); simp only [S1, simprocAttr, TTEvL, eT_eq, f1, f2, f3, f4, f5]; first | (refine hK1 _ ?_; clear hK1 K1) | ((first | refine hA ?_ | refine hB ?_); clear hA hB A B) | ((first | apply call_a E94 | apply call_q E94); exact (iha _); (refine hK1 _ ?_; clear hK1 K1)) | ((first | apply call_a E94 | apply call_q E94); exact (ihb _); (refine hK1 _ ?_; clear hK1 K1)) | (refine join_x (v := ?_) (fun hg hk9 => ?_) ?_; rotate_left; (focus (try ((try simp only [BN] at hg); simp only [S1, simprocAttr, TTEvL, eT_eq, f1, f2, f3, f4, f5, hg] at hk9 ⊢)); first | exact hk9 | ((first | apply call_a E94 | apply call_q E94); exact (iha _); exact hk9) | ((first | apply call_a E94 | apply call_q E94); exact (ihb _); exact hk9)); (refine hK1 _ ?_; clear hK1 K1)) | (((first | (refine ⟨fun hg => hA ?_, fun hg => hB ?_⟩ <;> clear hA hB A B) | refine ⟨fun hg => ?_, fun hg => ?_⟩) <;> (try simp only [BN2] at hg) <;> (try simp only [hg, cond_true, cond_false])) <;> (try (refine hK1 _ ?_; clear hK1 K1)) <;> (try simp only [BN3] at hg))) | (refine awp_seq_k fun K hK => ?_) | ((first | refine awp_region ?_ | refine awp_draw (by kernel_rfl) ?_ | refine awp_block ?_ | refine awp_exit ?_ | refine awp_skip ?_ | refine awp_ret ?_); (try simp only [NB, simprocAttr])))
      all_goals simp only [EndP, FinP, resA, resL, resA1, lastV, lastA, lastAs, pur, purs, take_app, List.take_length, S1, simprocAttr, TTEvL, Nat.le_add_right, Nat.le_refl]
      all_goals simp [e1, e2]
  · have f4 : (x.2.2 != 0) = true := by simp [e1]
    have f6 := hx0 e1
    refine acalls_pure (rl := []) mixed Tryd.func94 rfl (rs := [.tmp 4, .tmp 5]) rfl Tryd.ntmps94 (by simp) ?_
    repeat' (first | ((first | refine aops_nil ?_ | refine aqops_nil ?_); (try simp only [NB])) | ((repeat ((fail_if_success (refine hK _ ?_)); clear hK K)); refine hK _ ?_; clear hK K) | ((first | refine aops_k fun K1 hK1 => ?_ | refine aqops_k fun K1 hK1 => ?_ | refine awp_cond_k fun A B hA hB => ?_); simp only [S1, simprocAttr, TTEvL, eT_eq, f1, f2, f3, f4, f6, hz, hz0]; first | (refine hK1 _ ?_; clear hK1 K1) | ((first | refine hA ?_ | refine hB ?_); clear hA hB A B) | ((first | apply call_a E94 | apply call_q E94); exact (iha _); (refine hK1 _ ?_; clear hK1 K1)) | (refine join_x (v := ?_) (fun hg hk9 => ?_) ?_; rotate_left; (focus (try ((try simp only [BN] at hg); simp only [S1, simprocAttr, TTEvL, eT_eq, f1, f2, f3, f4, f6, hz, hz0, hg] at hk9 ⊢)); first | exact hk9 | ((first | apply call_a E94 | apply call_q E94); exact (iha _); exact hk9)); (refine hK1 _ ?_; clear hK1 K1)) | (((first | (refine ⟨fun hg => hA ?_, fun hg => hB ?_⟩ <;> clear hA hB A B) | refine ⟨fun hg => ?_, fun hg => ?_⟩) <;> (try simp only [BN2] at hg) <;> (try simp only [hg, cond_true, cond_false])) <;> (try (refine hK1 _ ?_; clear hK1 K1)) <;> (try simp only [BN3] at hg))) | (refine awp_seq_k fun K hK => ?_) | ((first | refine awp_region ?_ | refine awp_draw (by kernel_rfl) ?_ | refine awp_block ?_ | refine awp_exit ?_ | refine awp_skip ?_ | refine awp_ret ?_); (try simp only [NB, simprocAttr])))
    all_goals simp only [EndP, FinP, resA, resL, resA1, lastV, lastA, lastAs, pur, purs, take_app, List.take_length, S1, simprocAttr, TTEvL, Nat.le_add_right, Nat.le_refl]
    all_goals simp [e1]

theorem number_calls {v : Int → Int} (hv : ∀ i, Num (v i)) {t : Tm} (ht : Good t false) : ∀ h : Heap, ACalls Tryd.prog G 94 [aT t, aV v] h (fun r h' => r = aN (ev v t) ∧ h' = h) := by
  have key : ∀ {t k}, Good t k → k = false → ∀ h : Heap, ACalls Tryd.prog G 94 [aT t, aV v] h (fun r h' => r = aN (ev v t) ∧ h' = h) := by
    intro t k hg
    induction hg with
    | num n h1 h2 => intro _ h; rw [ev_nil]; exact number_num v n h
    | var n hn => intro _ h; rw [ev_nil, if_neg (by decide)]; exact number_var v n hn h
    | neg a hg ih =>
      intro _ h
      have g := ev_good hv hg
      refine ACalls.mono (number_neg v a (g.1 rfl) (ih rfl) h) ?_
      rintro r h' ⟨rfl, rfl⟩
      refine ⟨?_, rfl⟩
      rw [ev_one]
      split
      · rename_i e; rw [(g.2.1 e).1]; rfl
      · rename_i e; rw [if_pos rfl, Classical.not_not.mp e]
    | bin o a b h1 h2 ha hb iha ihb =>
      intro _ h
      have g := ev_good hv ha
      refine ACalls.mono (number_bin v o h1 h2 a b (g.1 rfl) ((ev_good hv hb).1 rfl) (iha rfl) (ihb rfl) (fun e => (g.2.1 e).1) h) ?_
      rintro r h' ⟨rfl, rfl⟩
      refine ⟨?_, rfl⟩
      rw [ev_two, if_neg (show ¬ o = 13 by omega), if_neg (show ¬ o = 14 by omega)]
    | not => intro e; cases e
    | cmp => intro e; cases e
    | log => intro e; cases e
  exact key ht rfl
end Go.Proofs.YtjpphhcimpclpaaDoor.AM
end

section
set_option linter.unusedVariables false
set_option linter.unusedSimpArgs false
set_option maxRecDepth 4000
set_option maxHeartbeats 4000000
namespace Go.Proofs.YtjpphhcimpclpaaDoor.AM
open Go Go.Proofs
set_option linter.defProp false in
def TTEvM := And.intro T2 (And.intro T3 (And.intro T4 (And.intro T27 (And.intro T31 (And.intro T56 (And.intro T58 (And.intro T141 T142)))))))
attribute [local irreducible] awp aops aqops
variable {G : Nat → Option (List PV)}

theorem truth_not (v : Int → Int) (a : Tm) {x : Int × Bool × Int} (ih : ∀ h : Heap, ACalls Tryd.prog G 101 [aT a, aV v] h (fun r h' => r = aB x ∧ h' = h)) (h : Heap) :
    ACalls Tryd.prog G 101 [.agg [.i 4, .i 0, .p (.sl [eT a])], aV v] h (fun r h' => r = .tup [.b (!x.2.1 && x.2.2 == 0), .i x.2.2] ∧ h' = h) := by
  refine acalls_pure (rl := []) mixed Tryd.func101 rfl (rs := [.tmp 4, .tmp 5]) rfl Tryd.ntmps101 (by simp) ?_
  repeat' (first | ((first | refine aops_nil ?_ | refine aqops_nil ?_); (try simp only [NB])) | ((repeat ((fail_if_success (refine hK _ ?_)); clear hK K)); refine hK _ ?_; clear hK K) | ((first | refine aops_k fun K1 hK1 => ?_ | refine aqops_k fun K1 hK1 => ?_ | refine awp_cond_k fun A B hA hB => ?_); simp only [S1, simprocAttr, TTEvM, eT_eq]; first | (refine hK1 _ ?_; clear hK1 K1) | ((first | refine hA ?_ | refine hB ?_); clear hA hB A B) | ((first | apply call_a E101 | apply call_q E101); exact (ih _); (refine hK1 _ ?_; clear hK1 K1)) | (refine join_x (v := ?_) (fun hg hk9 => ?_) ?_; rotate_left; (focus (try ((try simp only [BN] at hg); simp only [S1, simprocAttr, TTEvM, eT_eq, hg] at hk9 ⊢)); first | exact hk9 | ((first | apply call_a E101 | apply call_q E101); exact (ih _); exact hk9)); (refine hK1 _ ?_; clear hK1 K1)) | (((first | (refine ⟨fun hg => hA ?_, fun hg => hB ?_⟩ <;> clear hA hB A B) | refine ⟨fun hg => ?_, fun hg => ?_⟩) <;> (try simp only [BN2] at hg) <;> (try simp only [hg, cond_true, cond_false])) <;> (try (refine hK1 _ ?_; clear hK1 K1)) <;> (try simp only [BN3] at hg))) | (refine awp_seq_k fun K hK => ?_) | ((first | refine awp_region ?_ | refine awp_draw (by kernel_rfl) ?_ | refine awp_block ?_ | refine awp_exit ?_ | refine awp_skip ?_ | refine awp_ret ?_); (try simp only [NB, simprocAttr])))
  all_goals simp only [EndP, FinP, resA, resL, resA1, lastV, lastA, lastAs, pur, purs, take_app, List.take_length, S1, simprocAttr, TTEvM, Nat.le_add_right, Nat.le_refl]
  all_goals trace_state

theorem truth_log (v : Int → Int) (o : Int) (ho : o = 13 ∨ o = 14) (a b : Tm) {x y : Int × Bool × Int}
    (iha : ∀ h : Heap, ACalls Tryd.prog G 101 [aT a, aV v] h (fun r h' => r = aB x ∧ h' = h))
    (ihb : ∀ h : Heap, ACalls Tryd.prog G 101 [aT b, aV v] h (fun r h' => r = aB y ∧ h' = h)) (h : Heap) :
    ACalls Tryd.prog G 101 [.agg [.i o, .i 0, .p (.sl [eT a, eT b])], aV v] h (fun r h' => r = aB (if x.2.2 ≠ 0 then x else if x.2.1 = (o == 14) then x else y) ∧ h' = h) := by
  rcases ho with rfl | rfl
  all_goals
    cases hx : x.2.1 with
    | true =>
      by_cases e1 : x.2.2 = 0
      · refine acalls_pure (rl := []) mixed Tryd.func101 rfl (rs := [.tmp 4, .tmp 5]) rfl Tryd.ntmps101 (by simp) ?_
        repeat' (first | ((first | refine aops_nil ?_ | refine aqops_nil ?_); (try simp only [NB])) | ((repeat ((fail_if_success (refine hK _ ?_)); clear hK K)); refine hK _ ?_; clear hK K) | ((first | refine aops_k fun K1 hK1 => ?_ | refine aqops_k fun K1 hK1 => ?_ | refine awp_cond_k fun A B hA hB => ?_); simp only [S1, simprocAttr, TTEvM, eT_eq, e1, hx]; first | (refine hK1 _ ?_; clear hK1 K1) | ((first | refine hA ?_ | refine hB ?_); clear hA hB A B) | ((first | apply call_a E101 | apply call_q E101); exact (iha _); (refine hK1 _ ?_; clear hK1 K1)) | ((first | apply call_a E101 | apply call_q E101); exact (ihb _); (refine hK1 _ ?_; clear hK1 K1)) | (refine join_x (v := ?_) (fun hg hk9 => ?_) ?_; rotate_left; (focus (try ((try simp only [BN] at hg); simp only [S1, simprocAttr, TTEvM, eT_eq, e1, hx, hg] at hk9 ⊢)); first | exact hk9 | ((first | apply call_a E101 | apply call_q E101); exact (iha _); exact hk9) | ((first | apply call_a E101 | apply call_q E101); exact (ihb _); exact hk9)); (refine hK1 _ ?_; clear hK1 K1)) | (((first | (refine ⟨fun hg => hA ?_, fun hg => hB ?_⟩ <;> clear hA hB A B) | refine ⟨fun hg => ?_, fun hg => ?_⟩) <;> (try simp only [BN2] at hg) <;> (try simp only [hg, cond_true, cond_false])) <;> (try (refine hK1 _ ?_; clear hK1 K1)) <;> (try simp only [BN3] at hg))) | (refine awp_seq_k fun K hK => ?_) | ((first | refine awp_region ?_ | refine awp_draw (by kernel_rfl) ?_ | refine awp_block ?_ | refine awp_exit ?_ | refine awp_skip ?_ | refine awp_ret ?_); (try simp only [NB, simprocAttr])))
        all_goals simp only [EndP, FinP, resA, resL, resA1, lastV, lastA, lastAs, pur, purs, take_app, List.take_length, S1, simprocAttr, TTEvM, Nat.le_add_right, Nat.le_refl]
        all_goals simp [e1, hx]
      · have f4 : (x.2.2 != 0) = true := by simp [e1]
        refine acalls_pure (rl := []) mixed Tryd.func101 rfl (rs := [.tmp 4, .tmp 5]) rfl Tryd.ntmps101 (by simp) ?_
        repeat' (first | ((first | refine aops_nil ?_ | refine aqops_nil ?_); (try simp only [NB])) | ((repeat ((fail_if_success (refine hK _ ?_)); clear hK K)); refine hK _ ?_; clear hK K) | ((first | refine aops_k fun K1 hK1 => ?_ | refine aqops_k fun K1 hK1 => ?_ | refine awp_cond_k fun A B hA hB => ?_); simp only [S1, simprocAttr, TTEvM, eT_eq, f4, hx]; first | (refine hK1 _ ?_; clear hK1 K1) | ((first | refine hA ?_ | refine hB ?_); clear hA hB A B) | ((first | apply call_a E101 | apply call_q E101); exact (iha _); (refine hK1 _ ?_; clear hK1 K1)) | ((first | apply call_a E101 | apply call_q E101); exact (ihb _); (refine hK1 _ ?_; clear hK1 K1)) | (refine join_x (v := ?_) (fun hg hk9 => ?_) ?_; rotate_left; (focus (try ((try simp only [BN] at hg); simp only [S1, simprocAttr, TTEvM, eT_eq, f4, hx, hg] at hk9 ⊢)); first | exact hk9 | ((first | apply call_a E101 | apply call_q E101); exact (iha _); exact hk9) | ((first | apply call_a E101 | apply call_q E101); exact (ihb _); exact hk9)); (refine hK1 _ ?_; clear hK1 K1)) | (((first | (refine ⟨fun hg => hA ?_, fun hg => hB ?_⟩ <;> clear hA hB A B) | refine ⟨fun hg => ?_, fun hg => ?_⟩) <;> (try simp only [BN2] at hg) <;> (try simp only [hg, cond_true, cond_false])) <;> (try (refine hK1 _ ?_; clear hK1 K1)) <;> (try simp only [BN3] at hg))) | (refine awp_seq_k fun K hK => ?_) | ((first | refine awp_region ?_ | refine awp_draw (by kernel_rfl) ?_ | refine awp_block ?_ | refine awp_exit ?_ | refine awp_skip ?_ | refine awp_ret ?_); (try simp only [NB, simprocAttr])))
        all_goals simp only [EndP, FinP, resA, resL, resA1, lastV, lastA, lastAs, pur, purs, take_app, List.take_length, S1, simprocAttr, TTEvM, Nat.le_add_right, Nat.le_refl]
        all_goals simp [e1, hx]
    | false =>
      by_cases e1 : x.2.2 = 0
      · refine acalls_pure (rl := []) mixed Tryd.func101 rfl (rs := [.tmp 4, .tmp 5]) rfl Tryd.ntmps101 (by simp) ?_
        repeat' (first | ((first | refine aops_nil ?_ | refine aqops_nil ?_); (try simp only [NB])) | ((repeat ((fail_if_success (refine hK _ ?_)); clear hK K)); refine hK _ ?_; clear hK K) | ((first | refine aops_k fun K1 hK1 => ?_ | refine aqops_k fun K1 hK1 => ?_ | refine awp_cond_k fun A B hA hB => ?_); simp only [S1, simprocAttr, TTEvM, eT_eq, e1, hx]; first | (refine hK1 _ ?_; clear hK1 K1) | ((first | refine hA ?_ | refine hB ?_); clear hA hB A B) | ((first | apply call_a E101 | apply call_q E101); exact (iha _); (refine hK1 _ ?_; clear hK1 K1)) | ((first | apply call_a E101 | apply call_q E101); exact (ihb _); (refine hK1 _ ?_; clear hK1 K1)) | (refine join_x (v := ?_) (fun hg hk9 => ?_) ?_; rotate_left; (focus (try ((try simp only [BN] at hg); simp only [S1, simprocAttr, TTEvM, eT_eq, e1, hx, hg] at hk9 ⊢)); first | exact hk9 | ((first | apply call_a E101 | apply call_q E101); exact (iha _); exact hk9) | ((first | apply call_a E101 | apply call_q E101); exact (ihb _); exact hk9)); (refine hK1 _ ?_; clear hK1 K1)) | (((first | (refine ⟨fun hg => hA ?_, fun hg => hB ?_⟩ <;> clear hA hB A B) | refine ⟨fun hg => ?_, fun hg => ?_⟩) <;> (try simp only [BN2] at hg) <;> (try simp only [hg, cond_true, cond_false])) <;> (try (refine hK1 _ ?_; clear hK1 K1)) <;> (try simp only [BN3] at hg))) | (refine awp_seq_k fun K hK => ?_) | ((first | refine awp_region ?_ | refine awp_draw (by kernel_rfl) ?_ | refine awp_block ?_ | refine awp_exit ?_ | refine awp_skip ?_ | refine awp_ret ?_); (try simp only [NB, simprocAttr])))
        all_goals simp only [EndP, FinP, resA, resL, resA1, lastV, lastA, lastAs, pur, purs, take_app, List.take_length, S1, simprocAttr, TTEvM, Nat.le_add_right, Nat.le_refl]
        all_goals simp [e1, hx]
      · have f4 : (x.2.2 != 0) = true := by simp [e1]
        refine acalls_pure (rl := []) mixed Tryd.func101 rfl (rs := [.tmp 4, .tmp 5]) rfl Tryd.ntmps101 (by simp) ?_
        repeat' (first | ((first | refine aops_nil ?_ | refine aqops_nil ?_); (try simp only [NB])) | ((repeat ((fail_if_success (refine hK _ ?_)); clear hK K)); refine hK _ ?_; clear hK K) | ((first | refine aops_k fun K1 hK1 => ?_ | refine aqops_k fun K1 hK1 => ?_ | refine awp_cond_k fun A B hA hB => ?_); simp only [S1, simprocAttr, TTEvM, eT_eq, f4, hx]; first | (refine hK1 _ ?_; clear hK1 K1) | ((first | refine hA ?_ | refine hB ?_); clear hA hB A B) | ((first | apply call_a E101 | apply call_q E101); exact (iha _); (refine hK1 _ ?_; clear hK1 K1)) | ((first | apply call_a E101 | apply call_q E101); exact (ihb _); (refine hK1 _ ?_; clear hK1 K1)) | (refine join_x (v := ?_) (fun hg hk9 => ?_) ?_; rotate_left; (focus (try ((try simp only [BN] at hg); simp only [S1, simprocAttr, TTEvM, eT_eq, f4, hx, hg] at hk9 ⊢)); first | exact hk9 | ((first | apply call_a E101 | apply call_q E101); exact (iha _); exact hk9) | ((first | apply call_a E101 | apply call_q E101); exact (ihb _); exact hk9)); (refine hK1 _ ?_; clear hK1 K1)) | (((first | (refine ⟨fun hg => hA ?_, fun hg => hB ?_⟩ <;> clear hA hB A B) | refine ⟨fun hg => ?_, fun hg => ?_⟩) <;> (try simp only [BN2] at hg) <;> (try simp only [hg, cond_true, cond_false])) <;> (try (refine hK1 _ ?_; clear hK1 K1)) <;> (try simp only [BN3] at hg))) | (refine awp_seq_k fun K hK => ?_) | ((first | refine awp_region ?_ | refine awp_draw (by kernel_rfl) ?_ | refine awp_block ?_ | refine awp_exit ?_ | refine awp_skip ?_ | refine awp_ret ?_); (try simp only [NB, simprocAttr])))
        all_goals simp only [EndP, FinP, resA, resL, resA1, lastV, lastA, lastAs, pur, purs, take_app, List.take_length, S1, simprocAttr, TTEvM, Nat.le_add_right, Nat.le_refl]
        all_goals simp [e1, hx]
end Go.Proofs.YtjpphhcimpclpaaDoor.AM
end

section
set_option linter.unusedVariables false
set_option linter.unusedSimpArgs false
set_option maxRecDepth 4000
set_option maxHeartbeats 4000000
namespace Go.Proofs.YtjpphhcimpclpaaDoor.AM
open Go Go.Proofs
set_option linter.defProp false in
def TTEvN := And.intro T2 (And.intro T3 (And.intro T4 (And.intro T27 (And.intro T31 (And.intro T56 (And.intro T58 (And.intro T141 T142)))))))
attribute [local irreducible] awp aops aqops
variable {G : Nat → Option (List PV)}

theorem truth_cmp (v : Int → Int) (o : Int) (ho : o = 10 ∨ o = 11 ∨ o = 12) (a b : Tm) {x y : Int × Bool × Int}
    (iha : ∀ h : Heap, ACalls Tryd.prog G 94 [aT a, aV v] h (fun r h' => r = aN x ∧ h' = h))
    (ihb : ∀ h : Heap, ACalls Tryd.prog G 94 [aT b, aV v] h (fun r h' => r = aN y ∧ h' = h)) (h : Heap) :
    ACalls Tryd.prog G 101 [.agg [.i o, .i 0, .p (.sl [eT a, eT b])], aV v] h (fun r h' => r = aB (if x.2.2 ≠ 0 then (0, false, x.2.2) else if y.2.2 ≠ 0 then (0, false, y.2.2) else sumS o x.1 y.1) ∧ h' = h) := by
  by_cases e1 : x.2.2 = 0
  · by_cases e2 : y.2.2 = 0
    · rcases ho with rfl | rfl | rfl
      all_goals
        refine acalls_pure (rl := []) mixed Tryd.func101 rfl (rs := [.tmp 4, .tmp 5]) rfl Tryd.ntmps101 (by simp) ?_
        repeat' (first | ((first | refine aops_nil ?_ | refine aqops_nil ?_); (try simp only [NB])) | ((repeat ((fail_if_success (refine hK _ ?_)); clear hK K)); refine hK _ ?_; clear hK K) | ((first | refine aops_k fun K1 hK1 => ?_ | refine aqops_k fun K1 hK1 => ?_ | refine awp_cond_k fun A B hA hB => ?_); simp only [S1, simprocAttr, TTEvN, eT_eq, e1, e2]; first | (refine hK1 _ ?_; clear hK1 K1) | ((first | refine hA ?_ | refine hB ?_); clear hA hB A B) | ((first | apply call_a E94 | apply call_q E94); exact (iha _); (refine hK1 _ ?_; clear hK1 K1)) | ((first | apply call_a E94 | apply call_q E94); exact (ihb _); (refine hK1 _ ?_; clear hK1 K1)) | (refine join_x (v := ?_) (fun hg hk9 => ?_) ?_; rotate_left; (focus (try ((try simp only [BN] at hg); simp only [S1, simprocAttr, TTEvN, eT_eq, e1, e2, hg] at hk9 ⊢)); first | exact hk9 | ((first | apply call_a E94 | apply call_q E94); exact (iha _); exact hk9) | ((first | apply call_a E94 | apply call_q E94); exact (ihb _); exact hk9)); (refine hK1 _ ?_; clear hK1 K1)) | (((first | (refine ⟨fun hg => hA ?_, fun hg => hB ?_⟩ <;> clear hA hB A B) | refine ⟨fun hg => ?_, fun hg => ?_⟩) <;> (try simp only [BN2] at hg) <;> (try simp only [hg, cond_true, cond_false])) <;> (try (refine hK1 _ ?_; clear hK1 K1)) <;> (try simp only [BN3] at hg))) | (refine awp_seq_k fun K hK => ?_) | ((first | refine awp_region ?_ | refine awp_draw (by kernel_rfl) ?_ | refine awp_block ?_ | refine awp_exit ?_ | refine awp_skip ?_ | refine awp_ret ?_); (try simp only [NB, simprocAttr])))
        all_goals simp only [EndP, FinP, resA, resL, resA1, lastV, lastA, lastAs, pur, purs, take_app, List.take_length, S1, simprocAttr, TTEvN, Nat.le_add_right, Nat.le_refl]
        all_goals simp [e1, e2, sumS]
        all_goals (rw [Bool.eq_iff_iff]; simp; omega)
    · have f5 : (y.2.2 != 0) = true := by simp [e2]
      rcases ho with rfl | rfl | rfl
      all_goals
        refine acalls_pure (rl := []) mixed Tryd.func101 rfl (rs := [.tmp 4, .tmp 5]) rfl Tryd.ntmps101 (by simp) ?_
        repeat' (first | ((first | refine aops_nil ?_ | refine aqops_nil ?_); (try simp only [NB])) | ((repeat ((fail_if_success (refine hK _ ?_)); clear hK K)); refine hK _ ?_; clear hK K) | ((first | refine aops_k fun K1 hK1 => ?_ | refine aqops_k fun K1 hK1 => ?_ | refine awp_cond_k fun A B hA hB => ?_); simp only [S1, simprocAttr, TTEvN, eT_eq, e1, f5]; first | (refine hK1 _ ?_; clear hK1 K1) | ((first | refine hA ?_ | refine hB ?_); clear hA hB A B) | ((first | apply call_a E94 | apply call_q E94); exact (iha _); (refine hK1 _ ?_; clear hK1 K1)) | ((first | apply call_a E94 | apply call_q E94); exact (ihb _); (refine hK1 _ ?_; clear hK1 K1)) | (refine join_x (v := ?_) (fun hg hk9 => ?_) ?_; rotate_left; (focus (try ((try simp only [BN] at hg); simp only [S1, simprocAttr, TTEvN, eT_eq, e1, f5, hg] at hk9 ⊢)); first | exact hk9 | ((first | apply call_a E94 | apply call_q E94); exact (iha _); exact hk9) | ((first | apply call_a E94 | apply call_q E94); exact (ihb _); exact hk9)); (refine hK1 _ ?_; clear hK1 K1)) | (((first | (refine ⟨fun hg => hA ?_, fun hg => hB ?_⟩ <;> clear hA hB A B) | refine ⟨fun hg => ?_, fun hg => ?_⟩) <;> (try simp only [BN2] at hg) <;> (try simp only [hg, cond_true, cond_false])) <;> (try (refine hK1 _ ?_; clear hK1 K1)) <;> (try simp only [BN3] at hg))) | (refine awp_seq_k fun K hK => ?_) | ((first | refine awp_region ?_ | refine awp_draw (by kernel_rfl) ?_ | refine awp_block ?_ | refine awp_exit ?_ | refine awp_skip ?_ | refine awp_ret ?_); (try simp only [NB, simprocAttr])))
        all_goals simp only [EndP, FinP, resA, resL, resA1, lastV, lastA, lastAs, pur, purs, take_app, List.take_length, S1, simprocAttr, TTEvN, Nat.le_add_right, Nat.le_refl]
        all_goals simp [e1, e2]
  · have f4 : (x.2.2 != 0) = true := by simp [e1]
    rcases ho with rfl | rfl | rfl
    all_goals
      refine acalls_pure (rl := []) mixed Tryd.func101 rfl (rs := [.tmp 4, .tmp 5]) rfl Tryd.ntmps101 (by simp) ?_
      repeat' (first | ((first | refine aops_nil ?_ | refine aqops_nil ?_); (try simp only [NB])) | ((repeat ((fail_if_success (refine hK _ ?_)); clear hK K)); refine hK _ ?_; clear hK K) | ((first | refine aops_k fun K1 hK1 => ?_ | refine aqops_k fun K1 hK1 => ?_ | refine awp_cond_k fun A B hA hB => ?_); simp only [S1, simprocAttr, TTEvN, eT_eq, f4]; first | (refine hK1 _ ?_; clear hK1 K1) | ((first | refine hA ?_ | refine hB ?_); clear hA hB A B) | ((first | apply call_a E94 | apply call_q E94); exact (iha _); (refine hK1 _ ?_; clear hK1 K1)) | (refine join_x (v := ?_) (fun hg hk9 => ?_) ?_; rotate_left; (focus (try ((try simp only [BN] at hg); simp only [S1, simprocAttr, TTEvN, eT_eq, f4, hg] at hk9 ⊢)); first | exact hk9 | ((first | apply call_a E94 | apply call_q E94); exact (iha _); exact hk9)); (refine hK1 _ ?_; clear hK1 K1)) | (((first | (refine ⟨fun hg => hA ?_, fun hg => hB ?_⟩ <;> clear hA hB A B) | refine ⟨fun hg => ?_, fun hg => ?_⟩) <;> (try simp only [BN2] at hg) <;> (try simp only [hg, cond_true, cond_false])) <;> (try (refine hK1 _ ?_; clear hK1 K1)) <;> (try simp only [BN3] at hg))) | (refine awp_seq_k fun K hK => ?_) | ((first | refine awp_region ?_ | refine awp_draw (by kernel_rfl) ?_ | refine awp_block ?_ | refine awp_exit ?_ | refine awp_skip ?_ | refine awp_ret ?_); (try simp only [NB, simprocAttr])))
      all_goals simp only [EndP, FinP, resA, resL, resA1, lastV, lastA, lastAs, pur, purs, take_app, List.take_length, S1, simprocAttr, TTEvN, Nat.le_add_right, Nat.le_refl]
      all_goals simp [e1]

theorem truth_calls {v : Int → Int} (hv : ∀ i, Num (v i)) {t : Tm} (ht : Good t true) : ∀ h : Heap, ACalls Tryd.prog G 101 [aT t, aV v] h (fun r h' => r = aB (ev v t) ∧ h' = h) := by
  have key : ∀ {t k}, Good t k → k = true → ∀ h : Heap, ACalls Tryd.prog G 101 [aT t, aV v] h (fun r h' => r = aB (ev v t) ∧ h' = h) := by
    intro t k hg
    induction hg with
    | num n h1 h2 => intro e; cases e
    | var n hn => intro e; cases e
    | neg a hg ih => intro e; cases e
    | bin o a b h1 h2 ha hb iha ihb => intro e; cases e
    | not a hg ih =>
      intro _ h
      have g := ev_good hv hg
      refine ACalls.mono (truth_not v a (ih rfl) h) ?_
      rintro r h' ⟨rfl, rfl⟩
      refine ⟨?_, rfl⟩
      rw [ev_one]
      split
      · rename_i e; simp [e]
      · rename_i e; rw [if_neg (by decide), Classical.not_not.mp e]; simp
    | cmp o a b h1 h2 ha hb iha ihb =>
      intro _ h
      refine ACalls.mono (truth_cmp v o (by omega) a b (number_calls hv ha) (number_calls hv hb) h) ?_
      rintro r h' ⟨rfl, rfl⟩
      refine ⟨?_, rfl⟩
      rw [ev_two, if_neg (show ¬ o = 13 by omega), if_neg (show ¬ o = 14 by omega)]
    | log o a b ho ha hb iha ihb =>
      intro _ h
      have g := ev_good hv ha
      refine ACalls.mono (truth_log v o ho a b (iha rfl) (ihb rfl) h) ?_
      rintro r h' ⟨rfl, rfl⟩
      refine ⟨?_, rfl⟩
      rw [ev_two]
      have g1 := g.2.1
      rcases hx : ev v a with ⟨x1, x2, x3⟩
      rw [hx] at g1
      simp only at g1 ⊢
      by_cases e : x3 = 0
      · subst e
        rcases ho with rfl | rfl <;> cases x2 <;> simp
      · rw [if_pos e, if_pos e, (g1 e).2]
  exact key ht rfl
end Go.Proofs.YtjpphhcimpclpaaDoor.AM
end

section
set_option linter.unusedVariables false
set_option linter.unusedSimpArgs false
set_option maxRecDepth 4000
set_option maxHeartbeats 4000000
namespace Go.Proofs.YtjpphhcimpclpaaDoor.AM
open Go Go.Proofs
set_option linter.defProp false in
def TTEvP := And.intro T2 (And.intro T3 (And.intro T4 (And.intro T27 T31)))
attribute [local irreducible] awp aops aqops
variable {G : Nat → Option (List PV)}

def inV (v : Int → Int) : Bool := inM (v 0) && inM (v 1) && inM (v 2) && inM (v 3)

theorem cN0 : ((0 : Nat) : Int) = 0 := rfl
theorem cN1 : ((1 : Nat) : Int) = 1 := rfl
theorem cN2 : ((2 : Nat) : Int) = 2 := rfl
theorem cN3 : ((3 : Nat) : Int) = 3 := rfl
theorem cN4 : ((4 : Nat) : Int) = 4 := rfl
theorem wl1 : IntKind.i64.wrap 1 = 1 := rfl
theorem wl2 : IntKind.i64.wrap 2 = 2 := rfl
theorem wl3 : IntKind.i64.wrap 3 = 3 := rfl
theorem wl4 : IntKind.i64.wrap 4 = 4 := rfl
theorem inV_of {v : Int → Int} (h : ∀ j : Nat, j < 4 → inM (v j) = true) : inV v = true := by
  have h0 := h 0 (by omega)
  have h1 := h 1 (by omega)
  have h2 := h 2 (by omega)
  have h3 := h 3 (by omega)
  unfold inV
  simp only [cN0, cN1, cN2, cN3] at h0 h1 h2 h3
  simp [h0, h1, h2, h3]

theorem fitsV_calls (v : Int → Int) (h : Heap) : ACalls Tryd.prog G 23 [.agg [.i (v 0), .i (v 1), .i (v 2), .i (v 3)]] h (fun r h' => r = .b (inV v) ∧ h' = h) := by
  refine acalls_pure (rl := []) mixed Tryd.func23 rfl (rs := [.tmp 2]) rfl Tryd.ntmps23 (by simp) ?_
  repeat' (first | ((first | refine aops_nil ?_ | refine aqops_nil ?_); (try simp only [NB])) | ((repeat ((fail_if_success (refine hK _ ?_)); clear hK K)); refine hK _ ?_; clear hK K) | ((first | refine aops_k fun K1 hK1 => ?_ | refine aqops_k fun K1 hK1 => ?_ | refine awp_cond_k fun A B hA hB => ?_); simp only [S1, simprocAttr, TTEvP]; first | (refine hK1 _ ?_; clear hK1 K1) | ((first | refine hA ?_ | refine hB ?_); clear hA hB A B) | (((first | (refine ⟨fun hg => hA ?_, fun hg => hB ?_⟩ <;> clear hA hB A B) | refine ⟨fun hg => ?_, fun hg => ?_⟩) <;> (try simp only [BN2] at hg) <;> (try simp only [hg, cond_true, cond_false])) <;> (try (refine hK1 _ ?_; clear hK1 K1)) <;> (try simp only [BN3] at hg))) | (refine awp_seq_k fun K hK => ?_) | ((first | refine awp_region ?_ | refine awp_draw (by kernel_rfl) ?_ | refine awp_block ?_ | refine awp_exit ?_ | refine awp_skip ?_ | refine awp_ret ?_); (try simp only [NB, simprocAttr])))
  refine awp_for 4 13 (fun i => [(6, .i i), (5, .agg [.i (v 0), .i (v 1), .i (v 2), .i (v 3)])]) (fun i => []) (fun i => ∀ j : Nat, j < i → inM (v j) = true) ?_ (fun j hj => absurd hj (Nat.not_lt_zero _)) fun i hi hp K hK => ?_
  · (refine ⟨rfl, (by first | exact ⟨_, rfl⟩ | exact ⟨[], by simp⟩), ?_, ?_⟩ <;> simp only [keeps, avlt, avlts, blksLt, frL, upd_get, S1, simprocAttr, List.length_map, Int.natCast_zero, AV.p.injEq, PV.int.injEq, PV.bool.injEq, PV.sl.injEq] <;> (try and_intros) <;> (try assumption) <;> (try trivial) <;> (try omega))
  have hw : IntKind.i64.wrap ((i : Int) + 1) = ((i + 1 : Nat) : Int) := by rw [IntWalk.i64_in _ (by omega)]; omega
  rcases (by omega : i = 0 ∨ i = 1 ∨ i = 2 ∨ i = 3 ∨ i = 4) with rfl | rfl | rfl | rfl | rfl
  all_goals
    repeat' (first | ((first | refine aops_nil ?_ | refine aqops_nil ?_); (try simp only [NB])) | ((repeat ((fail_if_success (refine hK _ ?_)); clear hK K)); refine hK _ ?_; clear hK K) | ((first | refine aops_k fun K1 hK1 => ?_ | refine aqops_k fun K1 hK1 => ?_ | refine awp_cond_k fun A B hA hB => ?_); simp only [S1, simprocAttr, TTEvP, cN0, cN1, cN2, cN3, cN4, Int.reduceAdd, wl1, wl2, wl3, wl4]; first | (refine hK1 _ ?_; clear hK1 K1) | ((first | refine hA ?_ | refine hB ?_); clear hA hB A B) | ((first | apply call_a E37 | apply call_q E37); exact (fits_calls _ _); (refine hK1 _ ?_; clear hK1 K1)) | (((first | (refine ⟨fun hg => hA ?_, fun hg => hB ?_⟩ <;> clear hA hB A B) | refine ⟨fun hg => ?_, fun hg => ?_⟩) <;> (try simp only [BN2] at hg) <;> (try simp only [hg, cond_true, cond_false])) <;> (try (refine hK1 _ ?_; clear hK1 K1)) <;> (try simp only [BN3] at hg))) | (refine awp_seq_k fun K hK => ?_) | ((first | refine awp_region ?_ | refine awp_draw (by kernel_rfl) ?_ | refine awp_block ?_ | refine awp_exit ?_ | refine awp_skip ?_ | refine awp_ret ?_); (try simp only [NB, simprocAttr])))
    all_goals first
      | (refine ⟨by omega, fun j hj => ?_, ?_⟩
         · rcases Nat.lt_succ_iff_lt_or_eq.mp hj with e | rfl
           · exact hp j e
           · exact hg
         · (refine ⟨rfl, (by first | exact ⟨_, rfl⟩ | exact ⟨[], by simp⟩), ?_, ?_⟩ <;> simp only [keeps, avlt, avlts, blksLt, frL, upd_get, S1, simprocAttr, List.length_map, Int.natCast_zero, AV.p.injEq, PV.int.injEq, PV.bool.injEq, PV.sl.injEq] <;> (try and_intros) <;> (try assumption) <;> (try trivial) <;> (try omega)))
      | (simp only [EndP, FinP, resA, resL, resA1, lastV, lastA, lastAs, pur, purs, take_app, List.take_length, S1, simprocAttr, TTEvP, Nat.le_add_right, Nat.le_refl]
         first
           | (rw [inV_of hp]; done)
           | (simp [inV, hg]; done))
end Go.Proofs.YtjpphhcimpclpaaDoor.AM
end

section
set_option linter.unusedVariables false
set_option linter.unusedSimpArgs false
set_option maxRecDepth 4000
set_option maxHeartbeats 4000000
namespace Go.Proofs.YtjpphhcimpclpaaDoor.AM
open Go Go.Proofs
set_option linter.defProp false in
def TTEvQ := And.intro T2 (And.intro T3 (And.intro T4 (And.intro T27 (And.intro T31 (And.intro T56 (And.intro T58 (And.intro T141 T142)))))))
attribute [local irreducible] awp aops aqops

def askN (t : Tm) (v : Int → Int) (k : Int) : Int := if (checkN t).2 ≠ 0 then (checkN t).2 else if (checkN t).1 ≠ k then 30 else if inV v then 0 else 1

theorem asked_calls {n : Nat} {t : Tm} (ht : Tm.Ok n t) (v : Int → Int) (k : Int) (h : Heap) : ACalls Tryd.prog gW 93 [aT t, aV v, .i k] h (fun r h' => r = .i (askN t v k) ∧ h' = h) := by
  refine acalls_pure (rl := []) mixed Tryd.func93 rfl (rs := [.tmp 6]) rfl Tryd.ntmps93 (by simp) ?_
  repeat' (first | ((first | refine aops_nil ?_ | refine aqops_nil ?_); (try simp only [NB])) | ((repeat ((fail_if_success (refine hK _ ?_)); clear hK K)); refine hK _ ?_; clear hK K) | ((first | refine aops_k fun K1 hK1 => ?_ | refine aqops_k fun K1 hK1 => ?_ | refine awp_cond_k fun A B hA hB => ?_); simp only [S1, simprocAttr, TTEvQ]; first | (refine hK1 _ ?_; clear hK1 K1) | ((first | refine hA ?_ | refine hB ?_); clear hA hB A B) | ((first | apply call_a E97 | apply call_q E97); exact (check_calls ht _); (refine hK1 _ ?_; clear hK1 K1)) | ((first | apply call_a E23 | apply call_q E23); exact (fitsV_calls v _); (refine hK1 _ ?_; clear hK1 K1)) | (((first | (refine ⟨fun hg => hA ?_, fun hg => hB ?_⟩ <;> clear hA hB A B) | refine ⟨fun hg => ?_, fun hg => ?_⟩) <;> (try simp only [BN2] at hg) <;> (try simp only [hg, cond_true, cond_false])) <;> (try (refine hK1 _ ?_; clear hK1 K1)) <;> (try simp only [BN3] at hg))) | (refine awp_seq_k fun K hK => ?_) | ((first | refine awp_region ?_ | refine awp_draw (by kernel_rfl) ?_ | refine awp_block ?_ | refine awp_exit ?_ | refine awp_skip ?_ | refine awp_ret ?_); (try simp only [NB, simprocAttr])))
  all_goals simp only [EndP, FinP, resA, resL, resA1, lastV, lastA, lastAs, pur, purs, take_app, List.take_length, S1, simprocAttr, TTEvQ, Nat.le_add_right, Nat.le_refl]
  all_goals simp_all [askN]
theorem ask_good {t : Tm} {v : Int → Int} {k : Int} (h : askN t v k = 0) : Good t (truthOp t.op) ∧ inV v = true ∧ outN t.op = k := by
  unfold askN at h
  by_cases h1 : (checkN t).2 = 0
  · rw [if_neg (by simpa using h1)] at h
    by_cases h2 : (checkN t).1 = k
    · rw [if_neg (by simpa using h2)] at h
      have hv : inV v = true := by
        cases hh : inV v with
        | true => rfl
        | false => rw [hh] at h; simp at h
      unfold checkN at h1 h2
      by_cases hw : wrongN t = 0
      · rw [if_neg (by simpa using hw)] at h1 h2
        cases hty : t.typed with
        | true =>
          rw [hty] at h1 h2
          have hf : t.form = true := by
            unfold wrongN at hw
            split at hw
            · cases hw
            · split at hw
              · assumption
              · cases hw
          exact ⟨good_of t hf hty, hv, by simpa using h2⟩
        | false => rw [hty] at h1; simp at h1
      · rw [if_pos hw] at h1; exact absurd h1 hw
    · rw [if_pos h2] at h; cases h
  · rw [if_pos h1] at h; exact absurd h h1
def numR (t : Tm) (v : Int → Int) : Int × Int := if askN t v 1 ≠ 0 then (0, askN t v 1) else ((ev v t).1, (ev v t).2.2)
def truR (t : Tm) (v : Int → Int) : Bool × Int := if askN t v 2 ≠ 0 then (false, askN t v 2) else ((ev v t).2.1, (ev v t).2.2)

theorem Number_calls {n : Nat} {t : Tm} (ht : Tm.Ok n t) (v : Int → Int) (hv : inV v = true → ∀ i, Num (v i)) (h : Heap) : ACalls Tryd.prog gW 73 [aT t, aV v] h (fun r h' => r = .tup [.i (numR t v).1, .i (numR t v).2] ∧ h' = h) := by
  by_cases e : askN t v 1 = 0
  · obtain ⟨g1, g2, g3⟩ := ask_good e
    have g0 : truthOp t.op = false := by
      cases hh : truthOp t.op with
      | false => rfl
      | true => unfold outN at g3; rw [hh] at g3; simp at g3
    rw [g0] at g1
    have hg := ev_good (hv g2) g1
    have e1 : (askN t v 1 != 0) = false := by simp [e]
    refine acalls_pure (rl := []) mixed Tryd.func73 rfl (rs := [.tmp 4, .tmp 5]) rfl Tryd.ntmps73 (by simp) ?_
    repeat' (first | ((first | refine aops_nil ?_ | refine aqops_nil ?_); (try simp only [NB])) | ((repeat ((fail_if_success (refine hK _ ?_)); clear hK K)); refine hK _ ?_; clear hK K) | ((first | refine aops_k fun K1 hK1 => ?_ | refine aqops_k fun K1 hK1 => ?_ | refine awp_cond_k fun A B hA hB => ?_); simp only [S1, simprocAttr, TTEvQ, e1]; first | (refine hK1 _ ?_; clear hK1 K1) | ((first | refine hA ?_ | refine hB ?_); clear hA hB A B) | ((first | apply call_a E93 | apply call_q E93); exact (asked_calls ht v 1 _); (refine hK1 _ ?_; clear hK1 K1)) | ((first | apply call_a E94 | apply call_q E94); exact (number_calls (hv g2) g1 _); (refine hK1 _ ?_; clear hK1 K1)) | (((first | (refine ⟨fun hg => hA ?_, fun hg => hB ?_⟩ <;> clear hA hB A B) | refine ⟨fun hg => ?_, fun hg => ?_⟩) <;> (try simp only [BN2] at hg) <;> (try simp only [hg, cond_true, cond_false])) <;> (try (refine hK1 _ ?_; clear hK1 K1)) <;> (try simp only [BN3] at hg))) | (refine awp_seq_k fun K hK => ?_) | ((first | refine awp_region ?_ | refine awp_draw (by kernel_rfl) ?_ | refine awp_block ?_ | refine awp_exit ?_ | refine awp_skip ?_ | refine awp_ret ?_); (try simp only [NB, simprocAttr])))
    all_goals simp only [EndP, FinP, resA, resL, resA1, lastV, lastA, lastAs, pur, purs, take_app, List.take_length, S1, simprocAttr, TTEvQ, Nat.le_add_right, Nat.le_refl]
    all_goals simp_all [numR]
  · have e1 : (askN t v 1 != 0) = true := by simp [e]
    refine acalls_pure (rl := []) mixed Tryd.func73 rfl (rs := [.tmp 4, .tmp 5]) rfl Tryd.ntmps73 (by simp) ?_
    repeat' (first | ((first | refine aops_nil ?_ | refine aqops_nil ?_); (try simp only [NB])) | ((repeat ((fail_if_success (refine hK _ ?_)); clear hK K)); refine hK _ ?_; clear hK K) | ((first | refine aops_k fun K1 hK1 => ?_ | refine aqops_k fun K1 hK1 => ?_ | refine awp_cond_k fun A B hA hB => ?_); simp only [S1, simprocAttr, TTEvQ, e1]; first | (refine hK1 _ ?_; clear hK1 K1) | ((first | refine hA ?_ | refine hB ?_); clear hA hB A B) | ((first | apply call_a E93 | apply call_q E93); exact (asked_calls ht v 1 _); (refine hK1 _ ?_; clear hK1 K1)) | (((first | (refine ⟨fun hg => hA ?_, fun hg => hB ?_⟩ <;> clear hA hB A B) | refine ⟨fun hg => ?_, fun hg => ?_⟩) <;> (try simp only [BN2] at hg) <;> (try simp only [hg, cond_true, cond_false])) <;> (try (refine hK1 _ ?_; clear hK1 K1)) <;> (try simp only [BN3] at hg))) | (refine awp_seq_k fun K hK => ?_) | ((first | refine awp_region ?_ | refine awp_draw (by kernel_rfl) ?_ | refine awp_block ?_ | refine awp_exit ?_ | refine awp_skip ?_ | refine awp_ret ?_); (try simp only [NB, simprocAttr])))
    all_goals simp only [EndP, FinP, resA, resL, resA1, lastV, lastA, lastAs, pur, purs, take_app, List.take_length, S1, simprocAttr, TTEvQ, Nat.le_add_right, Nat.le_refl]
    all_goals simp_all [numR]
theorem Truth_calls {n : Nat} {t : Tm} (ht : Tm.Ok n t) (v : Int → Int) (hv : inV v = true → ∀ i, Num (v i)) (h : Heap) : ACalls Tryd.prog gW 95 [aT t, aV v] h (fun r h' => r = .tup [.b (truR t v).1, .i (truR t v).2] ∧ h' = h) := by
  by_cases e : askN t v 2 = 0
  · obtain ⟨g1, g2, g3⟩ := ask_good e
    have g0 : truthOp t.op = true := by
      cases hh : truthOp t.op with
      | true => rfl
      | false => unfold outN at g3; rw [hh] at g3; simp at g3
    rw [g0] at g1
    have hg := ev_good (hv g2) g1
    have e1 : (askN t v 2 != 0) = false := by simp [e]
    refine acalls_pure (rl := []) mixed Tryd.func95 rfl (rs := [.tmp 4, .tmp 5]) rfl Tryd.ntmps95 (by simp) ?_
    repeat' (first | ((first | refine aops_nil ?_ | refine aqops_nil ?_); (try simp only [NB])) | ((repeat ((fail_if_success (refine hK _ ?_)); clear hK K)); refine hK _ ?_; clear hK K) | ((first | refine aops_k fun K1 hK1 => ?_ | refine aqops_k fun K1 hK1 => ?_ | refine awp_cond_k fun A B hA hB => ?_); simp only [S1, simprocAttr, TTEvQ, e1]; first | (refine hK1 _ ?_; clear hK1 K1) | ((first | refine hA ?_ | refine hB ?_); clear hA hB A B) | ((first | apply call_a E93 | apply call_q E93); exact (asked_calls ht v 2 _); (refine hK1 _ ?_; clear hK1 K1)) | ((first | apply call_a E101 | apply call_q E101); exact (truth_calls (hv g2) g1 _); (refine hK1 _ ?_; clear hK1 K1)) | (refine join_x (v := ?_) (fun hg hk9 => ?_) ?_; rotate_left; (focus (try ((try simp only [BN] at hg); simp only [S1, simprocAttr, TTEvQ, e1, hg] at hk9 ⊢)); first | exact hk9 | ((first | apply call_a E93 | apply call_q E93); exact (asked_calls ht v 2 _); exact hk9) | ((first | apply call_a E101 | apply call_q E101); exact (truth_calls (hv g2) g1 _); exact hk9)); (refine hK1 _ ?_; clear hK1 K1)) | (((first | (refine ⟨fun hg => hA ?_, fun hg => hB ?_⟩ <;> clear hA hB A B) | refine ⟨fun hg => ?_, fun hg => ?_⟩) <;> (try simp only [BN2] at hg) <;> (try simp only [hg, cond_true, cond_false])) <;> (try (refine hK1 _ ?_; clear hK1 K1)) <;> (try simp only [BN3] at hg))) | (refine awp_seq_k fun K hK => ?_) | ((first | refine awp_region ?_ | refine awp_draw (by kernel_rfl) ?_ | refine awp_block ?_ | refine awp_exit ?_ | refine awp_skip ?_ | refine awp_ret ?_); (try simp only [NB, simprocAttr])))
    all_goals simp only [EndP, FinP, resA, resL, resA1, lastV, lastA, lastAs, pur, purs, take_app, List.take_length, S1, simprocAttr, TTEvQ, Nat.le_add_right, Nat.le_refl]
    all_goals (by_cases hf : (ev v t).2.2 = 0 <;> simp_all [truR])
  · have e1 : (askN t v 2 != 0) = true := by simp [e]
    refine acalls_pure (rl := []) mixed Tryd.func95 rfl (rs := [.tmp 4, .tmp 5]) rfl Tryd.ntmps95 (by simp) ?_
    repeat' (first | ((first | refine aops_nil ?_ | refine aqops_nil ?_); (try simp only [NB])) | ((repeat ((fail_if_success (refine hK _ ?_)); clear hK K)); refine hK _ ?_; clear hK K) | ((first | refine aops_k fun K1 hK1 => ?_ | refine aqops_k fun K1 hK1 => ?_ | refine awp_cond_k fun A B hA hB => ?_); simp only [S1, simprocAttr, TTEvQ, e1]; first | (refine hK1 _ ?_; clear hK1 K1) | ((first | refine hA ?_ | refine hB ?_); clear hA hB A B) | ((first | apply call_a E93 | apply call_q E93); exact (asked_calls ht v 2 _); (refine hK1 _ ?_; clear hK1 K1)) | (refine join_x (v := ?_) (fun hg hk9 => ?_) ?_; rotate_left; (focus (try ((try simp only [BN] at hg); simp only [S1, simprocAttr, TTEvQ, e1, hg] at hk9 ⊢)); first | exact hk9 | ((first | apply call_a E93 | apply call_q E93); exact (asked_calls ht v 2 _); exact hk9)); (refine hK1 _ ?_; clear hK1 K1)) | (((first | (refine ⟨fun hg => hA ?_, fun hg => hB ?_⟩ <;> clear hA hB A B) | refine ⟨fun hg => ?_, fun hg => ?_⟩) <;> (try simp only [BN2] at hg) <;> (try simp only [hg, cond_true, cond_false])) <;> (try (refine hK1 _ ?_; clear hK1 K1)) <;> (try simp only [BN3] at hg))) | (refine awp_seq_k fun K hK => ?_) | ((first | refine awp_region ?_ | refine awp_draw (by kernel_rfl) ?_ | refine awp_block ?_ | refine awp_exit ?_ | refine awp_skip ?_ | refine awp_ret ?_); (try simp only [NB, simprocAttr])))
    all_goals simp only [EndP, FinP, resA, resL, resA1, lastV, lastA, lastAs, pur, purs, take_app, List.take_length, S1, simprocAttr, TTEvQ, Nat.le_add_right, Nat.le_refl]
    all_goals simp_all [truR]
end Go.Proofs.YtjpphhcimpclpaaDoor.AM
end

section
set_option linter.unusedVariables false
set_option linter.unusedSimpArgs false
set_option maxRecDepth 4000
set_option maxHeartbeats 4000000
namespace Go.Proofs.YtjpphhcimpclpaaDoor.AM
open Go Go.Proofs
set_option linter.defProp false in
attribute [local irreducible] awp aops aqops aeops arun arunT

/-- The first flow whose condition is true, or whose condition is a fault; no Else. -/
def chF (fl : List Fl) (v : Int → Int) : List Int → Option (Int × Int)
  | [] => none
  | f :: r => match fl[f.toNat]? with
    | none => chF fl v r
    | some x => if x.els = true then chF fl v r else if (truR x.cond v).2 ≠ 0 then some (0, (truR x.cond v).2) else if (truR x.cond v).1 = true then some (f, 0) else chF fl v r
/-- The first Else. -/
def chE (fl : List Fl) : List Int → Int
  | [] => 0
  | f :: r => if elsAt fl f = true then f else chE fl r
def chooseG (fl : List Fl) (v : Int → Int) (outs : List Int) : Int × Int := (chF fl v outs).getD (chE fl outs, 0)

theorem chF_step {fl : List Fl} {v : Int → Int} {outs : List Int} {i : Nat} {f : Int} (h : outs[i]? = some f) : chF fl v (outs.drop i) = match fl[f.toNat]? with
    | none => chF fl v (outs.drop (i + 1))
    | some x => if x.els = true then chF fl v (outs.drop (i + 1)) else if (truR x.cond v).2 ≠ 0 then some (0, (truR x.cond v).2) else if (truR x.cond v).1 = true then some (f, 0) else chF fl v (outs.drop (i + 1)) := by
  obtain ⟨hi, e⟩ := List.getElem?_eq_some_iff.mp h
  rw [List.drop_eq_getElem_cons hi, e]; rfl
end Go.Proofs.YtjpphhcimpclpaaDoor.AM
end

section
set_option linter.unusedVariables false
set_option linter.unusedSimpArgs false
set_option maxRecDepth 4000
set_option maxHeartbeats 4000000
namespace Go.Proofs.YtjpphhcimpclpaaDoor.AM
open Go Go.Proofs
set_option linter.defProp false in
attribute [local irreducible] awp aops aqops aeops arun arunT

theorem stepT_len {S T : List Int} {f : Int} (h : stepT S f = some T) : T.length = S.length := by
  unfold stepT at h
  split at h
  · cases h
  · cases h; simp
theorem stepP_len {S T : List Int} {f : Int} (h : stepP S f = some T) : T.length = S.length := by
  unfold stepP at h
  split at h
  · cases h
  · cases h; simp
theorem runO_len {step : List Int → Int → Option (List Int)} (hs : ∀ S T f, step S f = some T → T.length = S.length) : ∀ {l S T : List Int}, runO step l S = some T → T.length = S.length
  | [], S, T, h => by cases h; rfl
  | f :: r, S, T, h => by
    unfold runO at h
    rw [List.foldlM_cons] at h
    obtain ⟨U, h1, h2⟩ := Option.bind_eq_some_iff.mp h
    rw [runO_len hs (l := r) (S := U) h2, hs _ _ _ h1]
theorem moveG_to {S : List Int} {x : Sp} {fr to : List Int} (hS : S.length = 49) (hx : x.to.length = 49) : ∀ y ∈ moveG S x fr to, y.to.length = 49 := by
  intro y hy
  unfold moveG at hy
  split at hy
  · cases hy
  · rename_i T hT
    split at hy
    · cases hy
    · rename_i U hU
      rw [List.mem_singleton.mp hy]
      simp only
      rw [runO_len (fun _ _ _ => stepP_len) hU, runO_len (fun _ _ _ => stepT_len) hT]
      simp [joinS, hS, hx]
theorem GmOk.app {h : Heap} {b lb : Nat} {S : List Int} {l l2 : List Sp} (ok : GmOk h b lb S l) (h2 : ∀ y ∈ l2, y.to.length = 49) (hf : l.length + l2.length ≤ 1000000) : GmOk h b lb S (l ++ l2) :=
  ⟨ok.hb, ok.hl, ok.ne, ok.held, fun x hx => (List.mem_append.mp hx).elim (ok.len x) (h2 x), by rw [List.length_append]; exact hf⟩

/-- The variables of a state. -/
def vS (S : List Int) : Int → Int := fun i => if i = 0 then S.getD 40 0 else if i = 1 then S.getD 41 0 else if i = 2 then S.getD 42 0 else S.getD 43 0
theorem vS_0 (S : List Int) : vS S 0 = S.getD 40 0 := rfl
theorem vS_1 (S : List Int) : vS S 1 = S.getD 41 0 := rfl
theorem vS_2 (S : List Int) : vS S 2 = S.getD 42 0 := rfl
theorem vS_3 (S : List Int) : vS S 3 = S.getD 43 0 := rfl
theorem vS_num {S : List Int} (h : inV (vS S) = true) : ∀ i, Num (vS S i) := by
  unfold inV at h
  rw [vS_0, vS_1, vS_2, vS_3] at h
  simp only [inM, Bool.and_eq_true, decide_eq_true_eq] at h
  intro i
  unfold vS Num
  split
  · exact ⟨by omega, by omega⟩
  · split
    · exact ⟨by omega, by omega⟩
    · split <;> exact ⟨by omega, by omega⟩
theorem vS_cells {S : List Int} (hS : S.length = 49) : ((S.drop 40).take 4).map AV.i = [.p (.int .i64 (vS S 0)), .p (.int .i64 (vS S 1)), .p (.int .i64 (vS S 2)), .p (.int .i64 (vS S 3))] := by
  rw [vS_0, vS_1, vS_2, vS_3]
  have e : ∀ k, k < 49 → S[k]? = some (S.getD k 0) := fun k hk => by rw [List.getD_eq_getElem?_getD, List.getElem?_eq_getElem (by omega)]; rfl
  apply List.ext_getElem?
  intro i
  rw [List.getElem?_map, List.getElem?_take]
  match i with
  | 0 => rw [if_pos (by omega), List.getElem?_drop, e 40 (by omega)]; rfl
  | 1 => rw [if_pos (by omega), List.getElem?_drop, e 41 (by omega)]; rfl
  | 2 => rw [if_pos (by omega), List.getElem?_drop, e 42 (by omega)]; rfl
  | 3 => rw [if_pos (by omega), List.getElem?_drop, e 43 (by omega)]; rfl
  | k + 4 => rw [if_neg (by omega)]; rfl
theorem gmC_vars {ns : List Nd} {fl : List Fl} {S : List Int} {lb n : Nat} (hS : S.length = 49) : ((gmC ns fl S lb n).drop 42).take 4 = [.p (.int .i64 (vS S 0)), .p (.int .i64 (vS S 1)), .p (.int .i64 (vS S 2)), .p (.int .i64 (vS S 3))] := by
  have := gmC_take (ns := ns) (fl := fl) (lb := lb) (n := n) (S := S) 40 4 (by omega)
  rw [show 2 + 40 = 42 by rfl] at this
  rw [this, vS_cells hS]

def xorG (fl : List Fl) (S : List Int) (i : Int) (ins outs : List Int) : List Sp :=
  if outs.length = 1 then ins.flatMap fun f => moveG S ⟨i, f, 0, 0, 0, S⟩ [f] outs
  else if tk S (ins.headD 0) = 0 then []
  else if (chooseG fl (vS S) outs).2 ≠ 0 then [faultS S i (chooseG fl (vS S) outs).2]
  else moveG S ⟨i, (chooseG fl (vS S) outs).1, 0, 0, 0, S⟩ ins [(chooseG fl (vS S) outs).1]

theorem chF_in {fl : List Fl} {v : Int → Int} : ∀ {outs : List Int} {q : Int × Int}, chF fl v outs = some q → q.2 = 0 → q.1 ∈ outs
  | [], q, h, _ => by cases h
  | f :: r, q, h, h0 => by
    unfold chF at h
    split at h
    · exact List.mem_cons_of_mem _ (chF_in h h0)
    · split at h
      · exact List.mem_cons_of_mem _ (chF_in h h0)
      · split at h
        · cases h; contradiction
        · split at h
          · cases h; simp
          · exact List.mem_cons_of_mem _ (chF_in h h0)
theorem chE_in {fl : List Fl} : ∀ {outs : List Int}, (∃ f ∈ outs, elsAt fl f = true) → chE fl outs ∈ outs
  | [], h => by obtain ⟨f, hf, _⟩ := h; cases hf
  | f :: r, h => by
    unfold chE
    split
    · simp
    · rename_i hn
      obtain ⟨g, hg, he⟩ := h
      rcases List.mem_cons.mp hg with rfl | hg
      · exact absurd he hn
      · exact List.mem_cons_of_mem _ (chE_in ⟨g, hg, he⟩)
theorem chooseG_in {fl : List Fl} {v : Int → Int} {outs : List Int} (he : ∃ f ∈ outs, elsAt fl f = true) (h0 : (chooseG fl v outs).2 = 0) : (chooseG fl v outs).1 ∈ outs := by
  unfold chooseG at *
  cases hq : chF fl v outs with
  | none => rw [hq] at h0; exact chE_in he
  | some q => rw [hq] at h0; exact chF_in hq h0

end Go.Proofs.YtjpphhcimpclpaaDoor.AM
end

section
set_option linter.unusedVariables false
set_option linter.unusedSimpArgs false
set_option maxRecDepth 4000
set_option maxHeartbeats 4000000
namespace Go.Proofs.YtjpphhcimpclpaaDoor.AM
open Go Go.Proofs
set_option linter.defProp false in
attribute [local irreducible] awp aops aqops aeops arun arunT

def dataG (S : List Int) (k : Nd) (i : Int) (ins outs : List Int) : List Sp :=
  if tk S (ins.headD 0) = 0 then []
  else if k.kind = 3 then moveG S ⟨i, 0, 1, i, 0, S.set (40 + k.a.toNat) 0⟩ ins outs ++ moveG S ⟨i, 1, 1, i, 1, S.set (40 + k.a.toNat) 1⟩ ins outs
  else if (numR k.term (vS S)).2 ≠ 0 then [faultS S i (numR k.term (vS S)).2]
  else moveG S ⟨i, 0, 2, i, 0, S.set (40 + k.a.toNat) (numR k.term (vS S)).1⟩ ins outs

end Go.Proofs.YtjpphhcimpclpaaDoor.AM
end

section
set_option linter.unusedVariables false
set_option linter.unusedSimpArgs false
set_option maxRecDepth 4000
set_option maxHeartbeats 4000000
namespace Go.Proofs.YtjpphhcimpclpaaDoor.AM
open Go Go.Proofs
set_option linter.defProp false in
attribute [local irreducible] awp aops aqops aeops arun arunT

def lastG (S : List Int) (i : Int) (ins : List Int) : List Sp :=
  if sumW (S.take 40) = 1 then moveG S ⟨i, 0, 7, 0, 0, S.set 48 1⟩ ins [] else moveG S ⟨i, 0, 0, 0, 0, S⟩ ins []

def nodeG (ns : List Nd) (fl : List Fl) (S : List Int) (i : Nat) (k : Nd) : List Sp :=
  if k.kind = 2 then lastG S i (insN fl i)
  else if k.kind = 3 ∨ k.kind = 4 then dataG S k i (insN fl i) (outsN fl i)
  else if k.kind = 5 then xorG fl S i (insN fl i) (outsN fl i)
  else if k.kind = 6 then moveG S ⟨i, 0, 0, 0, 0, S⟩ (insN fl i) (outsN fl i)
  else if k.kind = 7 then (outsN fl i).flatMap fun f => catchG ns fl S i f (dstAt fl f) (insN fl i)
  else if k.kind = 8 then catchG ns fl S i 0 i (insN fl i)
  else []

theorem Right.kind {ns : List Nd} {fl : List Fl} (h : Right ns fl) {i : Nat} {k : Nd} (hc : ns[i]? = some k) : (1 ≤ k.kind ∧ k.kind ≤ 8) ∧ 0 ≤ k.a ∧ (k.kind = 3 ∨ k.kind = 4 → k.a < 4) ∧ k.a ≤ 4 := by
  have hi := (List.getElem?_eq_some_iff.mp hc).1
  have := h.b1 i hi
  unfold bad1 at this
  rw [hc] at this
  simp only [Bool.not_eq_false'] at this
  unfold oneB at this
  split at this
  · simp only [Bool.and_eq_true, decide_eq_true_eq] at this; omega
  · simp only [Bool.and_eq_true, decide_eq_true_eq] at this
    have hm : mostN k.kind ≤ 4 ∧ (k.kind = 3 → mostN k.kind = 3) := by unfold mostN; split <;> (try split) <;> omega
    omega
theorem Right.ins {ns : List Nd} {fl : List Fl} (h : Right ns fl) {i : Nat} {k : Nd} (hc : ns[i]? = some k) (h1 : k.kind ≠ 1) : insN fl i ≠ [] := by
  have hi := (List.getElem?_eq_some_iff.mp hc).1
  have := h.three hi
  unfold threeB at this
  simp only [kind_of hc, if_neg h1] at this
  intro e
  rw [e] at this
  simp only [List.length_nil] at this
  repeat' split at this
  all_goals simp at this
theorem Right.els {ns : List Nd} {fl : List Fl} (h : Right ns fl) {i : Nat} {k : Nd} (hc : ns[i]? = some k) (h5 : k.kind = 5) (hn : (outsN fl i).length ≠ 1) : ∃ f ∈ outsN fl i, elsAt fl f = true := by
  have hi := (List.getElem?_eq_some_iff.mp hc).1
  have := h.three hi
  unfold threeB at this
  simp only [kind_of hc, h5] at this
  simp only [Int.reduceEq, reduceIte, Bool.or_eq_true, Bool.and_eq_true, beq_iff_eq, decide_eq_true_eq] at this
  rcases this with h | h
  · have h2 := h.2
    unfold cntB at h2
    rw [List.take_length] at h2
    obtain ⟨f, hf, he⟩ := List.countP_pos_iff.mp (by omega : 0 < (outsN fl i).countP (elsAt fl))
    exact ⟨f, hf, he⟩
  · exact absurd h.2 hn
theorem outs_lt {fl : List Fl} (i : Int) : ∀ x ∈ outsN fl i, ∃ i : Nat, x = (i : Int) ∧ i < fl.length := by
  intro x hx
  obtain ⟨j, f, h1, rfl, h2, _⟩ := pickF_mem hx
  exact ⟨j, rfl, h1⟩

theorem nrmRows_eI (l : List Int) : nrmRows (l.map eI) = l.map eI := by
  rw [nrmRows_map, List.map_map]; rfl
end Go.Proofs.YtjpphhcimpclpaaDoor.AM
end

section
set_option linter.unusedVariables false
set_option linter.unusedSimpArgs false
set_option maxRecDepth 4000
set_option maxHeartbeats 4000000
namespace Go.Proofs.YtjpphhcimpclpaaDoor.AM
open Go Go.Proofs
set_option linter.defProp false in
attribute [local irreducible] awp aops aqops aeops arun arunT

def badT (n : Nat) (S : List Int) (i : Nat) : Bool := (decide (tk S i < 0) || decide (3 < tk S i)) || (decide ((n : Int) ≤ (i : Int)) && (tk S i != 0))
def badQ (S : List Int) (i : Nat) : Bool := decide (qAt S i < 0) || decide (3 < qAt S i)
def mdS (S : List Int) : Int := S.getD 48 0
def okS (n : Nat) (S : List Int) : Bool := ((List.range 40).all (fun i => !badT n S i) && (List.range 4).all (fun i => !badQ S i)) && (inV (vS S) && (decide (0 ≤ mdS S) && decide (mdS S ≤ 2)))
noncomputable def stC (ns : List Nd) (fl : List Fl) (S : List Int) : Int := if (netN ns fl).1 ≠ 0 then 4 else if okS fl.length S = true then 0 else 1

theorem at_get {S : List Int} (hS : S.length = 49) {k : Nat} (hk : k < 49) : S[k]? = some (S.getD k 0) := by
  rw [List.getD_eq_getElem?_getD, List.getElem?_eq_getElem (by omega)]; rfl
theorem vS_arr {S : List Int} (hS : S.length = 49) : ((S.map AV.i).drop 40).take 4 = [.p (.int .i64 (vS S 0)), .p (.int .i64 (vS S 1)), .p (.int .i64 (vS S 2)), .p (.int .i64 (vS S 3))] := by
  rw [← List.map_drop, ← List.map_take, vS_cells hS]

end Go.Proofs.YtjpphhcimpclpaaDoor.AM
end

section
set_option linter.unusedVariables false
set_option linter.unusedSimpArgs false
set_option maxRecDepth 4000
set_option maxHeartbeats 4000000
namespace Go.Proofs.YtjpphhcimpclpaaDoor.AM
open Go Go.Proofs
set_option linter.defProp false in
attribute [local irreducible] awp aops aqops aeops arun arunT

/-! ### The steps of the first nodes; of the first channels. -/
def nodesG (ns : List Nd) (fl : List Fl) (S : List Int) : Nat → List Sp
  | 0 => []
  | j + 1 => nodesG ns fl S j ++ (match ns[j]? with | some k => nodeG ns fl S j k | none => [])
def awaitsB (ns : List Nd) (m : Int) : Bool := ns.any fun k => k.kind == 8 && k.a == m
def sendG (ns : List Nd) (S : List Int) (m : Nat) : List Sp :=
  if awaitsB ns m = true ∧ qAt S m < 3 then moveG S ⟨-1, m, 5, 0, m, S.set (44 + m) (qAt S m + 1)⟩ [] [] else []
def sendsG (ns : List Nd) (S : List Int) : Nat → List Sp
  | 0 => []
  | m + 1 => sendsG ns S m ++ sendG ns S m
noncomputable def stepsG (ns : List Nd) (fl : List Fl) (S : List Int) : List Sp :=
  if stC ns fl S ≠ 0 ∨ mdS S ≠ 0 then [] else nodesG ns fl S ns.length ++ sendsG ns S 4

theorem pg_tail (h : Heap) (A B X Y : Option Blk) (L : Heap) (ns : List Nd) (fl : List Fl) (S : List Int) (l : List Sp) : putG (h ++ [A, B, X, Y]) (h.length + 2) (h.length + 3) ns fl S l ++ L = h ++ (A :: B :: gmB ns fl S (h.length + 3) l :: spB l :: L) := by
  unfold putG
  simp only [set_app, List.set_cons_succ, List.set_cons_zero, List.append_assoc, List.cons_append, List.nil_append]
theorem nodeG_len (ns : List Nd) (fl : List Fl) (S : List Int) (hf : fl.length ≤ 40) (i : Nat) (k : Nd) : (nodeG ns fl S i k).length ≤ 100 := by
  have hcl : ∀ f d fr, (catchG ns fl S i f d fr).length ≤ 1 := by
    intro f d fr
    unfold catchG
    split
    · split
      · simp
      · exact moveG_len _ _ _ _
    · exact moveG_len _ _ _ _
  have fm : ∀ (l : List Int) (g : Int → List Sp), (∀ x, (g x).length ≤ 1) → (l.flatMap g).length ≤ l.length := by
    intro l g hg
    induction l with
    | nil => simp
    | cons x r ih => rw [List.flatMap_cons, List.length_append, List.length_cons]; have := hg x; omega
  have hi := insN_le fl i
  have ho := outsN_le fl i
  have hm := fun x fr to => moveG_len S x fr to
  unfold nodeG
  split
  · unfold lastG; split <;> exact Nat.le_trans (hm _ _ _) (by omega)
  · split
    · unfold dataG
      repeat' split
      · simp
      · rw [List.length_append]
        have := hm ⟨i, 0, 1, i, 0, S.set (40 + k.a.toNat) 0⟩ (insN fl i) (outsN fl i)
        have := hm ⟨i, 1, 1, i, 1, S.set (40 + k.a.toNat) 1⟩ (insN fl i) (outsN fl i)
        omega
      · simp
      · exact Nat.le_trans (hm _ _ _) (by omega)
    · split
      · unfold xorG
        split
        · exact Nat.le_trans (fm _ _ fun x => hm _ _ _) (by omega)
        · repeat' split
          · simp
          · simp
          · exact Nat.le_trans (hm _ _ _) (by omega)
      · split
        · exact Nat.le_trans (hm _ _ _) (by omega)
        · split
          · exact Nat.le_trans (fm _ _ fun x => hcl _ _ _) (by omega)
          · split
            · exact Nat.le_trans (hcl _ _ _) (by omega)
            · simp
theorem nodeG_to {ns : List Nd} {fl : List Fl} {S : List Int} (hS : S.length = 49) (i : Nat) (k : Nd) : ∀ y ∈ nodeG ns fl S i k, y.to.length = 49 := by
  have hcl : ∀ f d fr, ∀ y ∈ catchG ns fl S i f d fr, y.to.length = 49 := by
    intro f d fr y hy
    unfold catchG at hy
    split at hy
    · split at hy
      · cases hy
      · exact moveG_to hS (by rw [List.length_set, hS]) y hy
    · exact moveG_to hS hS y hy
  have hst : ∀ (a : Nat) (v : Int), (S.set a v).length = 49 := fun a v => by rw [List.length_set, hS]
  have hfa : ∀ e, ∀ y ∈ [faultS S i e], y.to.length = 49 := by
    intro e y hy
    rw [List.mem_singleton.mp hy]; exact hst _ _
  intro y hy
  unfold nodeG at hy
  split at hy
  · unfold lastG at hy
    split at hy
    · exact moveG_to hS (hst _ _) y hy
    · exact moveG_to hS hS y hy
  · split at hy
    · unfold dataG at hy
      split at hy
      · cases hy
      · split at hy
        · rcases List.mem_append.mp hy with hy | hy <;> exact moveG_to hS (hst _ _) y hy
        · split at hy
          · exact hfa _ y hy
          · exact moveG_to hS (hst _ _) y hy
    · split at hy
      · unfold xorG at hy
        split at hy
        · obtain ⟨f, _, hy⟩ := List.mem_flatMap.mp hy
          exact moveG_to hS hS y hy
        · split at hy
          · cases hy
          · split at hy
            · exact hfa _ y hy
            · exact moveG_to hS hS y hy
      · split at hy
        · exact moveG_to hS hS y hy
        · split at hy
          · obtain ⟨f, _, hy⟩ := List.mem_flatMap.mp hy
            exact hcl _ _ _ y hy
          · split at hy
            · exact hcl _ _ _ y hy
            · cases hy
theorem nodesG_len (ns : List Nd) (fl : List Fl) (S : List Int) (hf : fl.length ≤ 40) : ∀ j, (nodesG ns fl S j).length ≤ 100 * j
  | 0 => by simp [nodesG]
  | j + 1 => by
    have := nodesG_len ns fl S hf j
    rw [nodesG, List.length_append]
    split
    · rename_i k _
      have := nodeG_len ns fl S hf j k
      omega
    · simp only [List.length_nil]; omega
theorem nodesG_to {ns : List Nd} {fl : List Fl} {S : List Int} (hS : S.length = 49) : ∀ j, ∀ y ∈ nodesG ns fl S j, y.to.length = 49
  | 0, y, hy => by simp [nodesG] at hy
  | j + 1, y, hy => by
    rw [nodesG] at hy
    rcases List.mem_append.mp hy with hy | hy
    · exact nodesG_to hS j y hy
    · split at hy
      · exact nodeG_to hS j _ y hy
      · cases hy
theorem sendsG_len (ns : List Nd) (S : List Int) : ∀ m, (sendsG ns S m).length ≤ m
  | 0 => by simp [sendsG]
  | m + 1 => by
    have := sendsG_len ns S m
    rw [sendsG, List.length_append]
    unfold sendG
    split
    · have := moveG_len S ⟨-1, m, 5, 0, m, S.set (44 + m) (qAt S m + 1)⟩ [] []
      omega
    · simp only [List.length_nil]; omega
theorem sendsG_to {ns : List Nd} {S : List Int} (hS : S.length = 49) : ∀ m, ∀ y ∈ sendsG ns S m, y.to.length = 49
  | 0, y, hy => by simp [sendsG] at hy
  | m + 1, y, hy => by
    rw [sendsG] at hy
    rcases List.mem_append.mp hy with hy | hy
    · exact sendsG_to hS m y hy
    · unfold sendG at hy
      split at hy
      · exact moveG_to hS (by rw [List.length_set, hS]) y hy
      · cases hy
theorem okS_st {n : Nat} {S : List Int} (hS : S.length = 49) (h : okS n S = true) : StOk S := by
  unfold okS at h
  simp only [Bool.and_eq_true, List.all_eq_true, List.mem_range, Bool.not_eq_true'] at h
  refine ⟨⟨hS, fun i x hi hx => ?_⟩, fun i x h44 h48 hx => ?_⟩
  · have := h.1.1 i hi
    unfold badT at this
    simp only [Bool.or_eq_false_iff, decide_eq_false_iff_not] at this
    have e := at_get hS (k := i) (by omega)
    rw [hx] at e
    have e2 : tk S (i : Int) = x := (Option.some.inj e).symm
    omega
  · have := h.1.2 (i - 44) (by omega)
    unfold badQ at this
    simp only [Bool.or_eq_false_iff, decide_eq_false_iff_not] at this
    have e := at_get hS (k := i) (by omega)
    rw [hx] at e
    have e2 : qAt S ((i - 44 : Nat) : Int) = x := by unfold qAt; rw [Int.toNat_natCast, show 44 + (i - 44) = i by omega]; exact (Option.some.inj e).symm
    omega
theorem eSp_ok (r : Sp) : ∀ x ∈ eSp r, x ≠ .nils := by
  intro x hx
  obtain ⟨n, _, rfl⟩ := List.mem_map.mp hx
  exact fun e => by cases e
theorem stC_zero {ns : List Nd} {fl : List Fl} {S : List Int} (h : stC ns fl S = 0) : (netN ns fl).1 = 0 ∧ okS fl.length S = true := by
  unfold stC at h
  split at h
  · cases h
  · rename_i h0
    split at h
    · rename_i h1; exact ⟨by simpa using h0, h1⟩
    · cases h
end Go.Proofs.YtjpphhcimpclpaaDoor.AM
end

section
set_option linter.unusedVariables false
set_option linter.unusedSimpArgs false
set_option maxRecDepth 4000
set_option maxHeartbeats 4000000
namespace Go.Proofs.YtjpphhcimpclpaaDoor.AM
open Go Go.Proofs
set_option linter.defProp false in
def TTTmA := And.intro T2 (And.intro T3 (And.intro T4 (And.intro T25 (And.intro T26 (And.intro T27 (And.intro T40 (And.intro T46 (And.intro T53 (And.intro T95 (And.intro T111 T113))))))))))
attribute [local irreducible] awp aops aqops aeops arun arunT
variable {G : Nat → Option (List PV)}

def takeF : List Int → List Int → List Int × Bool
  | [], S => (S, true)
  | f :: r, S => if tk S f - 1 < 0 then (S.set f.toNat (tk S f - 1), false) else takeF r (S.set f.toNat (tk S f - 1))
def giveF : List Int → List Int → List Int × Bool
  | [], S => (S, true)
  | f :: r, S => if 3 < tk S f + 1 then (S.set f.toNat (tk S f + 1), false) else giveF r (S.set f.toNat (tk S f + 1))
/-- The state in which tokens are moved, and whether they could be. -/
def mvF (S : List Int) (fr to : List Int) : List Int × Bool := if (takeF fr S).2 = true then giveF to (takeF fr S).1 else takeF fr S

theorem takeF_step {l T : List Int} {i : Nat} {f : Int} (h : l[i]? = some f) : takeF (l.drop i) T = if tk T f - 1 < 0 then (T.set f.toNat (tk T f - 1), false) else takeF (l.drop (i + 1)) (T.set f.toNat (tk T f - 1)) := by
  obtain ⟨hi, e⟩ := List.getElem?_eq_some_iff.mp h
  rw [List.drop_eq_getElem_cons hi, e]; rfl
theorem giveF_step {l T : List Int} {i : Nat} {f : Int} (h : l[i]? = some f) : giveF (l.drop i) T = if 3 < tk T f + 1 then (T.set f.toNat (tk T f + 1), false) else giveF (l.drop (i + 1)) (T.set f.toNat (tk T f + 1)) := by
  obtain ⟨hi, e⟩ := List.getElem?_eq_some_iff.mp h
  rw [List.drop_eq_getElem_cons hi, e]; rfl

def z49 : List PV := List.replicate 49 (.int .i64 0)
def zS : List Int := List.replicate 49 0
theorem TSz : tinfo Tryd.prog 29 = some ⟨.struct [(0, 40, 26), (40, 4, 27), (44, 4, 27), (48, 1, 3)], 49, 392, some z49⟩ := by rw [T29]; rfl
theorem z49_ne : (z49 = []) = False := by simp [z49]
theorem z49_map : z49.map AV.p = zS.map AV.i := rfl
theorem zS_len : zS.length = 49 := rfl

theorem purs_is (h : Heap) (n fuel : Nat) (S : List Int) : purs h n fuel (S.map AV.i) = some (S.map (PV.int .i64)) := by
  rw [← mapmap]
  exact purs_p h n fuel _ fun x hx => by obtain ⟨y, _, rfl⟩ := List.mem_map.mp hx; exact fun e => by cases e
theorem app_get1 {H : Heap} {b : Nat} {x : Option Blk} (h : H[b]? = some x) (L : Heap) : (H ++ L)[b]? = some x := by
  rw [List.getElem?_append_left (List.getElem?_eq_some_iff.mp h).1]; exact h

theorem moved_calls {H : Heap} {b lb n g : Nat} {ns : List Nd} {fl : List Fl} {S : List Int} (hb : H[b]? = some (some ⟨g, gmC ns fl S lb n⟩)) (hh : Held S) (fr to : List Int) (hfr : InF fr) (hto : InF to) :
    ACalls Tryd.prog G 81 [.ptr b g 0, aI fr, aI to] H (fun r h' => r = .tup [aS (mvF S fr to).1, .b (mvF S fr to).2] ∧ h' = H) := by
  have hS := hh.1
  have gl := gmC_len (ns := ns) (fl := fl) (lb := lb) (n := n) hS
  have t49 := gmC_state (ns := ns) (fl := fl) (lb := lb) (n := n) hS
  have hbL := app_get1 hb
  have hov := over_full (cs := S.map AV.i) (n := 49) (by rw [List.length_map, hS])
  have hzl : (zS.map AV.i).length = 49 := by rw [List.length_map]; rfl
  have hTl : ∀ T : List Int, T.length = 49 → ((T.map AV.i).take 49 = T.map AV.i) := fun T hT => List.take_of_length_le (by rw [List.length_map, hT]; exact Nat.le_refl _)
  have hto' : ∀ T : List Int, T.length = 49 → over (zS.map AV.i) 0 (T.map AV.i) = T.map AV.i := fun T hT => over_full (n := 49) (by rw [List.length_map, hT]) _ hzl
  have hso := hto' S hS
  have hem : (zS.map AV.i).isEmpty = false := rfl
  refine acalls_pure (rl := []) mixed Tryd.func81 rfl (rs := [.cell 6 29, .tmp 7]) rfl Tryd.ntmps81 (by simp) ?_
  repeat' (first | ((first | refine aops_nil ?_ | refine aqops_nil ?_); (try simp only [NB])) | ((repeat ((fail_if_success (refine hK _ ?_)); clear hK K)); refine hK _ ?_; clear hK K) | ((first | refine aops_k fun K1 hK1 => ?_ | refine aqops_k fun K1 hK1 => ?_ | refine awp_cond_k fun A B hA hB => ?_); simp only [S1, simprocAttr, TTTmA, TSz, z49_ne, z49_map, zS_len, t49, hov, hso, hem, hS, gl, hb, hbL, all_scalar, takeA_arr, takeA_st, List.length_map, List.length_take, List.length_drop]; first | (refine hK1 _ ?_; clear hK1 K1) | ((first | refine hA ?_ | refine hB ?_); clear hA hB A B) | (((first | (refine ⟨fun hg => hA ?_, fun hg => hB ?_⟩ <;> clear hA hB A B) | refine ⟨fun hg => ?_, fun hg => ?_⟩) <;> (try simp only [BN2] at hg) <;> (try simp only [hg, cond_true, cond_false])) <;> (try (refine hK1 _ ?_; clear hK1 K1)) <;> (try simp only [BN3] at hg))) | (refine awp_seq_k fun K hK => ?_) | ((first | refine awp_region ?_ | refine awp_draw (by kernel_rfl) ?_ | refine awp_block ?_ | refine awp_exit ?_ | refine awp_skip ?_ | refine awp_ret ?_); (try simp only [NB, simprocAttr])))
  refine awp_while (σ := Qt) (fun q => fr.length - q.i) 58 (fun q => [(19, .i q.i), (18, .i fr.length), (17, aI fr), (8, .ptr (H.length + 1) 0 0), (6, .ptr H.length 0 0), (2, aI to)]) (fun q => [some ⟨0, zS.map AV.i⟩, some ⟨0, q.T.map AV.i⟩])
    (fun q => q.i ≤ fr.length ∧ Held q.T ∧ takeF fr S = takeF (fr.drop q.i) q.T) ⟨0, S⟩ ?_ ⟨Nat.zero_le _, hh, rfl⟩ fun q hq K hK => ?_
  · refine ⟨rfl, ⟨[], by simp only [List.append_nil]⟩, ?_, avlts_is _ _, avlts_is _ _, trivial⟩
    simp only [keeps, avlt, avlts, blksLt, frL, upd_get, S1, simprocAttr, List.length_map, Int.natCast_zero, AV.p.injEq, PV.int.injEq, PV.bool.injEq, PV.sl.injEq] <;> (try and_intros) <;> (try assumption) <;> (try trivial) <;> (try omega)
  obtain ⟨i, T⟩ := q
  obtain ⟨hi, hT, hrun⟩ := hq
  simp only at hi hT hrun
  have hTlen := hT.1
  rcases Nat.lt_or_ge i fr.length with hlt | hge
  · obtain ⟨f, hf⟩ : ∃ f, fr[i]? = some f := ⟨_, List.getElem?_eq_getElem hlt⟩
    obtain ⟨f0, f40⟩ := hfr.2 f (List.mem_of_getElem? hf)
    obtain ⟨k, rfl⟩ := Int.eq_ofNat_of_zero_le f0
    have k40 : k < 40 := by omega
    obtain ⟨hv, v0, v3⟩ := hT.at k40
    rw [takeF_step hf] at hrun
    have hdr := dropI hv
    have hse := fun v => setI_c T k v
    have hln : ∀ v, (T.set k v).length = 49 := fun v => by rw [List.length_set, hTlen]
    have hk49 : k + 1 ≤ 49 := by omega
    generalize hvv : tk T (k : Int) = v at *
    have hw : IntKind.i64.wrap (v - 1) = v - 1 := IntWalk.i64_in _ (by omega)
    have hv2 : (T.set k (v - 1))[k]? = some (v - 1) := by rw [List.getElem?_set]; simp; omega
    have hdr2 := dropI hv2
    have hs2 := hto' _ (hln (v - 1))
    have ht2 := hTl _ (hln (v - 1))
    rw [Int.toNat_natCast] at hrun
    by_cases h1 : v - 1 < 0
    · have h1' : decide (v - 1 < 0) = true := decide_eq_true h1
      rw [if_pos h1] at hrun
      have em : mvF S fr to = (T.set k (v - 1), false) := by unfold mvF; rw [hrun]; rfl
      rw [em]
      repeat' (first | ((first | refine aops_nil ?_ | refine aqops_nil ?_); (try simp only [NB])) | ((repeat ((fail_if_success (refine hK _ ?_)); clear hK K)); refine hK _ ?_; clear hK K) | ((first | refine aops_k fun K1 hK1 => ?_ | refine aqops_k fun K1 hK1 => ?_ | refine awp_cond_k fun A B hA hB => ?_); simp only [S1, simprocAttr, TTTmA, rowI hf, hitI hlt, nextI (by have := hfr.1; omega) hlt, f0, f40, hdr, hse, hw, h1', hdr2, hln, hs2, ht2, hk49, TSz, z49_ne, z49_map, zS_len, hem, hTlen, all_scalar, takeA_arr, takeA_st, List.length_map, List.length_take, List.length_drop, Nat.mul_one, Nat.zero_add, Nat.add_zero, Int.toNat_natCast]; first | (refine hK1 _ ?_; clear hK1 K1) | ((first | refine hA ?_ | refine hB ?_); clear hA hB A B) | (((first | (refine ⟨fun hg => hA ?_, fun hg => hB ?_⟩ <;> clear hA hB A B) | refine ⟨fun hg => ?_, fun hg => ?_⟩) <;> (try simp only [BN2] at hg) <;> (try simp only [hg, cond_true, cond_false])) <;> (try (refine hK1 _ ?_; clear hK1 K1)) <;> (try simp only [BN3] at hg))) | (refine awp_seq_k fun K hK => ?_) | ((first | refine awp_region ?_ | refine awp_draw (by kernel_rfl) ?_ | refine awp_block ?_ | refine awp_exit ?_ | refine awp_skip ?_ | refine awp_ret ?_); (try simp only [NB, simprocAttr])))
      all_goals simp only [EndP, FinP, resA, resL, resA1, lastV, lastA, lastAs, pur, purs, take_app, List.take_length, S1, simprocAttr, TTTmA, Nat.le_add_right, Nat.le_refl, hln, ht2, hse, List.length_map, TSz, takeA_st, purs_is, mapmap]
    · have h1' : decide (v - 1 < 0) = false := decide_eq_false h1
      rw [if_neg h1] at hrun
      repeat' (first | ((first | refine aops_nil ?_ | refine aqops_nil ?_); (try simp only [NB])) | ((repeat ((fail_if_success (refine hK _ ?_)); clear hK K)); refine hK _ ?_; clear hK K) | ((first | refine aops_k fun K1 hK1 => ?_ | refine aqops_k fun K1 hK1 => ?_ | refine awp_cond_k fun A B hA hB => ?_); simp only [S1, simprocAttr, TTTmA, rowI hf, hitI hlt, nextI (by have := hfr.1; omega) hlt, f0, f40, hdr, hse, hw, h1', hdr2, hln, hs2, ht2, hk49, TSz, z49_ne, z49_map, zS_len, hem, hTlen, all_scalar, takeA_arr, takeA_st, List.length_map, List.length_take, List.length_drop, Nat.mul_one, Nat.zero_add, Nat.add_zero, Int.toNat_natCast]; first | (refine hK1 _ ?_; clear hK1 K1) | ((first | refine hA ?_ | refine hB ?_); clear hA hB A B) | (((first | (refine ⟨fun hg => hA ?_, fun hg => hB ?_⟩ <;> clear hA hB A B) | refine ⟨fun hg => ?_, fun hg => ?_⟩) <;> (try simp only [BN2] at hg) <;> (try simp only [hg, cond_true, cond_false])) <;> (try (refine hK1 _ ?_; clear hK1 K1)) <;> (try simp only [BN3] at hg))) | (refine awp_seq_k fun K hK => ?_) | ((first | refine awp_region ?_ | refine awp_draw (by kernel_rfl) ?_ | refine awp_block ?_ | refine awp_exit ?_ | refine awp_skip ?_ | refine awp_ret ?_); (try simp only [NB, simprocAttr])))
      all_goals refine ⟨⟨i + 1, T.set k (v - 1)⟩, by simp only; omega, ⟨hlt, hT.set k40 (by omega) (by omega), hrun⟩, ?_⟩
      all_goals refine ⟨rfl, ⟨_, rfl⟩, ?_, avlts_is _ _, avlts_is _ _, trivial⟩
      all_goals simp only [keeps, avlt, avlts, blksLt, frL, upd_get, S1, simprocAttr, List.length_map, Int.natCast_zero, AV.p.injEq, PV.int.injEq, PV.bool.injEq, PV.sl.injEq] <;> (try and_intros) <;> (try assumption) <;> (try trivial) <;> (try omega)
  · obtain rfl : i = fr.length := by omega
    rw [List.drop_length] at hrun
    have em : mvF S fr to = giveF to T := by unfold mvF; rw [hrun]; rfl
    rw [em]
    repeat' (first | ((first | refine aops_nil ?_ | refine aqops_nil ?_); (try simp only [NB])) | ((repeat ((fail_if_success (refine hK _ ?_)); clear hK K)); refine hK _ ?_; clear hK K) | ((first | refine aops_k fun K1 hK1 => ?_ | refine aqops_k fun K1 hK1 => ?_ | refine awp_cond_k fun A B hA hB => ?_); simp only [S1, simprocAttr, TTTmA, endI]; first | (refine hK1 _ ?_; clear hK1 K1) | ((first | refine hA ?_ | refine hB ?_); clear hA hB A B) | (((first | (refine ⟨fun hg => hA ?_, fun hg => hB ?_⟩ <;> clear hA hB A B) | refine ⟨fun hg => ?_, fun hg => ?_⟩) <;> (try simp only [BN2] at hg) <;> (try simp only [hg, cond_true, cond_false])) <;> (try (refine hK1 _ ?_; clear hK1 K1)) <;> (try simp only [BN3] at hg))) | (refine awp_seq_k fun K hK => ?_) | ((first | refine awp_region ?_ | refine awp_draw (by kernel_rfl) ?_ | refine awp_block ?_ | refine awp_exit ?_ | refine awp_skip ?_ | refine awp_ret ?_); (try simp only [NB, simprocAttr])))
    refine awp_while (σ := Qt) (fun q => to.length - q.i) 58 (fun q => [(39, .i q.i), (38, .i to.length), (37, aI to), (8, .ptr (H.length + 1) 0 0), (6, .ptr H.length 0 0)]) (fun q => [some ⟨0, zS.map AV.i⟩, some ⟨0, q.T.map AV.i⟩])
      (fun q => q.i ≤ to.length ∧ Held q.T ∧ giveF to T = giveF (to.drop q.i) q.T) ⟨0, T⟩ ?_ ⟨Nat.zero_le _, hT, rfl⟩ fun q hq K hK => ?_
    · refine ⟨rfl, ⟨[], by simp only [List.append_nil]⟩, ?_, avlts_is _ _, avlts_is _ _, trivial⟩
      simp only [keeps, avlt, avlts, blksLt, frL, upd_get, S1, simprocAttr, List.length_map, Int.natCast_zero, AV.p.injEq, PV.int.injEq, PV.bool.injEq, PV.sl.injEq] <;> (try and_intros) <;> (try assumption) <;> (try trivial) <;> (try omega)
    obtain ⟨j, U⟩ := q
    obtain ⟨hj, hU, hrun2⟩ := hq
    simp only at hj hU hrun2
    have hUlen := hU.1
    rcases Nat.lt_or_ge j to.length with hlt | hge
    · obtain ⟨f, hf⟩ : ∃ f, to[j]? = some f := ⟨_, List.getElem?_eq_getElem hlt⟩
      obtain ⟨f0, f40⟩ := hto.2 f (List.mem_of_getElem? hf)
      obtain ⟨k, rfl⟩ := Int.eq_ofNat_of_zero_le f0
      have k40 : k < 40 := by omega
      obtain ⟨hv, v0, v3⟩ := hU.at k40
      rw [giveF_step hf] at hrun2
      have hdr := dropI hv
      have hse := fun v => setI_c U k v
      have hln : ∀ v, (U.set k v).length = 49 := fun v => by rw [List.length_set, hUlen]
      have hk49 : k + 1 ≤ 49 := by omega
      generalize hvv : tk U (k : Int) = v at *
      have hw : IntKind.i64.wrap (v + 1) = v + 1 := IntWalk.i64_in _ (by omega)
      have hv2 : (U.set k (v + 1))[k]? = some (v + 1) := by rw [List.getElem?_set]; simp; omega
      have hdr2 := dropI hv2
      have hs2 := hto' _ (hln (v + 1))
      have ht2 := hTl _ (hln (v + 1))
      rw [Int.toNat_natCast] at hrun2
      by_cases h1 : 3 < v + 1
      · have h1' : decide (3 < v + 1) = true := decide_eq_true h1
        rw [if_pos h1] at hrun2
        repeat' (first | ((first | refine aops_nil ?_ | refine aqops_nil ?_); (try simp only [NB])) | ((repeat ((fail_if_success (refine hK _ ?_)); clear hK K)); refine hK _ ?_; clear hK K) | ((first | refine aops_k fun K1 hK1 => ?_ | refine aqops_k fun K1 hK1 => ?_ | refine awp_cond_k fun A B hA hB => ?_); simp only [S1, simprocAttr, TTTmA, rowI hf, hitI hlt, nextI (by have := hto.1; omega) hlt, f0, f40, hdr, hse, hw, h1', hdr2, hln, hs2, ht2, hk49, TSz, z49_ne, z49_map, zS_len, hem, hUlen, all_scalar, takeA_arr, takeA_st, List.length_map, List.length_take, List.length_drop, Nat.mul_one, Nat.zero_add, Nat.add_zero, Int.toNat_natCast]; first | (refine hK1 _ ?_; clear hK1 K1) | ((first | refine hA ?_ | refine hB ?_); clear hA hB A B) | (((first | (refine ⟨fun hg => hA ?_, fun hg => hB ?_⟩ <;> clear hA hB A B) | refine ⟨fun hg => ?_, fun hg => ?_⟩) <;> (try simp only [BN2] at hg) <;> (try simp only [hg, cond_true, cond_false])) <;> (try (refine hK1 _ ?_; clear hK1 K1)) <;> (try simp only [BN3] at hg))) | (refine awp_seq_k fun K hK => ?_) | ((first | refine awp_region ?_ | refine awp_draw (by kernel_rfl) ?_ | refine awp_block ?_ | refine awp_exit ?_ | refine awp_skip ?_ | refine awp_ret ?_); (try simp only [NB, simprocAttr])))
        all_goals simp only [EndP, FinP, resA, resL, resA1, lastV, lastA, lastAs, pur, purs, take_app, List.take_length, S1, simprocAttr, TTTmA, Nat.le_add_right, Nat.le_refl, hln, ht2, hse, List.length_map, TSz, takeA_st, purs_is, mapmap]
        all_goals simp only [em, hrun2]
      · have h1' : decide (3 < v + 1) = false := decide_eq_false h1
        rw [if_neg h1] at hrun2
        repeat' (first | ((first | refine aops_nil ?_ | refine aqops_nil ?_); (try simp only [NB])) | ((repeat ((fail_if_success (refine hK _ ?_)); clear hK K)); refine hK _ ?_; clear hK K) | ((first | refine aops_k fun K1 hK1 => ?_ | refine aqops_k fun K1 hK1 => ?_ | refine awp_cond_k fun A B hA hB => ?_); simp only [S1, simprocAttr, TTTmA, rowI hf, hitI hlt, nextI (by have := hto.1; omega) hlt, f0, f40, hdr, hse, hw, h1', hdr2, hln, hs2, ht2, hk49, TSz, z49_ne, z49_map, zS_len, hem, hUlen, all_scalar, takeA_arr, takeA_st, List.length_map, List.length_take, List.length_drop, Nat.mul_one, Nat.zero_add, Nat.add_zero, Int.toNat_natCast]; first | (refine hK1 _ ?_; clear hK1 K1) | ((first | refine hA ?_ | refine hB ?_); clear hA hB A B) | (((first | (refine ⟨fun hg => hA ?_, fun hg => hB ?_⟩ <;> clear hA hB A B) | refine ⟨fun hg => ?_, fun hg => ?_⟩) <;> (try simp only [BN2] at hg) <;> (try simp only [hg, cond_true, cond_false])) <;> (try (refine hK1 _ ?_; clear hK1 K1)) <;> (try simp only [BN3] at hg))) | (refine awp_seq_k fun K hK => ?_) | ((first | refine awp_region ?_ | refine awp_draw (by kernel_rfl) ?_ | refine awp_block ?_ | refine awp_exit ?_ | refine awp_skip ?_ | refine awp_ret ?_); (try simp only [NB, simprocAttr])))
        all_goals refine ⟨⟨j + 1, U.set k (v + 1)⟩, by simp only; omega, ⟨hlt, hU.set k40 (by omega) (by omega), hrun2⟩, ?_⟩
        all_goals refine ⟨rfl, ⟨_, rfl⟩, ?_, avlts_is _ _, avlts_is _ _, trivial⟩
        all_goals simp only [keeps, avlt, avlts, blksLt, frL, upd_get, S1, simprocAttr, List.length_map, Int.natCast_zero, AV.p.injEq, PV.int.injEq, PV.bool.injEq, PV.sl.injEq] <;> (try and_intros) <;> (try assumption) <;> (try trivial) <;> (try omega)
    · obtain rfl : j = to.length := by omega
      rw [List.drop_length] at hrun2
      have ht2 := hTl _ hUlen
      have hs2 := hto' _ hUlen
      repeat' (first | ((first | refine aops_nil ?_ | refine aqops_nil ?_); (try simp only [NB])) | ((repeat ((fail_if_success (refine hK _ ?_)); clear hK K)); refine hK _ ?_; clear hK K) | ((first | refine aops_k fun K1 hK1 => ?_ | refine aqops_k fun K1 hK1 => ?_ | refine awp_cond_k fun A B hA hB => ?_); simp only [S1, simprocAttr, TTTmA, endI, hs2, ht2, TSz, z49_ne, z49_map, zS_len, hem, hUlen, all_scalar, takeA_arr, takeA_st, List.length_map, List.length_take, List.length_drop, Nat.mul_one, Nat.zero_add, Nat.add_zero, Int.toNat_natCast]; first | (refine hK1 _ ?_; clear hK1 K1) | ((first | refine hA ?_ | refine hB ?_); clear hA hB A B) | (((first | (refine ⟨fun hg => hA ?_, fun hg => hB ?_⟩ <;> clear hA hB A B) | refine ⟨fun hg => ?_, fun hg => ?_⟩) <;> (try simp only [BN2] at hg) <;> (try simp only [hg, cond_true, cond_false])) <;> (try (refine hK1 _ ?_; clear hK1 K1)) <;> (try simp only [BN3] at hg))) | (refine awp_seq_k fun K hK => ?_) | ((first | refine awp_region ?_ | refine awp_draw (by kernel_rfl) ?_ | refine awp_block ?_ | refine awp_exit ?_ | refine awp_skip ?_ | refine awp_ret ?_); (try simp only [NB, simprocAttr])))
      all_goals simp only [EndP, FinP, resA, resL, resA1, lastV, lastA, lastAs, pur, purs, take_app, List.take_length, S1, simprocAttr, TTTmA, Nat.le_add_right, Nat.le_refl, ht2, hUlen, List.length_map, TSz, takeA_st, purs_is, mapmap]
      all_goals simp only [em, hrun2, giveF]
end Go.Proofs.YtjpphhcimpclpaaDoor.AM
end

section
set_option linter.unusedVariables false
set_option linter.unusedSimpArgs false
set_option maxRecDepth 4000
set_option maxHeartbeats 4000000
namespace Go.Proofs.YtjpphhcimpclpaaDoor.AM
open Go Go.Proofs
set_option linter.defProp false in
def TTTmB := And.intro T2 (And.intro T3 (And.intro T4 (And.intro T25 (And.intro T26 (And.intro T27 (And.intro T40 (And.intro T46 (And.intro T53 (And.intro T95 (And.intro T98 (And.intro T111 (And.intro T113 T117))))))))))))
attribute [local irreducible] awp aops aqops aeops arun arunT
variable {G : Nat → Option (List PV)}

theorem takeF_len : ∀ (l S : List Int), (takeF l S).1.length = S.length
  | [], S => rfl
  | f :: r, S => by
    unfold takeF
    split
    · simp
    · rw [takeF_len r]; simp
theorem giveF_len : ∀ (l S : List Int), (giveF l S).1.length = S.length
  | [], S => rfl
  | f :: r, S => by
    unfold giveF
    split
    · simp
    · rw [giveF_len r]; simp
theorem mvF_len (S fr to : List Int) : (mvF S fr to).1.length = S.length := by
  unfold mvF
  split
  · rw [giveF_len, takeF_len]
  · rw [takeF_len]

theorem joinS_set {S X : List Int} (hS : S.length = 49) {k : Nat} (hk : k < 40) (v : Int) : (joinS S X).set k v = joinS (S.set k v) X := by
  unfold joinS
  rw [List.set_append_left _ _ (by rw [List.length_take]; omega), List.take_set]
theorem joinS_tkI {S X : List Int} (hS : S.length = 49) {k : Nat} (hk : k < 40) : tk (joinS S X) k = tk S k := by
  unfold tk joinS
  rw [Int.toNat_natCast, List.getD_eq_getElem?_getD, List.getElem?_append_left (by rw [List.length_take]; omega), List.getElem?_take_of_lt (by omega), ← List.getD_eq_getElem?_getD]
theorem runO_cons (step : List Int → Int → Option (List Int)) (f : Int) (r S : List Int) : runO step (f :: r) S = (step S f).bind (runO step r) := by
  unfold runO; rw [List.foldlM_cons]; rfl
theorem runT_join {X : List Int} : ∀ {l S : List Int}, S.length = 49 → InF l → runO stepT l (joinS S X) = if (takeF l S).2 = true then some (joinS (takeF l S).1 X) else none
  | [], S, _, _ => rfl
  | f :: r, S, hS, h => by
    obtain ⟨f0, f40⟩ := h.2 f (by simp)
    obtain ⟨k, rfl⟩ := Int.eq_ofNat_of_zero_le f0
    have k40 : k < 40 := by omega
    have ih := runT_join (X := X) (l := r) (S := S.set k (tk S k - 1)) (by rw [List.length_set, hS]) ⟨by have := h.1; simp at this; omega, fun g hg => h.2 g (by simp [hg])⟩
    have e : stepT (joinS S X) (k : Int) = if tk S k < 1 then none else some (joinS (S.set k (tk S k - 1)) X) := by
      unfold stepT; rw [joinS_tkI hS k40, Int.toNat_natCast, joinS_set hS k40]
    rw [runO_cons, e]
    by_cases h1 : tk S k < 1
    · have e2 : takeF ((k : Int) :: r) S = (S.set k (tk S k - 1), false) := by
        unfold takeF; rw [if_pos (by omega), Int.toNat_natCast]
      rw [if_pos h1, e2]; rfl
    · have e2 : takeF ((k : Int) :: r) S = takeF r (S.set k (tk S k - 1)) := by
        conv => lhs; unfold takeF
        rw [if_neg (by omega), Int.toNat_natCast]
      rw [if_neg h1, e2]; exact ih
theorem runP_join {X : List Int} : ∀ {l S : List Int}, S.length = 49 → InF l → runO stepP l (joinS S X) = if (giveF l S).2 = true then some (joinS (giveF l S).1 X) else none
  | [], S, _, _ => rfl
  | f :: r, S, hS, h => by
    obtain ⟨f0, f40⟩ := h.2 f (by simp)
    obtain ⟨k, rfl⟩ := Int.eq_ofNat_of_zero_le f0
    have k40 : k < 40 := by omega
    have ih := runP_join (X := X) (l := r) (S := S.set k (tk S k + 1)) (by rw [List.length_set, hS]) ⟨by have := h.1; simp at this; omega, fun g hg => h.2 g (by simp [hg])⟩
    have e : stepP (joinS S X) (k : Int) = if 2 < tk S k then none else some (joinS (S.set k (tk S k + 1)) X) := by
      unfold stepP; rw [joinS_tkI hS k40, Int.toNat_natCast, joinS_set hS k40]
    rw [runO_cons, e]
    by_cases h1 : 2 < tk S k
    · have e2 : giveF ((k : Int) :: r) S = (S.set k (tk S k + 1), false) := by
        unfold giveF; rw [if_pos (by omega), Int.toNat_natCast]
      rw [if_pos h1, e2]; rfl
    · have e2 : giveF ((k : Int) :: r) S = giveF r (S.set k (tk S k + 1)) := by
        conv => lhs; unfold giveF
        rw [if_neg (by omega), Int.toNat_natCast]
      rw [if_neg h1, e2]; exact ih

/-- The steps that the program adds. -/
def stF (S : List Int) (m : Sp) (chg : List Int → List Int) (fr to : List Int) : List Sp := if (mvF S fr to).2 = true then [{ m with to := chg (mvF S fr to).1 }] else []

/-- What changes the rest of a state alone. -/
def Chg (S : List Int) (chg : List Int → List Int) (X : List Int) : Prop := X.length = 49 ∧ ∀ T : List Int, T.length = 49 → T.drop 40 = S.drop 40 → chg T = joinS T X

theorem set_drop40 {S : List Int} {k : Nat} (hk : k < 40) (v : Int) : (S.set k v).drop 40 = S.drop 40 := List.drop_set_of_lt hk
theorem takeF_drop : ∀ {l S : List Int}, InF l → (takeF l S).1.drop 40 = S.drop 40
  | [], S, _ => rfl
  | f :: r, S, h => by
    obtain ⟨f0, f40⟩ := h.2 f (by simp)
    have k40 : f.toNat < 40 := by omega
    unfold takeF
    split
    · exact set_drop40 k40 _
    · rw [takeF_drop (l := r) ⟨by have := h.1; simp at this; omega, fun g hg => h.2 g (by simp [hg])⟩]; exact set_drop40 k40 _
theorem giveF_drop : ∀ {l S : List Int}, InF l → (giveF l S).1.drop 40 = S.drop 40
  | [], S, _ => rfl
  | f :: r, S, h => by
    obtain ⟨f0, f40⟩ := h.2 f (by simp)
    have k40 : f.toNat < 40 := by omega
    unfold giveF
    split
    · exact set_drop40 k40 _
    · rw [giveF_drop (l := r) ⟨by have := h.1; simp at this; omega, fun g hg => h.2 g (by simp [hg])⟩]; exact set_drop40 k40 _

theorem stF_move {S X : List Int} (hS : S.length = 49) {m : Sp} {chg : List Int → List Int} (hc : Chg S chg X) {fr to : List Int} (hf : InF fr) (ht : InF to) : stF S m chg fr to = moveG S { m with to := X } fr to := by
  unfold stF moveG
  simp only
  rw [runT_join hS hf]
  have l1 : (takeF fr S).1.length = 49 := by rw [takeF_len, hS]
  have d1 := takeF_drop (S := S) hf
  unfold mvF
  cases h1 : (takeF fr S).2 with
  | false => simp [h1]
  | true =>
    have d2 := giveF_drop (S := (takeF fr S).1) ht
    simp only [if_true]
    rw [runP_join l1 ht]
    cases h2 : (giveF to (takeF fr S).1).2 with
    | false => simp
    | true =>
      simp only [if_true]
      rw [hc.2 _ (by rw [giveF_len, l1]) (by rw [d2, d1])]

theorem joinS_same {T X : List Int} (h : T.drop 40 = X.drop 40) : joinS T X = T := by unfold joinS; rw [← h, List.take_append_drop]
theorem Chg.id {S : List Int} (hS : S.length = 49) : Chg S (fun T => T) S := ⟨hS, fun T _ hd => (joinS_same hd).symm⟩
theorem Chg.set {S : List Int} (hS : S.length = 49) {k : Nat} (hk : 40 ≤ k) (v : Int) : Chg S (fun T => T.set k v) (S.set k v) := by
  refine ⟨by rw [List.length_set, hS], fun T hT hd => ?_⟩
  unfold joinS
  simp only
  rw [List.drop_set, if_neg (by omega), ← hd]
  conv => lhs; rw [← List.take_append_drop 40 T]
  rw [List.set_append_right _ _ (by rw [List.length_take]; omega), List.length_take, Nat.min_eq_left (by omega)]

/-- A move as it is handed on: without a state. -/
abbrev aMv (m : Sp) : AV := .agg [.i m.node, .i m.arg, .i m.lk, .i m.ln, .i m.la]

theorem step_nil {h : Heap} {b lb : Nat} {ns : List Nd} {fl : List Fl} {S : List Int} {l : List Sp} (ok : GmOk h b lb S l) (m : Sp) (fr to : List Int) (hfr : InF fr) (hto : InF to) :
    ACalls Tryd.prog G 51 [.ptr b 0 0, aMv m, aI fr, aI to, .p .nilf] (putG h b lb ns fl S l) (fun r h' => r = .undef ∧ h' = putG h b lb ns fl S (l ++ stF S m (fun T => T) fr to)) := by
  have hb := ok.hb
  have hl := ok.hl
  have hne := ok.ne
  have hS := ok.held.1
  have hmax : l.length + 1 ≤ maxCount := by have := ok.few; unfold maxCount; omega
  have gl := gmC_len (ns := ns) (fl := fl) (lb := lb) (n := l.length) hS
  have hmv := fun L => moved_calls (G := G) (H := putG h b lb ns fl S l ++ L) (pg_b hb hne L) ok.held fr to hfr hto
  have hT : (mvF S fr to).1.length = 49 := by rw [mvF_len, hS]
  have hzl : (zS.map AV.i).length = 49 := by rw [List.length_map]; rfl
  have hem : (zS.map AV.i).isEmpty = false := rfl
  have hsF : stF S m (fun T => T) fr to = if (mvF S fr to).2 = true then [{ m with to := (mvF S fr to).1 }] else [] := rfl
  generalize (mvF S fr to).1 = T at *
  have hso : over (zS.map AV.i) 0 (T.map AV.i) = T.map AV.i := over_full (n := 49) (by rw [List.length_map, hT]) _ hzl
  have hTt : ((T.map AV.i).take 49 = T.map AV.i) := List.take_of_length_le (by rw [List.length_map, hT]; exact Nat.le_refl _)
  have htl := over_tail hT
  have hx : ({ m with to := T } : Sp).to.length = 49 := hT
  have hln : (cSp { m with to := T }).length = 54 := cSp_len hx
  have heq : (AV.p (.int .i64 m.node) :: .p (.int .i64 m.arg) :: .p (.int .i64 m.lk) :: .p (.int .i64 m.ln) :: .p (.int .i64 m.la) :: T.map AV.i) = (cSp { m with to := T }).map AV.i := rfl
  have hov2 := over_full (cs := (cSp { m with to := T }).map AV.i) (n := 54) (by rw [List.length_map, hln])
  have hpv := pvs_is (cSp { m with to := T })
  have hti : ((cSp { m with to := T }).map (PV.int .i64)).take 54 = (cSp { m with to := T }).map (PV.int .i64) := List.take_of_length_le (by rw [List.length_map, hln]; exact Nat.le_refl _)
  have hmm := mapmap (cSp { m with to := T })
  have hsl := cSps_len ok.len
  have hrf := gmC_ref (ns := ns) (fl := fl) (lb := lb) (n := l.length) hS
  have hgs := gmC_set (ns := ns) (fl := fl) (lb := lb) (n := l.length) (m := l.length + 1) hS
  have hgb := pg_gb (ns := ns) (fl := fl) (S := S) (l := l) hb hne
  have hfn : ∀ L : Heap, ((putG h b lb ns fl S l ++ L).set lb (some ⟨l.length + 1, cSps l ++ (cSp { m with to := T }).map AV.i⟩)).set b (some ⟨0, gmC ns fl S lb (l.length + 1)⟩) = putG h b lb ns fl S (l ++ [{ m with to := T }]) ++ L := fun L => by
    have := pg_fin (ns := ns) (fl := fl) (S := S) (l := l) (l' := l ++ [{ m with to := T }]) hb hl hne L
    simpa only [spB, gmB, List.length_append, List.length_cons, List.length_nil, Nat.zero_add, cSps_app] using this
  rw [hsF]
  cases hq : (mvF S fr to).2 with
  | false =>
    simp only [hq, if_false, List.append_nil, Bool.false_eq_true] at hmv ⊢
    refine acalls_heap (rl := []) mixed Tryd.func51 rfl (rs := []) rfl Tryd.ntmps51 (by simp) ?_
    repeat' (first | ((first | refine aops_nil ?_ | refine aqops_nil ?_); (try simp only [NB])) | ((repeat ((fail_if_success (refine hK _ ?_)); clear hK K)); refine hK _ ?_; clear hK K) | ((first | refine aops_k fun K1 hK1 => ?_ | refine aqops_k fun K1 hK1 => ?_ | refine awp_cond_k fun A B hA hB => ?_); simp only [S1, simprocAttr, TTTmB, TSz, z49_ne, z49_map, zS_len, hem, hso, hT, hTt, htl, all_scalar, pg_b hb hne, pg_lb hl, pg_b0 hb hne, pg_lb0 hl, takeA_arr, takeA_st, List.length_map, List.length_take, List.length_drop, List.length_cons, List.length_nil, pg_len, pg_get0, pg_geti, pg_set0, pg_seti, Nat.mul_one, Nat.zero_add, Nat.add_zero, Int.toNat_natCast]; first | (refine hK1 _ ?_; clear hK1 K1) | ((first | refine hA ?_ | refine hB ?_); clear hA hB A B) | ((first | apply call_a E81 | apply call_q E81); exact (hmv _); (refine hK1 _ ?_; clear hK1 K1)) | (((first | (refine ⟨fun hg => hA ?_, fun hg => hB ?_⟩ <;> clear hA hB A B) | refine ⟨fun hg => ?_, fun hg => ?_⟩) <;> (try simp only [BN2] at hg) <;> (try simp only [hg, cond_true, cond_false])) <;> (try (refine hK1 _ ?_; clear hK1 K1)) <;> (try simp only [BN3] at hg))) | (refine awp_seq_k fun K hK => ?_) | ((first | refine awp_region ?_ | refine awp_draw (by kernel_rfl) ?_ | refine awp_block ?_ | refine awp_exit ?_ | refine awp_skip ?_ | refine awp_ret ?_); (try simp only [NB, simprocAttr])))
    all_goals simp only [EndH, FinH, resA, resL, resA1, lastV, lastA, lastAs, pur, purs, pg_len, pg_take, pg_take0, List.length_append, List.length_cons, List.length_nil, S1, simprocAttr, Nat.le_add_right, Nat.le_refl] <;> first | exact pg_keep' hl | exact ⟨pg_keep' hl, rfl⟩ | exact ⟨pg_keep' hl, rfl, rfl⟩
  | true =>
    simp only [hq, if_true] at hmv ⊢
    refine acalls_heap (rl := []) mixed Tryd.func51 rfl (rs := []) rfl Tryd.ntmps51 (by simp) ?_
    repeat' (first | ((first | refine aops_nil ?_ | refine aqops_nil ?_ | refine arun_nil ?_ | refine arunT_nil ?_); (try simp only [NB])) | ((repeat ((fail_if_success (refine hK _ ?_)); clear hK K)); refine hK _ ?_; clear hK K) | ((first | refine aops_k fun K1 hK1 => ?_ | refine aqops_k fun K1 hK1 => ?_ | refine arun_eff rfl rfl rfl fun K1 hK1 => ?_ | refine awp_cond_k fun A B hA hB => ?_); simp only [S1, simprocAttr, TTTmB, TSz, z49_ne, z49_map, zS_len, hem, hso, hT, hTt, htl, heq, hln, hov2, hpv, hti, hmm, hsl, hrf, hgs, hgb, hfn, hmax, all_scalar, pg_b hb hne, pg_lb hl, pg_b0 hb hne, pg_lb0 hl, gmB, spB, gl, takeA_arr, takeA_st, List.length_map, List.length_take, List.length_drop, List.length_cons, List.length_nil, pg_len, pg_get0, pg_geti, pg_set0, pg_seti, Nat.mul_one, Nat.zero_add, Nat.add_zero, Int.toNat_natCast]; first | (refine hK1 _ ?_; clear hK1 K1) | ((first | refine hA ?_ | refine hB ?_); clear hA hB A B) | ((first | apply call_a E81 | apply call_q E81); exact (hmv _); (refine hK1 _ ?_; clear hK1 K1)) | (((first | (refine ⟨fun hg => hA ?_, fun hg => hB ?_⟩ <;> clear hA hB A B) | refine ⟨fun hg => ?_, fun hg => ?_⟩) <;> (try simp only [BN2] at hg) <;> (try simp only [hg, cond_true, cond_false])) <;> (try (refine hK1 _ ?_; clear hK1 K1)) <;> (try simp only [BN3] at hg))) | ((first | refine arun_q (v := ?_) rfl rfl rfl rfl (by decide) (fun R1 K1 hK1 => ?_) ?_ | refine arun_f (v := ?_) rfl rfl rfl (by decide) (fun K1 hK1 => ?_) ?_ | refine arunT_f (v := ?_) rfl rfl rfl (by decide) (fun K1 hK1 => ?_) ?_); rotate_left; (focus (simp only [S1, simprocAttr, TTTmB, TSz, z49_ne, z49_map, zS_len, hem, hso, hT, hTt, htl, heq, hln, hov2, hpv, hti, hmm, hsl, hrf, hgs, hgb, hfn, hmax, all_scalar, pg_b hb hne, pg_lb hl, pg_b0 hb hne, pg_lb0 hl, gmB, spB, gl, takeA_arr, takeA_st, List.length_map, List.length_take, List.length_drop, List.length_cons, List.length_nil, pg_len, pg_get0, pg_geti, pg_set0, pg_seti, Nat.mul_one, Nat.zero_add, Nat.add_zero, Int.toNat_natCast]; first | (exact hK1 _ _ _) | ((first | apply call_a E81 | apply call_q E81); exact (hmv _); exact hK1 _ _ _)))) | (refine arun_tail rfl rfl rfl ?_) | ((first | refine arun_allocj (z := ?_) 0 rfl rfl rfl rfl (by decide) rfl ?_ ?_ | refine arun_allocj (z := ?_) 1 rfl rfl rfl rfl (by decide) rfl ?_ ?_ | refine arun_allocj (z := ?_) 2 rfl rfl rfl rfl (by decide) rfl ?_ ?_); rotate_left; (focus (simp only [S1, simprocAttr, TTTmB, TSz, z49_ne, z49_map, zS_len, hem, hso, hT, hTt, htl, heq, hln, hov2, hpv, hti, hmm, hsl, hrf, hgs, hgb, hfn, hmax, all_scalar, pg_b hb hne, pg_lb hl, pg_b0 hb hne, pg_lb0 hl, gmB, spB, gl, takeA_arr, takeA_st, List.length_map, List.length_take, List.length_drop, List.length_cons, List.length_nil, pg_len, pg_get0, pg_geti, pg_set0, pg_seti, Nat.mul_one, Nat.zero_add, Nat.add_zero, Int.toNat_natCast, zeroB]; rfl))) | (refine awp_seq_k fun K hK => ?_) | (refine awp_drawR [0, 1, 2, 3, 4, 5, 6, 7, 8, 9, 10, 11, 12] 0 (fs := []) rfl (by kernel_rfl) (by kernel_rfl) ?_) | ((first | refine awp_region ?_ | refine awp_draw (by kernel_rfl) ?_ | refine awp_block ?_ | refine awp_exit ?_ | refine awp_skip ?_ | refine awp_ret ?_); (try simp only [NB, simprocAttr])))
    all_goals simp only [EndH, FinH, resA, resL, resA1, lastV, lastA, lastAs, pur, purs, pg_len, pg_take, pg_take0, List.length_append, List.length_cons, List.length_nil, S1, simprocAttr, Nat.le_add_right, Nat.le_refl] <;> first | exact pg_keep' hl | exact ⟨pg_keep' hl, rfl⟩ | exact ⟨pg_keep' hl, rfl, rfl⟩
end Go.Proofs.YtjpphhcimpclpaaDoor.AM
end

section
set_option linter.unusedVariables false
set_option linter.unusedSimpArgs false
set_option maxRecDepth 4000
set_option maxHeartbeats 4000000
namespace Go.Proofs.YtjpphhcimpclpaaDoor.AM
open Go Go.Proofs
set_option linter.defProp false in
def TTTmC := And.intro T2 (And.intro T3 (And.intro T4 (And.intro T25 (And.intro T26 (And.intro T27 (And.intro T40 (And.intro T46 (And.intro T53 (And.intro T60 (And.intro T95 (And.intro T98 (And.intro T111 (And.intro T113 (And.intro T116 T117))))))))))))))
attribute [local irreducible] awp aops aqops aeops arun arunT
variable {G : Nat → Option (List PV)}

theorem step_fn {h : Heap} {b lb : Nat} {ns : List Nd} {fl : List Fl} {S : List Int} {l : List Sp} (ok : GmOk h b lb S l) (m : Sp) (fr to : List Int) (hfr : InF fr) (hto : InF to) {f : FuncId} (hE : Enters Tryd.prog f) {caps : List AV} (hcap : avlts h.length caps) {chg : List Int → List Int} (hlen : ∀ T : List Int, T.length = 49 → (chg T).length = 49)
    (hC : ∀ (A : Option Blk) (T : List Int), T.length = 49 → T.drop 40 = S.drop 40 → ACalls Tryd.prog G f (.ptr (h.length + 1) 0 0 :: caps) (putG h b lb ns fl S l ++ [A, some ⟨0, T.map AV.i⟩]) (fun r h' => r = .undef ∧ h' = putG h b lb ns fl S l ++ [A, some ⟨0, (chg T).map AV.i⟩])) :
    ACalls Tryd.prog G 51 [.ptr b 0 0, aMv m, aI fr, aI to, .fn f caps] (putG h b lb ns fl S l) (fun r h' => r = .undef ∧ h' = putG h b lb ns fl S (l ++ stF S m chg fr to)) := by
  have hb := ok.hb
  have hl := ok.hl
  have hne := ok.ne
  have hS := ok.held.1
  have hmax : l.length + 1 ≤ maxCount := by have := ok.few; unfold maxCount; omega
  have gl := gmC_len (ns := ns) (fl := fl) (lb := lb) (n := l.length) hS
  have hmv := fun L => moved_calls (G := G) (H := putG h b lb ns fl S l ++ L) (pg_b hb hne L) ok.held fr to hfr hto
  have hT : (mvF S fr to).1.length = 49 := by rw [mvF_len, hS]
  have hzl : (zS.map AV.i).length = 49 := by rw [List.length_map]; rfl
  have hem : (zS.map AV.i).isEmpty = false := rfl
  have hsF : stF S m chg fr to = if (mvF S fr to).2 = true then [{ m with to := chg (mvF S fr to).1 }] else [] := rfl
  have hdp : (mvF S fr to).1.drop 40 = S.drop 40 := by
    unfold mvF
    split
    · rw [giveF_drop hto, takeF_drop hfr]
    · exact takeF_drop hfr
  generalize (mvF S fr to).1 = T at *
  have hCT := fun A => hC A T hT hdp
  have hT0 := hT
  have hso0 : over (zS.map AV.i) 0 (T.map AV.i) = T.map AV.i := over_full (n := 49) (by rw [List.length_map, hT]) _ hzl
  have hTt0 : ((T.map AV.i).take 49 = T.map AV.i) := List.take_of_length_le (by rw [List.length_map, hT]; exact Nat.le_refl _)
  have hU := hlen T hT
  generalize chg T = U at *
  have hTt : ((U.map AV.i).take 49 = U.map AV.i) := List.take_of_length_le (by rw [List.length_map, hU]; exact Nat.le_refl _)
  have htl := over_tail hU
  have hx : ({ m with to := U } : Sp).to.length = 49 := hU
  have hln : (cSp { m with to := U }).length = 54 := cSp_len hx
  have heq : (AV.p (.int .i64 m.node) :: .p (.int .i64 m.arg) :: .p (.int .i64 m.lk) :: .p (.int .i64 m.ln) :: .p (.int .i64 m.la) :: U.map AV.i) = (cSp { m with to := U }).map AV.i := rfl
  have hov2 := over_full (cs := (cSp { m with to := U }).map AV.i) (n := 54) (by rw [List.length_map, hln])
  have hpv := pvs_is (cSp { m with to := U })
  have hti : ((cSp { m with to := U }).map (PV.int .i64)).take 54 = (cSp { m with to := U }).map (PV.int .i64) := List.take_of_length_le (by rw [List.length_map, hln]; exact Nat.le_refl _)
  have hmm := mapmap (cSp { m with to := U })
  have hsl := cSps_len ok.len
  have hrf := gmC_ref (ns := ns) (fl := fl) (lb := lb) (n := l.length) hS
  have hgs := gmC_set (ns := ns) (fl := fl) (lb := lb) (n := l.length) (m := l.length + 1) hS
  have hgb := pg_gb (ns := ns) (fl := fl) (S := S) (l := l) hb hne
  have hfn : ∀ L : Heap, ((putG h b lb ns fl S l ++ L).set lb (some ⟨l.length + 1, cSps l ++ (cSp { m with to := U }).map AV.i⟩)).set b (some ⟨0, gmC ns fl S lb (l.length + 1)⟩) = putG h b lb ns fl S (l ++ [{ m with to := U }]) ++ L := fun L => by
    have := pg_fin (ns := ns) (fl := fl) (S := S) (l := l) (l' := l ++ [{ m with to := U }]) hb hl hne L
    simpa only [spB, gmB, List.length_append, List.length_cons, List.length_nil, Nat.zero_add, cSps_app] using this
  rw [hsF]
  cases hq : (mvF S fr to).2 with
  | false =>
    simp only [hq, if_false, List.append_nil, Bool.false_eq_true] at hmv ⊢
    refine acalls_heap (rl := []) mixed Tryd.func51 rfl (rs := []) rfl Tryd.ntmps51 (by simp) ?_
    repeat' (first | ((first | refine aops_nil ?_ | refine aqops_nil ?_); (try simp only [NB])) | ((repeat ((fail_if_success (refine hK _ ?_)); clear hK K)); refine hK _ ?_; clear hK K) | ((first | refine aops_k fun K1 hK1 => ?_ | refine aqops_k fun K1 hK1 => ?_ | refine awp_cond_k fun A B hA hB => ?_); simp only [S1, simprocAttr, TTTmC, TSz, z49_ne, z49_map, zS_len, hem, hso0, hT0, hTt0, hU, hTt, htl, all_scalar, pg_b hb hne, pg_lb hl, pg_b0 hb hne, pg_lb0 hl, takeA_arr, takeA_st, List.length_map, List.length_take, List.length_drop, List.length_cons, List.length_nil, pg_len, pg_get0, pg_geti, pg_set0, pg_seti, Nat.mul_one, Nat.zero_add, Nat.add_zero, Int.toNat_natCast]; first | (refine hK1 _ ?_; clear hK1 K1) | ((first | refine hA ?_ | refine hB ?_); clear hA hB A B) | ((first | apply call_a E81 | apply call_q E81); exact (hmv _); (refine hK1 _ ?_; clear hK1 K1)) | ((first | apply call_a hE | apply call_q hE); exact (hCT _); (refine hK1 _ ?_; clear hK1 K1)) | (((first | (refine ⟨fun hg => hA ?_, fun hg => hB ?_⟩ <;> clear hA hB A B) | refine ⟨fun hg => ?_, fun hg => ?_⟩) <;> (try simp only [BN2] at hg) <;> (try simp only [hg, cond_true, cond_false])) <;> (try (refine hK1 _ ?_; clear hK1 K1)) <;> (try simp only [BN3] at hg))) | (refine awp_seq_k fun K hK => ?_) | ((first | refine awp_region ?_ | refine awp_draw (by kernel_rfl) ?_ | refine awp_block ?_ | refine awp_exit ?_ | refine awp_skip ?_ | refine awp_ret ?_); (try simp only [NB, simprocAttr])))
    all_goals simp only [EndH, FinH, resA, resL, resA1, lastV, lastA, lastAs, pur, purs, pg_len, pg_take, pg_take0, List.length_append, List.length_cons, List.length_nil, S1, simprocAttr, Nat.le_add_right, Nat.le_refl] <;> first | exact pg_keep' hl | exact ⟨pg_keep' hl, rfl⟩ | exact ⟨pg_keep' hl, rfl, rfl⟩
  | true =>
    simp only [hq, if_true] at hmv ⊢
    refine acalls_heap (rl := []) mixed Tryd.func51 rfl (rs := []) rfl Tryd.ntmps51 (by simp) ?_
    repeat' (first | ((first | refine aops_nil ?_ | refine aqops_nil ?_ | refine arun_nil ?_ | refine arunT_nil ?_); (try simp only [NB])) | ((repeat ((fail_if_success (refine hK _ ?_)); clear hK K)); refine hK _ ?_; clear hK K) | ((first | refine aops_k fun K1 hK1 => ?_ | refine aqops_k fun K1 hK1 => ?_ | refine arun_eff rfl rfl rfl fun K1 hK1 => ?_ | refine awp_cond_k fun A B hA hB => ?_); simp only [S1, simprocAttr, TTTmC, TSz, z49_ne, z49_map, zS_len, hem, hso0, hT0, hTt0, hU, hTt, htl, heq, hln, hov2, hpv, hti, hmm, hsl, hrf, hgs, hgb, hfn, hmax, all_scalar, pg_b hb hne, pg_lb hl, pg_b0 hb hne, pg_lb0 hl, gmB, spB, gl, takeA_arr, takeA_st, List.length_map, List.length_take, List.length_drop, List.length_cons, List.length_nil, pg_len, pg_get0, pg_geti, pg_set0, pg_seti, Nat.mul_one, Nat.zero_add, Nat.add_zero, Int.toNat_natCast]; first | (refine hK1 _ ?_; clear hK1 K1) | ((first | refine hA ?_ | refine hB ?_); clear hA hB A B) | ((first | apply call_a E81 | apply call_q E81); exact (hmv _); (refine hK1 _ ?_; clear hK1 K1)) | ((first | apply call_a hE | apply call_q hE); exact (hCT _); (refine hK1 _ ?_; clear hK1 K1)) | (((first | (refine ⟨fun hg => hA ?_, fun hg => hB ?_⟩ <;> clear hA hB A B) | refine ⟨fun hg => ?_, fun hg => ?_⟩) <;> (try simp only [BN2] at hg) <;> (try simp only [hg, cond_true, cond_false])) <;> (try (refine hK1 _ ?_; clear hK1 K1)) <;> (try simp only [BN3] at hg))) | ((first | refine arun_q (v := ?_) rfl rfl rfl rfl (by decide) (fun R1 K1 hK1 => ?_) ?_ | refine arun_f (v := ?_) rfl rfl rfl (by decide) (fun K1 hK1 => ?_) ?_ | refine arunT_f (v := ?_) rfl rfl rfl (by decide) (fun K1 hK1 => ?_) ?_); rotate_left; (focus (simp only [S1, simprocAttr, TTTmC, TSz, z49_ne, z49_map, zS_len, hem, hso0, hT0, hTt0, hU, hTt, htl, heq, hln, hov2, hpv, hti, hmm, hsl, hrf, hgs, hgb, hfn, hmax, all_scalar, pg_b hb hne, pg_lb hl, pg_b0 hb hne, pg_lb0 hl, gmB, spB, gl, takeA_arr, takeA_st, List.length_map, List.length_take, List.length_drop, List.length_cons, List.length_nil, pg_len, pg_get0, pg_geti, pg_set0, pg_seti, Nat.mul_one, Nat.zero_add, Nat.add_zero, Int.toNat_natCast]; first | (exact hK1 _ _ _) | ((first | apply call_a E81 | apply call_q E81); exact (hmv _); exact hK1 _ _ _) | ((first | apply call_a hE | apply call_q hE); exact (hCT _); exact hK1 _ _ _)))) | (refine arun_tail rfl rfl rfl ?_) | ((first | refine arun_allocj (z := ?_) 0 rfl rfl rfl rfl (by decide) rfl ?_ ?_ | refine arun_allocj (z := ?_) 1 rfl rfl rfl rfl (by decide) rfl ?_ ?_ | refine arun_allocj (z := ?_) 2 rfl rfl rfl rfl (by decide) rfl ?_ ?_); rotate_left; (focus (simp only [S1, simprocAttr, TTTmC, TSz, z49_ne, z49_map, zS_len, hem, hso0, hT0, hTt0, hU, hTt, htl, heq, hln, hov2, hpv, hti, hmm, hsl, hrf, hgs, hgb, hfn, hmax, all_scalar, pg_b hb hne, pg_lb hl, pg_b0 hb hne, pg_lb0 hl, gmB, spB, gl, takeA_arr, takeA_st, List.length_map, List.length_take, List.length_drop, List.length_cons, List.length_nil, pg_len, pg_get0, pg_geti, pg_set0, pg_seti, Nat.mul_one, Nat.zero_add, Nat.add_zero, Int.toNat_natCast, zeroB]; rfl))) | (refine awp_seq_k fun K hK => ?_) | (refine awp_drawR [0, 1, 2, 3, 4, 5, 6, 7, 8, 9, 10, 11, 12] 0 (fs := []) rfl (by kernel_rfl) (by kernel_rfl) ?_) | ((first | refine awp_region ?_ | refine awp_draw (by kernel_rfl) ?_ | refine awp_block ?_ | refine awp_exit ?_ | refine awp_skip ?_ | refine awp_ret ?_); (try simp only [NB, simprocAttr])))
    all_goals simp only [EndH, FinH, resA, resL, resA1, lastV, lastA, lastAs, pur, purs, pg_len, pg_take, pg_take0, List.length_append, List.length_cons, List.length_nil, S1, simprocAttr, Nat.le_add_right, Nat.le_refl] <;> first | exact pg_keep' hl | exact ⟨pg_keep' hl, rfl⟩ | exact ⟨pg_keep' hl, rfl, rfl⟩
end Go.Proofs.YtjpphhcimpclpaaDoor.AM
end

section
set_option linter.unusedVariables false
set_option linter.unusedSimpArgs false
set_option maxRecDepth 4000
set_option maxHeartbeats 4000000
namespace Go.Proofs.YtjpphhcimpclpaaDoor.AM
open Go Go.Proofs
set_option linter.defProp false in
def TTTmD := And.intro T2 (And.intro T3 (And.intro T4 (And.intro T25 (And.intro T26 (And.intro T27 (And.intro T40 (And.intro T46 (And.intro T53 (And.intro T58 (And.intro T60 (And.intro T95 (And.intro T111 (And.intro T113 (And.intro T116 T117))))))))))))))
attribute [local irreducible] awp aops aqops aeops arun arunT
variable {G : Nat → Option (List PV)}

theorem set_kept {H : Heap} {c g : Nat} {T U : List Int} : ∀ (b : Nat) (bk : Blk), (H.set c (some ⟨g, U.map AV.i⟩))[b]? = some (some bk) → H[b]? = some (some bk) ∨ ∀ x ∈ bk.cells, AVlt H.length x := by
  intro b bk hb
  rw [List.getElem?_set] at hb
  split at hb
  · split at hb
    · cases hb; exact .inr (avlts_lt _ (avlts_is _ U))
    · cases hb
  · exact .inl hb
theorem set_take (H : Heap) (c : Nat) (x : Option Blk) : (H.set c x).take H.length = H.set c x := List.take_of_length_le (by simp)
theorem set_len (H : Heap) (c : Nat) (x : Option Blk) : (H.set c x).length = H.length := by simp

theorem setv_1 {H : Heap} {c r x gc gr gx : Nat} {T : List Int} (hc : H[c]? = some (some ⟨gc, T.map AV.i⟩)) (hT : T.length = 49) {v : Int} (hr : H[r]? = some (some ⟨gr, [.i v]⟩)) {kd : Int} {a : Nat} (ha : a < 4) {rest : List AV} (hx : H[x]? = some (some ⟨gx, .i kd :: .i a :: rest⟩)) :
    ACalls Tryd.prog G 72 [.ptr c gc 0, .ptr r gr 0, .ptr x gx 0] H (fun q h' => q = .undef ∧ h' = H.set c (some ⟨gc, (T.set (40 + a) v).map AV.i⟩)) := by
  have hcL := app_get1 hc
  have hrL := app_get1 hr
  have hxL := app_get1 hx
  have a0 : (0 : Int) ≤ (a : Int) := by omega
  have a4' : (a : Int) < 4 := by omega
  have h49 : 40 + a + 1 ≤ 49 := by omega
  have hse := fun v => setI_c T (40 + a) v
  have hk := set_kept (H := H) (c := c) (g := gc) (T := T) (U := T.set (40 + a) v)
  have htk := set_take H c
  have hsl := set_len H c
  refine acalls_heap (rl := []) mixed Tryd.func72 rfl (rs := []) rfl Tryd.ntmps72 (by simp) ?_
  repeat' (first | ((first | refine aops_nil ?_ | refine aqops_nil ?_ | refine arun_nil ?_ | refine arunT_nil ?_); (try simp only [NB])) | ((repeat ((fail_if_success (refine hK _ ?_)); clear hK K)); refine hK _ ?_; clear hK K) | ((first | refine aops_k fun K1 hK1 => ?_ | refine aqops_k fun K1 hK1 => ?_ | refine arun_eff rfl rfl rfl fun K1 hK1 => ?_ | refine awp_cond_k fun A B hA hB => ?_); simp only [S1, simprocAttr, TTTmD, TSz, z49_ne, hc, hr, hx, hcL, hrL, hxL, a0, a4', h49, hse, hT, htk, hsl, List.length_map, Nat.mul_one, Nat.zero_add, Nat.add_zero, Int.toNat_natCast]; first | (refine hK1 _ ?_; clear hK1 K1) | ((first | refine hA ?_ | refine hB ?_); clear hA hB A B) | (((first | (refine ⟨fun hg => hA ?_, fun hg => hB ?_⟩ <;> clear hA hB A B) | refine ⟨fun hg => ?_, fun hg => ?_⟩) <;> (try simp only [BN2] at hg) <;> (try simp only [hg, cond_true, cond_false])) <;> (try (refine hK1 _ ?_; clear hK1 K1)) <;> (try simp only [BN3] at hg))) | ((first | refine arun_q (v := ?_) rfl rfl rfl rfl (by decide) (fun R1 K1 hK1 => ?_) ?_ | refine arun_f (v := ?_) rfl rfl rfl (by decide) (fun K1 hK1 => ?_) ?_ | refine arunT_f (v := ?_) rfl rfl rfl (by decide) (fun K1 hK1 => ?_) ?_); rotate_left; (focus (simp only [S1, simprocAttr, TTTmD, TSz, z49_ne, hc, hr, hx, hcL, hrL, hxL, a0, a4', h49, hse, hT, htk, hsl, List.length_map, Nat.mul_one, Nat.zero_add, Nat.add_zero, Int.toNat_natCast]; first | (exact hK1 _ _ _)))) | (refine arun_tail rfl rfl rfl ?_) | ((first | refine arun_allocj (z := ?_) 0 rfl rfl rfl rfl (by decide) rfl ?_ ?_ | refine arun_allocj (z := ?_) 1 rfl rfl rfl rfl (by decide) rfl ?_ ?_ | refine arun_allocj (z := ?_) 2 rfl rfl rfl rfl (by decide) rfl ?_ ?_); rotate_left; (focus (simp only [S1, simprocAttr, TTTmD, TSz, z49_ne, hc, hr, hx, hcL, hrL, hxL, a0, a4', h49, hse, hT, htk, hsl, List.length_map, Nat.mul_one, Nat.zero_add, Nat.add_zero, Int.toNat_natCast, zeroB]; rfl))) | (refine awp_seq_k fun K hK => ?_) | (refine awp_drawR [0, 1, 2, 3, 4, 5, 6, 7] 0 (fs := []) rfl (by kernel_rfl) (by kernel_rfl) ?_) | ((first | refine awp_region ?_ | refine awp_draw (by kernel_rfl) ?_ | refine awp_block ?_ | refine awp_exit ?_ | refine awp_skip ?_ | refine awp_ret ?_); (try simp only [NB, simprocAttr])))
  all_goals simp only [EndH, FinH, resA, resL, resA1, lastV, lastA, lastAs, pur, purs, hsl, htk, List.length_append, List.length_cons, List.length_nil, S1, simprocAttr, TTTmD, Nat.le_add_right, Nat.le_refl, List.append_nil]
  all_goals exact hk

theorem setv_2 {H : Heap} {c r x gc gr gx : Nat} {T : List Int} (hc : H[c]? = some (some ⟨gc, T.map AV.i⟩)) (hT : T.length = 49) {v : Int} (hr : H[r]? = some (some ⟨gr, [.i v]⟩)) {kd : Int} {a : Nat} (ha : a < 4) {rest : List AV} (hx : H[x]? = some (some ⟨gx, .i kd :: .i a :: rest⟩)) :
    ACalls Tryd.prog G 75 [.ptr c gc 0, .ptr r gr 0, .ptr x gx 0] H (fun q h' => q = .undef ∧ h' = H.set c (some ⟨gc, (T.set (40 + a) v).map AV.i⟩)) := by
  have hcL := app_get1 hc
  have hrL := app_get1 hr
  have hxL := app_get1 hx
  have a0 : (0 : Int) ≤ (a : Int) := by omega
  have a4' : (a : Int) < 4 := by omega
  have h49 : 40 + a + 1 ≤ 49 := by omega
  have hse := fun v => setI_c T (40 + a) v
  have hk := set_kept (H := H) (c := c) (g := gc) (T := T) (U := T.set (40 + a) v)
  have htk := set_take H c
  have hsl := set_len H c
  refine acalls_heap (rl := []) mixed Tryd.func75 rfl (rs := []) rfl Tryd.ntmps75 (by simp) ?_
  repeat' (first | ((first | refine aops_nil ?_ | refine aqops_nil ?_ | refine arun_nil ?_ | refine arunT_nil ?_); (try simp only [NB])) | ((repeat ((fail_if_success (refine hK _ ?_)); clear hK K)); refine hK _ ?_; clear hK K) | ((first | refine aops_k fun K1 hK1 => ?_ | refine aqops_k fun K1 hK1 => ?_ | refine arun_eff rfl rfl rfl fun K1 hK1 => ?_ | refine awp_cond_k fun A B hA hB => ?_); simp only [S1, simprocAttr, TTTmD, TSz, z49_ne, hc, hr, hx, hcL, hrL, hxL, a0, a4', h49, hse, hT, htk, hsl, List.length_map, Nat.mul_one, Nat.zero_add, Nat.add_zero, Int.toNat_natCast]; first | (refine hK1 _ ?_; clear hK1 K1) | ((first | refine hA ?_ | refine hB ?_); clear hA hB A B) | (((first | (refine ⟨fun hg => hA ?_, fun hg => hB ?_⟩ <;> clear hA hB A B) | refine ⟨fun hg => ?_, fun hg => ?_⟩) <;> (try simp only [BN2] at hg) <;> (try simp only [hg, cond_true, cond_false])) <;> (try (refine hK1 _ ?_; clear hK1 K1)) <;> (try simp only [BN3] at hg))) | ((first | refine arun_q (v := ?_) rfl rfl rfl rfl (by decide) (fun R1 K1 hK1 => ?_) ?_ | refine arun_f (v := ?_) rfl rfl rfl (by decide) (fun K1 hK1 => ?_) ?_ | refine arunT_f (v := ?_) rfl rfl rfl (by decide) (fun K1 hK1 => ?_) ?_); rotate_left; (focus (simp only [S1, simprocAttr, TTTmD, TSz, z49_ne, hc, hr, hx, hcL, hrL, hxL, a0, a4', h49, hse, hT, htk, hsl, List.length_map, Nat.mul_one, Nat.zero_add, Nat.add_zero, Int.toNat_natCast]; first | (exact hK1 _ _ _)))) | (refine arun_tail rfl rfl rfl ?_) | ((first | refine arun_allocj (z := ?_) 0 rfl rfl rfl rfl (by decide) rfl ?_ ?_ | refine arun_allocj (z := ?_) 1 rfl rfl rfl rfl (by decide) rfl ?_ ?_ | refine arun_allocj (z := ?_) 2 rfl rfl rfl rfl (by decide) rfl ?_ ?_); rotate_left; (focus (simp only [S1, simprocAttr, TTTmD, TSz, z49_ne, hc, hr, hx, hcL, hrL, hxL, a0, a4', h49, hse, hT, htk, hsl, List.length_map, Nat.mul_one, Nat.zero_add, Nat.add_zero, Int.toNat_natCast, zeroB]; rfl))) | (refine awp_seq_k fun K hK => ?_) | (refine awp_drawR [0, 1, 2, 3, 4, 5, 6, 7] 0 (fs := []) rfl (by kernel_rfl) (by kernel_rfl) ?_) | ((first | refine awp_region ?_ | refine awp_draw (by kernel_rfl) ?_ | refine awp_block ?_ | refine awp_exit ?_ | refine awp_skip ?_ | refine awp_ret ?_); (try simp only [NB, simprocAttr])))
  all_goals simp only [EndH, FinH, resA, resL, resA1, lastV, lastA, lastAs, pur, purs, hsl, htk, List.length_append, List.length_cons, List.length_nil, S1, simprocAttr, TTTmD, Nat.le_add_right, Nat.le_refl, List.append_nil]
  all_goals exact hk

theorem setm_calls {H : Heap} {c gc : Nat} {T : List Int} (hc : H[c]? = some (some ⟨gc, T.map AV.i⟩)) (hT : T.length = 49) :
    ACalls Tryd.prog G 78 [.ptr c gc 0] H (fun q h' => q = .undef ∧ h' = H.set c (some ⟨gc, (T.set 48 1).map AV.i⟩)) := by
  have hcL := app_get1 hc
  have hse := fun v => setI_c T 48 v
  have hk := set_kept (H := H) (c := c) (g := gc) (T := T) (U := T.set 48 1)
  have htk := set_take H c
  have hsl := set_len H c
  refine acalls_heap (rl := []) mixed Tryd.func78 rfl (rs := []) rfl Tryd.ntmps78 (by simp) ?_
  repeat' (first | ((first | refine aops_nil ?_ | refine aqops_nil ?_); (try simp only [NB])) | ((repeat ((fail_if_success (refine hK _ ?_)); clear hK K)); refine hK _ ?_; clear hK K) | ((first | refine aops_k fun K1 hK1 => ?_ | refine aqops_k fun K1 hK1 => ?_ | refine awp_cond_k fun A B hA hB => ?_); simp only [S1, simprocAttr, TTTmD, TSz, z49_ne, hc, hcL, hse, hT, htk, hsl, List.length_map, Nat.mul_one, Nat.zero_add, Nat.add_zero, Int.toNat_natCast]; first | (refine hK1 _ ?_; clear hK1 K1) | ((first | refine hA ?_ | refine hB ?_); clear hA hB A B) | (((first | (refine ⟨fun hg => hA ?_, fun hg => hB ?_⟩ <;> clear hA hB A B) | refine ⟨fun hg => ?_, fun hg => ?_⟩) <;> (try simp only [BN2] at hg) <;> (try simp only [hg, cond_true, cond_false])) <;> (try (refine hK1 _ ?_; clear hK1 K1)) <;> (try simp only [BN3] at hg))) | (refine awp_seq_k fun K hK => ?_) | ((first | refine awp_region ?_ | refine awp_draw (by kernel_rfl) ?_ | refine awp_block ?_ | refine awp_exit ?_ | refine awp_skip ?_ | refine awp_ret ?_); (try simp only [NB, simprocAttr])))
  all_goals simp only [EndH, FinH, resA, resL, resA1, lastV, lastA, lastAs, pur, purs, hsl, htk, List.length_append, List.length_cons, List.length_nil, S1, simprocAttr, TTTmD, Nat.le_add_right, Nat.le_refl, List.append_nil]
  all_goals exact hk

theorem less_calls {H : Heap} {c r gc gr : Nat} {T : List Int} (hc : H[c]? = some (some ⟨gc, T.map AV.i⟩)) (hT : T.length = 49) {a : Nat} (ha : a < 4) (hr : H[r]? = some (some ⟨gr, [.i a]⟩)) {q : Int} (hq : T[44 + a]? = some q) (hq0 : 0 ≤ q ∧ q ≤ 3) :
    ACalls Tryd.prog G 96 [.ptr c gc 0, .ptr r gr 0] H (fun u h' => u = .undef ∧ h' = H.set c (some ⟨gc, (T.set (44 + a) (q - 1)).map AV.i⟩)) := by
  have hcL := app_get1 hc
  have hrL := app_get1 hr
  have a0 : (0 : Int) ≤ (a : Int) := by omega
  have a4' : (a : Int) < 4 := by omega
  have h49 : 44 + a + 1 ≤ 49 := by omega
  have hw : IntKind.i64.wrap (q - 1) = q - 1 := IntWalk.i64_in _ (by omega)
  have hdr := dropI hq
  have hse := fun v => setI_c T (44 + a) v
  have hk := set_kept (H := H) (c := c) (g := gc) (T := T) (U := T.set (44 + a) (q - 1))
  have htk := set_take H c
  have hsl := set_len H c
  refine acalls_heap (rl := []) mixed Tryd.func96 rfl (rs := []) rfl Tryd.ntmps96 (by simp) ?_
  repeat' (first | ((first | refine aops_nil ?_ | refine aqops_nil ?_ | refine arun_nil ?_ | refine arunT_nil ?_); (try simp only [NB])) | ((repeat ((fail_if_success (refine hK _ ?_)); clear hK K)); refine hK _ ?_; clear hK K) | ((first | refine aops_k fun K1 hK1 => ?_ | refine aqops_k fun K1 hK1 => ?_ | refine arun_eff rfl rfl rfl fun K1 hK1 => ?_ | refine awp_cond_k fun A B hA hB => ?_); simp only [S1, simprocAttr, TTTmD, TSz, z49_ne, hc, hr, hcL, hrL, a0, a4', h49, hw, hdr, hse, hT, htk, hsl, List.length_map, Nat.mul_one, Nat.zero_add, Nat.add_zero, Int.toNat_natCast]; first | (refine hK1 _ ?_; clear hK1 K1) | ((first | refine hA ?_ | refine hB ?_); clear hA hB A B) | (((first | (refine ⟨fun hg => hA ?_, fun hg => hB ?_⟩ <;> clear hA hB A B) | refine ⟨fun hg => ?_, fun hg => ?_⟩) <;> (try simp only [BN2] at hg) <;> (try simp only [hg, cond_true, cond_false])) <;> (try (refine hK1 _ ?_; clear hK1 K1)) <;> (try simp only [BN3] at hg))) | ((first | refine arun_q (v := ?_) rfl rfl rfl rfl (by decide) (fun R1 K1 hK1 => ?_) ?_ | refine arun_f (v := ?_) rfl rfl rfl (by decide) (fun K1 hK1 => ?_) ?_ | refine arunT_f (v := ?_) rfl rfl rfl (by decide) (fun K1 hK1 => ?_) ?_); rotate_left; (focus (simp only [S1, simprocAttr, TTTmD, TSz, z49_ne, hc, hr, hcL, hrL, a0, a4', h49, hw, hdr, hse, hT, htk, hsl, List.length_map, Nat.mul_one, Nat.zero_add, Nat.add_zero, Int.toNat_natCast]; first | (exact hK1 _ _ _)))) | (refine arun_tail rfl rfl rfl ?_) | ((first | refine arun_allocj (z := ?_) 0 rfl rfl rfl rfl (by decide) rfl ?_ ?_ | refine arun_allocj (z := ?_) 1 rfl rfl rfl rfl (by decide) rfl ?_ ?_ | refine arun_allocj (z := ?_) 2 rfl rfl rfl rfl (by decide) rfl ?_ ?_); rotate_left; (focus (simp only [S1, simprocAttr, TTTmD, TSz, z49_ne, hc, hr, hcL, hrL, a0, a4', h49, hw, hdr, hse, hT, htk, hsl, List.length_map, Nat.mul_one, Nat.zero_add, Nat.add_zero, Int.toNat_natCast, zeroB]; rfl))) | (refine awp_seq_k fun K hK => ?_) | (refine awp_drawR [0, 1, 2, 3, 4, 5, 6, 7, 8, 9, 10] 0 (fs := []) rfl (by kernel_rfl) (by kernel_rfl) ?_) | ((first | refine awp_region ?_ | refine awp_draw (by kernel_rfl) ?_ | refine awp_block ?_ | refine awp_exit ?_ | refine awp_skip ?_ | refine awp_ret ?_); (try simp only [NB, simprocAttr])))
  all_goals simp only [EndH, FinH, resA, resL, resA1, lastV, lastA, lastAs, pur, purs, hsl, htk, List.length_append, List.length_cons, List.length_nil, S1, simprocAttr, TTTmD, Nat.le_add_right, Nat.le_refl, List.append_nil]
  all_goals exact hk

theorem more_calls {H : Heap} {c r gc gr : Nat} {T : List Int} (hc : H[c]? = some (some ⟨gc, T.map AV.i⟩)) (hT : T.length = 49) {a : Nat} (ha : a < 4) (hr : H[r]? = some (some ⟨gr, [.i a]⟩)) {q : Int} (hq : T[44 + a]? = some q) (hq0 : 0 ≤ q ∧ q ≤ 3) :
    ACalls Tryd.prog G 52 [.ptr c gc 0, .ptr r gr 0] H (fun u h' => u = .undef ∧ h' = H.set c (some ⟨gc, (T.set (44 + a) (q + 1)).map AV.i⟩)) := by
  have hcL := app_get1 hc
  have hrL := app_get1 hr
  have a0 : (0 : Int) ≤ (a : Int) := by omega
  have a4' : (a : Int) < 4 := by omega
  have h49 : 44 + a + 1 ≤ 49 := by omega
  have hw : IntKind.i64.wrap (q + 1) = q + 1 := IntWalk.i64_in _ (by omega)
  have hdr := dropI hq
  have hse := fun v => setI_c T (44 + a) v
  have hk := set_kept (H := H) (c := c) (g := gc) (T := T) (U := T.set (44 + a) (q + 1))
  have htk := set_take H c
  have hsl := set_len H c
  refine acalls_heap (rl := []) mixed Tryd.func52 rfl (rs := []) rfl Tryd.ntmps52 (by simp) ?_
  repeat' (first | ((first | refine aops_nil ?_ | refine aqops_nil ?_ | refine arun_nil ?_ | refine arunT_nil ?_); (try simp only [NB])) | ((repeat ((fail_if_success (refine hK _ ?_)); clear hK K)); refine hK _ ?_; clear hK K) | ((first | refine aops_k fun K1 hK1 => ?_ | refine aqops_k fun K1 hK1 => ?_ | refine arun_eff rfl rfl rfl fun K1 hK1 => ?_ | refine awp_cond_k fun A B hA hB => ?_); simp only [S1, simprocAttr, TTTmD, TSz, z49_ne, hc, hr, hcL, hrL, a0, a4', h49, hw, hdr, hse, hT, htk, hsl, List.length_map, Nat.mul_one, Nat.zero_add, Nat.add_zero, Int.toNat_natCast]; first | (refine hK1 _ ?_; clear hK1 K1) | ((first | refine hA ?_ | refine hB ?_); clear hA hB A B) | (((first | (refine ⟨fun hg => hA ?_, fun hg => hB ?_⟩ <;> clear hA hB A B) | refine ⟨fun hg => ?_, fun hg => ?_⟩) <;> (try simp only [BN2] at hg) <;> (try simp only [hg, cond_true, cond_false])) <;> (try (refine hK1 _ ?_; clear hK1 K1)) <;> (try simp only [BN3] at hg))) | ((first | refine arun_q (v := ?_) rfl rfl rfl rfl (by decide) (fun R1 K1 hK1 => ?_) ?_ | refine arun_f (v := ?_) rfl rfl rfl (by decide) (fun K1 hK1 => ?_) ?_ | refine arunT_f (v := ?_) rfl rfl rfl (by decide) (fun K1 hK1 => ?_) ?_); rotate_left; (focus (simp only [S1, simprocAttr, TTTmD, TSz, z49_ne, hc, hr, hcL, hrL, a0, a4', h49, hw, hdr, hse, hT, htk, hsl, List.length_map, Nat.mul_one, Nat.zero_add, Nat.add_zero, Int.toNat_natCast]; first | (exact hK1 _ _ _)))) | (refine arun_tail rfl rfl rfl ?_) | ((first | refine arun_allocj (z := ?_) 0 rfl rfl rfl rfl (by decide) rfl ?_ ?_ | refine arun_allocj (z := ?_) 1 rfl rfl rfl rfl (by decide) rfl ?_ ?_ | refine arun_allocj (z := ?_) 2 rfl rfl rfl rfl (by decide) rfl ?_ ?_); rotate_left; (focus (simp only [S1, simprocAttr, TTTmD, TSz, z49_ne, hc, hr, hcL, hrL, a0, a4', h49, hw, hdr, hse, hT, htk, hsl, List.length_map, Nat.mul_one, Nat.zero_add, Nat.add_zero, Int.toNat_natCast, zeroB]; rfl))) | (refine awp_seq_k fun K hK => ?_) | (refine awp_drawR [0, 1, 2, 3, 4, 5, 6, 7, 8, 9, 10] 0 (fs := []) rfl (by kernel_rfl) (by kernel_rfl) ?_) | ((first | refine awp_region ?_ | refine awp_draw (by kernel_rfl) ?_ | refine awp_block ?_ | refine awp_exit ?_ | refine awp_skip ?_ | refine awp_ret ?_); (try simp only [NB, simprocAttr])))
  all_goals simp only [EndH, FinH, resA, resL, resA1, lastV, lastA, lastAs, pur, purs, hsl, htk, List.length_append, List.length_cons, List.length_nil, S1, simprocAttr, TTTmD, Nat.le_add_right, Nat.le_refl, List.append_nil]
  all_goals exact hk
end Go.Proofs.YtjpphhcimpclpaaDoor.AM
end

section
set_option linter.unusedVariables false
set_option linter.unusedSimpArgs false
set_option maxRecDepth 4000
set_option maxHeartbeats 4000000
namespace Go.Proofs.YtjpphhcimpclpaaDoor.AM
open Go Go.Proofs
set_option linter.defProp false in
def TTTmE := And.intro T2 (And.intro T3 (And.intro T4 (And.intro T22 (And.intro T25 (And.intro T26 (And.intro T27 (And.intro T40 (And.intro T46 (And.intro T53 (And.intro T60 (And.intro T95 (And.intro T98 (And.intro T111 (And.intro T113 (And.intro T116 T117)))))))))))))))
attribute [local irreducible] awp aops aqops aeops arun arunT
variable {G : Nat → Option (List PV)}

theorem step_nil_at {h : Heap} {b lb : Nat} {ns : List Nd} {fl : List Fl} {S : List Int} {l : List Sp} (ok : GmOk h b lb S l) (m : Sp) (fr to : List Int) (hfr : InF fr) (hto : InF to) (L : Heap) :
    ACalls Tryd.prog G 51 [.ptr b 0 0, aMv m, aI fr, aI to, .p .nilf] (putG h b lb ns fl S l ++ L) (fun r h' => r = .undef ∧ h' = putG h b lb ns fl S (l ++ stF S m (fun T => T) fr to) ++ L) := by
  have := step_nil (G := G) (ns := ns) (fl := fl) (ok.ext L) m fr to hfr hto
  rwa [pg_app ok.hb ok.hl, pg_app ok.hb ok.hl] at this
theorem step_fn_at {h : Heap} {b lb : Nat} {ns : List Nd} {fl : List Fl} {S : List Int} {l : List Sp} (ok : GmOk h b lb S l) (m : Sp) (fr to : List Int) (hfr : InF fr) (hto : InF to) (L : Heap) {f : FuncId} (hE : Enters Tryd.prog f) {caps : List AV} (hcap : avlts (h.length + L.length) caps) {chg : List Int → List Int} (hlen : ∀ T : List Int, T.length = 49 → (chg T).length = 49)
    (hC : ∀ (A : Option Blk) (T : List Int), T.length = 49 → T.drop 40 = S.drop 40 → ACalls Tryd.prog G f (.ptr (h.length + L.length + 1) 0 0 :: caps) (putG h b lb ns fl S l ++ (L ++ [A, some ⟨0, T.map AV.i⟩])) (fun r h' => r = .undef ∧ h' = putG h b lb ns fl S l ++ (L ++ [A, some ⟨0, (chg T).map AV.i⟩]))) :
    ACalls Tryd.prog G 51 [.ptr b 0 0, aMv m, aI fr, aI to, .fn f caps] (putG h b lb ns fl S l ++ L) (fun r h' => r = .undef ∧ h' = putG h b lb ns fl S (l ++ stF S m chg fr to) ++ L) := by
  have := step_fn (G := G) (ns := ns) (fl := fl) (ok.ext L) m fr to hfr hto hE (caps := caps) (by rw [List.length_append]; exact hcap) (chg := chg) hlen (by
    intro A T hT hd
    have := hC A T hT hd
    rw [pg_app ok.hb ok.hl, List.length_append, List.append_assoc, List.append_assoc]
    exact this)
  rwa [pg_app ok.hb ok.hl, pg_app ok.hb ok.hl] at this

theorem tfault_calls {h : Heap} {b lb : Nat} {ns : List Nd} {fl : List Fl} {S : List Int} {l : List Sp} (ok : GmOk h b lb S l) (i e : Int) :
    ACalls Tryd.prog G 74 [.ptr b 0 0, .i i, .i e] (putG h b lb ns fl S l) (fun r h' => r = .undef ∧ h' = putG h b lb ns fl S (l ++ [faultS S i e])) := by
  have hb := ok.hb
  have hl := ok.hl
  have hne := ok.ne
  have hS := ok.held.1
  have hmax : l.length + 1 ≤ maxCount := by have := ok.few; unfold maxCount; omega
  have gl := gmC_len (ns := ns) (fl := fl) (lb := lb) (n := l.length) hS
  have t49 := gmC_state (ns := ns) (fl := fl) (lb := lb) (n := l.length) hS
  have hzl : (zS.map AV.i).length = 49 := by rw [List.length_map]; rfl
  have hem : (zS.map AV.i).isEmpty = false := rfl
  have hso : over (zS.map AV.i) 0 (S.map AV.i) = S.map AV.i := over_full (n := 49) (by rw [List.length_map, hS]) _ hzl
  have hset := fun v => setI_c S 48 v
  have hS2 : (S.set 48 2).length = 49 := by rw [List.length_set, hS]
  have htl := over_tail hS2
  have htk : ((S.set 48 2).map AV.i).take 49 = (S.set 48 2).map AV.i := List.take_of_length_le (by rw [List.length_map, hS2]; exact Nat.le_refl _)
  have hx : (faultS S i e).to.length = 49 := hS2
  have hln : (cSp (faultS S i e)).length = 54 := cSp_len hx
  have heq : (AV.p (.int .i64 i) :: .p (.int .i64 0) :: .p (.int .i64 6) :: .p (.int .i64 i) :: .p (.int .i64 e) :: (S.set 48 2).map AV.i) = (cSp (faultS S i e)).map AV.i := rfl
  have hov2 := over_full (cs := (cSp (faultS S i e)).map AV.i) (n := 54) (by rw [List.length_map, hln])
  have hpv := pvs_is (cSp (faultS S i e))
  have hti : ((cSp (faultS S i e)).map (PV.int .i64)).take 54 = (cSp (faultS S i e)).map (PV.int .i64) := List.take_of_length_le (by rw [List.length_map, hln]; exact Nat.le_refl _)
  have hmm := mapmap (cSp (faultS S i e))
  have hsl := cSps_len ok.len
  have hrf := gmC_ref (ns := ns) (fl := fl) (lb := lb) (n := l.length) hS
  have hgs := gmC_set (ns := ns) (fl := fl) (lb := lb) (n := l.length) (m := l.length + 1) hS
  have hgb := pg_gb (ns := ns) (fl := fl) (S := S) (l := l) hb hne
  have hfn : ∀ L : Heap, ((putG h b lb ns fl S l ++ L).set lb (some ⟨l.length + 1, cSps l ++ (cSp (faultS S i e)).map AV.i⟩)).set b (some ⟨0, gmC ns fl S lb (l.length + 1)⟩) = putG h b lb ns fl S (l ++ [faultS S i e]) ++ L := fun L => by
    have := pg_fin (ns := ns) (fl := fl) (S := S) (l := l) (l' := l ++ [faultS S i e]) hb hl hne L
    simpa only [spB, gmB, List.length_append, List.length_cons, List.length_nil, Nat.zero_add, cSps_app] using this
  refine acalls_heap (rl := []) mixed Tryd.func74 rfl (rs := []) rfl Tryd.ntmps74 (by simp) ?_
  repeat' (first | ((first | refine aops_nil ?_ | refine aqops_nil ?_ | refine arun_nil ?_ | refine arunT_nil ?_); (try simp only [NB])) | ((repeat ((fail_if_success (refine hK _ ?_)); clear hK K)); refine hK _ ?_; clear hK K) | ((first | refine aops_k fun K1 hK1 => ?_ | refine aqops_k fun K1 hK1 => ?_ | refine arun_eff rfl rfl rfl fun K1 hK1 => ?_ | refine awp_cond_k fun A B hA hB => ?_); simp only [S1, simprocAttr, TTTmE, TSz, z49_ne, z49_map, zS_len, hem, hso, t49, hset, hS, hS2, htl, htk, heq, hln, hov2, hpv, hti, hmm, hsl, hrf, hgs, hgb, hfn, hmax, all_scalar, pg_b hb hne, pg_lb hl, pg_b0 hb hne, pg_lb0 hl, gmB, spB, gl, takeA_arr, takeA_st, List.length_map, List.length_take, List.length_drop, List.length_cons, List.length_nil, pg_len, pg_get0, pg_geti, pg_set0, pg_seti, Nat.mul_one, Nat.zero_add, Nat.add_zero, Int.toNat_natCast]; first | (refine hK1 _ ?_; clear hK1 K1) | ((first | refine hA ?_ | refine hB ?_); clear hA hB A B) | (((first | (refine ⟨fun hg => hA ?_, fun hg => hB ?_⟩ <;> clear hA hB A B) | refine ⟨fun hg => ?_, fun hg => ?_⟩) <;> (try simp only [BN2] at hg) <;> (try simp only [hg, cond_true, cond_false])) <;> (try (refine hK1 _ ?_; clear hK1 K1)) <;> (try simp only [BN3] at hg))) | ((first | refine arun_q (v := ?_) rfl rfl rfl rfl (by decide) (fun R1 K1 hK1 => ?_) ?_ | refine arun_f (v := ?_) rfl rfl rfl (by decide) (fun K1 hK1 => ?_) ?_ | refine arunT_f (v := ?_) rfl rfl rfl (by decide) (fun K1 hK1 => ?_) ?_); rotate_left; (focus (simp only [S1, simprocAttr, TTTmE, TSz, z49_ne, z49_map, zS_len, hem, hso, t49, hset, hS, hS2, htl, htk, heq, hln, hov2, hpv, hti, hmm, hsl, hrf, hgs, hgb, hfn, hmax, all_scalar, pg_b hb hne, pg_lb hl, pg_b0 hb hne, pg_lb0 hl, gmB, spB, gl, takeA_arr, takeA_st, List.length_map, List.length_take, List.length_drop, List.length_cons, List.length_nil, pg_len, pg_get0, pg_geti, pg_set0, pg_seti, Nat.mul_one, Nat.zero_add, Nat.add_zero, Int.toNat_natCast]; first | (exact hK1 _ _ _)))) | (refine arun_tail rfl rfl rfl ?_) | ((first | refine arun_allocj (z := ?_) 0 rfl rfl rfl rfl (by decide) rfl ?_ ?_ | refine arun_allocj (z := ?_) 1 rfl rfl rfl rfl (by decide) rfl ?_ ?_ | refine arun_allocj (z := ?_) 2 rfl rfl rfl rfl (by decide) rfl ?_ ?_); rotate_left; (focus (simp only [S1, simprocAttr, TTTmE, TSz, z49_ne, z49_map, zS_len, hem, hso, t49, hset, hS, hS2, htl, htk, heq, hln, hov2, hpv, hti, hmm, hsl, hrf, hgs, hgb, hfn, hmax, all_scalar, pg_b hb hne, pg_lb hl, pg_b0 hb hne, pg_lb0 hl, gmB, spB, gl, takeA_arr, takeA_st, List.length_map, List.length_take, List.length_drop, List.length_cons, List.length_nil, pg_len, pg_get0, pg_geti, pg_set0, pg_seti, Nat.mul_one, Nat.zero_add, Nat.add_zero, Int.toNat_natCast, zeroB]; rfl))) | (refine awp_seq_k fun K hK => ?_) | (refine awp_drawR [0, 1, 2, 3, 4, 5, 6, 7, 8, 9, 10, 11, 12, 13, 14, 15, 16] 0 (fs := []) rfl (by kernel_rfl) (by kernel_rfl) ?_) | ((first | refine awp_region ?_ | refine awp_draw (by kernel_rfl) ?_ | refine awp_block ?_ | refine awp_exit ?_ | refine awp_skip ?_ | refine awp_ret ?_); (try simp only [NB, simprocAttr])))
  all_goals simp only [EndH, FinH, resA, resL, resA1, lastV, lastA, lastAs, pur, purs, pg_len, pg_take, pg_take0, List.length_append, List.length_cons, List.length_nil, S1, simprocAttr, Nat.le_add_right, Nat.le_refl] <;> first | exact pg_keep' hl | exact ⟨pg_keep' hl, rfl⟩ | exact ⟨pg_keep' hl, rfl, rfl⟩
theorem tfault_at {h : Heap} {b lb : Nat} {ns : List Nd} {fl : List Fl} {S : List Int} {l : List Sp} (ok : GmOk h b lb S l) (i e : Int) (L : Heap) :
    ACalls Tryd.prog G 74 [.ptr b 0 0, .i i, .i e] (putG h b lb ns fl S l ++ L) (fun r h' => r = .undef ∧ h' = putG h b lb ns fl S (l ++ [faultS S i e]) ++ L) := by
  have := tfault_calls (G := G) (ns := ns) (fl := fl) (ok.ext L) i e
  rwa [pg_app ok.hb ok.hl, pg_app ok.hb ok.hl] at this

theorem tcatch_calls {h : Heap} {b lb : Nat} {ns : List Nd} {fl : List Fl} {S : List Int} {l : List Sp} (ok : GmOk h b lb S l) (st : StOk S) (m : Sp) (c : Nat) {k : Nd} (hc : ns[c]? = some k) (ha : 0 ≤ k.a ∧ k.a ≤ 4) (fr : List Int) (hfr : InF fr) (to : List Int) (hto : InF to) (he : to = outsN fl c) :
    ACalls Tryd.prog G 77 [.ptr b 0 0, aMv m, .i c, aI fr, aI to] (putG h b lb ns fl S l) (fun r h' => r = .undef ∧ h' = putG h b lb ns fl S (l ++ catchG ns fl S m.node m.arg c fr)) := by
  have hb := ok.hb
  have hl := ok.hl
  have hne := ok.ne
  have hS := ok.held.1
  have gl := gmC_len (ns := ns) (fl := fl) (lb := lb) (n := l.length) hS
  have c0 : (0 : Int) ≤ (c : Int) := by omega
  have hc' := rowN hc
  have en : ndA ns c = k.a := by unfold ndA; rw [Int.toNat_natCast, hc]
  by_cases h4 : k.a = 4
  · have eg : catchG ns fl S m.node m.arg c fr = moveG S ⟨m.node, m.arg, 4, c, 0, S⟩ fr to := by unfold catchG; rw [en, if_neg (by omega), he]
    have es := stF_move hS (m := ⟨m.node, m.arg, 4, c, 0, S⟩) (Chg.id hS) hfr hto
    have e4 : (k.a == 4) = true := by simp [h4]
    rw [eg, ← es]
    refine acalls_heap (rl := []) mixed Tryd.func77 rfl (rs := []) rfl Tryd.ntmps77 (by simp) ?_
    repeat' (first | ((first | refine aops_nil ?_ | refine aqops_nil ?_); (try simp only [NB])) | ((repeat ((fail_if_success (refine hK _ ?_)); clear hK K)); refine hK _ ?_; clear hK K) | ((first | refine aops_k fun K1 hK1 => ?_ | refine aqops_k fun K1 hK1 => ?_ | refine awp_cond_k fun A B hA hB => ?_); simp only [S1, simprocAttr, TTTmE, c0, hc', takeA_sl0, e4, eN, takeA_arr, takeA_st, List.length_map, List.length_take, List.length_drop, pg_len, pg_get0, pg_geti, pg_set0, pg_seti, pg_b hb hne, pg_lb hl, pg_b0 hb hne, pg_lb0 hl, gmB, spB, gl, all_scalar, Nat.mul_one, Nat.zero_add, Nat.add_zero, Int.toNat_natCast, List.length_cons, List.length_nil]; first | (refine hK1 _ ?_; clear hK1 K1) | ((first | refine hA ?_ | refine hB ?_); clear hA hB A B) | ((first | apply call_a E51 | apply call_q E51); exact (step_nil_at ok ⟨m.node, m.arg, 4, c, 0, S⟩ fr to hfr hto _); (refine hK1 _ ?_; clear hK1 K1)) | (((first | (refine ⟨fun hg => hA ?_, fun hg => hB ?_⟩ <;> clear hA hB A B) | refine ⟨fun hg => ?_, fun hg => ?_⟩) <;> (try simp only [BN2] at hg) <;> (try simp only [hg, cond_true, cond_false])) <;> (try (refine hK1 _ ?_; clear hK1 K1)) <;> (try simp only [BN3] at hg))) | (refine awp_seq_k fun K hK => ?_) | ((first | refine awp_region ?_ | refine awp_draw (by kernel_rfl) ?_ | refine awp_block ?_ | refine awp_exit ?_ | refine awp_skip ?_ | refine awp_ret ?_); (try simp only [NB, simprocAttr])))
    all_goals simp only [EndH, FinH, resA, resL, resA1, lastV, lastA, lastAs, pur, purs, pg_len, pg_take, pg_take0, List.length_append, List.length_cons, List.length_nil, S1, simprocAttr, Nat.le_add_right, Nat.le_refl] <;> first | exact pg_keep' hl | exact ⟨pg_keep' hl, rfl⟩ | exact ⟨pg_keep' hl, rfl, rfl⟩
  · obtain ⟨a, hka⟩ := Int.eq_ofNat_of_zero_le ha.1
    have a4 : a < 4 := by omega
    have a0 : (0 : Int) ≤ (a : Int) := by omega
    have a4' : (a : Int) < 4 := by omega
    have e4 : ((a : Int) == 4) = false := by simp; omega
    obtain ⟨hq, q0, q3⟩ := st.q a4
    have gq := gmC_q (ns := ns) (fl := fl) (lb := lb) (n := l.length) hq
    have e2 : qAt S k.a = qAt S a := by rw [hka]
    generalize hqv : qAt S (a : Int) = q at *
    by_cases hz : q = 0
    · have eg : catchG ns fl S m.node m.arg c fr = [] := by unfold catchG; rw [en, if_pos (by omega), e2, if_pos hz]
      have hz' : decide (0 < q) = false := decide_eq_false (by omega)
      rw [eg, List.append_nil]
      refine acalls_heap (rl := []) mixed Tryd.func77 rfl (rs := []) rfl Tryd.ntmps77 (by simp) ?_
      repeat' (first | ((first | refine aops_nil ?_ | refine aqops_nil ?_); (try simp only [NB])) | ((repeat ((fail_if_success (refine hK _ ?_)); clear hK K)); refine hK _ ?_; clear hK K) | ((first | refine aops_k fun K1 hK1 => ?_ | refine aqops_k fun K1 hK1 => ?_ | refine awp_cond_k fun A B hA hB => ?_); simp only [S1, simprocAttr, TTTmE, TSz, z49_ne, c0, hc', takeA_sl0, hka, e4, a0, a4', gq, hz', eN, takeA_arr, takeA_st, List.length_map, List.length_take, List.length_drop, pg_len, pg_get0, pg_geti, pg_set0, pg_seti, pg_b hb hne, pg_lb hl, pg_b0 hb hne, pg_lb0 hl, gmB, spB, gl, all_scalar, Nat.mul_one, Nat.zero_add, Nat.add_zero, Int.toNat_natCast, List.length_cons, List.length_nil]; first | (refine hK1 _ ?_; clear hK1 K1) | ((first | refine hA ?_ | refine hB ?_); clear hA hB A B) | (((first | (refine ⟨fun hg => hA ?_, fun hg => hB ?_⟩ <;> clear hA hB A B) | refine ⟨fun hg => ?_, fun hg => ?_⟩) <;> (try simp only [BN2] at hg) <;> (try simp only [hg, cond_true, cond_false])) <;> (try (refine hK1 _ ?_; clear hK1 K1)) <;> (try simp only [BN3] at hg))) | (refine awp_seq_k fun K hK => ?_) | ((first | refine awp_region ?_ | refine awp_draw (by kernel_rfl) ?_ | refine awp_block ?_ | refine awp_exit ?_ | refine awp_skip ?_ | refine awp_ret ?_); (try simp only [NB, simprocAttr])))
      all_goals simp only [EndH, FinH, resA, resL, resA1, lastV, lastA, lastAs, pur, purs, pg_len, pg_take, pg_take0, List.length_append, List.length_cons, List.length_nil, S1, simprocAttr, Nat.le_add_right, Nat.le_refl] <;> first | exact pg_keep' hl | exact ⟨pg_keep' hl, rfl⟩ | exact ⟨pg_keep' hl, rfl, rfl⟩
    · have eg : catchG ns fl S m.node m.arg c fr = moveG S ⟨m.node, m.arg, 3, c, 0, S.set (44 + a) (q - 1)⟩ fr to := by
        unfold catchG; rw [en, if_pos (by omega), e2, if_neg hz, hka, Int.toNat_natCast, he]
      have hz' : decide (0 < q) = true := decide_eq_true (by omega)
      have es := stF_move hS (m := ⟨m.node, m.arg, 3, c, 0, S⟩) (Chg.set hS (k := 44 + a) (by omega) (q - 1)) hfr hto
      simp only at es
      rw [eg, ← es]
      have hCl : ∀ (X : Option Blk) (A : Option Blk) (T : List Int), T.length = 49 → T.drop 40 = S.drop 40 → ACalls Tryd.prog G 96 [.ptr (h.length + 2 + 1) 0 0, .ptr (h.length + 1) 0 0] (putG h b lb ns fl S l ++ ([X, some ⟨0, [.i a]⟩] ++ [A, some ⟨0, T.map AV.i⟩])) (fun r h' => r = .undef ∧ h' = putG h b lb ns fl S l ++ ([X, some ⟨0, [.i a]⟩] ++ [A, some ⟨0, (T.set (44 + a) (q - 1)).map AV.i⟩])) := by
        intro X A T hT hd
        have hqT : T[44 + a]? = some q := by
          have e : (T.drop 40)[4 + a]? = (S.drop 40)[4 + a]? := by rw [hd]
          rw [List.getElem?_drop, List.getElem?_drop, show 40 + (4 + a) = 44 + a by omega] at e
          rw [e, hq]
        have := less_calls (G := G) (H := putG h b lb ns fl S l ++ ([X, some ⟨0, [.i a]⟩] ++ [A, some ⟨0, T.map AV.i⟩])) (c := h.length + 2 + 1) (r := h.length + 1) (gc := 0) (gr := 0) (by rw [show h.length + 2 + 1 = h.length + 3 by omega, pg_geti]; rfl) hT a4 (by rw [pg_geti]; rfl) hqT ⟨q0, q3⟩
        rw [show h.length + 2 + 1 = h.length + 3 by omega] at this ⊢
        rw [pg_seti] at this
        exact this
      have hst := fun X => step_fn_at (G := G) (ns := ns) (fl := fl) ok ⟨m.node, m.arg, 3, c, 0, S⟩ fr to hfr hto [X, some ⟨0, [.i a]⟩] E96 (caps := [.ptr (h.length + 1) 0 0]) ⟨by simp [avlt], trivial⟩ (fun T hT => by rw [List.length_set, hT]) (hCl X)
      refine acalls_heap (rl := []) mixed Tryd.func77 rfl (rs := []) rfl Tryd.ntmps77 (by simp) ?_
      repeat' (first | ((first | refine aops_nil ?_ | refine aqops_nil ?_); (try simp only [NB])) | ((repeat ((fail_if_success (refine hK _ ?_)); clear hK K)); refine hK _ ?_; clear hK K) | ((first | refine aops_k fun K1 hK1 => ?_ | refine aqops_k fun K1 hK1 => ?_ | refine awp_cond_k fun A B hA hB => ?_); simp only [S1, simprocAttr, TTTmE, TSz, z49_ne, c0, hc', takeA_sl0, hka, e4, a0, a4', gq, hz', eN, takeA_arr, takeA_st, List.length_map, List.length_take, List.length_drop, pg_len, pg_get0, pg_geti, pg_set0, pg_seti, pg_b hb hne, pg_lb hl, pg_b0 hb hne, pg_lb0 hl, gmB, spB, gl, all_scalar, Nat.mul_one, Nat.zero_add, Nat.add_zero, Int.toNat_natCast, List.length_cons, List.length_nil]; first | (refine hK1 _ ?_; clear hK1 K1) | ((first | refine hA ?_ | refine hB ?_); clear hA hB A B) | ((first | apply call_a E51 | apply call_q E51); exact (hst _); (refine hK1 _ ?_; clear hK1 K1)) | (((first | (refine ⟨fun hg => hA ?_, fun hg => hB ?_⟩ <;> clear hA hB A B) | refine ⟨fun hg => ?_, fun hg => ?_⟩) <;> (try simp only [BN2] at hg) <;> (try simp only [hg, cond_true, cond_false])) <;> (try (refine hK1 _ ?_; clear hK1 K1)) <;> (try simp only [BN3] at hg))) | (refine awp_seq_k fun K hK => ?_) | ((first | refine awp_region ?_ | refine awp_draw (by kernel_rfl) ?_ | refine awp_block ?_ | refine awp_exit ?_ | refine awp_skip ?_ | refine awp_ret ?_); (try simp only [NB, simprocAttr])))
      all_goals simp only [EndH, FinH, resA, resL, resA1, lastV, lastA, lastAs, pur, purs, pg_len, pg_take, pg_take0, List.length_append, List.length_cons, List.length_nil, S1, simprocAttr, Nat.le_add_right, Nat.le_refl] <;> first | exact pg_keep' hl | exact ⟨pg_keep' hl, rfl⟩ | exact ⟨pg_keep' hl, rfl, rfl⟩
end Go.Proofs.YtjpphhcimpclpaaDoor.AM
end

section
set_option linter.unusedVariables false
set_option linter.unusedSimpArgs false
set_option maxRecDepth 4000
set_option maxHeartbeats 4000000
namespace Go.Proofs.YtjpphhcimpclpaaDoor.AM
open Go Go.Proofs
set_option linter.defProp false in
def TTTmG := And.intro T2 (And.intro T3 (And.intro T4 (And.intro T22 (And.intro T23 (And.intro T25 (And.intro T26 (And.intro T27 (And.intro T40 (And.intro T46 (And.intro T53 (And.intro T60 (And.intro T95 (And.intro T111 (And.intro T113 (And.intro T116 (And.intro T117 T119))))))))))))))))
attribute [local irreducible] awp aops aqops aeops arun arunT
variable {G : Nat → Option (List PV)}

theorem tTokens_calls (S : List Int) (hS : S.length = 49) (h : Heap) : ACalls Tryd.prog G 19 [aS S] h (fun r h' => r = .i (sumW (S.take 40)) ∧ h' = h) := by
  have hne := ne_is hS
  have t40 : ((S.map AV.i).take 40) = (S.take 40).map AV.i := by rw [List.map_take]
  have l40 : (S.take 40).length = 40 := by rw [List.length_take]; omega
  refine acalls_pure (rl := []) mixed Tryd.func19 rfl (rs := [.tmp 2]) rfl Tryd.ntmps19 (by simp) ?_
  repeat' (first | ((first | refine aops_nil ?_ | refine aqops_nil ?_); (try simp only [NB])) | ((repeat ((fail_if_success (refine hK _ ?_)); clear hK K)); refine hK _ ?_; clear hK K) | ((first | refine aops_k fun K1 hK1 => ?_ | refine aqops_k fun K1 hK1 => ?_ | refine awp_cond_k fun A B hA hB => ?_); simp only [S1, simprocAttr, TTTmG, TSz, z49_ne, z49_map, zS_len, List.length_map, hS, hne, t40, all_scalar, takeA_arr, takeA_st, List.drop_zero]; first | (refine hK1 _ ?_; clear hK1 K1) | ((first | refine hA ?_ | refine hB ?_); clear hA hB A B) | (((first | (refine ⟨fun hg => hA ?_, fun hg => hB ?_⟩ <;> clear hA hB A B) | refine ⟨fun hg => ?_, fun hg => ?_⟩) <;> (try simp only [BN2] at hg) <;> (try simp only [hg, cond_true, cond_false])) <;> (try (refine hK1 _ ?_; clear hK1 K1)) <;> (try simp only [BN3] at hg))) | (refine awp_seq_k fun K hK => ?_) | ((first | refine awp_region ?_ | refine awp_draw (by kernel_rfl) ?_ | refine awp_block ?_ | refine awp_exit ?_ | refine awp_skip ?_ | refine awp_ret ?_); (try simp only [NB, simprocAttr])))
  refine awp_for 40 16 (fun i => [(8, .i i), (7, .agg ((S.take 40).map AV.i)), (3, .i (sumW (S.take i)))]) (fun i => []) (fun i => True) ?_ trivial fun i hi hp K hK => ?_
  · refine ⟨rfl, ⟨[some ⟨0, S.map AV.i⟩], rfl⟩, ?_, trivial⟩
    simp only [List.take_zero, sumW, List.foldl_nil]
    simp only [keeps, avlt, avlts, blksLt, frL, upd_get, S1, simprocAttr, TTTmG, List.length_map, Int.natCast_zero, AV.p.injEq, PV.int.injEq, PV.bool.injEq, PV.sl.injEq] <;> (try and_intros) <;> (try assumption) <;> (try trivial) <;> (try omega)
    all_goals exact avlts_is _ _
  rcases Nat.lt_or_ge i 40 with hlt | hge
  · obtain ⟨x, hx⟩ : ∃ x, S[i]? = some x := ⟨_, List.getElem?_eq_getElem (by omega)⟩
    have i0 : (0 : Int) ≤ (i : Int) := by omega
    have i40 : (i : Int) < 40 := by omega
    have hst := sumW_step hx
    have hxt : (S.take 40)[i]? = some x := by rw [List.getElem?_take_of_lt hlt]; exact hx
    repeat' (first | ((first | refine aops_nil ?_ | refine aqops_nil ?_); (try simp only [NB])) | ((repeat ((fail_if_success (refine hK _ ?_)); clear hK K)); refine hK _ ?_; clear hK K) | ((first | refine aops_k fun K1 hK1 => ?_ | refine aqops_k fun K1 hK1 => ?_ | refine awp_cond_k fun A B hA hB => ?_); simp only [S1, simprocAttr, TTTmG, hit40 hlt rfl, next40 (n := 40) (by omega) hlt, i0, i40, dropI hxt, l40, List.length_map, Int.toNat_natCast, Nat.mul_one, Nat.zero_add]; first | (refine hK1 _ ?_; clear hK1 K1) | ((first | refine hA ?_ | refine hB ?_); clear hA hB A B) | (((first | (refine ⟨fun hg => hA ?_, fun hg => hB ?_⟩ <;> clear hA hB A B) | refine ⟨fun hg => ?_, fun hg => ?_⟩) <;> (try simp only [BN2] at hg) <;> (try simp only [hg, cond_true, cond_false])) <;> (try (refine hK1 _ ?_; clear hK1 K1)) <;> (try simp only [BN3] at hg))) | (refine awp_seq_k fun K hK => ?_) | ((first | refine awp_region ?_ | refine awp_draw (by kernel_rfl) ?_ | refine awp_block ?_ | refine awp_exit ?_ | refine awp_skip ?_ | refine awp_ret ?_); (try simp only [NB, simprocAttr])))
    all_goals refine ⟨hlt, trivial, ?_⟩
    all_goals simp only [hst]
    all_goals refine ⟨rfl, ⟨[], by simp only [List.append_nil]⟩, ?_, trivial⟩
    all_goals simp only [keeps, avlt, avlts, blksLt, frL, upd_get, S1, simprocAttr, TTTmG, List.length_map, Int.natCast_zero, AV.p.injEq, PV.int.injEq, PV.bool.injEq, PV.sl.injEq] <;> (try and_intros) <;> (try assumption) <;> (try trivial) <;> (try omega)
    all_goals exact avlts_is _ _
  · obtain rfl : i = 40 := by omega
    repeat' (first | ((first | refine aops_nil ?_ | refine aqops_nil ?_); (try simp only [NB])) | ((repeat ((fail_if_success (refine hK _ ?_)); clear hK K)); refine hK _ ?_; clear hK K) | ((first | refine aops_k fun K1 hK1 => ?_ | refine aqops_k fun K1 hK1 => ?_ | refine awp_cond_k fun A B hA hB => ?_); simp only [S1, simprocAttr, TTTmG]; first | (refine hK1 _ ?_; clear hK1 K1) | ((first | refine hA ?_ | refine hB ?_); clear hA hB A B) | (((first | (refine ⟨fun hg => hA ?_, fun hg => hB ?_⟩ <;> clear hA hB A B) | refine ⟨fun hg => ?_, fun hg => ?_⟩) <;> (try simp only [BN2] at hg) <;> (try simp only [hg, cond_true, cond_false])) <;> (try (refine hK1 _ ?_; clear hK1 K1)) <;> (try simp only [BN3] at hg))) | (refine awp_seq_k fun K hK => ?_) | ((first | refine awp_region ?_ | refine awp_draw (by kernel_rfl) ?_ | refine awp_block ?_ | refine awp_exit ?_ | refine awp_skip ?_ | refine awp_ret ?_); (try simp only [NB, simprocAttr])))
    all_goals simp only [EndP, FinP, resA, resL, resA1, lastV, lastA, lastAs, pur, purs, take_app, List.take_length, S1, simprocAttr, TTTmG, Nat.le_add_right, Nat.le_refl]

theorem await1_calls (k : Nd) (m : Int) (H : Heap) {r g : Nat} (hr : H[r]? = some (some ⟨g, [.i m]⟩)) : ACalls Tryd.prog G 80 [aNd k, .ptr r g 0] H (fun q h' => q = .b (k.kind == 8 && k.a == m) ∧ h' = H) := by
  have hrL := app_get1 hr
  cases e : (k.kind == 8) with
  | false =>
    refine acalls_pure (rl := []) mixed Tryd.func80 rfl (rs := [.tmp 3]) rfl Tryd.ntmps80 (by simp) ?_
    repeat' (first | ((first | refine aops_nil ?_ | refine aqops_nil ?_); (try simp only [NB])) | ((repeat ((fail_if_success (refine hK _ ?_)); clear hK K)); refine hK _ ?_; clear hK K) | ((first | refine aops_k fun K1 hK1 => ?_ | refine aqops_k fun K1 hK1 => ?_ | refine awp_cond_k fun A B hA hB => ?_); simp only [S1, simprocAttr, TTTmG, hr, hrL, e]; first | (refine hK1 _ ?_; clear hK1 K1) | ((first | refine hA ?_ | refine hB ?_); clear hA hB A B) | (refine join_x (v := ?_) (fun hg hk9 => ?_) ?_; rotate_left; (focus (try ((try simp only [BN] at hg); simp only [S1, simprocAttr, TTTmG, hr, hrL, e, hg] at hk9 ⊢)); first | exact hk9); (refine hK1 _ ?_; clear hK1 K1)) | (((first | (refine ⟨fun hg => hA ?_, fun hg => hB ?_⟩ <;> clear hA hB A B) | refine ⟨fun hg => ?_, fun hg => ?_⟩) <;> (try simp only [BN2] at hg) <;> (try simp only [hg, cond_true, cond_false])) <;> (try (refine hK1 _ ?_; clear hK1 K1)) <;> (try simp only [BN3] at hg))) | (refine awp_seq_k fun K hK => ?_) | ((first | refine awp_region ?_ | refine awp_draw (by kernel_rfl) ?_ | refine awp_block ?_ | refine awp_exit ?_ | refine awp_skip ?_ | refine awp_ret ?_); (try simp only [NB, simprocAttr])))
    all_goals simp only [EndP, FinP, resA, resL, resA1, lastV, lastA, lastAs, pur, purs, take_app, List.take_length, S1, simprocAttr, TTTmG, Nat.le_add_right, Nat.le_refl]
    all_goals rfl
  | true =>
    refine acalls_pure (rl := []) mixed Tryd.func80 rfl (rs := [.tmp 3]) rfl Tryd.ntmps80 (by simp) ?_
    repeat' (first | ((first | refine aops_nil ?_ | refine aqops_nil ?_); (try simp only [NB])) | ((repeat ((fail_if_success (refine hK _ ?_)); clear hK K)); refine hK _ ?_; clear hK K) | ((first | refine aops_k fun K1 hK1 => ?_ | refine aqops_k fun K1 hK1 => ?_ | refine awp_cond_k fun A B hA hB => ?_); simp only [S1, simprocAttr, TTTmG, hr, hrL, e]; first | (refine hK1 _ ?_; clear hK1 K1) | ((first | refine hA ?_ | refine hB ?_); clear hA hB A B) | (refine join_x (v := ?_) (fun hg hk9 => ?_) ?_; rotate_left; (focus (try ((try simp only [BN] at hg); simp only [S1, simprocAttr, TTTmG, hr, hrL, e, hg] at hk9 ⊢)); first | exact hk9); (refine hK1 _ ?_; clear hK1 K1)) | (((first | (refine ⟨fun hg => hA ?_, fun hg => hB ?_⟩ <;> clear hA hB A B) | refine ⟨fun hg => ?_, fun hg => ?_⟩) <;> (try simp only [BN2] at hg) <;> (try simp only [hg, cond_true, cond_false])) <;> (try (refine hK1 _ ?_; clear hK1 K1)) <;> (try simp only [BN3] at hg))) | (refine awp_seq_k fun K hK => ?_) | ((first | refine awp_region ?_ | refine awp_draw (by kernel_rfl) ?_ | refine awp_block ?_ | refine awp_exit ?_ | refine awp_skip ?_ | refine awp_ret ?_); (try simp only [NB, simprocAttr])))
    all_goals simp only [EndP, FinP, resA, resL, resA1, lastV, lastA, lastAs, pur, purs, take_app, List.take_length, S1, simprocAttr, TTTmG, Nat.le_add_right, Nat.le_refl]
    all_goals rfl

theorem findG_any {α : Type} (p : α → Bool) : ∀ (l : List α) (i : Nat), decide (0 ≤ findG p l i) = l.any p
  | [], i => rfl
  | k :: r, i => by
    unfold findG
    cases h : p k with
    | true => simp [h]
    | false => simp [h, findG_any p r (i + 1)]
theorem containsN_calls {f : FuncId} (hE : Enters Tryd.prog f) {caps : List AV} {p : Nd → Bool} (ks : List Nd) (hl : ks.length ≤ 100) (h : Heap) (hcap : avlts h.length caps)
    (hc : ∀ k ∈ ks, ACalls Tryd.prog G f (aNd k :: caps) h (fun r h' => r = .b (p k) ∧ h' = h)) :
    ACalls Tryd.prog G 79 [.p (.sl (ks.map eN)), .fn f caps] h (fun r h' => r = .b (ks.any p) ∧ h' = h) := by
  rw [← findG_any p ks 0]
  refine acalls_pure (rl := []) mixed Tryd.func79 rfl (rs := [.tmp 4]) rfl Tryd.ntmps79 (by simp) ?_
  repeat' (first | ((first | refine aops_nil ?_ | refine aqops_nil ?_); (try simp only [NB])) | ((repeat ((fail_if_success (refine hK _ ?_)); clear hK K)); refine hK _ ?_; clear hK K) | ((first | refine aops_k fun K1 hK1 => ?_ | refine aqops_k fun K1 hK1 => ?_ | refine awp_cond_k fun A B hA hB => ?_); simp only [S1, simprocAttr, TTTmG]; first | (refine hK1 _ ?_; clear hK1 K1) | ((first | refine hA ?_ | refine hB ?_); clear hA hB A B) | ((first | apply call_a E53 | apply call_q E53); exact (indexN_calls hE ks hl _ hcap hc); (refine hK1 _ ?_; clear hK1 K1)) | (((first | (refine ⟨fun hg => hA ?_, fun hg => hB ?_⟩ <;> clear hA hB A B) | refine ⟨fun hg => ?_, fun hg => ?_⟩) <;> (try simp only [BN2] at hg) <;> (try simp only [hg, cond_true, cond_false])) <;> (try (refine hK1 _ ?_; clear hK1 K1)) <;> (try simp only [BN3] at hg))) | (refine awp_seq_k fun K hK => ?_) | ((first | refine awp_region ?_ | refine awp_draw (by kernel_rfl) ?_ | refine awp_block ?_ | refine awp_exit ?_ | refine awp_skip ?_ | refine awp_ret ?_); (try simp only [NB, simprocAttr])))
  simp only [EndP, FinP, resA, resL, resA1, lastV, lastA, lastAs, pur, purs, take_app, List.take_length, S1, simprocAttr, TTTmG, Nat.le_add_right, Nat.le_refl]

theorem awaits_calls (ns : List Nd) (fl : List Fl) (hl : ns.length ≤ 100) (m : Nat) (hm : m < 4) (h : Heap) : ACalls Tryd.prog G 50 [aNet ns fl, .i m] h (fun r h' => r = .b (awaitsB ns m) ∧ h' = h) := by
  have m0 : decide ((0 : Int) ≤ (m : Int)) = true := by simp
  have m4 : decide ((m : Int) < 4) = true := by simp; omega
  have hA : ∀ A : Option Blk, ∀ k ∈ ns, ACalls Tryd.prog G 80 [aNd k, .ptr (h.length + 1) 0 0] (h ++ [A, some ⟨0, [.i m]⟩]) (fun q h' => q = .b (k.kind == 8 && k.a == m) ∧ h' = h ++ [A, some ⟨0, [.i m]⟩]) :=
    fun A k _ => await1_calls k m _ (by rw [get_app]; rfl)
  have hcn := fun A : Option Blk => containsN_calls (G := G) E80 (caps := [.ptr (h.length + 1) 0 0]) (p := fun k => k.kind == 8 && k.a == m) ns hl (h ++ [A, some ⟨0, [.i m]⟩]) ⟨by simp [avlt], trivial⟩ (hA A)
  have ea : (ns.any fun k => k.kind == 8 && k.a == m) = awaitsB ns m := rfl
  rw [← ea]
  refine acalls_pure (rl := []) mixed Tryd.func50 rfl (rs := [.tmp 4]) rfl Tryd.ntmps50 (by simp) ?_
  repeat' (first | ((first | refine aops_nil ?_ | refine aqops_nil ?_); (try simp only [NB])) | ((repeat ((fail_if_success (refine hK _ ?_)); clear hK K)); refine hK _ ?_; clear hK K) | ((first | refine aops_k fun K1 hK1 => ?_ | refine aqops_k fun K1 hK1 => ?_ | refine awp_cond_k fun A B hA hB => ?_); simp only [S1, simprocAttr, TTTmG, m0, m4, List.length_map]; first | (refine hK1 _ ?_; clear hK1 K1) | ((first | refine hA ?_ | refine hB ?_); clear hA hB A B) | ((first | apply call_a E79 | apply call_q E79); exact (hcn _); (refine hK1 _ ?_; clear hK1 K1)) | (refine join_x (v := ?_) (fun hg hk9 => ?_) ?_; rotate_left; (focus (try ((try simp only [BN] at hg); simp only [S1, simprocAttr, TTTmG, m0, m4, List.length_map, hg] at hk9 ⊢)); first | exact hk9 | ((first | apply call_a E79 | apply call_q E79); exact (hcn _); exact hk9)); (refine hK1 _ ?_; clear hK1 K1)) | (((first | (refine ⟨fun hg => hA ?_, fun hg => hB ?_⟩ <;> clear hA hB A B) | refine ⟨fun hg => ?_, fun hg => ?_⟩) <;> (try simp only [BN2] at hg) <;> (try simp only [hg, cond_true, cond_false])) <;> (try (refine hK1 _ ?_; clear hK1 K1)) <;> (try simp only [BN3] at hg))) | (refine awp_seq_k fun K hK => ?_) | ((first | refine awp_region ?_ | refine awp_draw (by kernel_rfl) ?_ | refine awp_block ?_ | refine awp_exit ?_ | refine awp_skip ?_ | refine awp_ret ?_); (try simp only [NB, simprocAttr])))
  all_goals simp only [EndP, FinP, resA, resL, resA1, lastV, lastA, lastAs, pur, purs, take_app, List.take_length, S1, simprocAttr, TTTmG, Nat.le_add_right, Nat.le_refl]
end Go.Proofs.YtjpphhcimpclpaaDoor.AM
end

section
set_option linter.unusedVariables false
set_option linter.unusedSimpArgs false
set_option maxRecDepth 4000
set_option maxHeartbeats 4000000
namespace Go.Proofs.YtjpphhcimpclpaaDoor.AM
open Go Go.Proofs
set_option linter.defProp false in
def TTTmF := And.intro T2 (And.intro T3 (And.intro T4 (And.intro T22 (And.intro T23 (And.intro T25 (And.intro T26 (And.intro T27 (And.intro T31 (And.intro T40 (And.intro T46 (And.intro T53 (And.intro T58 (And.intro T60 (And.intro T71 (And.intro T95 (And.intro T111 (And.intro T113 T117)))))))))))))))))
attribute [local irreducible] awp aops aqops aeops arun arunT

/-- A drawn region without blocks. -/
theorem awp_drawQ {P : Program} {G : Nat → Option (List PV)} {rl : List String} {h0 : Heap} {id : Nat} {ops : Array Oper} {Q : Exit → St → Prop} {fr : Nat → Option AV} {nt : Nat} {hp : Heap} (ord : List Nat) (hl : ord.length = ops.size) (hn : ops.toList.all (fun o => !allocB o) = true) (hr : (zsB P ops).length = 0) {fs : List Nat} (hB : lexR .any ops fs ord (Array.replicate ops.size false) = true)
    (h : arun P G rl ops fs hp.length 0 (Q .normal) ord ⟨fr, nt, hp ++ List.replicate 0 (some ⟨0, []⟩)⟩) : awp P G rl h0 (.region id ops true) Q ⟨fr, nt, hp⟩ := awp_drawR ord 0 hl hr hB h

/-- The last Else. -/
def lastE (fl : List Fl) (l : List Int) : Int := ((l.filter (elsAt fl)).getLast?).getD (-1)
theorem lastE_step {fl : List Fl} {l : List Int} {j : Nat} {f : Int} (h : l[j]? = some f) : lastE fl (l.take (j + 1)) = if elsAt fl f = true then f else lastE fl (l.take j) := by
  unfold lastE
  rw [List.take_add_one, h, List.filter_append]
  cases he : elsAt fl f with
  | true => simp [he]
  | false => simp [he]
theorem lastE_all {fl : List Fl} : ∀ {l : List Int}, l.countP (elsAt fl) = 1 → lastE fl l = chE fl l
  | [], h => by simp at h
  | f :: r, h => by
    unfold chE
    by_cases he : elsAt fl f = true
    · rw [if_pos he]
      have h0 : r.countP (elsAt fl) = 0 := by rw [List.countP_cons_of_pos he] at h; omega
      have h1 : r.filter (elsAt fl) = [] := by
        rw [← List.length_eq_zero_iff, ← List.countP_eq_length_filter]; exact h0
      unfold lastE
      rw [List.filter_cons_of_pos he, h1]; rfl
    · rw [if_neg he]
      rw [List.countP_cons_of_neg he] at h
      rw [← lastE_all h]
      unfold lastE
      rw [List.filter_cons_of_neg he]

theorem Right.els1 {ns : List Nd} {fl : List Fl} (h : Right ns fl) {i : Nat} {k : Nd} (hc : ns[i]? = some k) (h5 : k.kind = 5) (hn : (outsN fl i).length ≠ 1) : (outsN fl i).countP (elsAt fl) = 1 := by
  have hi := (List.getElem?_eq_some_iff.mp hc).1
  have := h.three hi
  unfold threeB at this
  simp only [kind_of hc, h5] at this
  simp only [Int.reduceEq, reduceIte, Bool.or_eq_true, Bool.and_eq_true, beq_iff_eq, decide_eq_true_eq] at this
  rcases this with h | h
  · have h2 := h.2
    unfold cntB at h2
    rwa [List.take_length] at h2
  · exact absurd h.2 hn

theorem takeA_sl1 {ns : List Nd} {fl : List Fl} {S : List Int} {lb n e bt : Nat} {z : Option (List PV)} : takeA ⟨.slice e, 1, bt, z⟩ ((gmC ns fl S lb n).drop 1) = some (.p (.sl (fl.map eF))) := rfl

theorem txor_calls {h : Heap} {b lb : Nat} {ns : List Nd} {fl : List Fl} (nk : NetOk ns fl) {S : List Int} {l : List Sp} (ok : GmOk h b lb S l) (st : StOk S) (few : l.length ≤ 900000) (i : Int) (ins outs : List Int) (hi : InF ins) (ho : InF outs) (hof : ∀ x ∈ outs, ∃ i : Nat, x = (i : Int) ∧ i < fl.length)
    (hz : outs.length ≠ 1 → tk S (ins.headD 0) ≠ 0) (hels : outs.length ≠ 1 → outs.countP (elsAt fl) = 1) :
    ACalls Tryd.prog gW 76 [.ptr b 0 0, .i i, aI ins, aI outs] (putG h b lb ns fl S l) (fun r h' => r = .undef ∧ h' = putG h b lb ns fl S (l ++ xorG fl S i ins outs)) := by
  have hb := ok.hb
  have hl := ok.hl
  have hne := ok.ne
  have hS := ok.held.1
  have gl := gmC_len (ns := ns) (fl := fl) (lb := lb) (n := l.length) hS
  have gv := gmC_vars (ns := ns) (fl := fl) (lb := lb) (n := l.length) hS
  obtain ⟨m2, hm2, ht2⟩ := nk.tf
  by_cases h1 : outs.length = 1
  · have h1' : ((outs.length : Int) == 1) = true := by simp [h1]
    let acc := fun j => (ins.take j).flatMap fun f => moveG S ⟨i, f, 0, 0, 0, S⟩ [f] outs
    have hal : ∀ j, (acc j).length ≤ j := by
      intro j
      induction j with
      | zero => simp [acc]
      | succ j ih =>
        rcases Nat.lt_or_ge j ins.length with hj | hj
        · have e : ins.take (j + 1) = ins.take j ++ [ins[j]] := by rw [List.take_add_one, List.getElem?_eq_getElem hj]; rfl
          simp only [acc] at ih ⊢
          rw [e, List.flatMap_append, List.length_append]
          have := moveG_len S ⟨i, ins[j], 0, 0, 0, S⟩ [ins[j]] outs
          simp only [List.flatMap_cons, List.flatMap_nil, List.append_nil]
          omega
        · have e : ins.take (j + 1) = ins.take j := by rw [List.take_of_length_le (by omega), List.take_of_length_le hj]
          simp only [acc] at ih ⊢
          rw [e]; omega
    have hto : ∀ j, ∀ y ∈ acc j, y.to.length = 49 := by
      intro j y hy
      obtain ⟨f, _, hy⟩ := List.mem_flatMap.mp hy
      exact moveG_to hS hS y hy
    have eg : xorG fl S i ins outs = acc ins.length := by unfold xorG; rw [if_pos h1]; simp only [acc, List.take_length]
    rw [eg]
    have hil := hi.1
    refine acalls_heap (rl := []) mixed Tryd.func76 rfl (rs := []) rfl Tryd.ntmps76 (by simp) ?_
    repeat' (first | ((first | refine aops_nil ?_ | refine aqops_nil ?_); (try simp only [NB])) | ((repeat ((fail_if_success (refine hK _ ?_)); clear hK K)); refine hK _ ?_; clear hK K) | ((first | refine aops_k fun K1 hK1 => ?_ | refine aqops_k fun K1 hK1 => ?_ | refine awp_cond_k fun A B hA hB => ?_); simp only [S1, simprocAttr, TTTmF, h1', TSz, z49_ne, z49_map, zS_len, takeA_arr, takeA_st, List.length_map, List.length_take, List.length_drop, pg_len, pg_get0, pg_geti, pg_set0, pg_seti, pg_b hb hne, pg_lb hl, pg_b0 hb hne, pg_lb0 hl, gmB, spB, gl, all_scalar, Nat.mul_one, Nat.zero_add, Nat.add_zero, Int.toNat_natCast]; first | (refine hK1 _ ?_; clear hK1 K1) | ((first | refine hA ?_ | refine hB ?_); clear hA hB A B) | (((first | (refine ⟨fun hg => hA ?_, fun hg => hB ?_⟩ <;> clear hA hB A B) | refine ⟨fun hg => ?_, fun hg => ?_⟩) <;> (try simp only [BN2] at hg) <;> (try simp only [hg, cond_true, cond_false])) <;> (try (refine hK1 _ ?_; clear hK1 K1)) <;> (try simp only [BN3] at hg))) | (refine awp_seq_k fun K hK => ?_) | ((first | refine awp_region ?_ | refine awp_draw (by kernel_rfl) ?_ | refine awp_block ?_ | refine awp_exit ?_ | refine awp_skip ?_ | refine awp_ret ?_); (try simp only [NB, simprocAttr])))
    refine awp_forH ins.length 84 (fun j => putG h b lb ns fl S (l ++ acc j)) (fun j => [(20, .i j), (19, .i ins.length), (18, aI ins), (3, aI outs), (1, .i i), (0, .ptr b 0 0)]) (fun j => []) (fun j => True) (fun j => ⟨by rw [pg_len, pg_len], pg_keep hl⟩) ?_ trivial fun j hj hp K hK => ?_
    · have e0 : acc 0 = [] := by simp [acc]
      simp only [e0, List.append_nil]
      refine ⟨rfl, ⟨[], by simp only [List.append_nil]⟩, ?_, trivial⟩
      simp only [keeps, avlt, avlts, blksLt, frL, upd_get, pg_len, S1, simprocAttr, List.length_map, List.length_cons, List.length_nil, Int.natCast_zero, AV.p.injEq, PV.int.injEq, PV.bool.injEq, PV.sl.injEq] <;> (try and_intros) <;> (try assumption) <;> (try trivial) <;> (try omega)
    have okj : GmOk h b lb S (l ++ acc j) := ok.app (hto j) (by have := hal j; omega)
    rcases Nat.lt_or_ge j ins.length with hlt | hge
    · obtain ⟨f, hfj⟩ : ∃ f, ins[j]? = some f := ⟨_, List.getElem?_eq_getElem hlt⟩
      have hf1 : InF [f] := ⟨by simp, fun g hg => by rw [List.mem_singleton.mp hg]; exact hi.2 f (List.mem_of_getElem? hfj)⟩
      have es := stF_move hS (m := ⟨i, f, 0, 0, 0, S⟩) (Chg.id hS) hf1 ho
      have ea : acc (j + 1) = acc j ++ moveG S ⟨i, f, 0, 0, 0, S⟩ [f] outs := by
        simp only [acc]
        rw [List.take_add_one, hfj, List.flatMap_append]; simp
      have ea' : l ++ acc (j + 1) = (l ++ acc j) ++ stF S ⟨i, f, 0, 0, 0, S⟩ (fun T => T) [f] outs := by rw [ea, List.append_assoc, es]
      generalize hlj : l ++ acc j = lj at ea' okj ⊢
      repeat' (first | ((first | refine aops_nil ?_ | refine aqops_nil ?_); (try simp only [NB])) | ((repeat ((fail_if_success (refine hK _ ?_)); clear hK K)); refine hK _ ?_; clear hK K) | ((first | refine aops_k fun K1 hK1 => ?_ | refine aqops_k fun K1 hK1 => ?_ | refine awp_cond_k fun A B hA hB => ?_); simp only [S1, simprocAttr, TTTmF, rowI hfj, hitI hlt, nextI (by omega) hlt, TSz, z49_ne, z49_map, zS_len, takeA_arr, takeA_st, List.length_map, List.length_take, List.length_drop, pg_len, pg_get0, pg_geti, pg_set0, pg_seti, pg_b hb hne, pg_lb hl, pg_b0 hb hne, pg_lb0 hl, gmB, spB, gl, all_scalar, Nat.mul_one, Nat.zero_add, Nat.add_zero, Int.toNat_natCast, List.length_cons, List.length_nil]; first | (refine hK1 _ ?_; clear hK1 K1) | ((first | refine hA ?_ | refine hB ?_); clear hA hB A B) | ((first | apply call_a E51 | apply call_q E51); exact (step_nil okj ⟨i, f, 0, 0, 0, S⟩ [f] outs hf1 ho); (refine hK1 _ ?_; clear hK1 K1)) | (((first | (refine ⟨fun hg => hA ?_, fun hg => hB ?_⟩ <;> clear hA hB A B) | refine ⟨fun hg => ?_, fun hg => ?_⟩) <;> (try simp only [BN2] at hg) <;> (try simp only [hg, cond_true, cond_false])) <;> (try (refine hK1 _ ?_; clear hK1 K1)) <;> (try simp only [BN3] at hg))) | (refine awp_seq_k fun K hK => ?_) | ((first | refine awp_region ?_ | refine awp_draw (by kernel_rfl) ?_ | refine awp_block ?_ | refine awp_exit ?_ | refine awp_skip ?_ | refine awp_ret ?_); (try simp only [NB, simprocAttr])))
      all_goals refine ⟨hlt, trivial, ?_⟩
      all_goals simp only [ea']
      all_goals refine ⟨rfl, ⟨[], by simp only [List.append_nil]⟩, ?_, trivial⟩
      all_goals simp only [keeps, avlt, avlts, blksLt, frL, upd_get, pg_len, S1, simprocAttr, List.length_map, List.length_cons, List.length_nil, Int.natCast_zero, AV.p.injEq, PV.int.injEq, PV.bool.injEq, PV.sl.injEq] <;> (try and_intros) <;> (try assumption) <;> (try trivial) <;> (try omega)
    · obtain rfl : j = ins.length := by omega
      repeat' (first | ((first | refine aops_nil ?_ | refine aqops_nil ?_); (try simp only [NB])) | ((repeat ((fail_if_success (refine hK _ ?_)); clear hK K)); refine hK _ ?_; clear hK K) | ((first | refine aops_k fun K1 hK1 => ?_ | refine aqops_k fun K1 hK1 => ?_ | refine awp_cond_k fun A B hA hB => ?_); simp only [S1, simprocAttr, TTTmF, endI]; first | (refine hK1 _ ?_; clear hK1 K1) | ((first | refine hA ?_ | refine hB ?_); clear hA hB A B) | (((first | (refine ⟨fun hg => hA ?_, fun hg => hB ?_⟩ <;> clear hA hB A B) | refine ⟨fun hg => ?_, fun hg => ?_⟩) <;> (try simp only [BN2] at hg) <;> (try simp only [hg, cond_true, cond_false])) <;> (try (refine hK1 _ ?_; clear hK1 K1)) <;> (try simp only [BN3] at hg))) | (refine awp_seq_k fun K hK => ?_) | ((first | refine awp_region ?_ | refine awp_draw (by kernel_rfl) ?_ | refine awp_block ?_ | refine awp_exit ?_ | refine awp_skip ?_ | refine awp_ret ?_); (try simp only [NB, simprocAttr])))
      all_goals simp only [EndH, FinH, resA, resL, resA1, lastV, lastA, lastAs, pur, purs, pg_len, pg_take, pg_take0, List.length_append, List.length_cons, List.length_nil, S1, simprocAttr, Nat.le_add_right, Nat.le_refl] <;> first | exact pg_keep' hl | exact ⟨pg_keep' hl, rfl⟩ | exact ⟨pg_keep' hl, rfl, rfl⟩
  have h1' : ((outs.length : Int) == 1) = false := by simp; omega
  have hol := ho.1
  have hels := hels h1
  have hz := hz h1
  refine acalls_heap (rl := []) mixed Tryd.func76 rfl (rs := []) rfl Tryd.ntmps76 (by simp) ?_
  repeat' (first | ((first | refine aops_nil ?_ | refine aqops_nil ?_); (try simp only [NB])) | ((repeat ((fail_if_success (refine hK _ ?_)); clear hK K)); refine hK _ ?_; clear hK K) | ((first | refine aops_k fun K1 hK1 => ?_ | refine aqops_k fun K1 hK1 => ?_ | refine awp_cond_k fun A B hA hB => ?_); simp only [S1, simprocAttr, TTTmF, h1', TSz, z49_ne, z49_map, zS_len, takeA_arr, takeA_st, List.length_map, List.length_take, List.length_drop, pg_len, pg_get0, pg_geti, pg_set0, pg_seti, pg_b hb hne, pg_lb hl, pg_b0 hb hne, pg_lb0 hl, gmB, spB, gl, all_scalar, Nat.mul_one, Nat.zero_add, Nat.add_zero, Int.toNat_natCast]; first | (refine hK1 _ ?_; clear hK1 K1) | ((first | refine hA ?_ | refine hB ?_); clear hA hB A B) | (((first | (refine ⟨fun hg => hA ?_, fun hg => hB ?_⟩ <;> clear hA hB A B) | refine ⟨fun hg => ?_, fun hg => ?_⟩) <;> (try simp only [BN2] at hg) <;> (try simp only [hg, cond_true, cond_false])) <;> (try (refine hK1 _ ?_; clear hK1 K1)) <;> (try simp only [BN3] at hg))) | (refine awp_seq_k fun K hK => ?_) | ((first | refine awp_region ?_ | refine awp_draw (by kernel_rfl) ?_ | refine awp_block ?_ | refine awp_exit ?_ | refine awp_skip ?_ | refine awp_ret ?_); (try simp only [NB, simprocAttr])))
  refine awp_for outs.length 84 (fun j => [(35, .i j), (34, .i outs.length), (33, aI outs), (10, .i (lastE fl (outs.take j))), (2, aI ins), (1, .i i), (0, .ptr b 0 0)]) (fun j => []) (fun j => chF fl (vS S) outs = chF fl (vS S) (outs.drop j)) ?_ rfl fun j hj hp K hK => ?_
  · refine ⟨rfl, ⟨[], by simp only [List.append_nil]⟩, ?_, trivial⟩
    have e0 : lastE fl (outs.take 0) = -1 := rfl
    simp only [e0]
    simp only [keeps, avlt, avlts, blksLt, frL, upd_get, pg_len, S1, simprocAttr, List.length_map, List.length_cons, List.length_nil, Int.natCast_zero, AV.p.injEq, PV.int.injEq, PV.bool.injEq, PV.sl.injEq] <;> (try and_intros) <;> (try assumption) <;> (try trivial) <;> (try omega)
  rcases Nat.lt_or_ge j outs.length with hlt | hge
  · obtain ⟨f, hf⟩ : ∃ f, outs[j]? = some f := ⟨_, List.getElem?_eq_getElem hlt⟩
    obtain ⟨q, rfl, hq⟩ := hof f (List.mem_of_getElem? hf)
    obtain ⟨x, hx⟩ : ∃ x, fl[q]? = some x := ⟨_, List.getElem?_eq_getElem hq⟩
    have hx' := rowF hx
    have q0 : (0 : Int) ≤ (q : Int) := by omega
    have ht := fun h => Truth_calls (ht2 x (List.mem_of_getElem? hx)) (vS S) vS_num h
    have hee : elsAt fl (q : Int) = x.els := by unfold elsAt; rw [Int.toNat_natCast, hx]
    have hls := lastE_step (fl := fl) hf
    rw [hee] at hls
    rw [chF_step hf, Int.toNat_natCast, hx] at hp
    simp only at hp
    cases he : x.els with
    | true =>
      rw [he, if_pos rfl] at hp hls
      repeat' (first | ((first | refine aops_nil ?_ | refine aqops_nil ?_); (try simp only [NB])) | ((repeat ((fail_if_success (refine hK _ ?_)); clear hK K)); refine hK _ ?_; clear hK K) | ((first | refine aops_k fun K1 hK1 => ?_ | refine aqops_k fun K1 hK1 => ?_ | refine awp_cond_k fun A B hA hB => ?_); simp only [S1, simprocAttr, TTTmF, rowI hf, hitI hlt, nextI (by omega) hlt, q0, hx', eF, he, takeA_sl1, gmC_1, TSz, z49_ne, z49_map, zS_len, takeA_arr, takeA_st, List.length_map, List.length_take, List.length_drop, pg_len, pg_get0, pg_geti, pg_set0, pg_seti, pg_b hb hne, pg_lb hl, pg_b0 hb hne, pg_lb0 hl, gmB, spB, gl, all_scalar, Nat.mul_one, Nat.zero_add, Nat.add_zero, Int.toNat_natCast]; first | (refine hK1 _ ?_; clear hK1 K1) | ((first | refine hA ?_ | refine hB ?_); clear hA hB A B) | (((first | (refine ⟨fun hg => hA ?_, fun hg => hB ?_⟩ <;> clear hA hB A B) | refine ⟨fun hg => ?_, fun hg => ?_⟩) <;> (try simp only [BN2] at hg) <;> (try simp only [hg, cond_true, cond_false])) <;> (try (refine hK1 _ ?_; clear hK1 K1)) <;> (try simp only [BN3] at hg))) | (refine awp_seq_k fun K hK => ?_) | ((first | refine awp_region ?_ | refine awp_draw (by kernel_rfl) ?_ | refine awp_block ?_ | refine awp_exit ?_ | refine awp_skip ?_ | refine awp_ret ?_); (try simp only [NB, simprocAttr])))
      all_goals refine ⟨hlt, hp, ?_⟩
      all_goals simp only [hls]
      all_goals refine ⟨rfl, ⟨[], by simp only [List.append_nil]⟩, ?_, trivial⟩
      all_goals simp only [keeps, avlt, avlts, blksLt, frL, upd_get, pg_len, S1, simprocAttr, List.length_map, List.length_cons, List.length_nil, Int.natCast_zero, AV.p.injEq, PV.int.injEq, PV.bool.injEq, PV.sl.injEq] <;> (try and_intros) <;> (try assumption) <;> (try trivial) <;> (try omega)
    | false =>
      rw [he, if_neg (by decide)] at hp hls
      by_cases h0 : (truR x.cond (vS S)).2 = 0
      · have h0' : ((truR x.cond (vS S)).2 != 0) = false := by simp [h0]
        rw [if_neg (by simpa using h0)] at hp
        cases hb2 : (truR x.cond (vS S)).1 with
        | true =>
          rw [hb2, if_pos rfl] at hp
          have ec : chooseG fl (vS S) outs = ((q : Int), 0) := by unfold chooseG; rw [hp]; rfl
          have hf1 : InF [(q : Int)] := ⟨by simp, fun g hg => by rw [List.mem_singleton.mp hg]; exact ho.2 _ (List.mem_of_getElem? hf)⟩
          have es := stF_move hS (m := ⟨i, q, 0, 0, 0, S⟩) (Chg.id hS) hi hf1
          have eg : xorG fl S i ins outs = stF S ⟨i, q, 0, 0, 0, S⟩ (fun T => T) ins [(q : Int)] := by
            unfold xorG; rw [if_neg h1, if_neg hz, ec, if_neg (by simp), es]
          repeat' (first | ((first | refine aops_nil ?_ | refine aqops_nil ?_); (try simp only [NB])) | ((repeat ((fail_if_success (refine hK _ ?_)); clear hK K)); refine hK _ ?_; clear hK K) | ((first | refine aops_k fun K1 hK1 => ?_ | refine aqops_k fun K1 hK1 => ?_ | refine awp_cond_k fun A B hA hB => ?_); simp only [S1, simprocAttr, TTTmF, rowI hf, hitI hlt, nextI (by omega) hlt, q0, hx', eF, he, h0', hb2, gv, takeA_sl1, gmC_1, TSz, z49_ne, z49_map, zS_len, takeA_arr, takeA_st, List.length_map, List.length_take, List.length_drop, pg_len, pg_get0, pg_geti, pg_set0, pg_seti, pg_b hb hne, pg_lb hl, pg_b0 hb hne, pg_lb0 hl, gmB, spB, gl, all_scalar, Nat.mul_one, Nat.zero_add, Nat.add_zero, Int.toNat_natCast, List.length_cons, List.length_nil]; first | (refine hK1 _ ?_; clear hK1 K1) | ((first | refine hA ?_ | refine hB ?_); clear hA hB A B) | ((first | apply call_a E95 | apply call_q E95); exact (ht _); (refine hK1 _ ?_; clear hK1 K1)) | ((first | apply call_a E51 | apply call_q E51); exact (step_nil ok ⟨i, q, 0, 0, 0, S⟩ ins [(q : Int)] hi hf1); (refine hK1 _ ?_; clear hK1 K1)) | (((first | (refine ⟨fun hg => hA ?_, fun hg => hB ?_⟩ <;> clear hA hB A B) | refine ⟨fun hg => ?_, fun hg => ?_⟩) <;> (try simp only [BN2] at hg) <;> (try simp only [hg, cond_true, cond_false])) <;> (try (refine hK1 _ ?_; clear hK1 K1)) <;> (try simp only [BN3] at hg))) | (refine awp_seq_k fun K hK => ?_) | ((first | refine awp_region ?_ | refine awp_draw (by kernel_rfl) ?_ | refine awp_block ?_ | refine awp_exit ?_ | refine awp_skip ?_ | refine awp_ret ?_); (try simp only [NB, simprocAttr])))
          all_goals rw [eg]
          all_goals simp only [EndH, FinH, resA, resL, resA1, lastV, lastA, lastAs, pur, purs, pg_len, pg_take, pg_take0, List.length_append, List.length_cons, List.length_nil, S1, simprocAttr, Nat.le_add_right, Nat.le_refl] <;> first | exact pg_keep' hl | exact ⟨pg_keep' hl, rfl⟩ | exact ⟨pg_keep' hl, rfl, rfl⟩
        | false =>
          rw [hb2, if_neg (by decide)] at hp
          repeat' (first | ((first | refine aops_nil ?_ | refine aqops_nil ?_); (try simp only [NB])) | ((repeat ((fail_if_success (refine hK _ ?_)); clear hK K)); refine hK _ ?_; clear hK K) | ((first | refine aops_k fun K1 hK1 => ?_ | refine aqops_k fun K1 hK1 => ?_ | refine awp_cond_k fun A B hA hB => ?_); simp only [S1, simprocAttr, TTTmF, rowI hf, hitI hlt, nextI (by omega) hlt, q0, hx', eF, he, h0', hb2, gv, takeA_sl1, gmC_1, TSz, z49_ne, z49_map, zS_len, takeA_arr, takeA_st, List.length_map, List.length_take, List.length_drop, pg_len, pg_get0, pg_geti, pg_set0, pg_seti, pg_b hb hne, pg_lb hl, pg_b0 hb hne, pg_lb0 hl, gmB, spB, gl, all_scalar, Nat.mul_one, Nat.zero_add, Nat.add_zero, Int.toNat_natCast]; first | (refine hK1 _ ?_; clear hK1 K1) | ((first | refine hA ?_ | refine hB ?_); clear hA hB A B) | ((first | apply call_a E95 | apply call_q E95); exact (ht _); (refine hK1 _ ?_; clear hK1 K1)) | (((first | (refine ⟨fun hg => hA ?_, fun hg => hB ?_⟩ <;> clear hA hB A B) | refine ⟨fun hg => ?_, fun hg => ?_⟩) <;> (try simp only [BN2] at hg) <;> (try simp only [hg, cond_true, cond_false])) <;> (try (refine hK1 _ ?_; clear hK1 K1)) <;> (try simp only [BN3] at hg))) | (refine awp_seq_k fun K hK => ?_) | ((first | refine awp_region ?_ | refine awp_draw (by kernel_rfl) ?_ | refine awp_block ?_ | refine awp_exit ?_ | refine awp_skip ?_ | refine awp_ret ?_); (try simp only [NB, simprocAttr])))
          all_goals refine ⟨hlt, hp, ?_⟩
          all_goals simp only [hls]
          all_goals refine ⟨rfl, ⟨[], by simp only [List.append_nil]⟩, ?_, trivial⟩
          all_goals simp only [keeps, avlt, avlts, blksLt, frL, upd_get, pg_len, S1, simprocAttr, List.length_map, List.length_cons, List.length_nil, Int.natCast_zero, AV.p.injEq, PV.int.injEq, PV.bool.injEq, PV.sl.injEq] <;> (try and_intros) <;> (try assumption) <;> (try trivial) <;> (try omega)
      · have h0' : ((truR x.cond (vS S)).2 != 0) = true := by simp [h0]
        rw [if_pos h0] at hp
        have ec : chooseG fl (vS S) outs = (0, (truR x.cond (vS S)).2) := by unfold chooseG; rw [hp]; rfl
        have eg : xorG fl S i ins outs = [faultS S i (truR x.cond (vS S)).2] := by
          unfold xorG; rw [if_neg h1, if_neg hz, ec, if_pos h0]
        repeat' (first | ((first | refine aops_nil ?_ | refine aqops_nil ?_); (try simp only [NB])) | ((repeat ((fail_if_success (refine hK _ ?_)); clear hK K)); refine hK _ ?_; clear hK K) | ((first | refine aops_k fun K1 hK1 => ?_ | refine aqops_k fun K1 hK1 => ?_ | refine awp_cond_k fun A B hA hB => ?_); simp only [S1, simprocAttr, TTTmF, rowI hf, hitI hlt, nextI (by omega) hlt, q0, hx', eF, he, h0', gv, takeA_sl1, gmC_1, TSz, z49_ne, z49_map, zS_len, takeA_arr, takeA_st, List.length_map, List.length_take, List.length_drop, pg_len, pg_get0, pg_geti, pg_set0, pg_seti, pg_b hb hne, pg_lb hl, pg_b0 hb hne, pg_lb0 hl, gmB, spB, gl, all_scalar, Nat.mul_one, Nat.zero_add, Nat.add_zero, Int.toNat_natCast, List.length_cons, List.length_nil]; first | (refine hK1 _ ?_; clear hK1 K1) | ((first | refine hA ?_ | refine hB ?_); clear hA hB A B) | ((first | apply call_a E95 | apply call_q E95); exact (ht _); (refine hK1 _ ?_; clear hK1 K1)) | ((first | apply call_a E74 | apply call_q E74); exact (tfault_calls ok i (truR x.cond (vS S)).2); (refine hK1 _ ?_; clear hK1 K1)) | (((first | (refine ⟨fun hg => hA ?_, fun hg => hB ?_⟩ <;> clear hA hB A B) | refine ⟨fun hg => ?_, fun hg => ?_⟩) <;> (try simp only [BN2] at hg) <;> (try simp only [hg, cond_true, cond_false])) <;> (try (refine hK1 _ ?_; clear hK1 K1)) <;> (try simp only [BN3] at hg))) | (refine awp_seq_k fun K hK => ?_) | ((first | refine awp_region ?_ | refine awp_draw (by kernel_rfl) ?_ | refine awp_block ?_ | refine awp_exit ?_ | refine awp_skip ?_ | refine awp_ret ?_); (try simp only [NB, simprocAttr])))
        all_goals rw [eg]
        all_goals simp only [EndH, FinH, resA, resL, resA1, lastV, lastA, lastAs, pur, purs, pg_len, pg_take, pg_take0, List.length_append, List.length_cons, List.length_nil, S1, simprocAttr, Nat.le_add_right, Nat.le_refl] <;> first | exact pg_keep' hl | exact ⟨pg_keep' hl, rfl⟩ | exact ⟨pg_keep' hl, rfl, rfl⟩
  obtain rfl : j = outs.length := by omega
  rw [List.drop_length] at hp
  have ec : chooseG fl (vS S) outs = (chE fl outs, 0) := by unfold chooseG; rw [hp]; rfl
  have ho1 : chE fl outs ∈ outs := chE_in (by
    obtain ⟨f, hf, he⟩ := List.countP_pos_iff.mp (by omega : 0 < outs.countP (elsAt fl))
    exact ⟨f, hf, he⟩)
  have hf1 : InF [chE fl outs] := ⟨by simp, fun g hg => by rw [List.mem_singleton.mp hg]; exact ho.2 _ ho1⟩
  have es := stF_move hS (m := ⟨i, chE fl outs, 0, 0, 0, S⟩) (Chg.id hS) hi hf1
  have eg : xorG fl S i ins outs = stF S ⟨i, chE fl outs, 0, 0, 0, S⟩ (fun T => T) ins [chE fl outs] := by
    unfold xorG; rw [if_neg h1, if_neg hz, ec, if_neg (by simp), es]
  have el := lastE_all hels
  rw [List.take_length]
  repeat' (first | ((first | refine aops_nil ?_ | refine aqops_nil ?_); (try simp only [NB])) | ((repeat ((fail_if_success (refine hK _ ?_)); clear hK K)); refine hK _ ?_; clear hK K) | ((first | refine aops_k fun K1 hK1 => ?_ | refine aqops_k fun K1 hK1 => ?_ | refine awp_cond_k fun A B hA hB => ?_); simp only [S1, simprocAttr, TTTmF, endI, el, TSz, z49_ne, z49_map, zS_len, takeA_arr, takeA_st, List.length_map, List.length_take, List.length_drop, pg_len, pg_get0, pg_geti, pg_set0, pg_seti, pg_b hb hne, pg_lb hl, pg_b0 hb hne, pg_lb0 hl, gmB, spB, gl, all_scalar, Nat.mul_one, Nat.zero_add, Nat.add_zero, Int.toNat_natCast, List.length_cons, List.length_nil]; first | (refine hK1 _ ?_; clear hK1 K1) | ((first | refine hA ?_ | refine hB ?_); clear hA hB A B) | ((first | apply call_a E51 | apply call_q E51); exact (step_nil ok ⟨i, chE fl outs, 0, 0, 0, S⟩ ins [chE fl outs] hi hf1); (refine hK1 _ ?_; clear hK1 K1)) | (((first | (refine ⟨fun hg => hA ?_, fun hg => hB ?_⟩ <;> clear hA hB A B) | refine ⟨fun hg => ?_, fun hg => ?_⟩) <;> (try simp only [BN2] at hg) <;> (try simp only [hg, cond_true, cond_false])) <;> (try (refine hK1 _ ?_; clear hK1 K1)) <;> (try simp only [BN3] at hg))) | (refine awp_seq_k fun K hK => ?_) | ((first | refine awp_region ?_ | refine awp_draw (by kernel_rfl) ?_ | refine awp_block ?_ | refine awp_exit ?_ | refine awp_skip ?_ | refine awp_ret ?_); (try simp only [NB, simprocAttr])))
  all_goals rw [eg]
  all_goals simp only [EndH, FinH, resA, resL, resA1, lastV, lastA, lastAs, pur, purs, pg_len, pg_take, pg_take0, List.length_append, List.length_cons, List.length_nil, S1, simprocAttr, Nat.le_add_right, Nat.le_refl] <;> first | exact pg_keep' hl | exact ⟨pg_keep' hl, rfl⟩ | exact ⟨pg_keep' hl, rfl, rfl⟩
end Go.Proofs.YtjpphhcimpclpaaDoor.AM
end

section
set_option linter.unusedVariables false
set_option linter.unusedSimpArgs false
set_option maxRecDepth 4000
set_option maxHeartbeats 4000000
namespace Go.Proofs.YtjpphhcimpclpaaDoor.AM
open Go Go.Proofs
set_option linter.defProp false in
def TTTmH := And.intro T2 (And.intro T3 (And.intro T4 (And.intro T22 (And.intro T23 (And.intro T25 (And.intro T26 (And.intro T27 (And.intro T31 (And.intro T40 (And.intro T46 (And.intro T53 (And.intro T58 (And.intro T60 (And.intro T71 (And.intro T95 (And.intro T98 (And.intro T111 (And.intro T113 (And.intro T116 T117)))))))))))))))))))
attribute [local irreducible] awp aops aqops aeops arun arunT

/-- A token is lacking: there is no step. -/
theorem runT_zero {S : List Int} {f : Int} (h : tk S f = 0) : runO stepT [f] S = none := by
  rw [runO_cons]
  unfold stepT
  rw [if_pos (by omega)]; rfl
theorem move_zero {S : List Int} {x : Sp} {m : Nat} (hm : m < 40) (hS : S.length = 49) (h : tk S (m : Int) = 0) (to : List Int) : moveG S x [(m : Int)] to = [] := by
  unfold moveG
  rw [runT_zero (by rw [joinS_tkI hS hm]; exact h)]
theorem node_zero {ns : List Nd} {fl : List Fl} {S : List Int} (hS : S.length = 49) {i : Nat} {k : Nd} {m : Nat} (hm : m < 40) (hi : insN fl i = [(m : Int)]) (h0 : tk S (m : Int) = 0) (hx : k.kind = 5 → (outsN fl i).length ≠ 1) : nodeG ns fl S i k = [] := by
  have mz := fun x to => move_zero (x := x) hm hS h0 to
  have cz : ∀ a b c, catchG ns fl S a b c [(m : Int)] = [] := by
    intro a b c
    unfold catchG
    repeat' split
    · rfl
    · exact mz _ _
    · exact mz _ _
  unfold nodeG
  rw [hi]
  split
  · unfold lastG
    split
    · exact mz _ _
    · exact mz _ _
  · split
    · unfold dataG; rw [List.headD_cons, if_pos h0]
    · split
      · rename_i h5
        unfold xorG; rw [if_neg (hx h5), List.headD_cons, if_pos h0]
      · split
        · exact mz _ _
        · split
          · rw [List.flatMap_eq_nil_iff]
            exact fun x _ => cz _ _ _
          · split
            · exact cz _ _ _
            · rfl

/-- What a node's box has. -/
abbrev xB (k : Nd) (a : Nat) : Option Blk := some ⟨0, [.i k.kind, .i a, .i k.term.op, .i k.term.n, .p (.sl (k.term.kids.map eT))]⟩

section
variable {h : Heap} {b lb : Nat} {ns : List Nd} {fl : List Fl} {S : List Int} {l : List Sp}

theorem setv1_at (k : Nd) {a : Nat} (ha : a < 4) (v : Int) (gr : Nat) (A : Option Blk) (T : List Int) (hT : T.length = 49) : ACalls Tryd.prog gW 72 [.ptr (h.length + 2 + 1) 0 0, .ptr (h.length + 1) gr 0, .ptr h.length 0 0] (putG h b lb ns fl S l ++ ([xB k a, some ⟨gr, [.i v]⟩] ++ [A, some ⟨0, T.map AV.i⟩]))
    (fun r h' => r = .undef ∧ h' = putG h b lb ns fl S l ++ ([xB k a, some ⟨gr, [.i v]⟩] ++ [A, some ⟨0, (T.set (40 + a) v).map AV.i⟩])) := by
  have := setv_1 (G := gW) (H := putG h b lb ns fl S l ++ ([xB k a, some ⟨gr, [.i v]⟩] ++ [A, some ⟨0, T.map AV.i⟩])) (c := h.length + 3) (r := h.length + 1) (x := h.length) (gc := 0) (gr := gr) (gx := 0) (by rw [pg_geti]; rfl) hT (by rw [pg_geti]; rfl) ha (by rw [pg_get0]; rfl)
  rw [pg_seti] at this
  exact this
theorem setv2_at (k : Nd) {a : Nat} (ha : a < 4) (v : Int) (gr : Nat) (A : Option Blk) (T : List Int) (hT : T.length = 49) : ACalls Tryd.prog gW 75 [.ptr (h.length + 2 + 1) 0 0, .ptr (h.length + 1) gr 0, .ptr h.length 0 0] (putG h b lb ns fl S l ++ ([xB k a, some ⟨gr, [.i v]⟩] ++ [A, some ⟨0, T.map AV.i⟩]))
    (fun r h' => r = .undef ∧ h' = putG h b lb ns fl S l ++ ([xB k a, some ⟨gr, [.i v]⟩] ++ [A, some ⟨0, (T.set (40 + a) v).map AV.i⟩])) := by
  have := setv_2 (G := gW) (H := putG h b lb ns fl S l ++ ([xB k a, some ⟨gr, [.i v]⟩] ++ [A, some ⟨0, T.map AV.i⟩])) (c := h.length + 3) (r := h.length + 1) (x := h.length) (gc := 0) (gr := gr) (gx := 0) (by rw [pg_geti]; rfl) hT (by rw [pg_geti]; rfl) ha (by rw [pg_get0]; rfl)
  rw [pg_seti] at this
  exact this

theorem tnode_none (nk : NetOk ns fl) (rt : Right ns fl) (ok : GmOk h b lb S l) (c : Nat) {k : Nd} (hc : ns[c]? = some k) (m : Nat) (hm : m < 40) (hi : insN fl c = [(m : Int)]) (h1 : k.kind ≠ 1) (h0 : tk S (m : Int) = 0) :
    ACalls Tryd.prog gW 49 [.ptr b 0 0, .i c] (putG h b lb ns fl S l) (fun r h' => r = .undef ∧ h' = putG h b lb ns fl S l) := by
  have hb := ok.hb
  have hl := ok.hl
  have hne := ok.ne
  have hS := ok.held.1
  have gl := gmC_len (ns := ns) (fl := fl) (lb := lb) (n := l.length) hS
  have c0 : (0 : Int) ≤ (c : Int) := by omega
  have hc' := rowN hc
  have hf' : fl.length ≤ 100 := by have := rt.f; omega
  obtain ⟨hv, v0, v3⟩ := ok.held.at hm
  have gk := gmC_at (ns := ns) (fl := fl) (lb := lb) (n := l.length) hv
  have f0 : (0 : Int) ≤ (m : Int) := by omega
  have f40 : (m : Int) < 40 := by omega
  have hz' : (tk S (m : Int) == 0) = true := by simp [h0]
  have e1 : (k.kind != 1) = true := by simp [h1]
  have hil : (((insN fl c).length : Int) == 1) = true := by rw [hi]; rfl
  have hi0 : (insN fl c)[0]? = some (m : Int) := by rw [hi]; rfl
  have hei : eI (m : Int) = [.int .i64 (m : Int)] := rfl
  have hin0 : (0 : Int) ≤ 0 := Int.le_refl 0
  refine acalls_heap (rl := []) mixed Tryd.func49 rfl (rs := []) rfl Tryd.ntmps49 (by simp) ?_
  repeat' (first | ((first | refine aops_nil ?_ | refine aqops_nil ?_ | refine arun_nil ?_ | refine arunT_nil ?_); (try simp only [NB])) | ((repeat ((fail_if_success (refine hK _ ?_)); clear hK K)); refine hK _ ?_; clear hK K) | ((first | refine aops_k fun K1 hK1 => ?_ | refine aqops_k fun K1 hK1 => ?_ | refine arun_eff rfl rfl rfl fun K1 hK1 => ?_ | refine awp_cond_k fun A B hA hB => ?_); simp only [S1, simprocAttr, TTTmH, e1, hil, hi0, hei, hin0, f0, f40, gk, hz', c0, hc', eN, takeA_sl0, gmC_net, TSz, z49_ne, z49_map, zS_len, takeA_arr, takeA_st, List.length_map, List.length_take, List.length_drop, pg_len, pg_get0, pg_geti, pg_set0, pg_seti, pg_b hb hne, pg_lb hl, pg_b0 hb hne, pg_lb0 hl, gmB, spB, gl, all_scalar, Nat.mul_one, Nat.zero_add, Nat.add_zero, Int.toNat_natCast, List.length_cons, List.length_nil]; first | (refine hK1 _ ?_; clear hK1 K1) | ((first | refine hA ?_ | refine hB ?_); clear hA hB A B) | ((first | apply call_a E25 | apply call_q E25); exact (ins_calls _ fl hf' _ _); (refine hK1 _ ?_; clear hK1 K1)) | ((first | apply call_a E26 | apply call_q E26); exact (outs_calls _ fl hf' _ _); (refine hK1 _ ?_; clear hK1 K1)) | (refine join_x (v := ?_) (fun hg hk9 => ?_) ?_; rotate_left; (focus (try ((try simp only [BN] at hg); simp only [S1, simprocAttr, TTTmH, e1, hil, hi0, hei, hin0, f0, f40, gk, hz', c0, hc', eN, takeA_sl0, gmC_net, TSz, z49_ne, z49_map, zS_len, takeA_arr, takeA_st, List.length_map, List.length_take, List.length_drop, pg_len, pg_get0, pg_geti, pg_set0, pg_seti, pg_b hb hne, pg_lb hl, pg_b0 hb hne, pg_lb0 hl, gmB, spB, gl, all_scalar, Nat.mul_one, Nat.zero_add, Nat.add_zero, Int.toNat_natCast, List.length_cons, List.length_nil, hg] at hk9 ⊢)); first | exact hk9 | ((first | apply call_a E25 | apply call_q E25); exact (ins_calls _ fl hf' _ _); exact hk9) | ((first | apply call_a E26 | apply call_q E26); exact (outs_calls _ fl hf' _ _); exact hk9)); (refine hK1 _ ?_; clear hK1 K1)) | (((first | (refine ⟨fun hg => hA ?_, fun hg => hB ?_⟩ <;> clear hA hB A B) | refine ⟨fun hg => ?_, fun hg => ?_⟩) <;> (try simp only [BN2] at hg) <;> (try simp only [hg, cond_true, cond_false])) <;> (try (refine hK1 _ ?_; clear hK1 K1)) <;> (try simp only [BN3] at hg))) | ((first | refine arun_q (v := ?_) rfl rfl rfl rfl (by decide) (fun R1 K1 hK1 => ?_) ?_ | refine arun_f (v := ?_) rfl rfl rfl (by decide) (fun K1 hK1 => ?_) ?_ | refine arunT_f (v := ?_) rfl rfl rfl (by decide) (fun K1 hK1 => ?_) ?_); rotate_left; (focus (simp only [S1, simprocAttr, TTTmH, e1, hil, hi0, hei, hin0, f0, f40, gk, hz', c0, hc', eN, takeA_sl0, gmC_net, TSz, z49_ne, z49_map, zS_len, takeA_arr, takeA_st, List.length_map, List.length_take, List.length_drop, pg_len, pg_get0, pg_geti, pg_set0, pg_seti, pg_b hb hne, pg_lb hl, pg_b0 hb hne, pg_lb0 hl, gmB, spB, gl, all_scalar, Nat.mul_one, Nat.zero_add, Nat.add_zero, Int.toNat_natCast, List.length_cons, List.length_nil]; first | (exact hK1 _ _ _) | ((first | apply call_a E25 | apply call_q E25); exact (ins_calls _ fl hf' _ _); exact hK1 _ _ _) | ((first | apply call_a E26 | apply call_q E26); exact (outs_calls _ fl hf' _ _); exact hK1 _ _ _)))) | (refine arun_tail rfl rfl rfl ?_) | ((first | refine arun_allocj (z := ?_) 0 rfl rfl rfl rfl (by decide) rfl ?_ ?_ | refine arun_allocj (z := ?_) 1 rfl rfl rfl rfl (by decide) rfl ?_ ?_ | refine arun_allocj (z := ?_) 2 rfl rfl rfl rfl (by decide) rfl ?_ ?_); rotate_left; (focus (simp only [S1, simprocAttr, TTTmH, e1, hil, hi0, hei, hin0, f0, f40, gk, hz', c0, hc', eN, takeA_sl0, gmC_net, TSz, z49_ne, z49_map, zS_len, takeA_arr, takeA_st, List.length_map, List.length_take, List.length_drop, pg_len, pg_get0, pg_geti, pg_set0, pg_seti, pg_b hb hne, pg_lb hl, pg_b0 hb hne, pg_lb0 hl, gmB, spB, gl, all_scalar, Nat.mul_one, Nat.zero_add, Nat.add_zero, Int.toNat_natCast, List.length_cons, List.length_nil, zeroB]; rfl))) | (refine awp_seq_k fun K hK => ?_) | (refine awp_drawR [0, 1, 2, 3, 4, 5, 6, 7, 8, 9, 10, 11, 12, 13] 0 (fs := []) rfl (by kernel_rfl) (by kernel_rfl) ?_) | ((first | refine awp_region ?_ | refine awp_draw (by kernel_rfl) ?_ | refine awp_block ?_ | refine awp_exit ?_ | refine awp_skip ?_ | refine awp_ret ?_); (try simp only [NB, simprocAttr])))
  all_goals simp only [EndH, FinH, resA, resL, resA1, lastV, lastA, lastAs, pur, purs, pg_len, pg_take, pg_take0, List.length_append, List.length_cons, List.length_nil, S1, simprocAttr, Nat.le_add_right, Nat.le_refl] <;> first | exact pg_keep' hl | exact ⟨pg_keep' hl, rfl⟩ | exact ⟨pg_keep' hl, rfl, rfl⟩
end
end Go.Proofs.YtjpphhcimpclpaaDoor.AM
end
