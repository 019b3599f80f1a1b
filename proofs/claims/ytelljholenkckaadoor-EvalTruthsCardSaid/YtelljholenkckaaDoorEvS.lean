/- Contracts: halves. -/
-- TYPES: 3 4 22 24 25 31
import Derived.Test.YtelljholenkckaaDoorEvQ
import Derived.Test.YtelljholenkckaaDoorEvR
import Derived.Test.YtelljholenkckaaDoorAmR
set_option linter.unusedVariables false
set_option linter.unusedSimpArgs false
set_option maxRecDepth 4000
set_option maxHeartbeats 4000000
namespace Go.Proofs.YtelljholenkckaaDoor.AM
open Go Go.Proofs
attribute [local irreducible] awp aops aqops

def tTwo : Tm := .mk 1 2 []
def tNeg : Tm := .mk 3 0 [tTwo]
def tSeven : Tm := .mk 1 7 []
def tHalf : Tm := .mk 8 0 [tSeven, tNeg]

theorem half_ok : Tm.Ok 3 tHalf := by
  refine .mk 2 _ (by decide) fun k hk => ?_
  simp [tHalf, Tm.kids] at hk
  rcases hk with rfl | rfl
  · exact .mk 1 _ (by decide) fun k hk => by simp [tSeven, Tm.kids] at hk
  · refine .mk 1 _ (by decide) fun k hk => ?_
    simp [tNeg, Tm.kids] at hk
    subst hk
    exact .mk 0 _ (by decide) fun k hk => by simp [tTwo, Tm.kids] at hk

def v0 : Int → Int := fun _ => 0

theorem half_num : numR tHalf v0 = (-3, 0) := by
  have e : askN tHalf v0 1 = 0 := by
    simp [askN, checkN, wrongN, Tm.depth, tHalf, tNeg, tTwo, tSeven, Tm.form, headOk, kidsN, Tm.typed, truthOp, wantOp, outN, Tm.op, inV, v0, inM]
  unfold numR
  rw [if_neg (by simpa using e)]
  simp [tHalf, tNeg, tTwo, tSeven, ev_two, ev_one, ev_nil, sumS]

theorem half_number (h : Heap) : ACalls Tryd.prog gW 10 [.agg [.i 8, .i 0, .p (.sl [[.int .i64 1, .int .i64 7, .nils], [.int .i64 3, .int .i64 0, .sl [[.int .i64 1, .int .i64 2, .nils]]]])], .agg [.i 0, .i 0, .i 0, .i 0]] h (fun r h' => r = .tup [.i (-3), .i 0] ∧ h' = h) := by
  have hN := Number_calls half_ok v0 (fun _ i => (⟨by decide, by decide⟩ : Num 0)) h
  rw [half_num] at hN
  refine ACalls.nrm ?_
  simpa [nrmAs, nrmA, nrm, nrmRow, nrmRows, aT, aV, tHalf, tNeg, tTwo, tSeven, Tm.op, Tm.n, Tm.kids, eT, v0] using hN
theorem half_set (h : Heap) : ACalls Tryd.prog gW 12 [.agg [.i 0, .i 0, .i 0, .i 0], .i 1, .i 5] h (fun r h' => r = .tup [.agg [.i 0, .i 5, .i 0, .i 0], .i 0] ∧ h' = h) := by
  have hS := set_good (G := gW) v0 (k := 1) (x := 5) (.inr (.inl rfl)) (by decide) h
  simpa [v0, setV, aV4] using hS
theorem half_fits (h : Heap) : ACalls Tryd.prog gW 14 [.agg [.i 0, .i 5, .i 0, .i 0]] h (fun r h' => r = .b true ∧ h' = h) := by
  have hF := fitsV_calls (G := gW) (setV v0 1 5) h
  have hf : inV (setV v0 1 5) = true := by decide
  rw [hf] at hF
  simpa [v0, setV, aV] using hF
theorem halves_calls (h : Heap) : ACalls Tryd.prog gW 9 [] h (fun r h' => r = .b true ∧ h' = h) := by
  refine acalls_pure (rl := []) mixed Tryd.func9 rfl (rs := [.tmp 0]) rfl Tryd.ntmps9 (by simp) ?_
  repeat' (first | ((first | refine aops_nil ?_ | refine aqops_nil ?_); (try simp only [thenA_normal, blockA_normal]); (first | (refine hK _ ?_; clear hK K) | (clear hK K; (first | (refine hK _ ?_; clear hK K) | (clear hK K; (first | (refine hK _ ?_; clear hK K) | (clear hK K; (first | (refine hK _ ?_; clear hK K) | (clear hK K; (first | (refine hK _ ?_; clear hK K) | (clear hK K; (first | (refine hK _ ?_; clear hK K) | (clear hK K; (first | (refine hK _ ?_; clear hK K) | (clear hK K; (refine hK _ ?_; clear hK K)))))))))))))))) | (first | (refine hK _ ?_; clear hK K) | (clear hK K; (first | (refine hK _ ?_; clear hK K) | (clear hK K; (first | (refine hK _ ?_; clear hK K) | (clear hK K; (first | (refine hK _ ?_; clear hK K) | (clear hK K; (first | (refine hK _ ?_; clear hK K) | (clear hK K; (first | (refine hK _ ?_; clear hK K) | (clear hK K; (first | (refine hK _ ?_; clear hK K) | (clear hK K; (refine hK _ ?_; clear hK K))))))))))))))) | ((first | refine aops_k fun K1 hK1 => ?_ | refine aqops_k fun K1 hK1 => ?_); simp only [SS, AV.i, AV.b, AV.undef, Int.reduceLE, Int.reduceBEq, Int.reduceBNe, Int.reduceEq, Nat.reduceLT, Nat.reduceLeDiff, Nat.reduceEqDiff, Nat.reduceAdd, Nat.reduceSub, Nat.reduceMul, Nat.reduceBEq, Nat.reduceBNe, Int.reduceLT, Int.reduceNeg, Int.reduceToNat, reduceIte, reduceCtorEq, T3, T4, T22, T24, T25, T31]; first | (refine hK1 _ ?_; clear hK1 K1) | (refine ⟨E10, ACalls.mono (half_number _) ?_⟩; rintro r h1 ⟨rfl, rfl⟩; (refine hK1 _ ?_; clear hK1 K1)) | (refine ⟨E10, _, (half_number _), ?_⟩; (refine hK1 _ ?_; clear hK1 K1)) | (refine ⟨E12, ACalls.mono (half_set _) ?_⟩; rintro r h1 ⟨rfl, rfl⟩; (refine hK1 _ ?_; clear hK1 K1)) | (refine ⟨E12, _, (half_set _), ?_⟩; (refine hK1 _ ?_; clear hK1 K1)) | (refine ⟨E14, ACalls.mono (half_fits _) ?_⟩; rintro r h1 ⟨rfl, rfl⟩; (refine hK1 _ ?_; clear hK1 K1)) | (refine ⟨E14, _, (half_fits _), ?_⟩; (refine hK1 _ ?_; clear hK1 K1)) | (refine join_x (v := ?_) (fun hg hk9 => ?_) ?_; rotate_left; (focus (first | ((try simp only [Bool.not_not, Bool.and_eq_true, Bool.not_eq_eq_eq_not, Bool.not_true, Bool.not_false, Bool.and_true, Bool.true_and, Bool.or_false, Bool.false_or, decide_true, decide_false, bt_true, bt_false] at hg); simp only [SS, AV.i, AV.b, AV.undef, Int.reduceLE, Int.reduceBEq, Int.reduceBNe, Int.reduceEq, Nat.reduceLT, Nat.reduceLeDiff, Nat.reduceEqDiff, Nat.reduceAdd, Nat.reduceSub, Nat.reduceMul, Nat.reduceBEq, Nat.reduceBNe, Int.reduceLT, Int.reduceNeg, Int.reduceToNat, reduceIte, reduceCtorEq, T3, T4, T22, T24, T25, T31, hg] at hk9 ⊢; first | exact hk9 | (refine ⟨E10, ACalls.mono (half_number _) ?_⟩; rintro r h1 ⟨rfl, rfl⟩; exact hk9) | (refine ⟨E10, _, (half_number _), ?_⟩; exact hk9) | (refine ⟨E12, ACalls.mono (half_set _) ?_⟩; rintro r h1 ⟨rfl, rfl⟩; exact hk9) | (refine ⟨E12, _, (half_set _), ?_⟩; exact hk9) | (refine ⟨E14, ACalls.mono (half_fits _) ?_⟩; rintro r h1 ⟨rfl, rfl⟩; exact hk9) | (refine ⟨E14, _, (half_fits _), ?_⟩; exact hk9)) | exact hk9 | (refine ⟨E10, ACalls.mono (half_number _) ?_⟩; rintro r h1 ⟨rfl, rfl⟩; exact hk9) | (refine ⟨E10, _, (half_number _), ?_⟩; exact hk9) | (refine ⟨E12, ACalls.mono (half_set _) ?_⟩; rintro r h1 ⟨rfl, rfl⟩; exact hk9) | (refine ⟨E12, _, (half_set _), ?_⟩; exact hk9) | (refine ⟨E14, ACalls.mono (half_fits _) ?_⟩; rintro r h1 ⟨rfl, rfl⟩; exact hk9) | (refine ⟨E14, _, (half_fits _), ?_⟩; exact hk9))); (refine hK1 _ ?_; clear hK1 K1)) | (refine ⟨fun hg => ?_, fun hg => ?_⟩ <;> (try simp only [Bool.not_eq_eq_eq_not, Bool.not_true, Bool.not_false] at hg) <;> (try simp only [hg, cond_true, cond_false]) <;> (refine hK1 _ ?_; clear hK1 K1) <;> (try simp only [decide_eq_true_eq, decide_eq_false_iff_not, beq_iff_eq, bne_iff_ne, beq_eq_false_iff_ne, bne_eq_false_iff_eq, ne_eq, Bool.not_eq_eq_eq_not, Bool.not_true, Bool.not_false, Bool.and_eq_true, Bool.or_eq_false_iff] at hg))) | (refine awp_seq_k fun K hK => ?_) | ((first | refine awp_region ?_ | refine awp_draw (by kernel_rfl) ?_); (try simp only [thenA_normal, blockA_normal])) | (refine awp_block ?_) | (refine awp_exit ?_; try simp only [thenA_exit, blockA_exit, thenA_normal, blockA_normal, reduceIte, Nat.reduceEqDiff]; (try (first | (refine hK _ ?_; clear hK K) | (clear hK K; (first | (refine hK _ ?_; clear hK K) | (clear hK K; (first | (refine hK _ ?_; clear hK K) | (clear hK K; (first | (refine hK _ ?_; clear hK K) | (clear hK K; (first | (refine hK _ ?_; clear hK K) | (clear hK K; (first | (refine hK _ ?_; clear hK K) | (clear hK K; (first | (refine hK _ ?_; clear hK K) | (clear hK K; (refine hK _ ?_; clear hK K))))))))))))))))) | (refine awp_skip ?_; try simp only [thenA_normal, blockA_normal]; (try (first | (refine hK _ ?_; clear hK K) | (clear hK K; (first | (refine hK _ ?_; clear hK K) | (clear hK K; (first | (refine hK _ ?_; clear hK K) | (clear hK K; (first | (refine hK _ ?_; clear hK K) | (clear hK K; (first | (refine hK _ ?_; clear hK K) | (clear hK K; (first | (refine hK _ ?_; clear hK K) | (clear hK K; (first | (refine hK _ ?_; clear hK K) | (clear hK K; (refine hK _ ?_; clear hK K))))))))))))))))) | (refine awp_ret ?_; (try simp only [thenA_ret, blockA_ret])) | (refine awp_cond_k fun A B hA hB => ?_; simp only [SS, AV.i, AV.b, AV.undef, Int.reduceLE, Int.reduceBEq, Int.reduceBNe, Int.reduceEq, Nat.reduceLT, Nat.reduceLeDiff, Nat.reduceEqDiff, Nat.reduceAdd, Nat.reduceSub, Nat.reduceMul, Nat.reduceBEq, Nat.reduceBNe, Int.reduceLT, Int.reduceNeg, Int.reduceToNat, reduceIte, reduceCtorEq, T3, T4, T22, T24, T25, T31]; first | (refine hA ?_; clear hA hB A B) | (refine hB ?_; clear hA hB A B) | (refine ⟨fun hg => hA ?_, fun hg => hB ?_⟩ <;> clear hA hB A B <;> (try simp only [Bool.not_eq_eq_eq_not, Bool.not_true, Bool.not_false] at hg) <;> (try simp only [hg, cond_true, cond_false]) <;> (try simp only [decide_eq_true_eq, decide_eq_false_iff_not, beq_iff_eq, bne_iff_ne, beq_eq_false_iff_ne, bne_eq_false_iff_eq, ne_eq, Bool.not_eq_eq_eq_not, Bool.not_true, Bool.not_false, Bool.and_eq_true, Bool.or_eq_false_iff] at hg))))
  all_goals simp only [EndP, FinP, resA, resL, resA1, lastV, lastA, lastAs, pur, purs, take_app, List.take_length, SS, AV.i, AV.b, AV.undef, Int.reduceLE, Int.reduceBEq, Int.reduceBNe, Int.reduceEq, Nat.reduceLT, Nat.reduceLeDiff, Nat.reduceEqDiff, Nat.reduceAdd, Nat.reduceSub, Nat.reduceMul, Nat.reduceBEq, Nat.reduceBNe, Int.reduceLT, Int.reduceNeg, Int.reduceToNat, reduceIte, reduceCtorEq, T3, T4, T22, T24, T25, T31, Nat.le_add_right, Nat.le_refl]
  all_goals trace_state
end Go.Proofs.YtelljholenkckaaDoor.AM
