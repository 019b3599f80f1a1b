/- Proved here, in parts, for one law: Contracts: the small case holds. Contract of the bound of what is gone through: a term is not larger. The laws TrailLess, TrailAccepts; states and labels as arguments. Conditions: none. -/
import Derived.Test.YtbbmfemplmelhaaGreatDoorZTrailLessF

section
set_option linter.unusedVariables false
set_option linter.unusedSimpArgs false
set_option maxRecDepth 4000
set_option maxHeartbeats 4000000
namespace Go.Proofs.YtbbmfemplmelhaaGreatDoor.AM
open Go Go.Proofs
set_option linter.defProp false in
def TTTrS := And.intro T2 (And.intro T3 (And.intro T4 (And.intro T22 (And.intro T23 (And.intro T25 (And.intro T26 (And.intro T28 (And.intro T31 (And.intro T34 (And.intro T41 (And.intro T44 (And.intro T57 (And.intro T58 (And.intro T62 (And.intro T65 (And.intro T73 (And.intro T75 (And.intro T77 (And.intro T80 (And.intro T82 (And.intro T89 T92)))))))))))))))))))))
attribute [local irreducible] awp aops aqops aeops arun arunT

abbrev aRaw : AV := .agg [.p (.sl [[.int .i64 1, .int .i64 0, .int .i64 0, .int .i64 0, .nils], [.int .i64 3, .int .i64 0, .int .i64 0, .int .i64 0, .nils], [.int .i64 2, .int .i64 0, .int .i64 0, .int .i64 0, .nils]]),
  .p (.sl [[.int .i64 0, .int .i64 1, .bool false, .int .i64 0, .int .i64 0, .nils], [.int .i64 1, .int .i64 2, .bool false, .int .i64 0, .int .i64 0, .nils]])]
theorem nrm_net : nrmA aRaw = aNet ns0 fl0 := by simp [nrmAs, nrmA, nrm, nrmRow, nrmRows, ns0, fl0, eN, eF, Tm.op, Tm.n, Tm.kids]
theorem nrm_st : nrmA (aSts [Sa0]) = aSts [Sa0] := by
  have h : ∀ l : List Int, nrmRow (l.map (PV.int .i64)) = l.map (PV.int .i64) := by
    intro l
    induction l with
    | nil => simp [nrmRow]
    | cons x l ih => simp [nrmRow, nrm, ih]
  simp [nrmA, nrm, nrmRows, eSt, h]
theorem nrm_ls (l : List Lb) : nrmA (aLs l) = aLs l := by
  have h : nrmRows (l.map eL) = l.map eL := by
    induction l with
    | nil => simp [nrmRows]
    | cons x l ih => simp [nrmRows, nrmRow, nrm, eL, ih]
  simp [nrmA, nrm, h]

theorem line8_calls (h : Heap) : ACalls Tryz.prog gW 10 [] h (fun r h' => r = .b true ∧ h' = h) := by
  have s49 : St49 [Sa0] := fun t ht => by rw [List.mem_singleton] at ht; subst ht; rfl
  have hbg : ∀ h, ACalls Tryz.prog gW 15 [aRaw] h (fun r h' => r = .tup [aSts [Sa0], .i 0] ∧ h' = h) := fun h => by
    refine ACalls.nrm ?_
    have := begin_calls netok0 h
    rw [begin0] at this
    simpa only [nrmAs, nrm_net] using this
  have hlb : ∀ h, ACalls Tryz.prog gW 19 [aRaw, aSts [Sa0]] h (fun r h' => r = aLs [(1, 1, 0), (1, 1, 1)] ∧ h' = h) := fun h => by
    refine ACalls.nrm ?_
    have := labels_calls netok0 s49 (by decide) h
    rw [lab0] at this
    simpa only [nrmAs, nrm_net, nrm_st] using this
  have hac : ∀ h, ACalls Tryz.prog gW 20 [aRaw, aLs [(1, 1, 1), (7, 0, 0), (7, 0, 0)]] h (fun r h' => r = .tup [.i 2, .i 0] ∧ h' = h) := fun h => by
    refine ACalls.nrm ?_
    have := accepts_calls netok0 (l := [(1, 1, 1), (7, 0, 0), (7, 0, 0)]) (by decide) h
    rw [accept0] at this
    simpa only [nrmAs, nrm_net, nrm_ls] using this
  generalize Sa0 = S at *
  refine acalls_pure (rl := []) mixed Tryz.func10 rfl (rs := [.tmp 0]) rfl Tryz.ntmps10 (by simp) ?_
  repeat' (first | ((first | refine aops_nil ?_ | refine aqops_nil ?_); (try simp only [NB])) | ((repeat ((fail_if_success (refine hK _ ?_)); clear hK K)); refine hK _ ?_; clear hK K) | ((first | refine aops_k fun K1 hK1 => ?_ | refine aqops_k fun K1 hK1 => ?_ | refine awp_cond_k fun A B hA hB => ?_); simp only [S1, simprocAttr, TTTrS, List.length_map, eL, List.map_cons, List.map_nil, takeL_c]; first | (refine hK1 _ ?_; clear hK1 K1) | ((first | refine hA ?_ | refine hB ?_); clear hA hB A B) | ((first | apply call_a E15 | apply call_q E15); exact (hbg _); (refine hK1 _ ?_; clear hK1 K1)) | ((first | apply call_a E19 | apply call_q E19); exact (hlb _); (refine hK1 _ ?_; clear hK1 K1)) | ((first | apply call_a E20 | apply call_q E20); exact (hac _); (refine hK1 _ ?_; clear hK1 K1)) | (refine join_x (v := ?_) (fun hg hk9 => ?_) ?_; rotate_left; (focus (try ((try simp only [BN] at hg); simp only [S1, simprocAttr, TTTrS, List.length_map, eL, List.map_cons, List.map_nil, takeL_c, hg] at hk9 ⊢)); first | exact hk9 | ((first | apply call_a E15 | apply call_q E15); exact (hbg _); exact hk9) | ((first | apply call_a E19 | apply call_q E19); exact (hlb _); exact hk9) | ((first | apply call_a E20 | apply call_q E20); exact (hac _); exact hk9)); (refine hK1 _ ?_; clear hK1 K1)) | (((first | (refine ⟨fun hg => hA ?_, fun hg => hB ?_⟩ <;> clear hA hB A B) | refine ⟨fun hg => ?_, fun hg => ?_⟩) <;> (try simp only [BN2] at hg) <;> (try simp only [hg, cond_true, cond_false])) <;> (try (refine hK1 _ ?_; clear hK1 K1)) <;> (try simp only [BN3] at hg))) | (refine awp_seq_k fun K hK => ?_) | ((first | refine awp_region ?_ | refine awp_draw (by kernel_rfl) ?_ | refine awp_block ?_ | refine awp_exit ?_ | refine awp_skip ?_ | refine awp_ret ?_); (try simp only [NB, simprocAttr])))
  all_goals simp only [EndP, FinP, resA, resL, resA1, lastV, lastA, lastAs, pur, purs, take_app, List.take_length, S1, simprocAttr, TTTrS, Nat.le_add_right, Nat.le_refl]
end Go.Proofs.YtbbmfemplmelhaaGreatDoor.AM
end

section
set_option linter.unusedVariables false
set_option linter.unusedSimpArgs false
set_option maxRecDepth 4000
set_option maxHeartbeats 4000000
namespace Go.Proofs.YtbbmfemplmelhaaGreatDoor.AM
open Go Go.Proofs
set_option linter.defProp false in
attribute [local irreducible] awp aops aqops
variable {G : Nat → Option (List PV)}

mutual
def lgT8 : Tm → Int → Int → Bool × Int
  | .mk _ _ ks, d, n => if n - 1 < 0 ∨ 30 < d ∨ 10 < (ks.length : Int) then (true, n - 1) else lgS8 ks (d + 1) (n - 1)
def lgS8 : List Tm → Int → Int → Bool × Int
  | [], _, n => (false, n)
  | k :: r, d, n => if (lgT8 k d n).1 = true then lgT8 k d n else lgS8 r d (lgT8 k d n).2
end

end Go.Proofs.YtbbmfemplmelhaaGreatDoor.AM
end

section
set_option linter.unusedVariables false
set_option linter.unusedSimpArgs false
set_option maxRecDepth 4000
set_option maxHeartbeats 4000000
namespace Go.Proofs.YtbbmfemplmelhaaGreatDoor.AM
open Go Go.Proofs
set_option linter.defProp false in
def TTTrT := And.intro T2 (And.intro T3 (And.intro T4 (And.intro T25 (And.intro T26 (And.intro T28 (And.intro T31 (And.intro T41 (And.intro T44 (And.intro T57 (And.intro T58 T82))))))))))
attribute [local irreducible] awp aops aqops aeops arun arunT

theorem label_of {fuel : Nat} {xs : List PV} (h : Ty Tryz.prog fuel 28 xs) : ∃ x : Lb, xs = eL x := by
  obtain ⟨m, rows, e, hl, rfl, hf⟩ := ty_struct T28 h
  match rows, hl with
  | [r0, r1, r2], _ =>
    have h0 : Ty Tryz.prog m 3 r0 := hf 0 _ r0 rfl rfl
    have h1 : Ty Tryz.prog m 3 r1 := hf 1 _ r1 rfl rfl
    have h2 : Ty Tryz.prog m 3 r2 := hf 2 _ r2 rfl rfl
    obtain ⟨o, _, rfl⟩ := ty_int T3 h0
    obtain ⟨n, _, rfl⟩ := ty_int T3 h1
    obtain ⟨q, _, rfl⟩ := ty_int T3 h2
    exact ⟨(o, n, q), by simp [eL]⟩
theorem arg_lb {fuel : Nat} {xs : List PV} (h : Ty Tryz.prog fuel 28 xs) : ∃ x : Lb, argA Tryz.prog 28 xs = aL x := by
  obtain ⟨x, rfl⟩ := label_of h
  exact ⟨x, by rw [argA_at T28]; rfl⟩
theorem tless_law (x y : Lb) (h : Heap) : ACalls Tryz.prog gW 7 [aL x, aL y] h (fun r h' => r = .b true ∧ h' = h) := by
  have hline := fun h => line8_calls h
  have h1 := fun h => tless_calls (G := gW) x y h
  have h2 := fun h => rless_calls (G := gW) x y h
  have h3 := fun h => tless_calls (G := gW) y x h
  have heq := eqLb x y
  have heq : eqCells true [.p (.int .i64 x.1), .p (.int .i64 x.2.1), .p (.int .i64 x.2.2)] [.p (.int .i64 y.1), .p (.int .i64 y.2.1), .p (.int .i64 y.2.2)] = some (decide (x = y)) := heq
  rcases ltL_tri x y with a | a | a
  · rw [decide_eq_true a] at h1 h2
    rw [decide_eq_false (ltL_asymm a)] at h3
    rw [decide_eq_false (fun e => by subst e; exact ltL_irr _ a)] at heq
    refine acalls_pure (rl := []) mixed Tryz.func7 rfl (rs := [.tmp 4]) rfl Tryz.ntmps7 (by simp) ?_
    repeat' (first | ((first | refine aops_nil ?_ | refine aqops_nil ?_); (try simp only [NB])) | ((repeat ((fail_if_success (refine hK _ ?_)); clear hK K)); refine hK _ ?_; clear hK K) | ((first | refine aops_k fun K1 hK1 => ?_ | refine aqops_k fun K1 hK1 => ?_ | refine awp_cond_k fun A B hA hB => ?_); simp only [S1, simprocAttr, TTTrT, heq, eqA, W28, and_self, takeL_c, List.length_cons, List.length_nil]; first | (refine hK1 _ ?_; clear hK1 K1) | ((first | refine hA ?_ | refine hB ?_); clear hA hB A B) | ((first | apply call_a E25 | apply call_q E25); exact (h1 _); (refine hK1 _ ?_; clear hK1 K1)) | ((first | apply call_a E26 | apply call_q E26); exact (h2 _); (refine hK1 _ ?_; clear hK1 K1)) | ((first | apply call_a E25 | apply call_q E25); exact (h3 _); (refine hK1 _ ?_; clear hK1 K1)) | ((first | apply call_a E10 | apply call_q E10); exact (hline _); (refine hK1 _ ?_; clear hK1 K1)) | (refine join_x (v := ?_) (fun hg hk9 => ?_) ?_; rotate_left; (focus (try ((try simp only [BN] at hg); simp only [S1, simprocAttr, TTTrT, heq, eqA, W28, and_self, takeL_c, List.length_cons, List.length_nil, hg] at hk9 ⊢)); first | exact hk9 | ((first | apply call_a E25 | apply call_q E25); exact (h1 _); exact hk9) | ((first | apply call_a E26 | apply call_q E26); exact (h2 _); exact hk9) | ((first | apply call_a E25 | apply call_q E25); exact (h3 _); exact hk9) | ((first | apply call_a E10 | apply call_q E10); exact (hline _); exact hk9)); (refine hK1 _ ?_; clear hK1 K1)) | (((first | (refine ⟨fun hg => hA ?_, fun hg => hB ?_⟩ <;> clear hA hB A B) | refine ⟨fun hg => ?_, fun hg => ?_⟩) <;> (try simp only [BN2] at hg) <;> (try simp only [hg, cond_true, cond_false])) <;> (try (refine hK1 _ ?_; clear hK1 K1)) <;> (try simp only [BN3] at hg))) | (refine awp_seq_k fun K hK => ?_) | ((first | refine awp_region ?_ | refine awp_draw (by kernel_rfl) ?_ | refine awp_block ?_ | refine awp_exit ?_ | refine awp_skip ?_ | refine awp_ret ?_); (try simp only [NB, simprocAttr])))
    all_goals simp only [EndP, FinP, resA, resL, resA1, lastV, lastA, lastAs, pur, purs, take_app, List.take_length, S1, simprocAttr, TTTrT, Nat.le_add_right, Nat.le_refl]
  · subst a
    rw [decide_eq_false (ltL_irr x)] at h1 h2 h3
    rw [decide_eq_true rfl] at heq
    refine acalls_pure (rl := []) mixed Tryz.func7 rfl (rs := [.tmp 4]) rfl Tryz.ntmps7 (by simp) ?_
    repeat' (first | ((first | refine aops_nil ?_ | refine aqops_nil ?_); (try simp only [NB])) | ((repeat ((fail_if_success (refine hK _ ?_)); clear hK K)); refine hK _ ?_; clear hK K) | ((first | refine aops_k fun K1 hK1 => ?_ | refine aqops_k fun K1 hK1 => ?_ | refine awp_cond_k fun A B hA hB => ?_); simp only [S1, simprocAttr, TTTrT, heq, eqA, W28, and_self, takeL_c, List.length_cons, List.length_nil]; first | (refine hK1 _ ?_; clear hK1 K1) | ((first | refine hA ?_ | refine hB ?_); clear hA hB A B) | ((first | apply call_a E25 | apply call_q E25); exact (h1 _); (refine hK1 _ ?_; clear hK1 K1)) | ((first | apply call_a E26 | apply call_q E26); exact (h2 _); (refine hK1 _ ?_; clear hK1 K1)) | ((first | apply call_a E10 | apply call_q E10); exact (hline _); (refine hK1 _ ?_; clear hK1 K1)) | (refine join_x (v := ?_) (fun hg hk9 => ?_) ?_; rotate_left; (focus (try ((try simp only [BN] at hg); simp only [S1, simprocAttr, TTTrT, heq, eqA, W28, and_self, takeL_c, List.length_cons, List.length_nil, hg] at hk9 ⊢)); first | exact hk9 | ((first | apply call_a E25 | apply call_q E25); exact (h1 _); exact hk9) | ((first | apply call_a E26 | apply call_q E26); exact (h2 _); exact hk9) | ((first | apply call_a E10 | apply call_q E10); exact (hline _); exact hk9)); (refine hK1 _ ?_; clear hK1 K1)) | (((first | (refine ⟨fun hg => hA ?_, fun hg => hB ?_⟩ <;> clear hA hB A B) | refine ⟨fun hg => ?_, fun hg => ?_⟩) <;> (try simp only [BN2] at hg) <;> (try simp only [hg, cond_true, cond_false])) <;> (try (refine hK1 _ ?_; clear hK1 K1)) <;> (try simp only [BN3] at hg))) | (refine awp_seq_k fun K hK => ?_) | ((first | refine awp_region ?_ | refine awp_draw (by kernel_rfl) ?_ | refine awp_block ?_ | refine awp_exit ?_ | refine awp_skip ?_ | refine awp_ret ?_); (try simp only [NB, simprocAttr])))
    all_goals simp only [EndP, FinP, resA, resL, resA1, lastV, lastA, lastAs, pur, purs, take_app, List.take_length, S1, simprocAttr, TTTrT, Nat.le_add_right, Nat.le_refl]
  · rw [decide_eq_false (ltL_asymm a)] at h1 h2
    rw [decide_eq_true a] at h3
    rw [decide_eq_false (fun e => by subst e; exact ltL_irr _ a)] at heq
    refine acalls_pure (rl := []) mixed Tryz.func7 rfl (rs := [.tmp 4]) rfl Tryz.ntmps7 (by simp) ?_
    repeat' (first | ((first | refine aops_nil ?_ | refine aqops_nil ?_); (try simp only [NB])) | ((repeat ((fail_if_success (refine hK _ ?_)); clear hK K)); refine hK _ ?_; clear hK K) | ((first | refine aops_k fun K1 hK1 => ?_ | refine aqops_k fun K1 hK1 => ?_ | refine awp_cond_k fun A B hA hB => ?_); simp only [S1, simprocAttr, TTTrT, heq, eqA, W28, and_self, takeL_c, List.length_cons, List.length_nil]; first | (refine hK1 _ ?_; clear hK1 K1) | ((first | refine hA ?_ | refine hB ?_); clear hA hB A B) | ((first | apply call_a E25 | apply call_q E25); exact (h1 _); (refine hK1 _ ?_; clear hK1 K1)) | ((first | apply call_a E26 | apply call_q E26); exact (h2 _); (refine hK1 _ ?_; clear hK1 K1)) | ((first | apply call_a E25 | apply call_q E25); exact (h3 _); (refine hK1 _ ?_; clear hK1 K1)) | ((first | apply call_a E10 | apply call_q E10); exact (hline _); (refine hK1 _ ?_; clear hK1 K1)) | (refine join_x (v := ?_) (fun hg hk9 => ?_) ?_; rotate_left; (focus (try ((try simp only [BN] at hg); simp only [S1, simprocAttr, TTTrT, heq, eqA, W28, and_self, takeL_c, List.length_cons, List.length_nil, hg] at hk9 ⊢)); first | exact hk9 | ((first | apply call_a E25 | apply call_q E25); exact (h1 _); exact hk9) | ((first | apply call_a E26 | apply call_q E26); exact (h2 _); exact hk9) | ((first | apply call_a E25 | apply call_q E25); exact (h3 _); exact hk9) | ((first | apply call_a E10 | apply call_q E10); exact (hline _); exact hk9)); (refine hK1 _ ?_; clear hK1 K1)) | (((first | (refine ⟨fun hg => hA ?_, fun hg => hB ?_⟩ <;> clear hA hB A B) | refine ⟨fun hg => ?_, fun hg => ?_⟩) <;> (try simp only [BN2] at hg) <;> (try simp only [hg, cond_true, cond_false])) <;> (try (refine hK1 _ ?_; clear hK1 K1)) <;> (try simp only [BN3] at hg))) | (refine awp_seq_k fun K hK => ?_) | ((first | refine awp_region ?_ | refine awp_draw (by kernel_rfl) ?_ | refine awp_block ?_ | refine awp_exit ?_ | refine awp_skip ?_ | refine awp_ret ?_); (try simp only [NB, simprocAttr])))
    all_goals simp only [EndP, FinP, resA, resL, resA1, lastV, lastA, lastAs, pur, purs, take_app, List.take_length, S1, simprocAttr, TTTrT, Nat.le_add_right, Nat.le_refl]

theorem trailless_given (xss : List (List PV)) (hl : xss.length = [28, 28].length) (ht : ∀ (j : Nat) t xs, [28, 28][j]? = some t → xss[j]? = some xs → ∃ fuel, Ty Tryz.prog fuel t xs) :
    ACalls Tryz.prog gW 7 (List.zipWith (argA Tryz.prog) [28, 28] xss) [] fun r h' => r = .b true ∧ h' = [] := by
  match xss, hl, ht with
  | [x0, x1], _, ht =>
    obtain ⟨_, h0⟩ := ht 0 28 x0 rfl rfl
    obtain ⟨_, h1⟩ := ht 1 28 x1 rfl rfl
    obtain ⟨x, e0⟩ := arg_lb h0
    obtain ⟨y, e1⟩ := arg_lb h1
    simp only [List.zipWith_cons_cons, List.zipWith_nil_left, e0, e1]
    exact tless_law x y []
end Go.Proofs.YtbbmfemplmelhaaGreatDoor.AM
end
