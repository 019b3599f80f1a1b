/- Proved here, in parts, for one law: Contracts: the steps of tasks and assignments, as the program does them. Contracts: the steps of any node, as the program does them. Contracts: all steps of a state, as the program does them. Contracts: what may happen in a state; what a move leads to. Contracts: can a rule be done? Contract: what the document's answer makes of tokens. Contract: what a rule makes of tokens. The law RuleGame. Conditions: none. -/
import Derived.Test.YtjpphhcimpclpaaDoorZRuleGameE

section
set_option linter.unusedVariables false
set_option linter.unusedSimpArgs false
set_option maxRecDepth 4000
set_option maxHeartbeats 4000000
namespace Go.Proofs.YtjpphhcimpclpaaDoor.AM
open Go Go.Proofs
set_option linter.defProp false in
def TTTmI := And.intro T2 (And.intro T3 (And.intro T4 (And.intro T22 (And.intro T23 (And.intro T25 (And.intro T26 (And.intro T27 (And.intro T31 (And.intro T40 (And.intro T46 (And.intro T53 (And.intro T58 (And.intro T60 (And.intro T71 (And.intro T95 (And.intro T98 (And.intro T111 (And.intro T113 (And.intro T116 T117)))))))))))))))))))
attribute [local irreducible] awp aops aqops aeops arun arunT

section
variable {h : Heap} {b lb : Nat} {ns : List Nd} {fl : List Fl} {S : List Int} {l : List Sp}

theorem tnode_3 (nk : NetOk ns fl) (rt : Right ns fl) (ok : GmOk h b lb S l) (st : StOk S) (few : l.length ≤ 900000) (c : Nat) {k : Nd} (hc : ns[c]? = some k) (hk : k.kind = 3) (m : Nat) (hm : m < 40) (hin : insN fl c = [(m : Int)]) (h0 : tk S (m : Int) ≠ 0) :
    ACalls Tryd.prog gW 49 [.ptr b 0 0, .i c] (putG h b lb ns fl S l) (fun r h' => r = .undef ∧ h' = putG h b lb ns fl S (l ++ nodeG ns fl S c k)) := by
  have hb := ok.hb
  have hl := ok.hl
  have hne := ok.ne
  have hS := ok.held.1
  have gl := gmC_len (ns := ns) (fl := fl) (lb := lb) (n := l.length) hS
  have gv := gmC_vars (ns := ns) (fl := fl) (lb := lb) (n := l.length) hS
  have t49 := gmC_state (ns := ns) (fl := fl) (lb := lb) (n := l.length) hS
  have c0 : (0 : Int) ≤ (c : Int) := by omega
  have hc' := rowN hc
  have hf := rt.f
  have hf' : fl.length ≤ 100 := by omega
  have hkd := rt.kind hc
  have hi := InF_ins hf c
  have ho := InF_outs hf c
  obtain ⟨hv, v0, v3⟩ := ok.held.at hm
  have gk := gmC_at (ns := ns) (fl := fl) (lb := lb) (n := l.length) hv
  have f0 : (0 : Int) ≤ (m : Int) := by omega
  have f40 : (m : Int) < 40 := by omega
  have hz' : (tk S (m : Int) == 0) = false := by simp [h0]
  have hil : (((insN fl c).length : Int) == 1) = true := by rw [hin]; rfl
  have hi0 : (insN fl c)[0]? = some (m : Int) := by rw [hin]; rfl
  have hei : eI (m : Int) = [.int .i64 (m : Int)] := rfl
  have hin0 : (0 : Int) ≤ 0 := Int.le_refl 0
  have e2 : (k.kind == 2) = false := by simp [hk]
  have e3 : (k.kind == 3) = true := by simp [hk]
  have e4 : (k.kind == 4) = false := by simp [hk]
  have e5 : (k.kind == 5) = false := by simp [hk]
  have e6 : (k.kind == 6) = false := by simp [hk]
  have e7 : (k.kind == 7) = false := by simp [hk]
  have e8 : (k.kind == 8) = false := by simp [hk]
  have e1 : (k.kind != 1) = true := by simp [hk]
  obtain ⟨a, hka⟩ := Int.eq_ofNat_of_zero_le hkd.2.1
  have a4 : a < 4 := by have := hkd.2.2.1 (by omega); omega
  have hS2 : ∀ v, (S.set (40 + a) v).length = 49 := fun v => by rw [List.length_set, hS]
  have eg : nodeG ns fl S c k = moveG S ⟨c, 0, 1, c, 0, S.set (40 + a) 0⟩ (insN fl c) (outsN fl c) ++ moveG S ⟨c, 1, 1, c, 1, S.set (40 + a) 1⟩ (insN fl c) (outsN fl c) := by
    unfold nodeG; rw [if_neg (by omega), if_pos (.inl hk)]
    unfold dataG; rw [hin, List.headD_cons, if_neg h0, if_pos hk, hka, Int.toNat_natCast]
  rw [eg]
  let acc : Nat → List Sp := fun j => (if j = 0 then [] else moveG S ⟨c, 0, 1, c, 0, S.set (40 + a) 0⟩ (insN fl c) (outsN fl c)) ++ (if j ≤ 1 then [] else moveG S ⟨c, 1, 1, c, 1, S.set (40 + a) 1⟩ (insN fl c) (outsN fl c))
  have hto : ∀ j, ∀ y ∈ acc j, y.to.length = 49 := by
    intro j y hy
    simp only [acc] at hy
    rcases List.mem_append.mp hy with hy | hy
    · split at hy
      · cases hy
      · exact moveG_to hS (hS2 _) y hy
    · split at hy
      · cases hy
      · exact moveG_to hS (hS2 _) y hy
  have hal : ∀ j, (acc j).length ≤ 2 := by
    intro j
    simp only [acc, List.length_append]
    have h1 := moveG_len S ⟨c, 0, 1, c, 0, S.set (40 + a) 0⟩ (insN fl c) (outsN fl c)
    have h2 := moveG_len S ⟨c, 1, 1, c, 1, S.set (40 + a) 1⟩ (insN fl c) (outsN fl c)
    split <;> split <;> simp <;> omega
  have e22 : acc 2 = moveG S ⟨c, 0, 1, c, 0, S.set (40 + a) 0⟩ (insN fl c) (outsN fl c) ++ moveG S ⟨c, 1, 1, c, 1, S.set (40 + a) 1⟩ (insN fl c) (outsN fl c) := by simp only [acc]; rfl
  rw [← e22]
  refine acalls_heap (rl := []) mixed Tryd.func49 rfl (rs := []) rfl Tryd.ntmps49 (by simp) ?_
  repeat' (first | ((first | refine aops_nil ?_ | refine aqops_nil ?_ | refine arun_nil ?_ | refine arunT_nil ?_); (try simp only [NB])) | ((repeat ((fail_if_success (refine hK _ ?_)); clear hK K)); refine hK _ ?_; clear hK K) | ((first | refine aops_k fun K1 hK1 => ?_ | refine aqops_k fun K1 hK1 => ?_ | refine arun_eff rfl rfl rfl fun K1 hK1 => ?_ | refine awp_cond_k fun A B hA hB => ?_); simp only [S1, simprocAttr, TTTmI, e1, e2, e3, e4, e5, e6, e7, e8, hil, hi0, hei, hin0, f0, f40, gk, hz', hka, c0, hc', eN, takeA_sl0, gmC_net, TSz, z49_ne, z49_map, zS_len, takeA_arr, takeA_st, List.length_map, List.length_take, List.length_drop, pg_len, pg_get0, pg_geti, pg_set0, pg_seti, pg_b hb hne, pg_lb hl, pg_b0 hb hne, pg_lb0 hl, gmB, spB, gl, all_scalar, Nat.mul_one, Nat.zero_add, Nat.add_zero, Int.toNat_natCast, List.length_cons, List.length_nil]; first | (refine hK1 _ ?_; clear hK1 K1) | ((first | refine hA ?_ | refine hB ?_); clear hA hB A B) | ((first | apply call_a E25 | apply call_q E25); exact (ins_calls _ fl hf' _ _); (refine hK1 _ ?_; clear hK1 K1)) | ((first | apply call_a E26 | apply call_q E26); exact (outs_calls _ fl hf' _ _); (refine hK1 _ ?_; clear hK1 K1)) | (refine join_x (v := ?_) (fun hg hk9 => ?_) ?_; rotate_left; (focus (try ((try simp only [BN] at hg); simp only [S1, simprocAttr, TTTmI, e1, e2, e3, e4, e5, e6, e7, e8, hil, hi0, hei, hin0, f0, f40, gk, hz', hka, c0, hc', eN, takeA_sl0, gmC_net, TSz, z49_ne, z49_map, zS_len, takeA_arr, takeA_st, List.length_map, List.length_take, List.length_drop, pg_len, pg_get0, pg_geti, pg_set0, pg_seti, pg_b hb hne, pg_lb hl, pg_b0 hb hne, pg_lb0 hl, gmB, spB, gl, all_scalar, Nat.mul_one, Nat.zero_add, Nat.add_zero, Int.toNat_natCast, List.length_cons, List.length_nil, hg] at hk9 ⊢)); first | exact hk9 | ((first | apply call_a E25 | apply call_q E25); exact (ins_calls _ fl hf' _ _); exact hk9) | ((first | apply call_a E26 | apply call_q E26); exact (outs_calls _ fl hf' _ _); exact hk9)); (refine hK1 _ ?_; clear hK1 K1)) | (((first | (refine ⟨fun hg => hA ?_, fun hg => hB ?_⟩ <;> clear hA hB A B) | refine ⟨fun hg => ?_, fun hg => ?_⟩) <;> (try simp only [BN2] at hg) <;> (try simp only [hg, cond_true, cond_false])) <;> (try (refine hK1 _ ?_; clear hK1 K1)) <;> (try simp only [BN3] at hg))) | ((first | refine arun_q (v := ?_) rfl rfl rfl rfl (by decide) (fun R1 K1 hK1 => ?_) ?_ | refine arun_f (v := ?_) rfl rfl rfl (by decide) (fun K1 hK1 => ?_) ?_ | refine arunT_f (v := ?_) rfl rfl rfl (by decide) (fun K1 hK1 => ?_) ?_); rotate_left; (focus (simp only [S1, simprocAttr, TTTmI, e1, e2, e3, e4, e5, e6, e7, e8, hil, hi0, hei, hin0, f0, f40, gk, hz', hka, c0, hc', eN, takeA_sl0, gmC_net, TSz, z49_ne, z49_map, zS_len, takeA_arr, takeA_st, List.length_map, List.length_take, List.length_drop, pg_len, pg_get0, pg_geti, pg_set0, pg_seti, pg_b hb hne, pg_lb hl, pg_b0 hb hne, pg_lb0 hl, gmB, spB, gl, all_scalar, Nat.mul_one, Nat.zero_add, Nat.add_zero, Int.toNat_natCast, List.length_cons, List.length_nil]; first | (exact hK1 _ _ _) | ((first | apply call_a E25 | apply call_q E25); exact (ins_calls _ fl hf' _ _); exact hK1 _ _ _) | ((first | apply call_a E26 | apply call_q E26); exact (outs_calls _ fl hf' _ _); exact hK1 _ _ _)))) | (refine arun_tail rfl rfl rfl ?_) | ((first | refine arun_allocj (z := ?_) 0 rfl rfl rfl rfl (by decide) rfl ?_ ?_ | refine arun_allocj (z := ?_) 1 rfl rfl rfl rfl (by decide) rfl ?_ ?_ | refine arun_allocj (z := ?_) 2 rfl rfl rfl rfl (by decide) rfl ?_ ?_); rotate_left; (focus (simp only [S1, simprocAttr, TTTmI, e1, e2, e3, e4, e5, e6, e7, e8, hil, hi0, hei, hin0, f0, f40, gk, hz', hka, c0, hc', eN, takeA_sl0, gmC_net, TSz, z49_ne, z49_map, zS_len, takeA_arr, takeA_st, List.length_map, List.length_take, List.length_drop, pg_len, pg_get0, pg_geti, pg_set0, pg_seti, pg_b hb hne, pg_lb hl, pg_b0 hb hne, pg_lb0 hl, gmB, spB, gl, all_scalar, Nat.mul_one, Nat.zero_add, Nat.add_zero, Int.toNat_natCast, List.length_cons, List.length_nil, zeroB]; rfl))) | (refine awp_seq_k fun K hK => ?_) | (refine awp_drawQ [0, 1, 2, 3, 4, 5, 6, 7, 8, 9, 10, 11, 12, 13] (fs := []) rfl rfl (by kernel_rfl) (by kernel_rfl) ?_) | ((first | refine awp_region ?_ | refine awp_draw (by kernel_rfl) ?_ | refine awp_block ?_ | refine awp_exit ?_ | refine awp_skip ?_ | refine awp_ret ?_); (try simp only [NB, simprocAttr])))
  refine awp_forH 2 174 (fun j => putG h b lb ns fl S (l ++ acc j)) (fun j => [(59, .i j), (6, aI (outsN fl c)), (5, aI (insN fl c)), (4, .ptr h.length 0 0), (1, .i c), (0, .ptr b 0 0)]) (fun j => [xB k a]) (fun j => True) (fun j => ⟨by rw [pg_len, pg_len], pg_keep hl⟩) ?_ trivial fun j hj hp K hK => ?_
  · have e0 : acc 0 = [] := by simp [acc]
    simp only [e0, List.append_nil]
    refine ⟨rfl, ⟨[], by simp only [List.append_nil]⟩, ?_, ?_⟩
    · simp only [keeps, avlt, avlts, blksLt, frL, upd_get, pg_len, S1, simprocAttr, List.length_map, List.length_cons, List.length_nil, Int.natCast_zero, AV.p.injEq, PV.int.injEq, PV.bool.injEq, PV.sl.injEq] <;> (try and_intros) <;> (try assumption) <;> (try trivial) <;> (try omega)
    · exact ⟨⟨trivial, trivial, trivial, trivial, trivial, trivial⟩, trivial⟩
  have okj : GmOk h b lb S (l ++ acc j) := ok.app (hto j) (by have := hal j; omega)
  rcases Nat.lt_or_ge j 2 with hlt | hge
  · have hlt' : decide ((j : Int) < 2) = true := decide_eq_true (by omega)
    have hnx : IntKind.i64.wrap ((j : Int) + 1) = ((j + 1 : Nat) : Int) := by rw [IntWalk.i64_in _ (by omega)]; omega
    have es := stF_move hS (m := ⟨c, j, 1, c, j, S⟩) (Chg.set hS (k := 40 + a) (by omega) (j : Int)) hi ho
    have ea' : l ++ acc (j + 1) = (l ++ acc j) ++ stF S ⟨c, j, 1, c, j, S⟩ (fun T => T.set (40 + a) (j : Int)) (insN fl c) (outsN fl c) := by
      rw [es, List.append_assoc]
      congr 1
      match j, hlt with
      | 0, _ => simp [acc]
      | 1, _ => simp [acc]
    generalize hlj : l ++ acc j = lj at ea' okj ⊢
    have hst := step_fn_at (G := gW) (ns := ns) (fl := fl) okj ⟨c, j, 1, c, j, S⟩ (insN fl c) (outsN fl c) hi ho [xB k a, some ⟨0, [.i j]⟩] E72 (caps := [.ptr (h.length + 1) 0 0, .ptr h.length 0 0]) ⟨by simp [avlt], by simp [avlt], trivial⟩ (fun T hT => by rw [List.length_set, hT]) (fun A T hT _ => setv1_at k a4 j 0 A T hT)
    repeat' (first | ((first | refine aops_nil ?_ | refine aqops_nil ?_); (try simp only [NB])) | ((repeat ((fail_if_success (refine hK _ ?_)); clear hK K)); refine hK _ ?_; clear hK K) | ((first | refine aops_k fun K1 hK1 => ?_ | refine aqops_k fun K1 hK1 => ?_ | refine awp_cond_k fun A B hA hB => ?_); simp only [S1, simprocAttr, TTTmI, hlt', hnx, TSz, z49_ne, z49_map, zS_len, takeA_arr, takeA_st, List.length_map, List.length_take, List.length_drop, pg_len, pg_get0, pg_geti, pg_set0, pg_seti, pg_b hb hne, pg_lb hl, pg_b0 hb hne, pg_lb0 hl, gmB, spB, gl, all_scalar, Nat.mul_one, Nat.zero_add, Nat.add_zero, Int.toNat_natCast, List.length_cons, List.length_nil]; first | (refine hK1 _ ?_; clear hK1 K1) | ((first | refine hA ?_ | refine hB ?_); clear hA hB A B) | ((first | apply call_a E51 | apply call_q E51); exact hst; (refine hK1 _ ?_; clear hK1 K1)) | (refine join_x (v := ?_) (fun hg hk9 => ?_) ?_; rotate_left; (focus (try ((try simp only [BN] at hg); simp only [S1, simprocAttr, TTTmI, hlt', hnx, TSz, z49_ne, z49_map, zS_len, takeA_arr, takeA_st, List.length_map, List.length_take, List.length_drop, pg_len, pg_get0, pg_geti, pg_set0, pg_seti, pg_b hb hne, pg_lb hl, pg_b0 hb hne, pg_lb0 hl, gmB, spB, gl, all_scalar, Nat.mul_one, Nat.zero_add, Nat.add_zero, Int.toNat_natCast, List.length_cons, List.length_nil, hg] at hk9 ⊢)); first | exact hk9 | ((first | apply call_a E51 | apply call_q E51); exact hst; exact hk9)); (refine hK1 _ ?_; clear hK1 K1)) | (((first | (refine ⟨fun hg => hA ?_, fun hg => hB ?_⟩ <;> clear hA hB A B) | refine ⟨fun hg => ?_, fun hg => ?_⟩) <;> (try simp only [BN2] at hg) <;> (try simp only [hg, cond_true, cond_false])) <;> (try (refine hK1 _ ?_; clear hK1 K1)) <;> (try simp only [BN3] at hg))) | (refine awp_seq_k fun K hK => ?_) | ((first | refine awp_region ?_ | refine awp_draw (by kernel_rfl) ?_ | refine awp_block ?_ | refine awp_exit ?_ | refine awp_skip ?_ | refine awp_ret ?_); (try simp only [NB, simprocAttr])))
    all_goals refine ⟨hlt, trivial, ?_⟩
    all_goals simp only [ea']
    all_goals refine ⟨rfl, ⟨_, rfl⟩, ?_, ?_⟩
    · simp only [keeps, avlt, avlts, blksLt, frL, upd_get, pg_len, S1, simprocAttr, List.length_map, List.length_cons, List.length_nil, Int.natCast_zero, AV.p.injEq, PV.int.injEq, PV.bool.injEq, PV.sl.injEq] <;> (try and_intros) <;> (try assumption) <;> (try trivial) <;> (try omega)
    · exact ⟨⟨trivial, trivial, trivial, trivial, trivial, trivial⟩, trivial⟩
  · obtain rfl : j = 2 := by omega
    repeat' (first | ((first | refine aops_nil ?_ | refine aqops_nil ?_); (try simp only [NB])) | ((repeat ((fail_if_success (refine hK _ ?_)); clear hK K)); refine hK _ ?_; clear hK K) | ((first | refine aops_k fun K1 hK1 => ?_ | refine aqops_k fun K1 hK1 => ?_ | refine awp_cond_k fun A B hA hB => ?_); simp only [S1, simprocAttr, TTTmI, (show decide (((2 : Nat) : Int) < 2) = false by decide)]; first | (refine hK1 _ ?_; clear hK1 K1) | ((first | refine hA ?_ | refine hB ?_); clear hA hB A B) | (refine join_x (v := ?_) (fun hg hk9 => ?_) ?_; rotate_left; (focus (try ((try simp only [BN] at hg); simp only [S1, simprocAttr, TTTmI, (show decide (((2 : Nat) : Int) < 2) = false by decide), hg] at hk9 ⊢)); first | exact hk9); (refine hK1 _ ?_; clear hK1 K1)) | (((first | (refine ⟨fun hg => hA ?_, fun hg => hB ?_⟩ <;> clear hA hB A B) | refine ⟨fun hg => ?_, fun hg => ?_⟩) <;> (try simp only [BN2] at hg) <;> (try simp only [hg, cond_true, cond_false])) <;> (try (refine hK1 _ ?_; clear hK1 K1)) <;> (try simp only [BN3] at hg))) | (refine awp_seq_k fun K hK => ?_) | ((first | refine awp_region ?_ | refine awp_draw (by kernel_rfl) ?_ | refine awp_block ?_ | refine awp_exit ?_ | refine awp_skip ?_ | refine awp_ret ?_); (try simp only [NB, simprocAttr])))
    all_goals simp only [EndH, FinH, resA, resL, resA1, lastV, lastA, lastAs, pur, purs, pg_len, pg_take, pg_take0, List.length_append, List.length_cons, List.length_nil, S1, simprocAttr, Nat.le_add_right, Nat.le_refl] <;> first | exact pg_keep' hl | exact ⟨pg_keep' hl, rfl⟩ | exact ⟨pg_keep' hl, rfl, rfl⟩

theorem tnode_4 (nk : NetOk ns fl) (rt : Right ns fl) (ok : GmOk h b lb S l) (st : StOk S) (few : l.length ≤ 900000) (c : Nat) {k : Nd} (hc : ns[c]? = some k) (hk : k.kind = 4) (m : Nat) (hm : m < 40) (hin : insN fl c = [(m : Int)]) (h0 : tk S (m : Int) ≠ 0) :
    ACalls Tryd.prog gW 49 [.ptr b 0 0, .i c] (putG h b lb ns fl S l) (fun r h' => r = .undef ∧ h' = putG h b lb ns fl S (l ++ nodeG ns fl S c k)) := by
  have hb := ok.hb
  have hl := ok.hl
  have hne := ok.ne
  have hS := ok.held.1
  have gl := gmC_len (ns := ns) (fl := fl) (lb := lb) (n := l.length) hS
  have gv := gmC_vars (ns := ns) (fl := fl) (lb := lb) (n := l.length) hS
  have t49 := gmC_state (ns := ns) (fl := fl) (lb := lb) (n := l.length) hS
  have c0 : (0 : Int) ≤ (c : Int) := by omega
  have hc' := rowN hc
  have hf := rt.f
  have hf' : fl.length ≤ 100 := by omega
  have hkd := rt.kind hc
  have hi := InF_ins hf c
  have ho := InF_outs hf c
  obtain ⟨hv, v0, v3⟩ := ok.held.at hm
  have gk := gmC_at (ns := ns) (fl := fl) (lb := lb) (n := l.length) hv
  have f0 : (0 : Int) ≤ (m : Int) := by omega
  have f40 : (m : Int) < 40 := by omega
  have hz' : (tk S (m : Int) == 0) = false := by simp [h0]
  have hil : (((insN fl c).length : Int) == 1) = true := by rw [hin]; rfl
  have hi0 : (insN fl c)[0]? = some (m : Int) := by rw [hin]; rfl
  have hei : eI (m : Int) = [.int .i64 (m : Int)] := rfl
  have hin0 : (0 : Int) ≤ 0 := Int.le_refl 0
  have e2 : (k.kind == 2) = false := by simp [hk]
  have e3 : (k.kind == 3) = false := by simp [hk]
  have e4 : (k.kind == 4) = true := by simp [hk]
  have e5 : (k.kind == 5) = false := by simp [hk]
  have e6 : (k.kind == 6) = false := by simp [hk]
  have e7 : (k.kind == 7) = false := by simp [hk]
  have e8 : (k.kind == 8) = false := by simp [hk]
  have e1 : (k.kind != 1) = true := by simp [hk]
  obtain ⟨a, hka⟩ := Int.eq_ofNat_of_zero_le hkd.2.1
  have a4 : a < 4 := by have := hkd.2.2.1 (by omega); omega
  have hS2 : ∀ v, (S.set (40 + a) v).length = 49 := fun v => by rw [List.length_set, hS]
  obtain ⟨mm, hmm, ht⟩ := nk.tn
  have ch := fun h => Number_calls (ht k (List.mem_of_getElem? hc)) (vS S) vS_num h
  by_cases h2 : (numR k.term (vS S)).2 = 0
  · have h2' : ((numR k.term (vS S)).2 != 0) = false := by simp [h2]
    have eg : nodeG ns fl S c k = moveG S ⟨c, 0, 2, c, 0, S.set (40 + a) (numR k.term (vS S)).1⟩ (insN fl c) (outsN fl c) := by
      unfold nodeG; rw [if_neg (by omega), if_pos (.inr hk)]
      unfold dataG; rw [hin, List.headD_cons, if_neg h0, if_neg (by omega), if_neg (by simpa using h2), hka, Int.toNat_natCast]
    generalize (numR k.term (vS S)).1 = w at *
    have es := stF_move hS (m := ⟨c, 0, 2, c, 0, S⟩) (Chg.set hS (k := 40 + a) (by omega) w) hi ho
    simp only at es
    rw [eg, ← es]
    have hst := step_fn_at (G := gW) (ns := ns) (fl := fl) ok ⟨c, 0, 2, c, 0, S⟩ (insN fl c) (outsN fl c) hi ho [xB k a, some ⟨1, [.i w]⟩] E75 (caps := [.ptr (h.length + 1) 1 0, .ptr h.length 0 0]) ⟨by simp [avlt], by simp [avlt], trivial⟩ (fun T hT => by rw [List.length_set, hT]) (fun A T hT _ => setv2_at k a4 w 1 A T hT)
    refine acalls_heap (rl := []) mixed Tryd.func49 rfl (rs := []) rfl Tryd.ntmps49 (by simp) ?_
    repeat' (first | ((first | refine aops_nil ?_ | refine aqops_nil ?_ | refine arun_nil ?_ | refine arunT_nil ?_); (try simp only [NB])) | ((repeat ((fail_if_success (refine hK _ ?_)); clear hK K)); refine hK _ ?_; clear hK K) | ((first | refine aops_k fun K1 hK1 => ?_ | refine aqops_k fun K1 hK1 => ?_ | refine arun_eff rfl rfl rfl fun K1 hK1 => ?_ | refine awp_cond_k fun A B hA hB => ?_); simp only [S1, simprocAttr, TTTmI, e1, e2, e3, e4, e5, e6, e7, e8, hil, hi0, hei, hin0, f0, f40, gk, hz', hka, h2', gv, c0, hc', eN, takeA_sl0, gmC_net, TSz, z49_ne, z49_map, zS_len, takeA_arr, takeA_st, List.length_map, List.length_take, List.length_drop, pg_len, pg_get0, pg_geti, pg_set0, pg_seti, pg_b hb hne, pg_lb hl, pg_b0 hb hne, pg_lb0 hl, gmB, spB, gl, all_scalar, Nat.mul_one, Nat.zero_add, Nat.add_zero, Int.toNat_natCast, List.length_cons, List.length_nil]; first | (refine hK1 _ ?_; clear hK1 K1) | ((first | refine hA ?_ | refine hB ?_); clear hA hB A B) | ((first | apply call_a E25 | apply call_q E25); exact (ins_calls _ fl hf' _ _); (refine hK1 _ ?_; clear hK1 K1)) | ((first | apply call_a E26 | apply call_q E26); exact (outs_calls _ fl hf' _ _); (refine hK1 _ ?_; clear hK1 K1)) | ((first | apply call_a E73 | apply call_q E73); exact (ch _); (refine hK1 _ ?_; clear hK1 K1)) | ((first | apply call_a E51 | apply call_q E51); exact hst; (refine hK1 _ ?_; clear hK1 K1)) | (refine join_x (v := ?_) (fun hg hk9 => ?_) ?_; rotate_left; (focus (try ((try simp only [BN] at hg); simp only [S1, simprocAttr, TTTmI, e1, e2, e3, e4, e5, e6, e7, e8, hil, hi0, hei, hin0, f0, f40, gk, hz', hka, h2', gv, c0, hc', eN, takeA_sl0, gmC_net, TSz, z49_ne, z49_map, zS_len, takeA_arr, takeA_st, List.length_map, List.length_take, List.length_drop, pg_len, pg_get0, pg_geti, pg_set0, pg_seti, pg_b hb hne, pg_lb hl, pg_b0 hb hne, pg_lb0 hl, gmB, spB, gl, all_scalar, Nat.mul_one, Nat.zero_add, Nat.add_zero, Int.toNat_natCast, List.length_cons, List.length_nil, hg] at hk9 ⊢)); first | exact hk9 | ((first | apply call_a E25 | apply call_q E25); exact (ins_calls _ fl hf' _ _); exact hk9) | ((first | apply call_a E26 | apply call_q E26); exact (outs_calls _ fl hf' _ _); exact hk9) | ((first | apply call_a E73 | apply call_q E73); exact (ch _); exact hk9) | ((first | apply call_a E51 | apply call_q E51); exact hst; exact hk9)); (refine hK1 _ ?_; clear hK1 K1)) | (((first | (refine ⟨fun hg => hA ?_, fun hg => hB ?_⟩ <;> clear hA hB A B) | refine ⟨fun hg => ?_, fun hg => ?_⟩) <;> (try simp only [BN2] at hg) <;> (try simp only [hg, cond_true, cond_false])) <;> (try (refine hK1 _ ?_; clear hK1 K1)) <;> (try simp only [BN3] at hg))) | ((first | refine arun_q (v := ?_) rfl rfl rfl rfl (by decide) (fun R1 K1 hK1 => ?_) ?_ | refine arun_f (v := ?_) rfl rfl rfl (by decide) (fun K1 hK1 => ?_) ?_ | refine arunT_f (v := ?_) rfl rfl rfl (by decide) (fun K1 hK1 => ?_) ?_); rotate_left; (focus (simp only [S1, simprocAttr, TTTmI, e1, e2, e3, e4, e5, e6, e7, e8, hil, hi0, hei, hin0, f0, f40, gk, hz', hka, h2', gv, c0, hc', eN, takeA_sl0, gmC_net, TSz, z49_ne, z49_map, zS_len, takeA_arr, takeA_st, List.length_map, List.length_take, List.length_drop, pg_len, pg_get0, pg_geti, pg_set0, pg_seti, pg_b hb hne, pg_lb hl, pg_b0 hb hne, pg_lb0 hl, gmB, spB, gl, all_scalar, Nat.mul_one, Nat.zero_add, Nat.add_zero, Int.toNat_natCast, List.length_cons, List.length_nil]; first | (exact hK1 _ _ _) | ((first | apply call_a E25 | apply call_q E25); exact (ins_calls _ fl hf' _ _); exact hK1 _ _ _) | ((first | apply call_a E26 | apply call_q E26); exact (outs_calls _ fl hf' _ _); exact hK1 _ _ _) | ((first | apply call_a E73 | apply call_q E73); exact (ch _); exact hK1 _ _ _) | ((first | apply call_a E51 | apply call_q E51); exact hst; exact hK1 _ _ _)))) | (refine arun_tail rfl rfl rfl ?_) | ((first | refine arun_allocj (z := ?_) 0 rfl rfl rfl rfl (by decide) rfl ?_ ?_ | refine arun_allocj (z := ?_) 1 rfl rfl rfl rfl (by decide) rfl ?_ ?_ | refine arun_allocj (z := ?_) 2 rfl rfl rfl rfl (by decide) rfl ?_ ?_); rotate_left; (focus (simp only [S1, simprocAttr, TTTmI, e1, e2, e3, e4, e5, e6, e7, e8, hil, hi0, hei, hin0, f0, f40, gk, hz', hka, h2', gv, c0, hc', eN, takeA_sl0, gmC_net, TSz, z49_ne, z49_map, zS_len, takeA_arr, takeA_st, List.length_map, List.length_take, List.length_drop, pg_len, pg_get0, pg_geti, pg_set0, pg_seti, pg_b hb hne, pg_lb hl, pg_b0 hb hne, pg_lb0 hl, gmB, spB, gl, all_scalar, Nat.mul_one, Nat.zero_add, Nat.add_zero, Int.toNat_natCast, List.length_cons, List.length_nil, zeroB]; rfl))) | (refine awp_seq_k fun K hK => ?_) | (refine awp_drawQ [0, 1, 2, 3, 4, 5, 6, 7, 8, 9, 10, 11, 12, 13] (fs := []) rfl rfl (by kernel_rfl) (by kernel_rfl) ?_) | (refine awp_drawR [0, 1, 2, 3, 4, 5, 6, 7, 8, 9, 10, 11, 12, 13] 1 (fs := []) rfl (by kernel_rfl) (by kernel_rfl) ?_) | ((first | refine awp_region ?_ | refine awp_draw (by kernel_rfl) ?_ | refine awp_block ?_ | refine awp_exit ?_ | refine awp_skip ?_ | refine awp_ret ?_); (try simp only [NB, simprocAttr])))
    all_goals simp only [EndH, FinH, resA, resL, resA1, lastV, lastA, lastAs, pur, purs, pg_len, pg_take, pg_take0, List.length_append, List.length_cons, List.length_nil, S1, simprocAttr, Nat.le_add_right, Nat.le_refl] <;> first | exact pg_keep' hl | exact ⟨pg_keep' hl, rfl⟩ | exact ⟨pg_keep' hl, rfl, rfl⟩
  · have h2' : ((numR k.term (vS S)).2 != 0) = true := by simp [h2]
    have eg : nodeG ns fl S c k = [faultS S c (numR k.term (vS S)).2] := by
      unfold nodeG; rw [if_neg (by omega), if_pos (.inr hk)]
      unfold dataG; rw [hin, List.headD_cons, if_neg h0, if_neg (by omega), if_pos h2]
    rw [eg]
    refine acalls_heap (rl := []) mixed Tryd.func49 rfl (rs := []) rfl Tryd.ntmps49 (by simp) ?_
    repeat' (first | ((first | refine aops_nil ?_ | refine aqops_nil ?_ | refine arun_nil ?_ | refine arunT_nil ?_); (try simp only [NB])) | ((repeat ((fail_if_success (refine hK _ ?_)); clear hK K)); refine hK _ ?_; clear hK K) | ((first | refine aops_k fun K1 hK1 => ?_ | refine aqops_k fun K1 hK1 => ?_ | refine arun_eff rfl rfl rfl fun K1 hK1 => ?_ | refine awp_cond_k fun A B hA hB => ?_); simp only [S1, simprocAttr, TTTmI, e1, e2, e3, e4, e5, e6, e7, e8, hil, hi0, hei, hin0, f0, f40, gk, hz', hka, h2', gv, c0, hc', eN, takeA_sl0, gmC_net, TSz, z49_ne, z49_map, zS_len, takeA_arr, takeA_st, List.length_map, List.length_take, List.length_drop, pg_len, pg_get0, pg_geti, pg_set0, pg_seti, pg_b hb hne, pg_lb hl, pg_b0 hb hne, pg_lb0 hl, gmB, spB, gl, all_scalar, Nat.mul_one, Nat.zero_add, Nat.add_zero, Int.toNat_natCast, List.length_cons, List.length_nil]; first | (refine hK1 _ ?_; clear hK1 K1) | ((first | refine hA ?_ | refine hB ?_); clear hA hB A B) | ((first | apply call_a E25 | apply call_q E25); exact (ins_calls _ fl hf' _ _); (refine hK1 _ ?_; clear hK1 K1)) | ((first | apply call_a E26 | apply call_q E26); exact (outs_calls _ fl hf' _ _); (refine hK1 _ ?_; clear hK1 K1)) | ((first | apply call_a E73 | apply call_q E73); exact (ch _); (refine hK1 _ ?_; clear hK1 K1)) | ((first | apply call_a E74 | apply call_q E74); exact (tfault_at ok c (numR k.term (vS S)).2 _); (refine hK1 _ ?_; clear hK1 K1)) | (refine join_x (v := ?_) (fun hg hk9 => ?_) ?_; rotate_left; (focus (try ((try simp only [BN] at hg); simp only [S1, simprocAttr, TTTmI, e1, e2, e3, e4, e5, e6, e7, e8, hil, hi0, hei, hin0, f0, f40, gk, hz', hka, h2', gv, c0, hc', eN, takeA_sl0, gmC_net, TSz, z49_ne, z49_map, zS_len, takeA_arr, takeA_st, List.length_map, List.length_take, List.length_drop, pg_len, pg_get0, pg_geti, pg_set0, pg_seti, pg_b hb hne, pg_lb hl, pg_b0 hb hne, pg_lb0 hl, gmB, spB, gl, all_scalar, Nat.mul_one, Nat.zero_add, Nat.add_zero, Int.toNat_natCast, List.length_cons, List.length_nil, hg] at hk9 ⊢)); first | exact hk9 | ((first | apply call_a E25 | apply call_q E25); exact (ins_calls _ fl hf' _ _); exact hk9) | ((first | apply call_a E26 | apply call_q E26); exact (outs_calls _ fl hf' _ _); exact hk9) | ((first | apply call_a E73 | apply call_q E73); exact (ch _); exact hk9) | ((first | apply call_a E74 | apply call_q E74); exact (tfault_at ok c (numR k.term (vS S)).2 _); exact hk9)); (refine hK1 _ ?_; clear hK1 K1)) | (((first | (refine ⟨fun hg => hA ?_, fun hg => hB ?_⟩ <;> clear hA hB A B) | refine ⟨fun hg => ?_, fun hg => ?_⟩) <;> (try simp only [BN2] at hg) <;> (try simp only [hg, cond_true, cond_false])) <;> (try (refine hK1 _ ?_; clear hK1 K1)) <;> (try simp only [BN3] at hg))) | ((first | refine arun_q (v := ?_) rfl rfl rfl rfl (by decide) (fun R1 K1 hK1 => ?_) ?_ | refine arun_f (v := ?_) rfl rfl rfl (by decide) (fun K1 hK1 => ?_) ?_ | refine arunT_f (v := ?_) rfl rfl rfl (by decide) (fun K1 hK1 => ?_) ?_); rotate_left; (focus (simp only [S1, simprocAttr, TTTmI, e1, e2, e3, e4, e5, e6, e7, e8, hil, hi0, hei, hin0, f0, f40, gk, hz', hka, h2', gv, c0, hc', eN, takeA_sl0, gmC_net, TSz, z49_ne, z49_map, zS_len, takeA_arr, takeA_st, List.length_map, List.length_take, List.length_drop, pg_len, pg_get0, pg_geti, pg_set0, pg_seti, pg_b hb hne, pg_lb hl, pg_b0 hb hne, pg_lb0 hl, gmB, spB, gl, all_scalar, Nat.mul_one, Nat.zero_add, Nat.add_zero, Int.toNat_natCast, List.length_cons, List.length_nil]; first | (exact hK1 _ _ _) | ((first | apply call_a E25 | apply call_q E25); exact (ins_calls _ fl hf' _ _); exact hK1 _ _ _) | ((first | apply call_a E26 | apply call_q E26); exact (outs_calls _ fl hf' _ _); exact hK1 _ _ _) | ((first | apply call_a E73 | apply call_q E73); exact (ch _); exact hK1 _ _ _) | ((first | apply call_a E74 | apply call_q E74); exact (tfault_at ok c (numR k.term (vS S)).2 _); exact hK1 _ _ _)))) | (refine arun_tail rfl rfl rfl ?_) | ((first | refine arun_allocj (z := ?_) 0 rfl rfl rfl rfl (by decide) rfl ?_ ?_ | refine arun_allocj (z := ?_) 1 rfl rfl rfl rfl (by decide) rfl ?_ ?_ | refine arun_allocj (z := ?_) 2 rfl rfl rfl rfl (by decide) rfl ?_ ?_); rotate_left; (focus (simp only [S1, simprocAttr, TTTmI, e1, e2, e3, e4, e5, e6, e7, e8, hil, hi0, hei, hin0, f0, f40, gk, hz', hka, h2', gv, c0, hc', eN, takeA_sl0, gmC_net, TSz, z49_ne, z49_map, zS_len, takeA_arr, takeA_st, List.length_map, List.length_take, List.length_drop, pg_len, pg_get0, pg_geti, pg_set0, pg_seti, pg_b hb hne, pg_lb hl, pg_b0 hb hne, pg_lb0 hl, gmB, spB, gl, all_scalar, Nat.mul_one, Nat.zero_add, Nat.add_zero, Int.toNat_natCast, List.length_cons, List.length_nil, zeroB]; rfl))) | (refine awp_seq_k fun K hK => ?_) | (refine awp_drawQ [0, 1, 2, 3, 4, 5, 6, 7, 8, 9, 10, 11, 12, 13] (fs := []) rfl rfl (by kernel_rfl) (by kernel_rfl) ?_) | (refine awp_drawR [0, 1, 2, 3, 4, 5, 6, 7, 8, 9, 10, 11, 12, 13] 1 (fs := []) rfl (by kernel_rfl) (by kernel_rfl) ?_) | ((first | refine awp_region ?_ | refine awp_draw (by kernel_rfl) ?_ | refine awp_block ?_ | refine awp_exit ?_ | refine awp_skip ?_ | refine awp_ret ?_); (try simp only [NB, simprocAttr])))
    all_goals simp only [EndH, FinH, resA, resL, resA1, lastV, lastA, lastAs, pur, purs, pg_len, pg_take, pg_take0, List.length_append, List.length_cons, List.length_nil, S1, simprocAttr, Nat.le_add_right, Nat.le_refl] <;> first | exact pg_keep' hl | exact ⟨pg_keep' hl, rfl⟩ | exact ⟨pg_keep' hl, rfl, rfl⟩
end
end Go.Proofs.YtjpphhcimpclpaaDoor.AM
end

section
set_option linter.unusedVariables false
set_option linter.unusedSimpArgs false
set_option maxRecDepth 4000
set_option maxHeartbeats 4000000
namespace Go.Proofs.YtjpphhcimpclpaaDoor.AM
open Go Go.Proofs
set_option linter.defProp false in
attribute [local irreducible] awp aops aqops aeops arun arunT

section
variable {h : Heap} {b lb : Nat} {ns : List Nd} {fl : List Fl} {S : List Int} {l : List Sp}

theorem tnode_calls (nk : NetOk ns fl) (rt : Right ns fl) (ok : GmOk h b lb S l) (st : StOk S) (few : l.length ≤ 900000) (c : Nat) {k : Nd} (hc : ns[c]? = some k) :
    ACalls Tryd.prog gW 49 [.ptr b 0 0, .i c] (putG h b lb ns fl S l) (fun r h' => r = .undef ∧ h' = putG h b lb ns fl S (l ++ nodeG ns fl S c k)) := by
  have hkd := rt.kind hc
  have hS := ok.held.1
  by_cases h1 : k.kind = 1
  · exact tnode_1 nk rt ok st few c hc h1
  have hne := rt.ins hc h1
  by_cases hl1 : (insN fl c).length = 1
  · obtain ⟨m0, hm0⟩ : ∃ m0, insN fl c = [m0] := by
      match hq : insN fl c, hl1 with
      | [a], _ => exact ⟨a, rfl⟩
    obtain ⟨f0, f40⟩ := (InF_ins rt.f c).2 m0 (by rw [hm0]; simp)
    obtain ⟨m, rfl⟩ := Int.eq_ofNat_of_zero_le f0
    have m40 : m < 40 := by omega
    by_cases h0 : tk S (m : Int) = 0
    · have := tnode_none (ns := ns) (fl := fl) nk rt ok c hc m m40 hm0 h1 h0
      have hz := node_zero (ns := ns) hS m40 hm0 h0 (k := k) fun h5 hx => by
        have := rt.xor (List.getElem?_eq_some_iff.mp hc).1 (by rw [kind_of hc]; exact h5)
        omega
      rw [hz, List.append_nil]
      exact this
    · by_cases h2 : k.kind = 2
      · exact tnode_2 nk rt ok st few c hc h2 m m40 hm0 h0
      by_cases h3 : k.kind = 3
      · exact tnode_3 nk rt ok st few c hc h3 m m40 hm0 h0
      by_cases h4 : k.kind = 4
      · exact tnode_4 nk rt ok st few c hc h4 m m40 hm0 h0
      by_cases h5 : k.kind = 5
      · exact tnode_5a nk rt ok st few c hc h5 m m40 hm0 h0
      by_cases h6 : k.kind = 6
      · exact tnode_6a nk rt ok st few c hc h6 m m40 hm0 h0
      by_cases h7 : k.kind = 7
      · exact tnode_7 nk rt ok st few c hc h7 m m40 hm0 h0
      · exact tnode_8 nk rt ok st few c hc (by omega) m m40 hm0 h0
  · by_cases h5 : k.kind = 5
    · exact tnode_5b nk rt ok st few c hc h5 hl1
    by_cases h6 : k.kind = 6
    · exact tnode_6b nk rt ok st few c hc h6 hl1
    exfalso
    by_cases h2 : k.kind = 2
    · exact hl1 (rt.ar2 hc h2)
    by_cases h7 : k.kind = 7
    · exact hl1 (rt.ar7 hc h7).1
    exact hl1 (rt.ar11 hc (by omega)).1
end
end Go.Proofs.YtjpphhcimpclpaaDoor.AM
end

section
set_option linter.unusedVariables false
set_option linter.unusedSimpArgs false
set_option maxRecDepth 4000
set_option maxHeartbeats 4000000
namespace Go.Proofs.YtjpphhcimpclpaaDoor.AM
open Go Go.Proofs
set_option linter.defProp false in
def TTTmM := And.intro T2 (And.intro T3 (And.intro T4 (And.intro T22 (And.intro T25 (And.intro T26 (And.intro T27 (And.intro T31 (And.intro T40 (And.intro T46 (And.intro T53 (And.intro T60 (And.intro T95 (And.intro T98 (And.intro T111 (And.intro T113 (And.intro T116 T117))))))))))))))))
attribute [local irreducible] awp aops aqops aeops arun arunT

theorem step_fn_nn {h : Heap} {b lb : Nat} {ns : List Nd} {fl : List Fl} {S : List Int} {l : List Sp} (ok : GmOk h b lb S l) (m : Sp) (L : Heap) {f : FuncId} (hE : Enters Tryd.prog f) {caps : List AV} (hcap : avlts (h.length + L.length) caps) {chg : List Int → List Int} (hlen : ∀ T : List Int, T.length = 49 → (chg T).length = 49)
    (hC : ∀ (A : Option Blk) (T : List Int), T.length = 49 → T.drop 40 = S.drop 40 → ACalls Tryd.prog gW f (.ptr (h.length + L.length + 1) 0 0 :: caps) (putG h b lb ns fl S l ++ (L ++ [A, some ⟨0, T.map AV.i⟩])) (fun r h' => r = .undef ∧ h' = putG h b lb ns fl S l ++ (L ++ [A, some ⟨0, (chg T).map AV.i⟩]))) :
    ACalls Tryd.prog gW 51 [.ptr b 0 0, aMv m, .p .nils, .p .nils, .fn f caps] (putG h b lb ns fl S l ++ L) (fun r h' => r = .undef ∧ h' = putG h b lb ns fl S (l ++ stF S m chg [] []) ++ L) := by
  have := step_fn_at (G := gW) (ns := ns) (fl := fl) ok m [] [] ⟨by simp, by simp⟩ ⟨by simp, by simp⟩ L hE hcap hlen hC
  refine ACalls.nrm ?_
  simp only [nrmAs, nrmA, nrm]
  exact this

theorem more_at {h : Heap} {b lb : Nat} {ns : List Nd} {fl : List Fl} {S : List Int} {l : List Sp} {a : Nat} (ha : a < 4) {q : Int} (hq : S[44 + a]? = some q) (hq0 : 0 ≤ q ∧ q ≤ 3) (A : Option Blk) (T : List Int) (hT : T.length = 49) (hd : T.drop 40 = S.drop 40) :
    ACalls Tryd.prog gW 52 [.ptr (h.length + 1 + 1) 0 0, .ptr h.length 0 0] (putG h b lb ns fl S l ++ ([some ⟨0, [.i a]⟩] ++ [A, some ⟨0, T.map AV.i⟩]))
    (fun r h' => r = .undef ∧ h' = putG h b lb ns fl S l ++ ([some ⟨0, [.i a]⟩] ++ [A, some ⟨0, (T.set (44 + a) (q + 1)).map AV.i⟩])) := by
  have hqT : T[44 + a]? = some q := by
    have e : (T.drop 40)[4 + a]? = (S.drop 40)[4 + a]? := by rw [hd]
    rw [List.getElem?_drop, List.getElem?_drop, show 40 + (4 + a) = 44 + a by omega] at e
    rw [e, hq]
  have := more_calls (G := gW) (H := putG h b lb ns fl S l ++ ([some ⟨0, [.i a]⟩] ++ [A, some ⟨0, T.map AV.i⟩])) (c := h.length + 2) (r := h.length) (gc := 0) (gr := 0) (by rw [pg_geti]; rfl) hT ha (by rw [pg_get0]; rfl) hqT hq0
  rw [pg_seti] at this
  exact this

theorem tSteps_calls {ns : List Nd} {fl : List Fl} (nk : NetOk ns fl) {S : List Int} (hS : S.length = 49) (h : Heap) :
    ACalls Tryd.prog gW 34 [aNet ns fl, aS S] h (fun r h' => r = aSps (stepsG ns fl S) ∧ h' = h) := by
  have hne := ne_is hS
  have hck := fun h => tChk_calls nk hS h
  have dm := dropI (at_get hS (k := 48) (by omega))
  have emd : S.getD 48 0 = mdS S := rfl
  rw [emd] at dm
  have t49 : ((S.map AV.i).drop 0).take 49 = S.map AV.i := by rw [List.drop_zero]; exact List.take_of_length_le (by rw [List.length_map, hS]; exact Nat.le_refl _)
  have t49' : (S.map AV.i).take 49 = S.map AV.i := by rwa [List.drop_zero] at t49
  by_cases h0 : stC ns fl S = 0
  case neg =>
    have e : stepsG ns fl S = [] := by unfold stepsG; rw [if_pos (.inl h0)]
    have f0 : (stC ns fl S != 0) = true := by simp [h0]
    rw [e]
    refine acalls_pure (rl := []) mixed Tryd.func34 rfl (rs := [.tmp 4]) rfl Tryd.ntmps34 (by simp) ?_
    repeat' (first | ((first | refine aops_nil ?_ | refine aqops_nil ?_); (try simp only [NB])) | ((repeat ((fail_if_success (refine hK _ ?_)); clear hK K)); refine hK _ ?_; clear hK K) | ((first | refine aops_k fun K1 hK1 => ?_ | refine aqops_k fun K1 hK1 => ?_ | refine awp_cond_k fun A B hA hB => ?_); simp only [S1, simprocAttr, TTTmM, TSz, z49_ne, z49_map, zS_len, f0, hne, hS, all_scalar, t49', dm, takeA_arr, takeA_st, List.length_map]; first | (refine hK1 _ ?_; clear hK1 K1) | ((first | refine hA ?_ | refine hB ?_); clear hA hB A B) | ((first | apply call_a E9 | apply call_q E9); exact (hck _); (refine hK1 _ ?_; clear hK1 K1)) | (refine join_x (v := ?_) (fun hg hk9 => ?_) ?_; rotate_left; (focus (try ((try simp only [BN] at hg); simp only [S1, simprocAttr, TTTmM, TSz, z49_ne, z49_map, zS_len, f0, hne, hS, all_scalar, t49', dm, takeA_arr, takeA_st, List.length_map, hg] at hk9 ⊢)); first | exact hk9 | ((first | apply call_a E9 | apply call_q E9); exact (hck _); exact hk9)); (refine hK1 _ ?_; clear hK1 K1)) | (((first | (refine ⟨fun hg => hA ?_, fun hg => hB ?_⟩ <;> clear hA hB A B) | refine ⟨fun hg => ?_, fun hg => ?_⟩) <;> (try simp only [BN2] at hg) <;> (try simp only [hg, cond_true, cond_false])) <;> (try (refine hK1 _ ?_; clear hK1 K1)) <;> (try simp only [BN3] at hg))) | (refine awp_seq_k fun K hK => ?_) | ((first | refine awp_region ?_ | refine awp_draw (by kernel_rfl) ?_ | refine awp_block ?_ | refine awp_exit ?_ | refine awp_skip ?_ | refine awp_ret ?_); (try simp only [NB, simprocAttr])))
    all_goals simp only [EndP, FinP, resA, resL, resA1, lastV, lastA, lastAs, pur, purs, take_app, List.take_length, S1, simprocAttr, TTTmM, Nat.le_add_right, Nat.le_refl]
    all_goals rfl
  have f0 : (stC ns fl S != 0) = false := by simp [h0]
  by_cases h1 : mdS S = 0
  case neg =>
    have e : stepsG ns fl S = [] := by unfold stepsG; rw [if_pos (.inr h1)]
    have f1 : (mdS S != 0) = true := by simp [h1]
    rw [e]
    refine acalls_pure (rl := []) mixed Tryd.func34 rfl (rs := [.tmp 4]) rfl Tryd.ntmps34 (by simp) ?_
    repeat' (first | ((first | refine aops_nil ?_ | refine aqops_nil ?_); (try simp only [NB])) | ((repeat ((fail_if_success (refine hK _ ?_)); clear hK K)); refine hK _ ?_; clear hK K) | ((first | refine aops_k fun K1 hK1 => ?_ | refine aqops_k fun K1 hK1 => ?_ | refine awp_cond_k fun A B hA hB => ?_); simp only [S1, simprocAttr, TTTmM, TSz, z49_ne, z49_map, zS_len, f0, f1, hne, hS, all_scalar, t49', dm, takeA_arr, takeA_st, List.length_map]; first | (refine hK1 _ ?_; clear hK1 K1) | ((first | refine hA ?_ | refine hB ?_); clear hA hB A B) | ((first | apply call_a E9 | apply call_q E9); exact (hck _); (refine hK1 _ ?_; clear hK1 K1)) | (refine join_x (v := ?_) (fun hg hk9 => ?_) ?_; rotate_left; (focus (try ((try simp only [BN] at hg); simp only [S1, simprocAttr, TTTmM, TSz, z49_ne, z49_map, zS_len, f0, f1, hne, hS, all_scalar, t49', dm, takeA_arr, takeA_st, List.length_map, hg] at hk9 ⊢)); first | exact hk9 | ((first | apply call_a E9 | apply call_q E9); exact (hck _); exact hk9)); (refine hK1 _ ?_; clear hK1 K1)) | (((first | (refine ⟨fun hg => hA ?_, fun hg => hB ?_⟩ <;> clear hA hB A B) | refine ⟨fun hg => ?_, fun hg => ?_⟩) <;> (try simp only [BN2] at hg) <;> (try simp only [hg, cond_true, cond_false])) <;> (try (refine hK1 _ ?_; clear hK1 K1)) <;> (try simp only [BN3] at hg))) | (refine awp_seq_k fun K hK => ?_) | ((first | refine awp_region ?_ | refine awp_draw (by kernel_rfl) ?_ | refine awp_block ?_ | refine awp_exit ?_ | refine awp_skip ?_ | refine awp_ret ?_); (try simp only [NB, simprocAttr])))
    all_goals simp only [EndP, FinP, resA, resL, resA1, lastV, lastA, lastAs, pur, purs, take_app, List.take_length, S1, simprocAttr, TTTmM, Nat.le_add_right, Nat.le_refl]
    all_goals rfl
  have f1 : (mdS S != 0) = false := by simp [h1]
  have e : stepsG ns fl S = nodesG ns fl S ns.length ++ sendsG ns S 4 := by unfold stepsG; rw [if_neg (by simp [h0, h1])]
  rw [e]
  refine acalls_pure (rl := []) mixed Tryd.func34 rfl (rs := [.tmp 4]) rfl Tryd.ntmps34 (by simp) ?_
  have ov2 := over_two hS
  repeat' (first | ((first | refine aops_nil ?_ | refine aqops_nil ?_); (try simp only [NB])) | ((repeat ((fail_if_success (refine hK _ ?_)); clear hK K)); refine hK _ ?_; clear hK K) | ((first | refine aops_k fun K1 hK1 => ?_ | refine aqops_k fun K1 hK1 => ?_ | refine awp_cond_k fun A B hA hB => ?_); simp only [S1, simprocAttr, TTTmM, TSz, z49_ne, z49_map, zS_len, f0, f1, hne, hS, ov2, all_scalar, t49', dm, takeA_arr, takeA_st, List.length_map, List.length_cons, List.length_nil, List.drop_succ_cons, List.drop_zero, List.all_append, List.length_append]; first | (refine hK1 _ ?_; clear hK1 K1) | ((first | refine hA ?_ | refine hB ?_); clear hA hB A B) | ((first | apply call_a E9 | apply call_q E9); exact (hck _); (refine hK1 _ ?_; clear hK1 K1)) | (refine join_x (v := ?_) (fun hg hk9 => ?_) ?_; rotate_left; (focus (try ((try simp only [BN] at hg); simp only [S1, simprocAttr, TTTmM, TSz, z49_ne, z49_map, zS_len, f0, f1, hne, hS, ov2, all_scalar, t49', dm, takeA_arr, takeA_st, List.length_map, List.length_cons, List.length_nil, List.drop_succ_cons, List.drop_zero, List.all_append, List.length_append, hg] at hk9 ⊢)); first | exact hk9 | ((first | apply call_a E9 | apply call_q E9); exact (hck _); exact hk9)); (refine hK1 _ ?_; clear hK1 K1)) | (((first | (refine ⟨fun hg => hA ?_, fun hg => hB ?_⟩ <;> clear hA hB A B) | refine ⟨fun hg => ?_, fun hg => ?_⟩) <;> (try simp only [BN2] at hg) <;> (try simp only [hg, cond_true, cond_false])) <;> (try (refine hK1 _ ?_; clear hK1 K1)) <;> (try simp only [BN3] at hg))) | (refine awp_seq_k fun K hK => ?_) | ((first | refine awp_region ?_ | refine awp_draw (by kernel_rfl) ?_ | refine awp_block ?_ | refine awp_exit ?_ | refine awp_skip ?_ | refine awp_ret ?_); (try simp only [NB, simprocAttr])))
  obtain ⟨hn0, hok⟩ := stC_zero h0
  have rt := Right.of hn0
  have st := okS_st hS hok
  have hn := rt.n
  have hf := rt.f
  have hnl : ∀ j, j ≤ ns.length → (nodesG ns fl S j).length ≤ 2400 := fun j hj => Nat.le_trans (nodesG_len ns fl S hf j) (by omega)
  have gok : ∀ l : List Sp, (∀ y ∈ l, y.to.length = 49) → l.length ≤ 3000 → GmOk (h ++ [some ⟨0, cNet ns fl⟩, some ⟨0, S.map AV.i⟩, none, none]) (h.length + 2) (h.length + 3) S l :=
    fun l h1 h2 => ⟨by simp, by simp, by omega, st.held, h1, by omega⟩
  have hnode : ∀ (l : List Sp), (∀ y ∈ l, y.to.length = 49) → l.length ≤ 3000 → ∀ (c : Nat) (k : Nd), ns[c]? = some k → ACalls Tryd.prog gW 49 [.ptr (h.length + 2) 0 0, .i c] (h ++ [some ⟨0, cNet ns fl⟩, some ⟨0, S.map AV.i⟩, gmB ns fl S (h.length + 3) l, spB l])
      (fun r h' => r = .undef ∧ h' = h ++ [some ⟨0, cNet ns fl⟩, some ⟨0, S.map AV.i⟩, gmB ns fl S (h.length + 3) (l ++ nodeG ns fl S c k), spB (l ++ nodeG ns fl S c k)]) := by
    intro l h1 h2 c k hc
    have := tnode_calls nk rt (gok l h1 h2) st (by omega) c hc
    have e1 := pg_tail h (some ⟨0, cNet ns fl⟩) (some ⟨0, S.map AV.i⟩) none none [] ns fl S l
    have e2 := pg_tail h (some ⟨0, cNet ns fl⟩) (some ⟨0, S.map AV.i⟩) none none [] ns fl S (l ++ nodeG ns fl S c k)
    rw [List.append_nil] at e1 e2
    rwa [e1, e2] at this
  refine awp_forG ns.length 57 (fun j => [(25, .i j), (24, .i ns.length), (5, .ptr (h.length + 2) 0 0), (3, .ptr (h.length + 1) 0 0), (2, .ptr h.length 0 0)])
    (fun j => [some ⟨0, cNet ns fl⟩, some ⟨0, S.map AV.i⟩, gmB ns fl S (h.length + 3) (nodesG ns fl S j), spB (nodesG ns fl S j)]) (fun j => True) ?_ trivial fun j hj hp K hK => ?_
  · refine (Ghost.game hS rfl).trans (Sub.ghost ⟨rfl, ⟨[], by simp only [List.append_nil]; rfl⟩, ?_, ⟨trivial, trivial, trivial⟩, avlts_is _ _, pg_avl2 (by simp), avlts_is _ _, trivial⟩)
    simp only [keeps, avlt, avlts, blksLt, frL, upd_get, S1, simprocAttr, List.length_map, Int.natCast_zero, AV.p.injEq, PV.int.injEq, PV.bool.injEq, PV.sl.injEq] <;> (try and_intros) <;> (try assumption) <;> (try trivial) <;> (try omega)
  rcases Nat.lt_or_ge j ns.length with hlt | hge
  · obtain ⟨k, hx⟩ : ∃ k, ns[j]? = some k := ⟨_, List.getElem?_eq_getElem hlt⟩
    have ej : nodesG ns fl S (j + 1) = nodesG ns fl S j ++ nodeG ns fl S j k := by rw [nodesG, hx]
    have hnd := hnode (nodesG ns fl S j) (nodesG_to hS j) (by have := hnl j hj; omega) j k hx
    repeat' (first | ((first | refine aops_nil ?_ | refine aqops_nil ?_); (try simp only [NB])) | ((repeat ((fail_if_success (refine hK _ ?_)); clear hK K)); refine hK _ ?_; clear hK K) | ((first | refine aops_k fun K1 hK1 => ?_ | refine aqops_k fun K1 hK1 => ?_ | refine awp_cond_k fun A B hA hB => ?_); simp only [S1, simprocAttr, TTTmM, hitN hlt, nextN nk.n hlt]; first | (refine hK1 _ ?_; clear hK1 K1) | ((first | refine hA ?_ | refine hB ?_); clear hA hB A B) | ((first | apply call_a E49 | apply call_q E49); exact hnd; (refine hK1 _ ?_; clear hK1 K1)) | (refine join_x (v := ?_) (fun hg hk9 => ?_) ?_; rotate_left; (focus (try ((try simp only [BN] at hg); simp only [S1, simprocAttr, TTTmM, hitN hlt, nextN nk.n hlt, hg] at hk9 ⊢)); first | exact hk9 | ((first | apply call_a E49 | apply call_q E49); exact hnd; exact hk9)); (refine hK1 _ ?_; clear hK1 K1)) | (((first | (refine ⟨fun hg => hA ?_, fun hg => hB ?_⟩ <;> clear hA hB A B) | refine ⟨fun hg => ?_, fun hg => ?_⟩) <;> (try simp only [BN2] at hg) <;> (try simp only [hg, cond_true, cond_false])) <;> (try (refine hK1 _ ?_; clear hK1 K1)) <;> (try simp only [BN3] at hg))) | (refine awp_seq_k fun K hK => ?_) | ((first | refine awp_region ?_ | refine awp_draw (by kernel_rfl) ?_ | refine awp_block ?_ | refine awp_exit ?_ | refine awp_skip ?_ | refine awp_ret ?_); (try simp only [NB, simprocAttr])))
    all_goals refine ⟨hlt, trivial, ?_⟩
    all_goals simp only [ej]
    all_goals refine ⟨rfl, ⟨_, rfl⟩, ?_, ⟨trivial, trivial, trivial⟩, avlts_is _ _, pg_avl2 (by simp), avlts_is _ _, trivial⟩
    all_goals simp only [keeps, avlt, avlts, blksLt, frL, upd_get, S1, simprocAttr, List.length_map, Int.natCast_zero, AV.p.injEq, PV.int.injEq, PV.bool.injEq, PV.sl.injEq] <;> (try and_intros) <;> (try assumption) <;> (try trivial) <;> (try omega)
  obtain rfl : j = ns.length := by omega
  have ar44 : ((S.map AV.i).drop 44).take 4 = ((S.drop 44).take 4).map AV.i := by rw [List.map_take, List.map_drop]
  have l4 : ((S.drop 44).take 4).length = 4 := by simp [hS]
  repeat' (first | ((first | refine aops_nil ?_ | refine aqops_nil ?_); (try simp only [NB])) | ((repeat ((fail_if_success (refine hK _ ?_)); clear hK K)); refine hK _ ?_; clear hK K) | ((first | refine aops_k fun K1 hK1 => ?_ | refine aqops_k fun K1 hK1 => ?_ | refine awp_cond_k fun A B hA hB => ?_); simp only [S1, simprocAttr, TTTmM, TSz, z49_ne, endN, ar44, hS, takeA_arr, takeA_st, List.length_map, List.length_drop, List.length_take]; first | (refine hK1 _ ?_; clear hK1 K1) | ((first | refine hA ?_ | refine hB ?_); clear hA hB A B) | (refine join_x (v := ?_) (fun hg hk9 => ?_) ?_; rotate_left; (focus (try ((try simp only [BN] at hg); simp only [S1, simprocAttr, TTTmM, TSz, z49_ne, endN, ar44, hS, takeA_arr, takeA_st, List.length_map, List.length_drop, List.length_take, hg] at hk9 ⊢)); first | exact hk9); (refine hK1 _ ?_; clear hK1 K1)) | (((first | (refine ⟨fun hg => hA ?_, fun hg => hB ?_⟩ <;> clear hA hB A B) | refine ⟨fun hg => ?_, fun hg => ?_⟩) <;> (try simp only [BN2] at hg) <;> (try simp only [hg, cond_true, cond_false])) <;> (try (refine hK1 _ ?_; clear hK1 K1)) <;> (try simp only [BN3] at hg))) | (refine awp_seq_k fun K hK => ?_) | ((first | refine awp_region ?_ | refine awp_draw (by kernel_rfl) ?_ | refine awp_block ?_ | refine awp_exit ?_ | refine awp_skip ?_ | refine awp_ret ?_); (try simp only [NB, simprocAttr])))
  have hl0 : ∀ y ∈ nodesG ns fl S ns.length, y.to.length = 49 := nodesG_to hS ns.length
  have hl1 : (nodesG ns fl S ns.length).length ≤ 2400 := hnl _ (Nat.le_refl _)
  generalize nodesG ns fl S ns.length = l0 at *
  have hlm : ∀ m, m ≤ 4 → (l0 ++ sendsG ns S m).length ≤ 2500 := fun m hm => by
    rw [List.length_append]; have := sendsG_len ns S m; omega
  have htm : ∀ m, ∀ y ∈ l0 ++ sendsG ns S m, y.to.length = 49 := fun m y hy => (List.mem_append.mp hy).elim (hl0 y) (sendsG_to hS m y)
  refine awp_for 4 57 (fun m => [(34, .i m), (33, .agg (((S.drop 44).take 4).map AV.i)), (5, .ptr (h.length + 2) 0 0), (3, .ptr (h.length + 1) 0 0), (2, .ptr h.length 0 0)])
    (fun m => [some ⟨0, cNet ns fl⟩, some ⟨0, S.map AV.i⟩, gmB ns fl S (h.length + 3) (l0 ++ sendsG ns S m), spB (l0 ++ sendsG ns S m)]) (fun m => True) ?_ trivial fun m hm hp K hK => ?_
  · have s0 : sendsG ns S 0 = [] := rfl
    simp only [s0, List.append_nil]
    refine ⟨rfl, ⟨[], by simp only [List.append_nil]⟩, ?_, ⟨trivial, trivial, trivial⟩, avlts_is _ _, pg_avl2 (by simp), avlts_is _ _, trivial⟩
    simp only [keeps, avlt, avlts, blksLt, frL, upd_get, S1, simprocAttr, List.length_map, Int.natCast_zero, AV.p.injEq, PV.int.injEq, PV.bool.injEq, PV.sl.injEq] <;> (try and_intros) <;> (try assumption) <;> (try trivial) <;> (try omega)
    all_goals exact avlts_is _ _
  rcases Nat.lt_or_ge m 4 with hlt | hge
  · have m0 : (0 : Int) ≤ (m : Int) := by omega
    have m4 : (m : Int) < 4 := by omega
    obtain ⟨hq, q0, q3⟩ := st.q hlt
    have hq4 : ((S.drop 44).take 4)[m]? = some (qAt S m) := by rw [List.getElem?_take_of_lt hlt, List.getElem?_drop]; exact hq
    have hdq := dropI hq4
    have hw9 := fun h => awaits_calls (G := gW) ns fl nk.n m hlt h
    have es : sendsG ns S (m + 1) = sendsG ns S m ++ sendG ns S m := rfl
    cases ew : awaitsB ns m with
    | false =>
      rw [ew] at hw9
      have hs : sendG ns S m = [] := by unfold sendG; rw [if_neg (by simp [ew])]
      repeat' (first | ((first | refine aops_nil ?_ | refine aqops_nil ?_); (try simp only [NB])) | ((repeat ((fail_if_success (refine hK _ ?_)); clear hK K)); refine hK _ ?_; clear hK K) | ((first | refine aops_k fun K1 hK1 => ?_ | refine aqops_k fun K1 hK1 => ?_ | refine awp_cond_k fun A B hA hB => ?_); simp only [S1, simprocAttr, TTTmM, m0, m4, next40 (n := 4) (by omega) hlt, hdq, l4, List.length_map, Int.toNat_natCast, Nat.mul_one, Nat.zero_add]; first | (refine hK1 _ ?_; clear hK1 K1) | ((first | refine hA ?_ | refine hB ?_); clear hA hB A B) | ((first | apply call_a E50 | apply call_q E50); exact (hw9 _); (refine hK1 _ ?_; clear hK1 K1)) | (refine join_x (v := ?_) (fun hg hk9 => ?_) ?_; rotate_left; (focus (try ((try simp only [BN] at hg); simp only [S1, simprocAttr, TTTmM, m0, m4, next40 (n := 4) (by omega) hlt, hdq, l4, List.length_map, Int.toNat_natCast, Nat.mul_one, Nat.zero_add, hg] at hk9 ⊢)); first | exact hk9 | ((first | apply call_a E50 | apply call_q E50); exact (hw9 _); exact hk9)); (refine hK1 _ ?_; clear hK1 K1)) | (((first | (refine ⟨fun hg => hA ?_, fun hg => hB ?_⟩ <;> clear hA hB A B) | refine ⟨fun hg => ?_, fun hg => ?_⟩) <;> (try simp only [BN2] at hg) <;> (try simp only [hg, cond_true, cond_false])) <;> (try (refine hK1 _ ?_; clear hK1 K1)) <;> (try simp only [BN3] at hg))) | (refine awp_seq_k fun K hK => ?_) | ((first | refine awp_region ?_ | refine awp_draw (by kernel_rfl) ?_ | refine awp_block ?_ | refine awp_exit ?_ | refine awp_skip ?_ | refine awp_ret ?_); (try simp only [NB, simprocAttr])))
      all_goals refine ⟨hlt, trivial, ?_⟩
      all_goals simp only [es, hs, List.append_nil]
      all_goals refine ⟨rfl, ⟨_, rfl⟩, ?_, ⟨trivial, trivial, trivial⟩, avlts_is _ _, pg_avl2 (by simp), avlts_is _ _, trivial⟩
      all_goals simp only [keeps, avlt, avlts, blksLt, frL, upd_get, S1, simprocAttr, List.length_map, Int.natCast_zero, AV.p.injEq, PV.int.injEq, PV.bool.injEq, PV.sl.injEq] <;> (try and_intros) <;> (try assumption) <;> (try trivial) <;> (try omega)
      all_goals exact avlts_is _ _
    | true =>
      rw [ew] at hw9
      by_cases h3 : qAt S (m : Int) < 3
      · have h3' : decide (qAt S (m : Int) < 3) = true := decide_eq_true h3
        have hs : sendG ns S m = moveG S ⟨-1, m, 5, 0, m, S.set (44 + m) (qAt S m + 1)⟩ [] [] := by unfold sendG; rw [if_pos ⟨ew, h3⟩]
        generalize qAt S (m : Int) = q at *
        have em := stF_move hS (m := ⟨-1, m, 5, 0, m, S⟩) (Chg.set hS (k := 44 + m) (by omega) (q + 1)) (fr := []) (to := []) ⟨by simp, by simp⟩ ⟨by simp, by simp⟩
        simp only at em
        have hadd : ACalls Tryd.prog gW 51 [.ptr (h.length + 2) 0 0, aMv ⟨-1, m, 5, 0, m, S⟩, .p .nils, .p .nils, .fn 52 [.ptr (h.length + 4) 0 0]] (h ++ (some ⟨0, cNet ns fl⟩ :: some ⟨0, S.map AV.i⟩ :: gmB ns fl S (h.length + 3) (l0 ++ sendsG ns S m) :: spB (l0 ++ sendsG ns S m) :: [some ⟨0, [.i m]⟩]))
            (fun r h' => r = .undef ∧ h' = h ++ (some ⟨0, cNet ns fl⟩ :: some ⟨0, S.map AV.i⟩ :: gmB ns fl S (h.length + 3) (l0 ++ sendsG ns S m ++ sendG ns S m) :: spB (l0 ++ sendsG ns S m ++ sendG ns S m) :: [some ⟨0, [.i m]⟩])) := by
          have := step_fn_nn (ns := ns) (fl := fl) (gok _ (htm m) (by have := hlm m (by omega); omega)) ⟨-1, m, 5, 0, m, S⟩ [some ⟨0, [.i m]⟩] E52 (caps := [.ptr (h.length + 4) 0 0]) ⟨by simp [avlt], trivial⟩ (chg := fun T => T.set (44 + m) (q + 1)) (fun T hT => by rw [List.length_set, hT])
            (fun A T hT hd => by
              have := more_at (h := h ++ [some ⟨0, cNet ns fl⟩, some ⟨0, S.map AV.i⟩, none, none]) (b := h.length + 2) (lb := h.length + 3) (ns := ns) (fl := fl) (S := S) (l := l0 ++ sendsG ns S m) hlt hq ⟨q0, q3⟩ A T hT hd
              simpa using this)
          rw [em, ← hs] at this
          rwa [pg_tail, pg_tail] at this
        repeat' (first | ((first | refine aops_nil ?_ | refine aqops_nil ?_); (try simp only [NB])) | ((repeat ((fail_if_success (refine hK _ ?_)); clear hK K)); refine hK _ ?_; clear hK K) | ((first | refine aops_k fun K1 hK1 => ?_ | refine aqops_k fun K1 hK1 => ?_ | refine awp_cond_k fun A B hA hB => ?_); simp only [S1, simprocAttr, TTTmM, m0, m4, next40 (n := 4) (by omega) hlt, hdq, l4, h3', List.length_map, List.length_cons, List.length_nil, Int.toNat_natCast, Nat.mul_one, Nat.zero_add]; first | (refine hK1 _ ?_; clear hK1 K1) | ((first | refine hA ?_ | refine hB ?_); clear hA hB A B) | ((first | apply call_a E50 | apply call_q E50); exact (hw9 _); (refine hK1 _ ?_; clear hK1 K1)) | ((first | apply call_a E51 | apply call_q E51); exact hadd; (refine hK1 _ ?_; clear hK1 K1)) | (refine join_x (v := ?_) (fun hg hk9 => ?_) ?_; rotate_left; (focus (try ((try simp only [BN] at hg); simp only [S1, simprocAttr, TTTmM, m0, m4, next40 (n := 4) (by omega) hlt, hdq, l4, h3', List.length_map, List.length_cons, List.length_nil, Int.toNat_natCast, Nat.mul_one, Nat.zero_add, hg] at hk9 ⊢)); first | exact hk9 | ((first | apply call_a E50 | apply call_q E50); exact (hw9 _); exact hk9) | ((first | apply call_a E51 | apply call_q E51); exact hadd; exact hk9)); (refine hK1 _ ?_; clear hK1 K1)) | (((first | (refine ⟨fun hg => hA ?_, fun hg => hB ?_⟩ <;> clear hA hB A B) | refine ⟨fun hg => ?_, fun hg => ?_⟩) <;> (try simp only [BN2] at hg) <;> (try simp only [hg, cond_true, cond_false])) <;> (try (refine hK1 _ ?_; clear hK1 K1)) <;> (try simp only [BN3] at hg))) | (refine awp_seq_k fun K hK => ?_) | ((first | refine awp_region ?_ | refine awp_draw (by kernel_rfl) ?_ | refine awp_block ?_ | refine awp_exit ?_ | refine awp_skip ?_ | refine awp_ret ?_); (try simp only [NB, simprocAttr])))
        all_goals refine ⟨hlt, trivial, ?_⟩
        all_goals simp only [es, ← List.append_assoc]
        all_goals refine ⟨rfl, ⟨_, by simp only [List.append_assoc, List.cons_append, List.nil_append]; rfl⟩, ?_, ⟨trivial, trivial, trivial⟩, avlts_is _ _, pg_avl2 (by simp), avlts_is _ _, trivial⟩
        all_goals simp only [keeps, avlt, avlts, blksLt, frL, upd_get, S1, simprocAttr, List.length_map, Int.natCast_zero, AV.p.injEq, PV.int.injEq, PV.bool.injEq, PV.sl.injEq] <;> (try and_intros) <;> (try assumption) <;> (try trivial) <;> (try omega)
        all_goals exact avlts_is _ _
      · have h3' : decide (qAt S (m : Int) < 3) = false := decide_eq_false h3
        have hs : sendG ns S m = [] := by unfold sendG; rw [if_neg (by simp [h3])]
        repeat' (first | ((first | refine aops_nil ?_ | refine aqops_nil ?_); (try simp only [NB])) | ((repeat ((fail_if_success (refine hK _ ?_)); clear hK K)); refine hK _ ?_; clear hK K) | ((first | refine aops_k fun K1 hK1 => ?_ | refine aqops_k fun K1 hK1 => ?_ | refine awp_cond_k fun A B hA hB => ?_); simp only [S1, simprocAttr, TTTmM, m0, m4, next40 (n := 4) (by omega) hlt, hdq, l4, h3', List.length_map, Int.toNat_natCast, Nat.mul_one, Nat.zero_add]; first | (refine hK1 _ ?_; clear hK1 K1) | ((first | refine hA ?_ | refine hB ?_); clear hA hB A B) | ((first | apply call_a E50 | apply call_q E50); exact (hw9 _); (refine hK1 _ ?_; clear hK1 K1)) | (refine join_x (v := ?_) (fun hg hk9 => ?_) ?_; rotate_left; (focus (try ((try simp only [BN] at hg); simp only [S1, simprocAttr, TTTmM, m0, m4, next40 (n := 4) (by omega) hlt, hdq, l4, h3', List.length_map, Int.toNat_natCast, Nat.mul_one, Nat.zero_add, hg] at hk9 ⊢)); first | exact hk9 | ((first | apply call_a E50 | apply call_q E50); exact (hw9 _); exact hk9)); (refine hK1 _ ?_; clear hK1 K1)) | (((first | (refine ⟨fun hg => hA ?_, fun hg => hB ?_⟩ <;> clear hA hB A B) | refine ⟨fun hg => ?_, fun hg => ?_⟩) <;> (try simp only [BN2] at hg) <;> (try simp only [hg, cond_true, cond_false])) <;> (try (refine hK1 _ ?_; clear hK1 K1)) <;> (try simp only [BN3] at hg))) | (refine awp_seq_k fun K hK => ?_) | ((first | refine awp_region ?_ | refine awp_draw (by kernel_rfl) ?_ | refine awp_block ?_ | refine awp_exit ?_ | refine awp_skip ?_ | refine awp_ret ?_); (try simp only [NB, simprocAttr])))
        all_goals refine ⟨hlt, trivial, ?_⟩
        all_goals simp only [es, hs, List.append_nil]
        all_goals refine ⟨rfl, ⟨_, rfl⟩, ?_, ⟨trivial, trivial, trivial⟩, avlts_is _ _, pg_avl2 (by simp), avlts_is _ _, trivial⟩
        all_goals simp only [keeps, avlt, avlts, blksLt, frL, upd_get, S1, simprocAttr, List.length_map, Int.natCast_zero, AV.p.injEq, PV.int.injEq, PV.bool.injEq, PV.sl.injEq] <;> (try and_intros) <;> (try assumption) <;> (try trivial) <;> (try omega)
        all_goals exact avlts_is _ _
  obtain rfl : m = 4 := by omega
  have hz := htm 4
  have hrf := gmC_ref (ns := ns) (fl := fl) (lb := h.length + 3) (n := (l0 ++ sendsG ns S 4).length) hS
  rw [List.length_append] at hrf
  repeat' (first | ((first | refine aops_nil ?_ | refine aqops_nil ?_); (try simp only [NB])) | ((repeat ((fail_if_success (refine hK _ ?_)); clear hK K)); refine hK _ ?_; clear hK K) | ((first | refine aops_k fun K1 hK1 => ?_ | refine aqops_k fun K1 hK1 => ?_ | refine awp_cond_k fun A B hA hB => ?_); simp only [S1, simprocAttr, TTTmM, gmB, hrf]; first | (refine hK1 _ ?_; clear hK1 K1) | ((first | refine hA ?_ | refine hB ?_); clear hA hB A B) | (refine join_x (v := ?_) (fun hg hk9 => ?_) ?_; rotate_left; (focus (try ((try simp only [BN] at hg); simp only [S1, simprocAttr, TTTmM, gmB, hrf, hg] at hk9 ⊢)); first | exact hk9); (refine hK1 _ ?_; clear hK1 K1)) | (((first | (refine ⟨fun hg => hA ?_, fun hg => hB ?_⟩ <;> clear hA hB A B) | refine ⟨fun hg => ?_, fun hg => ?_⟩) <;> (try simp only [BN2] at hg) <;> (try simp only [hg, cond_true, cond_false])) <;> (try (refine hK1 _ ?_; clear hK1 K1)) <;> (try simp only [BN3] at hg))) | (refine awp_seq_k fun K hK => ?_) | ((first | refine awp_region ?_ | refine awp_draw (by kernel_rfl) ?_ | refine awp_block ?_ | refine awp_exit ?_ | refine awp_skip ?_ | refine awp_ret ?_); (try simp only [NB, simprocAttr])))
  rw [show aSps (l0 ++ sendsG ns S 4) = .p (.sl ((l0 ++ sendsG ns S 4).map eSp')) from congrArg (fun x => AV.p (.sl x)) (eSp'_map hz).symm]
  exact EndP_rows eSp'_len eSp'_ok (.inr rfl) (l := l0 ++ sendsG ns S 4) (List.length_append).symm rfl (by simp only [spB, cSps_e hz, blkAt, get_app, List.getElem?_cons_succ, List.getElem?_cons_zero, List.length_append, if_true]) (by omega) (by simp) (by simp) rfl
end Go.Proofs.YtjpphhcimpclpaaDoor.AM
end

section
set_option linter.unusedVariables false
set_option linter.unusedSimpArgs false
set_option maxRecDepth 4000
set_option maxHeartbeats 4000000
namespace Go.Proofs.YtjpphhcimpclpaaDoor.AM
open Go Go.Proofs
set_option linter.defProp false in
def TTTmN := And.intro T2 (And.intro T3 (And.intro T4 (And.intro T22 (And.intro T25 (And.intro T26 (And.intro T27 (And.intro T31 (And.intro T40 (And.intro T46 (And.intro T50 (And.intro T53 (And.intro T60 (And.intro T95 T98)))))))))))))
attribute [local irreducible] awp aops aqops aeops arun arunT

theorem stepsG_to {ns : List Nd} {fl : List Fl} {S : List Int} (hS : S.length = 49) : ∀ y ∈ stepsG ns fl S, y.to.length = 49 := by
  intro y hy
  unfold stepsG at hy
  split at hy
  · cases hy
  · rcases List.mem_append.mp hy with h | h
    · exact nodesG_to hS _ y h
    · exact sendsG_to hS _ y h
theorem stepsG_len {ns : List Nd} {fl : List Fl} {S : List Int} : (stepsG ns fl S).length ≤ 2500 := by
  unfold stepsG
  split
  · simp
  · rename_i h0
    rw [not_or] at h0
    have rt := Right.of (stC_zero (by simpa using h0.1)).1
    have hn := rt.n
    have hf := rt.f
    have h1 := nodesG_len ns fl S hf ns.length
    have h2 := sendsG_len ns S 4
    rw [List.length_append]
    have : 100 * ns.length ≤ 100 * 24 := Nat.mul_le_mul_left _ hn
    omega

def cMv (y : Sp) : List Int := [y.node, y.arg, y.lk, y.ln, y.la]
def eMv (y : Sp) : List PV := (cMv y).map (PV.int .i64)
def cMvs (l : List Sp) : List Int := l.flatMap cMv
abbrev aMvs (l : List Sp) : AV := .p (.sl (l.map eMv))
theorem eMv_len (y : Sp) : (eMv y).length = 5 := rfl
theorem eMv_ok (y : Sp) : ∀ x ∈ eMv y, x ≠ .nils := by
  intro x hx
  obtain ⟨n, _, rfl⟩ := List.mem_map.mp hx
  exact fun e => by cases e
theorem cMvs_e (l : List Sp) : (cMvs l).map AV.i = (flatE eMv l).map AV.p := by
  unfold flatE cMvs eMv
  rw [List.map_flatMap, List.map_flatMap]
  congr 1
theorem cMvs_len : ∀ l : List Sp, (cMvs l).length = l.length * 5
  | [] => rfl
  | x :: r => by
    have := cMvs_len r
    unfold cMvs at this ⊢
    rw [List.flatMap_cons, List.length_append, this, List.length_cons]; simp [cMv] <;> omega
theorem cMvs_step {l : List Sp} {j : Nat} {y : Sp} (h : l[j]? = some y) : cMvs (l.take (j + 1)) = cMvs (l.take j) ++ [y.node, y.arg, y.lk, y.ln, y.la] := by
  unfold cMvs
  rw [List.take_add_one, h, List.flatMap_append]
  simp [cMv]

theorem moves_calls {ns : List Nd} {fl : List Fl} (nk : NetOk ns fl) {S : List Int} (hS : S.length = 49) (h : Heap) :
    ACalls Tryd.prog gW 16 [aNet ns fl, aS S] h (fun r h' => r = aMvs (stepsG ns fl S) ∧ h' = h) := by
  have hne := ne_is hS
  have hst := fun h => tSteps_calls nk hS h
  have hto := stepsG_to (ns := ns) (fl := fl) hS
  have hln := stepsG_len (ns := ns) (fl := fl) (S := S)
  have t49' : (S.map AV.i).take 49 = S.map AV.i := List.take_of_length_le (by rw [List.length_map, hS]; exact Nat.le_refl _)
  refine acalls_pure (rl := []) mixed Tryd.func16 rfl (rs := [.tmp 4]) rfl Tryd.ntmps16 (by simp) ?_
  repeat' (first | ((first | refine aops_nil ?_ | refine aqops_nil ?_); (try simp only [NB])) | ((repeat ((fail_if_success (refine hK _ ?_)); clear hK K)); refine hK _ ?_; clear hK K) | ((first | refine aops_k fun K1 hK1 => ?_ | refine aqops_k fun K1 hK1 => ?_ | refine awp_cond_k fun A B hA hB => ?_); simp only [S1, simprocAttr, TTTmN, TSz, z49_ne, z49_map, zS_len, hne, hS, all_scalar, t49', takeA_arr, takeA_st, List.length_map]; first | (refine hK1 _ ?_; clear hK1 K1) | ((first | refine hA ?_ | refine hB ?_); clear hA hB A B) | ((first | apply call_a E34 | apply call_q E34); exact (hst _); (refine hK1 _ ?_; clear hK1 K1)) | (((first | (refine ⟨fun hg => hA ?_, fun hg => hB ?_⟩ <;> clear hA hB A B) | refine ⟨fun hg => ?_, fun hg => ?_⟩) <;> (try simp only [BN2] at hg) <;> (try simp only [hg, cond_true, cond_false])) <;> (try (refine hK1 _ ?_; clear hK1 K1)) <;> (try simp only [BN3] at hg))) | (refine awp_seq_k fun K hK => ?_) | ((first | refine awp_region ?_ | refine awp_draw (by kernel_rfl) ?_ | refine awp_block ?_ | refine awp_exit ?_ | refine awp_skip ?_ | refine awp_ret ?_); (try simp only [NB, simprocAttr])))
  clear hst
  generalize stepsG ns fl S = sl at *
  refine awp_forG sl.length 23 (fun j => [(12, .i j), (11, .i sl.length), (10, aSps sl), (5, .ref (h.length + 2) j 0 5 j)])
    (fun j => [some ⟨0, cNet ns fl⟩, some ⟨0, S.map AV.i⟩, some ⟨j, (cMvs (sl.take j)).map AV.i⟩]) (fun j => True) ?_ trivial fun j hj hp K hK => ?_
  · refine (Ghost.adopt 5 5 rfl).trans (Sub.ghost ⟨rfl, ⟨[], by simp [cMvs]⟩, ?_, ⟨trivial, trivial, trivial⟩, avlts_is _ _, avlts_is _ _, trivial⟩)
    simp only [keeps, avlt, upd_get, frL, List.length_cons, List.length_nil]
    simp
  rcases Nat.lt_or_ge j sl.length with hlt | hge
  · obtain ⟨y, hy⟩ : ∃ y, sl[j]? = some y := ⟨_, List.getElem?_eq_getElem hlt⟩
    have hxy : (sl.map eSp)[j]? = some ((cSp y).map (PV.int .i64)) := by rw [List.getElem?_map, hy]; rfl
    have hyl := hto y (List.mem_of_getElem? hy)
    have jl : (j : Int) < (sl.length : Int) := by omega
    have j0 : (0 : Int) ≤ (j : Int) := by omega
    have hnx : IntKind.i64.wrap ((j : Int) + 1) = ((j + 1 : Nat) : Int) := by rw [IntWalk.i64_in _ (by omega)]; omega
    have y54 : (cSp y).length = 54 := cSp_len hyl
    have ymm := (mapmap (cSp y)).trans (cSp_eq y)
    have yov := over_tail hyl
    have yt49 : (y.to.map AV.i).take 49 = y.to.map AV.i := List.take_of_length_le (by rw [List.length_map, hyl]; exact Nat.le_refl _)
    have hmax : j + 1 ≤ maxCount := by unfold maxCount; omega
    have hcl : (cMvs (sl.take j)).length = j * 5 := by rw [cMvs_len, List.length_take, Nat.min_eq_left (by omega)]
    have hcs := cMvs_step hy
    repeat' (first | ((first | refine aops_nil ?_ | refine aqops_nil ?_); (try simp only [NB])) | ((repeat ((fail_if_success (refine hK _ ?_)); clear hK K)); refine hK _ ?_; clear hK K) | ((first | refine aops_k fun K1 hK1 => ?_ | refine aqops_k fun K1 hK1 => ?_ | refine awp_cond_k fun A B hA hB => ?_); simp only [S1, simprocAttr, TTTmN, jl, j0, hxy, hnx, y54, ymm, yov, yt49, hyl, hmax, hcl, takeA_arr, takeA_st, all_scalar, List.length_map, List.length_cons, List.length_nil, Nat.mul_one, Nat.zero_add, Nat.add_zero, Int.toNat_natCast]; first | (refine hK1 _ ?_; clear hK1 K1) | ((first | refine hA ?_ | refine hB ?_); clear hA hB A B) | (((first | (refine ⟨fun hg => hA ?_, fun hg => hB ?_⟩ <;> clear hA hB A B) | refine ⟨fun hg => ?_, fun hg => ?_⟩) <;> (try simp only [BN2] at hg) <;> (try simp only [hg, cond_true, cond_false])) <;> (try (refine hK1 _ ?_; clear hK1 K1)) <;> (try simp only [BN3] at hg))) | (refine awp_seq_k fun K hK => ?_) | ((first | refine awp_region ?_ | refine awp_draw (by kernel_rfl) ?_ | refine awp_block ?_ | refine awp_exit ?_ | refine awp_skip ?_ | refine awp_ret ?_); (try simp only [NB, simprocAttr])))
    all_goals refine ⟨hlt, trivial, ?_⟩
    all_goals simp only [hcs, List.map_append, List.map_cons, List.map_nil]
    all_goals refine ⟨rfl, ⟨_, rfl⟩, ?_, ⟨trivial, trivial, trivial⟩, avlts_is _ _, (by have := avlts_is (h.length + 3) (cMvs (sl.take j) ++ [y.node, y.arg, y.lk, y.ln, y.la]); simpa using this), trivial⟩
    all_goals simp only [keeps, avlt, avlts, blksLt, frL, upd_get, S1, simprocAttr, List.length_map, Int.natCast_zero, AV.p.injEq, PV.int.injEq, PV.bool.injEq, PV.sl.injEq] <;> (try and_intros) <;> (try assumption) <;> (try trivial) <;> (try omega)
  · obtain rfl : j = sl.length := by omega
    repeat' (first | ((first | refine aops_nil ?_ | refine aqops_nil ?_); (try simp only [NB])) | ((repeat ((fail_if_success (refine hK _ ?_)); clear hK K)); refine hK _ ?_; clear hK K) | ((first | refine aops_k fun K1 hK1 => ?_ | refine aqops_k fun K1 hK1 => ?_ | refine awp_cond_k fun A B hA hB => ?_); simp only [S1, simprocAttr, TTTmN, Int.lt_irrefl]; first | (refine hK1 _ ?_; clear hK1 K1) | ((first | refine hA ?_ | refine hB ?_); clear hA hB A B) | (((first | (refine ⟨fun hg => hA ?_, fun hg => hB ?_⟩ <;> clear hA hB A B) | refine ⟨fun hg => ?_, fun hg => ?_⟩) <;> (try simp only [BN2] at hg) <;> (try simp only [hg, cond_true, cond_false])) <;> (try (refine hK1 _ ?_; clear hK1 K1)) <;> (try simp only [BN3] at hg))) | (refine awp_seq_k fun K hK => ?_) | ((first | refine awp_region ?_ | refine awp_draw (by kernel_rfl) ?_ | refine awp_block ?_ | refine awp_exit ?_ | refine awp_skip ?_ | refine awp_ret ?_); (try simp only [NB, simprocAttr])))
    exact EndP_rows eMv_len eMv_ok (.inr rfl) (l := sl) rfl rfl (by simp only [cMvs_e, List.take_length, blkAt, get_app, List.getElem?_cons_succ, List.getElem?_cons_zero, if_true]) (by omega) (by simp) (by simp) rfl

def zSp : Sp := ⟨0, 0, 0, 0, 0, zS⟩
/-- What a move leads to, its label and its error. -/
noncomputable def doG (ns : List Nd) (fl : List Fl) (S : List Int) (i : Int) : Sp × Int :=
  if stC ns fl S ≠ 0 then (zSp, stC ns fl S) else if i < 0 then (zSp, 6) else match (stepsG ns fl S)[i.toNat]? with | some y => (y, 0) | none => (zSp, 6)
abbrev aLb (y : Sp) : AV := .agg [.i y.lk, .i y.ln, .i y.la]

theorem do_calls {ns : List Nd} {fl : List Fl} (nk : NetOk ns fl) {S : List Int} (hS : S.length = 49) (i : Int) (h : Heap) :
    ACalls Tryd.prog gW 17 [aNet ns fl, aS S, .i i] h (fun r h' => r = .tup [aS (doG ns fl S i).1.to, aLb (doG ns fl S i).1, .i (doG ns fl S i).2] ∧ h' = h) := by
  have hne := ne_is hS
  have hst := fun h => tSteps_calls nk hS h
  have hck := fun h => tChk_calls nk hS h
  have hto := stepsG_to (ns := ns) (fl := fl) hS
  have t49' : (S.map AV.i).take 49 = S.map AV.i := List.take_of_length_le (by rw [List.length_map, hS]; exact Nat.le_refl _)
  have hzl : (zS.map AV.i).length = 49 := by rw [List.length_map]; rfl
  have hem : (zS.map AV.i).isEmpty = false := rfl
  have hzz : over (zS.map AV.i) 0 (zS.map AV.i) = zS.map AV.i := over_full (n := 49) (by rw [List.length_map]; rfl) _ hzl
  have hzt : (zS.map AV.i).take 49 = zS.map AV.i := List.take_of_length_le (by rw [hzl]; exact Nat.le_refl _)
  by_cases h0 : stC ns fl S = 0
  case neg =>
    have f0 : (stC ns fl S != 0) = true := by simp [h0]
    have e : doG ns fl S i = (zSp, stC ns fl S) := by unfold doG; rw [if_pos h0]
    rw [e]
    refine acalls_pure (rl := []) mixed Tryd.func17 rfl (rs := [.cell 6 29, .cell 7 46, .tmp 8]) rfl Tryd.ntmps17 (by simp) ?_
    repeat' (first | ((first | refine aops_nil ?_ | refine aqops_nil ?_); (try simp only [NB])) | ((repeat ((fail_if_success (refine hK _ ?_)); clear hK K)); refine hK _ ?_; clear hK K) | ((first | refine aops_k fun K1 hK1 => ?_ | refine aqops_k fun K1 hK1 => ?_ | refine awp_cond_k fun A B hA hB => ?_); simp only [S1, simprocAttr, TTTmN, f0, TSz, z49_ne, z49_map, zS_len, hem, hzz, hzt, hne, hS, all_scalar, t49', takeA_arr, takeA_st, List.length_map]; first | (refine hK1 _ ?_; clear hK1 K1) | ((first | refine hA ?_ | refine hB ?_); clear hA hB A B) | ((first | apply call_a E9 | apply call_q E9); exact (hck _); (refine hK1 _ ?_; clear hK1 K1)) | (refine join_x (v := ?_) (fun hg hk9 => ?_) ?_; rotate_left; (focus (try ((try simp only [BN] at hg); simp only [S1, simprocAttr, TTTmN, f0, TSz, z49_ne, z49_map, zS_len, hem, hzz, hzt, hne, hS, all_scalar, t49', takeA_arr, takeA_st, List.length_map, hg] at hk9 ⊢)); first | exact hk9 | ((first | apply call_a E9 | apply call_q E9); exact (hck _); exact hk9)); (refine hK1 _ ?_; clear hK1 K1)) | (((first | (refine ⟨fun hg => hA ?_, fun hg => hB ?_⟩ <;> clear hA hB A B) | refine ⟨fun hg => ?_, fun hg => ?_⟩) <;> (try simp only [BN2] at hg) <;> (try simp only [hg, cond_true, cond_false])) <;> (try (refine hK1 _ ?_; clear hK1 K1)) <;> (try simp only [BN3] at hg))) | (refine awp_seq_k fun K hK => ?_) | ((first | refine awp_region ?_ | refine awp_draw (by kernel_rfl) ?_ | refine awp_block ?_ | refine awp_exit ?_ | refine awp_skip ?_ | refine awp_ret ?_); (try simp only [NB, simprocAttr])))
    all_goals simp only [EndP, FinP, resA, resL, resA1, lastV, lastA, lastAs, pur, purs, take_app, List.take_length, S1, simprocAttr, TTTmN, Nat.le_add_right, Nat.le_refl, hzt, hzl, List.length_map, zS_len, TSz, takeA_st, purs_is, mapmap]
    all_goals rfl
  have f0 : (stC ns fl S != 0) = false := by simp [h0]
  rw [h0] at hck
  by_cases h1 : i < 0
  · have f1 : decide (i < 0) = true := decide_eq_true h1
    have e : doG ns fl S i = (zSp, 6) := by unfold doG; rw [if_neg (by simpa using h0), if_pos h1]
    rw [e]
    refine acalls_pure (rl := []) mixed Tryd.func17 rfl (rs := [.cell 6 29, .cell 7 46, .tmp 8]) rfl Tryd.ntmps17 (by simp) ?_
    repeat' (first | ((first | refine aops_nil ?_ | refine aqops_nil ?_); (try simp only [NB])) | ((repeat ((fail_if_success (refine hK _ ?_)); clear hK K)); refine hK _ ?_; clear hK K) | ((first | refine aops_k fun K1 hK1 => ?_ | refine aqops_k fun K1 hK1 => ?_ | refine awp_cond_k fun A B hA hB => ?_); simp only [S1, simprocAttr, TTTmN, f1, TSz, z49_ne, z49_map, zS_len, hem, hzz, hzt, hne, hS, all_scalar, t49', takeA_arr, takeA_st, List.length_map]; first | (refine hK1 _ ?_; clear hK1 K1) | ((first | refine hA ?_ | refine hB ?_); clear hA hB A B) | ((first | apply call_a E9 | apply call_q E9); exact (hck _); (refine hK1 _ ?_; clear hK1 K1)) | ((first | apply call_a E34 | apply call_q E34); exact (hst _); (refine hK1 _ ?_; clear hK1 K1)) | (refine join_x (v := ?_) (fun hg hk9 => ?_) ?_; rotate_left; (focus (try ((try simp only [BN] at hg); simp only [S1, simprocAttr, TTTmN, f1, TSz, z49_ne, z49_map, zS_len, hem, hzz, hzt, hne, hS, all_scalar, t49', takeA_arr, takeA_st, List.length_map, hg] at hk9 ⊢)); first | exact hk9 | ((first | apply call_a E9 | apply call_q E9); exact (hck _); exact hk9) | ((first | apply call_a E34 | apply call_q E34); exact (hst _); exact hk9)); (refine hK1 _ ?_; clear hK1 K1)) | (((first | (refine ⟨fun hg => hA ?_, fun hg => hB ?_⟩ <;> clear hA hB A B) | refine ⟨fun hg => ?_, fun hg => ?_⟩) <;> (try simp only [BN2] at hg) <;> (try simp only [hg, cond_true, cond_false])) <;> (try (refine hK1 _ ?_; clear hK1 K1)) <;> (try simp only [BN3] at hg))) | (refine awp_seq_k fun K hK => ?_) | ((first | refine awp_region ?_ | refine awp_draw (by kernel_rfl) ?_ | refine awp_block ?_ | refine awp_exit ?_ | refine awp_skip ?_ | refine awp_ret ?_); (try simp only [NB, simprocAttr])))
    all_goals simp only [EndP, FinP, resA, resL, resA1, lastV, lastA, lastAs, pur, purs, take_app, List.take_length, S1, simprocAttr, TTTmN, Nat.le_add_right, Nat.le_refl, hzt, hzl, List.length_map, zS_len, TSz, takeA_st, purs_is, mapmap]
    all_goals rfl
  have f1 : decide (i < 0) = false := decide_eq_false h1
  obtain ⟨n, rfl⟩ := Int.eq_ofNat_of_zero_le (by omega : 0 ≤ i)
  rcases Nat.lt_or_ge n (stepsG ns fl S).length with hlt | hge
  · obtain ⟨y, hy⟩ : ∃ y, (stepsG ns fl S)[n]? = some y := ⟨_, List.getElem?_eq_getElem hlt⟩
    have e : doG ns fl S (n : Int) = (y, 0) := by unfold doG; rw [if_neg (by simpa using h0), if_neg h1, Int.toNat_natCast, hy]
    rw [e]
    have hyl := hto y (List.mem_of_getElem? hy)
    generalize stepsG ns fl S = sl at *
    have hxy : (sl.map eSp)[n]? = some ((cSp y).map (PV.int .i64)) := by rw [List.getElem?_map, hy]; rfl
    have f2 : decide ((sl.length : Int) ≤ (n : Int)) = false := by simp; omega
    have n0 : (0 : Int) ≤ (n : Int) := by omega
    have y54 : (cSp y).length = 54 := cSp_len hyl
    have ymm := (mapmap (cSp y)).trans (cSp_eq y)
    have ycons : (cSp y).map (PV.int .i64) = .int .i64 y.node :: .int .i64 y.arg :: .int .i64 y.lk :: .int .i64 y.ln :: .int .i64 y.la :: y.to.map (PV.int .i64) := rfl
    have yto : (y.to.map (PV.int .i64)).map AV.p = y.to.map AV.i := mapmap y.to
    have yt49 : (y.to.map AV.i).take 49 = y.to.map AV.i := List.take_of_length_le (by rw [List.length_map, hyl]; exact Nat.le_refl _)
    have yt49p : (y.to.map (PV.int .i64)).take 49 = y.to.map (PV.int .i64) := List.take_of_length_le (by rw [List.length_map, hyl]; exact Nat.le_refl _)
    have hyz : over (zS.map AV.i) 0 (y.to.map AV.i) = y.to.map AV.i := over_full (n := 49) (by rw [List.length_map, hyl]) _ hzl
    refine acalls_pure (rl := []) mixed Tryd.func17 rfl (rs := [.cell 6 29, .cell 7 46, .tmp 8]) rfl Tryd.ntmps17 (by simp) ?_
    repeat' (first | ((first | refine aops_nil ?_ | refine aqops_nil ?_ | refine arun_nil ?_ | refine arunT_nil ?_); (try simp only [NB])) | ((repeat ((fail_if_success (refine hK _ ?_)); clear hK K)); refine hK _ ?_; clear hK K) | ((first | refine aops_k fun K1 hK1 => ?_ | refine aqops_k fun K1 hK1 => ?_ | refine arun_eff rfl rfl rfl fun K1 hK1 => ?_ | refine awp_cond_k fun A B hA hB => ?_); simp only [S1, simprocAttr, TTTmN, f1, f2, n0, hxy, y54, ymm, ycons, yto, yt49, yt49p, hyz, hyl, TSz, z49_ne, z49_map, zS_len, hem, hne, hS, all_scalar, t49', takeA_arr, takeA_st, List.length_map, List.length_cons, List.length_take, List.length_drop, Nat.mul_one, Nat.zero_add, Nat.add_zero, Int.toNat_natCast]; first | (refine hK1 _ ?_; clear hK1 K1) | ((first | refine hA ?_ | refine hB ?_); clear hA hB A B) | ((first | apply call_a E9 | apply call_q E9); exact (hck _); (refine hK1 _ ?_; clear hK1 K1)) | ((first | apply call_a E34 | apply call_q E34); exact (hst _); (refine hK1 _ ?_; clear hK1 K1)) | (refine join_x (v := ?_) (fun hg hk9 => ?_) ?_; rotate_left; (focus (try ((try simp only [BN] at hg); simp only [S1, simprocAttr, TTTmN, f1, f2, n0, hxy, y54, ymm, ycons, yto, yt49, yt49p, hyz, hyl, TSz, z49_ne, z49_map, zS_len, hem, hne, hS, all_scalar, t49', takeA_arr, takeA_st, List.length_map, List.length_cons, List.length_take, List.length_drop, Nat.mul_one, Nat.zero_add, Nat.add_zero, Int.toNat_natCast, hg] at hk9 ⊢)); first | exact hk9 | ((first | apply call_a E9 | apply call_q E9); exact (hck _); exact hk9) | ((first | apply call_a E34 | apply call_q E34); exact (hst _); exact hk9)); (refine hK1 _ ?_; clear hK1 K1)) | (((first | (refine ⟨fun hg => hA ?_, fun hg => hB ?_⟩ <;> clear hA hB A B) | refine ⟨fun hg => ?_, fun hg => ?_⟩) <;> (try simp only [BN2] at hg) <;> (try simp only [hg, cond_true, cond_false])) <;> (try (refine hK1 _ ?_; clear hK1 K1)) <;> (try simp only [BN3] at hg))) | ((first | refine arun_q (v := ?_) rfl rfl rfl rfl (by decide) (fun R1 K1 hK1 => ?_) ?_ | refine arun_f (v := ?_) rfl rfl rfl (by decide) (fun K1 hK1 => ?_) ?_ | refine arunT_f (v := ?_) rfl rfl rfl (by decide) (fun K1 hK1 => ?_) ?_ | refine arun_w (v := ?_) rfl rfl rfl rfl (by decide) (fun H1 K1 hK1 => ?_) ?_); rotate_left; (focus (simp only [S1, simprocAttr, TTTmN, f1, f2, n0, hxy, y54, ymm, ycons, yto, yt49, yt49p, hyz, hyl, TSz, z49_ne, z49_map, zS_len, hem, hne, hS, all_scalar, t49', takeA_arr, takeA_st, List.length_map, List.length_cons, List.length_take, List.length_drop, Nat.mul_one, Nat.zero_add, Nat.add_zero, Int.toNat_natCast]; first | (exact hK1 _ _ _) | ((first | apply call_a E9 | apply call_q E9); exact (hck _); exact hK1 _ _ _) | ((first | apply call_a E34 | apply call_q E34); exact (hst _); exact hK1 _ _ _)))) | (refine arun_tail rfl rfl rfl ?_) | ((first | refine arun_allocj (z := ?_) 0 rfl rfl rfl rfl (by decide) rfl ?_ ?_ | refine arun_allocj (z := ?_) 1 rfl rfl rfl rfl (by decide) rfl ?_ ?_ | refine arun_allocj (z := ?_) 2 rfl rfl rfl rfl (by decide) rfl ?_ ?_); rotate_left; (focus (simp only [S1, simprocAttr, TTTmN, f1, f2, n0, hxy, y54, ymm, ycons, yto, yt49, yt49p, hyz, hyl, TSz, z49_ne, z49_map, zS_len, hem, hne, hS, all_scalar, t49', takeA_arr, takeA_st, List.length_map, List.length_cons, List.length_take, List.length_drop, Nat.mul_one, Nat.zero_add, Nat.add_zero, Int.toNat_natCast, zeroB]; rfl))) | (refine awp_seq_k fun K hK => ?_) | (refine awp_drawR [0, 1, 2, 3, 4, 5, 6, 7, 8, 9, 10, 11, 12, 13] 0 (fs := [2, 7, 10]) rfl (by kernel_rfl) (by kernel_rfl) ?_) | ((first | refine awp_region ?_ | refine awp_draw (by kernel_rfl) ?_ | refine awp_block ?_ | refine awp_exit ?_ | refine awp_skip ?_ | refine awp_ret ?_); (try simp only [NB, simprocAttr])))
    all_goals simp only [EndP, FinP, resA, resL, resA1, lastV, lastA, lastAs, pur, purs, take_app, List.take_length, S1, simprocAttr, TTTmN, Nat.le_add_right, Nat.le_refl, yt49, hyl, List.length_map, TSz, takeA_st, purs_is, mapmap]
  · have e : doG ns fl S (n : Int) = (zSp, 6) := by unfold doG; rw [if_neg (by simpa using h0), if_neg h1, Int.toNat_natCast, List.getElem?_eq_none hge]
    rw [e]
    generalize stepsG ns fl S = sl at *
    have f2 : decide ((sl.length : Int) ≤ (n : Int)) = true := by simp; omega
    refine acalls_pure (rl := []) mixed Tryd.func17 rfl (rs := [.cell 6 29, .cell 7 46, .tmp 8]) rfl Tryd.ntmps17 (by simp) ?_
    repeat' (first | ((first | refine aops_nil ?_ | refine aqops_nil ?_); (try simp only [NB])) | ((repeat ((fail_if_success (refine hK _ ?_)); clear hK K)); refine hK _ ?_; clear hK K) | ((first | refine aops_k fun K1 hK1 => ?_ | refine aqops_k fun K1 hK1 => ?_ | refine awp_cond_k fun A B hA hB => ?_); simp only [S1, simprocAttr, TTTmN, f1, f2, TSz, z49_ne, z49_map, zS_len, hem, hzz, hzt, hne, hS, all_scalar, t49', takeA_arr, takeA_st, List.length_map]; first | (refine hK1 _ ?_; clear hK1 K1) | ((first | refine hA ?_ | refine hB ?_); clear hA hB A B) | ((first | apply call_a E9 | apply call_q E9); exact (hck _); (refine hK1 _ ?_; clear hK1 K1)) | ((first | apply call_a E34 | apply call_q E34); exact (hst _); (refine hK1 _ ?_; clear hK1 K1)) | (refine join_x (v := ?_) (fun hg hk9 => ?_) ?_; rotate_left; (focus (try ((try simp only [BN] at hg); simp only [S1, simprocAttr, TTTmN, f1, f2, TSz, z49_ne, z49_map, zS_len, hem, hzz, hzt, hne, hS, all_scalar, t49', takeA_arr, takeA_st, List.length_map, hg] at hk9 ⊢)); first | exact hk9 | ((first | apply call_a E9 | apply call_q E9); exact (hck _); exact hk9) | ((first | apply call_a E34 | apply call_q E34); exact (hst _); exact hk9)); (refine hK1 _ ?_; clear hK1 K1)) | (((first | (refine ⟨fun hg => hA ?_, fun hg => hB ?_⟩ <;> clear hA hB A B) | refine ⟨fun hg => ?_, fun hg => ?_⟩) <;> (try simp only [BN2] at hg) <;> (try simp only [hg, cond_true, cond_false])) <;> (try (refine hK1 _ ?_; clear hK1 K1)) <;> (try simp only [BN3] at hg))) | (refine awp_seq_k fun K hK => ?_) | ((first | refine awp_region ?_ | refine awp_draw (by kernel_rfl) ?_ | refine awp_block ?_ | refine awp_exit ?_ | refine awp_skip ?_ | refine awp_ret ?_); (try simp only [NB, simprocAttr])))
    all_goals simp only [EndP, FinP, resA, resL, resA1, lastV, lastA, lastAs, pur, purs, take_app, List.take_length, S1, simprocAttr, TTTmN, Nat.le_add_right, Nat.le_refl, hzt, hzl, List.length_map, zS_len, TSz, takeA_st, purs_is, mapmap]
    all_goals rfl
end Go.Proofs.YtjpphhcimpclpaaDoor.AM
end

section
set_option linter.unusedVariables false
set_option linter.unusedSimpArgs false
set_option maxRecDepth 4000
set_option maxHeartbeats 4000000
namespace Go.Proofs.YtjpphhcimpclpaaDoor.AM
open Go Go.Proofs
set_option linter.defProp false in
attribute [local irreducible] awp aops aqops aeops
variable {G : Nat → Option (List PV)}

abbrev aR (kind node : Int) (needs gives : List Int) : AV := .agg [.i kind, .i node, aI needs, aI gives]

/- left out: not in this program -/

end Go.Proofs.YtjpphhcimpclpaaDoor.AM
end

section
set_option linter.unusedVariables false
set_option linter.unusedSimpArgs false
set_option maxRecDepth 4000
set_option maxHeartbeats 4000000
namespace Go.Proofs.YtjpphhcimpclpaaDoor.AM
open Go Go.Proofs
set_option linter.defProp false in
attribute [local irreducible] awp aops aqops aeops
variable {G : Nat → Option (List PV)}

abbrev resD (needs gives : List Int) (tok : Int → Int) : AV := .tup [.agg (aA ((doR needs gives tok).1.getD zT)), .i (doR needs gives tok).2]

theorem giveT_app : ∀ (a b : List Int) (tok : Int → Int), giveT (a ++ b) tok = (giveT a tok).bind (giveT b)
  | [], b, tok => rfl
  | f :: r, b, tok => by
    simp only [List.cons_append, giveT]
    split
    · rfl
    · exact giveT_app r b _

theorem giveT_next {l : List Int} {i : Nat} {k : Int} (hx : l[i]? = some k) {tok t : Int → Int} (hp : giveT (l.take i) tok = some t) :
    giveT (l.take (i + 1)) tok = if 2 < t k then none else some (setT t k (t k + 1)) := by
  rw [List.take_add_one, hx, Option.toList_some, giveT_app, hp]
  simp [giveT]

theorem giveT_stop {l : List Int} {i : Nat} {k : Int} (hx : l[i]? = some k) {tok t : Int → Int} (hp : giveT (l.take i) tok = some t) (hn : 2 < t k) : giveT l tok = none := by
  have h := giveT_next hx hp
  rw [if_pos hn] at h
  rw [← List.take_append_drop (i + 1) l, giveT_app, h]; rfl

theorem giveT_ge : ∀ (l : List Int) (tok t : Int → Int), giveT l tok = some t → ∀ i, tok i ≤ t i
  | [], tok, t, h, i => by simp [giveT] at h; subst h; exact Int.le_refl _
  | f :: r, tok, t, h, i => by
    unfold giveT at h
    split at h
    · cases h
    · have := giveT_ge r _ t h i
      simp only [setT] at this
      split at this <;> (try subst_vars) <;> omega

theorem less_low {needs : List Int} {tok : Int → Int} (hc : canB needs tok = true) (hb : ∀ i, -9223372036854775808 ≤ tok i) (i : Int) : -9223372036854775808 ≤ lessT needs tok i := by
  unfold lessT
  by_cases hm : i ∈ needs
  · unfold canB at hc
    simp only [Bool.and_eq_true, List.all_eq_true, Bool.not_eq_true', decide_eq_false_iff_not] at hc
    have := hc.2 i hm
    omega
  · have : cnt needs i = 0 := by
      unfold cnt
      rw [List.filter_eq_nil_iff.mpr (fun x hx => by intro e; exact hm ((beq_iff_eq.mp e) ▸ hx))]
      rfl
    have := hb i
    omega

/- left out: not in this program -/

/- left out: not in this program -/

/- left out: not in this program -/

/- left out: not in this program -/

end Go.Proofs.YtjpphhcimpclpaaDoor.AM
end

section
set_option linter.unusedVariables false
set_option linter.unusedSimpArgs false
set_option maxRecDepth 4000
set_option maxHeartbeats 4000000
namespace Go.Proofs.YtjpphhcimpclpaaDoor.AM
open Go Go.Proofs
set_option linter.defProp false in
def TTRdF := And.intro T2 (And.intro T3 (And.intro T4 (And.intro T31 (And.intro T40 (And.intro T42 T88)))))
attribute [local irreducible] awp aops aqops aeops
variable {G : Nat → Option (List PV)}

theorem rDo_calls (kind node : Int) (needs gives : List Int) (hl : needs.length ≤ 200) (hl2 : gives.length ≤ 200) (tok : Int → Int) (ht : ∀ i, tok i ≤ 9223372036854775807) (hb : ∀ i, -9223372036854775808 ≤ tok i) (h : Heap) :
    ACalls Tryd.prog G 13 [aR kind node needs gives, .agg (aA tok)] h (fun r h' => r = resD needs gives tok ∧ h' = h) := by
  refine acalls_pure (rl := []) mixed Tryd.func13 rfl (rs := [.cell 4 26, .tmp 5]) rfl Tryd.ntmps13 (by simp) ?_
  refine awp_seq_k fun K hK => ?_
  repeat' (first | ((first | refine aops_nil ?_ | refine aqops_nil ?_); (try simp only [NB]); ((repeat ((fail_if_success (refine hK _ ?_)); clear hK K)); refine hK _ ?_; clear hK K)) | ((first | refine aops_k fun K1 hK1 => ?_ | refine aqops_k fun K1 hK1 => ?_ | refine awp_cond_k fun A B hA hB => ?_); simp only [S1, simprocAttr, TTRdF, T40z, z40_ne, z40_map, aA_len, aA_scalar, aA_ne, over_aA, aA_take40, aA_load]; first | (refine hK1 _ ?_; clear hK1 K1) | ((first | refine hA ?_ | refine hB ?_); clear hA hB A B) | (((first | (refine ⟨fun hg => hA ?_, fun hg => hB ?_⟩ <;> clear hA hB A B) | refine ⟨fun hg => ?_, fun hg => ?_⟩) <;> (try simp only [BN2] at hg) <;> (try simp only [hg, cond_true, cond_false])) <;> (try (refine hK1 _ ?_; clear hK1 K1)) <;> (try simp only [BN3] at hg))) | (fail) | ((first | refine awp_region ?_ | refine awp_draw (by kernel_rfl) ?_ | refine awp_block ?_ | refine awp_exit ?_ | refine awp_skip ?_ | refine awp_ret ?_); (try simp only [NB, simprocAttr]); (try ((repeat ((fail_if_success (refine hK _ ?_)); clear hK K)); refine hK _ ?_; clear hK K))))
  refine awp_seq_k fun K hK => ?_
  refine awp_seq_k fun K hK => ?_
  repeat' (first | ((first | refine aops_nil ?_ | refine aqops_nil ?_); (try simp only [NB]); ((repeat ((fail_if_success (refine hK _ ?_)); clear hK K)); refine hK _ ?_; clear hK K)) | ((first | refine aops_k fun K1 hK1 => ?_ | refine aqops_k fun K1 hK1 => ?_ | refine awp_cond_k fun A B hA hB => ?_); simp only [S1, simprocAttr, TTRdF]; first | (refine hK1 _ ?_; clear hK1 K1) | ((first | refine hA ?_ | refine hB ?_); clear hA hB A B) | (((first | (refine ⟨fun hg => hA ?_, fun hg => hB ?_⟩ <;> clear hA hB A B) | refine ⟨fun hg => ?_, fun hg => ?_⟩) <;> (try simp only [BN2] at hg) <;> (try simp only [hg, cond_true, cond_false])) <;> (try (refine hK1 _ ?_; clear hK1 K1)) <;> (try simp only [BN3] at hg))) | (fail) | ((first | refine awp_region ?_ | refine awp_draw (by kernel_rfl) ?_ | refine awp_block ?_ | refine awp_exit ?_ | refine awp_skip ?_ | refine awp_ret ?_); (try simp only [NB, simprocAttr]); (try ((repeat ((fail_if_success (refine hK _ ?_)); clear hK K)); refine hK _ ?_; clear hK K))))
  refine awp_for 2 63 (fun j => [(19, .i j), (18, .agg [aI needs, aI gives]), (2, .ptr h.length 0 0), (3, .ptr (h.length + 1) 0 0), (4, .ptr (h.length + 2) 0 0)]) (fun j => [some ⟨0, [.i kind, .i node, aI needs, aI gives]⟩, some ⟨0, aA tok⟩, some ⟨0, aA zT⟩]) (fun j => (1 ≤ j → inF needs = true) ∧ (2 ≤ j → inF gives = true)) ?_ ⟨fun e => by omega, fun e => by omega⟩ fun j hj hpj K hK => ?_
  · refine ⟨rfl, ⟨[], by simp⟩, ?_, ⟨trivial, trivial, trivial, trivial, trivial⟩, avlts_aA _ _, avlts_aA _ _, trivial⟩
    simp only [keeps, avlt, avlts, blksLt, frL, upd_get, S1, simprocAttr, List.length_map, Int.natCast_zero, AV.p.injEq, PV.int.injEq, PV.bool.injEq, PV.sl.injEq] <;> (try and_intros) <;> (try assumption) <;> (try trivial) <;> (try omega)
  rcases (by omega : j = 0 ∨ j = 1 ∨ j = 2) with rfl | rfl | rfl
  · have c0 : ((0 : Nat) : Int) = 0 := rfl
    simp only [c0]
    -- round 0
    repeat' (first | ((first | refine aops_nil ?_ | refine aqops_nil ?_); (try simp only [NB])) | ((repeat ((fail_if_success (refine hK _ ?_)); clear hK K)); refine hK _ ?_; clear hK K) | ((first | refine aops_k fun K1 hK1 => ?_ | refine aqops_k fun K1 hK1 => ?_ | refine awp_cond_k fun A B hA hB => ?_); simp only [S1, simprocAttr, TTRdF, List.length_map, Nat.mul_one, Nat.zero_mul]; first | (refine hK1 _ ?_; clear hK1 K1) | ((first | refine hA ?_ | refine hB ?_); clear hA hB A B) | (((first | (refine ⟨fun hg => hA ?_, fun hg => hB ?_⟩ <;> clear hA hB A B) | refine ⟨fun hg => ?_, fun hg => ?_⟩) <;> (try simp only [BN2] at hg) <;> (try simp only [hg, cond_true, cond_false])) <;> (try (refine hK1 _ ?_; clear hK1 K1)) <;> (try simp only [BN3] at hg))) | (refine awp_seq_k fun K hK => ?_) | ((first | refine awp_region ?_ | refine awp_draw (by kernel_rfl) ?_ | refine awp_block ?_ | refine awp_exit ?_ | refine awp_skip ?_ | refine awp_ret ?_); (try simp only [NB, simprocAttr])))
    refine awp_for needs.length 63 (fun i => [(24, .i i), (23, .i needs.length), (22, aI needs), (19, .i 0), (18, .agg [aI needs, aI gives]), (2, .ptr h.length 0 0), (3, .ptr (h.length + 1) 0 0), (4, .ptr (h.length + 2) 0 0)]) (fun i => [some ⟨0, [.i kind, .i node, aI needs, aI gives]⟩, some ⟨0, aA tok⟩, some ⟨0, aA zT⟩]) (fun i => (needs.take i).all flowB = true) ?_ rfl fun i hi hp K hK => ?_
    · refine ⟨rfl, ⟨[], by simp⟩, ?_, ⟨trivial, trivial, trivial, trivial, trivial⟩, avlts_aA _ _, avlts_aA _ _, trivial⟩
      simp only [keeps, avlt, avlts, blksLt, frL, upd_get, S1, simprocAttr, List.length_map, Int.natCast_zero, AV.p.injEq, PV.int.injEq, PV.bool.injEq, PV.sl.injEq] <;> (try and_intros) <;> (try assumption) <;> (try trivial) <;> (try omega)
    rcases Nat.lt_or_ge i needs.length with hlt | hge
    · obtain ⟨k, hx⟩ : ∃ k, needs[i]? = some k := ⟨_, List.getElem?_eq_getElem hlt⟩
      have hm := List.mem_of_getElem? hx
      have hfl := fun h => flow_calls (G := G) k h
      cases hf : flowB k with
      | true =>
        rw [hf] at hfl
        repeat' (first | ((first | refine aops_nil ?_ | refine aqops_nil ?_); (try simp only [NB])) | ((repeat ((fail_if_success (refine hK _ ?_)); clear hK K)); refine hK _ ?_; clear hK K) | ((first | refine aops_k fun K1 hK1 => ?_ | refine aqops_k fun K1 hK1 => ?_ | refine awp_cond_k fun A B hA hB => ?_); simp only [S1, simprocAttr, TTRdF, rowI hx, hitI hlt, nextI hl hlt]; first | (refine hK1 _ ?_; clear hK1 K1) | ((first | refine hA ?_ | refine hB ?_); clear hA hB A B) | ((first | apply call_a E31 | apply call_q E31); exact (hfl _); (refine hK1 _ ?_; clear hK1 K1)) | (((first | (refine ⟨fun hg => hA ?_, fun hg => hB ?_⟩ <;> clear hA hB A B) | refine ⟨fun hg => ?_, fun hg => ?_⟩) <;> (try simp only [BN2] at hg) <;> (try simp only [hg, cond_true, cond_false])) <;> (try (refine hK1 _ ?_; clear hK1 K1)) <;> (try simp only [BN3] at hg))) | (refine awp_seq_k fun K hK => ?_) | ((first | refine awp_region ?_ | refine awp_draw (by kernel_rfl) ?_ | refine awp_block ?_ | refine awp_exit ?_ | refine awp_skip ?_ | refine awp_ret ?_); (try simp only [NB, simprocAttr])))
        all_goals refine ⟨hlt, allI_take hx hp hf, ?_⟩
        all_goals refine ⟨rfl, ⟨[], by simp⟩, ?_, ⟨trivial, trivial, trivial, trivial, trivial⟩, avlts_aA _ _, avlts_aA _ _, trivial⟩
        all_goals simp only [keeps, avlt, avlts, blksLt, frL, upd_get, S1, simprocAttr, List.length_map, Int.natCast_zero, AV.p.injEq, PV.int.injEq, PV.bool.injEq, PV.sl.injEq] <;> (try and_intros) <;> (try assumption) <;> (try trivial) <;> (try omega)
      | false =>
        rw [hf] at hfl
        have hno : inF needs = false := allI_no hm hf
        have hin : ¬ (inF needs = true ∧ inF gives = true) := by simp [hno]
        have hR : resD needs gives tok = .tup [.agg (aA zT), .i 4] := by unfold resD doR; rw [if_neg hin]; rfl
        rw [hR]
        repeat' (first | ((first | refine aops_nil ?_ | refine aqops_nil ?_); (try simp only [NB])) | ((repeat ((fail_if_success (refine hK _ ?_)); clear hK K)); refine hK _ ?_; clear hK K) | ((first | refine aops_k fun K1 hK1 => ?_ | refine aqops_k fun K1 hK1 => ?_ | refine awp_cond_k fun A B hA hB => ?_); simp only [S1, simprocAttr, TTRdF, rowI hx, hitI hlt, nextI hl hlt, T40z, z40_ne, z40_map, aA_len, aA_scalar, aA_ne, over_aA, aA_take40, aA_load]; first | (refine hK1 _ ?_; clear hK1 K1) | ((first | refine hA ?_ | refine hB ?_); clear hA hB A B) | ((first | apply call_a E31 | apply call_q E31); exact (hfl _); (refine hK1 _ ?_; clear hK1 K1)) | (((first | (refine ⟨fun hg => hA ?_, fun hg => hB ?_⟩ <;> clear hA hB A B) | refine ⟨fun hg => ?_, fun hg => ?_⟩) <;> (try simp only [BN2] at hg) <;> (try simp only [hg, cond_true, cond_false])) <;> (try (refine hK1 _ ?_; clear hK1 K1)) <;> (try simp only [BN3] at hg))) | (refine awp_seq_k fun K hK => ?_) | ((first | refine awp_region ?_ | refine awp_draw (by kernel_rfl) ?_ | refine awp_block ?_ | refine awp_exit ?_ | refine awp_skip ?_ | refine awp_ret ?_); (try simp only [NB, simprocAttr])))
        all_goals simp only [EndP, FinP, resA, resL, resA1, lastV, lastA, lastAs, pur, purs, take_app, List.take_length, S1, simprocAttr, TTRdF, Nat.le_add_right, Nat.le_refl, T40z, aA_len, aA_take40, aA_load, purs_aA, aP_map]
        all_goals trace_state
    · obtain rfl : i = needs.length := by omega
      have hin : inF needs = true := by rw [List.take_length] at hp; exact hp
      have hw1 : IntKind.i64.wrap ((0 : Int) + 1) = 1 := rfl
      repeat' (first | ((first | refine aops_nil ?_ | refine aqops_nil ?_); (try simp only [NB])) | ((repeat ((fail_if_success (refine hK _ ?_)); clear hK K)); refine hK _ ?_; clear hK K) | ((first | refine aops_k fun K1 hK1 => ?_ | refine aqops_k fun K1 hK1 => ?_ | refine awp_cond_k fun A B hA hB => ?_); simp only [S1, simprocAttr, TTRdF, endI, hw1]; first | (refine hK1 _ ?_; clear hK1 K1) | ((first | refine hA ?_ | refine hB ?_); clear hA hB A B) | (((first | (refine ⟨fun hg => hA ?_, fun hg => hB ?_⟩ <;> clear hA hB A B) | refine ⟨fun hg => ?_, fun hg => ?_⟩) <;> (try simp only [BN2] at hg) <;> (try simp only [hg, cond_true, cond_false])) <;> (try (refine hK1 _ ?_; clear hK1 K1)) <;> (try simp only [BN3] at hg))) | (refine awp_seq_k fun K hK => ?_) | ((first | refine awp_region ?_ | refine awp_draw (by kernel_rfl) ?_ | refine awp_block ?_ | refine awp_exit ?_ | refine awp_skip ?_ | refine awp_ret ?_); (try simp only [NB, simprocAttr])))
      all_goals refine ⟨by omega, ⟨fun _ => ?_, fun h2 => ?_⟩, ?_⟩
      · exact hin
      · omega
      all_goals refine ⟨rfl, ⟨[], by simp⟩, ?_, ⟨trivial, trivial, trivial, trivial, trivial⟩, avlts_aA _ _, avlts_aA _ _, trivial⟩
      all_goals simp only [keeps, avlt, avlts, blksLt, frL, upd_get, S1, simprocAttr, List.length_map, Int.natCast_zero, AV.p.injEq, PV.int.injEq, PV.bool.injEq, PV.sl.injEq] <;> (try and_intros) <;> (try assumption) <;> (try trivial) <;> (try omega)
  · have c0 : ((1 : Nat) : Int) = 1 := rfl
    simp only [c0]
    -- round 1
    repeat' (first | ((first | refine aops_nil ?_ | refine aqops_nil ?_); (try simp only [NB])) | ((repeat ((fail_if_success (refine hK _ ?_)); clear hK K)); refine hK _ ?_; clear hK K) | ((first | refine aops_k fun K1 hK1 => ?_ | refine aqops_k fun K1 hK1 => ?_ | refine awp_cond_k fun A B hA hB => ?_); simp only [S1, simprocAttr, TTRdF, List.length_map, Nat.mul_one, Nat.zero_mul]; first | (refine hK1 _ ?_; clear hK1 K1) | ((first | refine hA ?_ | refine hB ?_); clear hA hB A B) | (((first | (refine ⟨fun hg => hA ?_, fun hg => hB ?_⟩ <;> clear hA hB A B) | refine ⟨fun hg => ?_, fun hg => ?_⟩) <;> (try simp only [BN2] at hg) <;> (try simp only [hg, cond_true, cond_false])) <;> (try (refine hK1 _ ?_; clear hK1 K1)) <;> (try simp only [BN3] at hg))) | (refine awp_seq_k fun K hK => ?_) | ((first | refine awp_region ?_ | refine awp_draw (by kernel_rfl) ?_ | refine awp_block ?_ | refine awp_exit ?_ | refine awp_skip ?_ | refine awp_ret ?_); (try simp only [NB, simprocAttr])))
    refine awp_for gives.length 63 (fun i => [(24, .i i), (23, .i gives.length), (22, aI gives), (19, .i 1), (18, .agg [aI needs, aI gives]), (2, .ptr h.length 0 0), (3, .ptr (h.length + 1) 0 0), (4, .ptr (h.length + 2) 0 0)]) (fun i => [some ⟨0, [.i kind, .i node, aI needs, aI gives]⟩, some ⟨0, aA tok⟩, some ⟨0, aA zT⟩]) (fun i => (gives.take i).all flowB = true) ?_ rfl fun i hi hp K hK => ?_
    · refine ⟨rfl, ⟨[], by simp⟩, ?_, ⟨trivial, trivial, trivial, trivial, trivial⟩, avlts_aA _ _, avlts_aA _ _, trivial⟩
      simp only [keeps, avlt, avlts, blksLt, frL, upd_get, S1, simprocAttr, List.length_map, Int.natCast_zero, AV.p.injEq, PV.int.injEq, PV.bool.injEq, PV.sl.injEq] <;> (try and_intros) <;> (try assumption) <;> (try trivial) <;> (try omega)
    rcases Nat.lt_or_ge i gives.length with hlt | hge
    · obtain ⟨k, hx⟩ : ∃ k, gives[i]? = some k := ⟨_, List.getElem?_eq_getElem hlt⟩
      have hm := List.mem_of_getElem? hx
      have hfl := fun h => flow_calls (G := G) k h
      cases hf : flowB k with
      | true =>
        rw [hf] at hfl
        repeat' (first | ((first | refine aops_nil ?_ | refine aqops_nil ?_); (try simp only [NB])) | ((repeat ((fail_if_success (refine hK _ ?_)); clear hK K)); refine hK _ ?_; clear hK K) | ((first | refine aops_k fun K1 hK1 => ?_ | refine aqops_k fun K1 hK1 => ?_ | refine awp_cond_k fun A B hA hB => ?_); simp only [S1, simprocAttr, TTRdF, rowI hx, hitI hlt, nextI hl2 hlt]; first | (refine hK1 _ ?_; clear hK1 K1) | ((first | refine hA ?_ | refine hB ?_); clear hA hB A B) | ((first | apply call_a E31 | apply call_q E31); exact (hfl _); (refine hK1 _ ?_; clear hK1 K1)) | (((first | (refine ⟨fun hg => hA ?_, fun hg => hB ?_⟩ <;> clear hA hB A B) | refine ⟨fun hg => ?_, fun hg => ?_⟩) <;> (try simp only [BN2] at hg) <;> (try simp only [hg, cond_true, cond_false])) <;> (try (refine hK1 _ ?_; clear hK1 K1)) <;> (try simp only [BN3] at hg))) | (refine awp_seq_k fun K hK => ?_) | ((first | refine awp_region ?_ | refine awp_draw (by kernel_rfl) ?_ | refine awp_block ?_ | refine awp_exit ?_ | refine awp_skip ?_ | refine awp_ret ?_); (try simp only [NB, simprocAttr])))
        all_goals refine ⟨hlt, allI_take hx hp hf, ?_⟩
        all_goals refine ⟨rfl, ⟨[], by simp⟩, ?_, ⟨trivial, trivial, trivial, trivial, trivial⟩, avlts_aA _ _, avlts_aA _ _, trivial⟩
        all_goals simp only [keeps, avlt, avlts, blksLt, frL, upd_get, S1, simprocAttr, List.length_map, Int.natCast_zero, AV.p.injEq, PV.int.injEq, PV.bool.injEq, PV.sl.injEq] <;> (try and_intros) <;> (try assumption) <;> (try trivial) <;> (try omega)
      | false =>
        rw [hf] at hfl
        have hno : inF gives = false := allI_no hm hf
        have hin : ¬ (inF needs = true ∧ inF gives = true) := by simp [hno]
        have hR : resD needs gives tok = .tup [.agg (aA zT), .i 4] := by unfold resD doR; rw [if_neg hin]; rfl
        rw [hR]
        repeat' (first | ((first | refine aops_nil ?_ | refine aqops_nil ?_); (try simp only [NB])) | ((repeat ((fail_if_success (refine hK _ ?_)); clear hK K)); refine hK _ ?_; clear hK K) | ((first | refine aops_k fun K1 hK1 => ?_ | refine aqops_k fun K1 hK1 => ?_ | refine awp_cond_k fun A B hA hB => ?_); simp only [S1, simprocAttr, TTRdF, rowI hx, hitI hlt, nextI hl2 hlt, T40z, z40_ne, z40_map, aA_len, aA_scalar, aA_ne, over_aA, aA_take40, aA_load]; first | (refine hK1 _ ?_; clear hK1 K1) | ((first | refine hA ?_ | refine hB ?_); clear hA hB A B) | ((first | apply call_a E31 | apply call_q E31); exact (hfl _); (refine hK1 _ ?_; clear hK1 K1)) | (((first | (refine ⟨fun hg => hA ?_, fun hg => hB ?_⟩ <;> clear hA hB A B) | refine ⟨fun hg => ?_, fun hg => ?_⟩) <;> (try simp only [BN2] at hg) <;> (try simp only [hg, cond_true, cond_false])) <;> (try (refine hK1 _ ?_; clear hK1 K1)) <;> (try simp only [BN3] at hg))) | (refine awp_seq_k fun K hK => ?_) | ((first | refine awp_region ?_ | refine awp_draw (by kernel_rfl) ?_ | refine awp_block ?_ | refine awp_exit ?_ | refine awp_skip ?_ | refine awp_ret ?_); (try simp only [NB, simprocAttr])))
        all_goals simp only [EndP, FinP, resA, resL, resA1, lastV, lastA, lastAs, pur, purs, take_app, List.take_length, S1, simprocAttr, TTRdF, Nat.le_add_right, Nat.le_refl, T40z, aA_len, aA_take40, aA_load, purs_aA, aP_map]
        all_goals trace_state
    · obtain rfl : i = gives.length := by omega
      have hin : inF gives = true := by rw [List.take_length] at hp; exact hp
      have hw1 : IntKind.i64.wrap ((1 : Int) + 1) = 2 := rfl
      repeat' (first | ((first | refine aops_nil ?_ | refine aqops_nil ?_); (try simp only [NB])) | ((repeat ((fail_if_success (refine hK _ ?_)); clear hK K)); refine hK _ ?_; clear hK K) | ((first | refine aops_k fun K1 hK1 => ?_ | refine aqops_k fun K1 hK1 => ?_ | refine awp_cond_k fun A B hA hB => ?_); simp only [S1, simprocAttr, TTRdF, endI, hw1]; first | (refine hK1 _ ?_; clear hK1 K1) | ((first | refine hA ?_ | refine hB ?_); clear hA hB A B) | (((first | (refine ⟨fun hg => hA ?_, fun hg => hB ?_⟩ <;> clear hA hB A B) | refine ⟨fun hg => ?_, fun hg => ?_⟩) <;> (try simp only [BN2] at hg) <;> (try simp only [hg, cond_true, cond_false])) <;> (try (refine hK1 _ ?_; clear hK1 K1)) <;> (try simp only [BN3] at hg))) | (refine awp_seq_k fun K hK => ?_) | ((first | refine awp_region ?_ | refine awp_draw (by kernel_rfl) ?_ | refine awp_block ?_ | refine awp_exit ?_ | refine awp_skip ?_ | refine awp_ret ?_); (try simp only [NB, simprocAttr])))
      all_goals refine ⟨by omega, ⟨fun _ => ?_, fun h2 => ?_⟩, ?_⟩
      · exact hpj.1 (by omega)
      · exact hin
      all_goals refine ⟨rfl, ⟨[], by simp⟩, ?_, ⟨trivial, trivial, trivial, trivial, trivial⟩, avlts_aA _ _, avlts_aA _ _, trivial⟩
      all_goals simp only [keeps, avlt, avlts, blksLt, frL, upd_get, S1, simprocAttr, List.length_map, Int.natCast_zero, AV.p.injEq, PV.int.injEq, PV.bool.injEq, PV.sl.injEq] <;> (try and_intros) <;> (try assumption) <;> (try trivial) <;> (try omega)
  · have c0 : ((2 : Nat) : Int) = 2 := rfl
    simp only [c0]
    have h1 := hpj.1 (by omega)
    have h2 := hpj.2 (by omega)
    have hwo := fun h => without_calls (G := G) needs hl tok ht h
    cases hc : canB needs tok with
    | false =>
      have hR : resD needs gives tok = .tup [.agg (aA zT), .i 6] := by unfold resD doR; rw [if_pos ⟨h1, h2⟩, hc]; rfl
      have e0 : takeT needs tok = none := by rw [takeT_eq, hc]; rfl
      rw [e0] at hwo
      repeat' (first | ((first | refine aops_nil ?_ | refine aqops_nil ?_); (try simp only [NB])) | ((repeat ((fail_if_success (refine hK _ ?_)); clear hK K)); refine hK _ ?_; clear hK K) | ((first | refine aops_k fun K1 hK1 => ?_ | refine aqops_k fun K1 hK1 => ?_ | refine awp_cond_k fun A B hA hB => ?_); simp only [S1, simprocAttr, TTRdF, T40z, z40_ne, z40_map, aA_len, aA_scalar, aA_ne, over_aA, aA_take40, aA_load, Option.getD]; first | (refine hK1 _ ?_; clear hK1 K1) | ((first | refine hA ?_ | refine hB ?_); clear hA hB A B) | ((first | apply call_a E32 | apply call_q E32); exact (hwo _); (refine hK1 _ ?_; clear hK1 K1)) | (((first | (refine ⟨fun hg => hA ?_, fun hg => hB ?_⟩ <;> clear hA hB A B) | refine ⟨fun hg => ?_, fun hg => ?_⟩) <;> (try simp only [BN2] at hg) <;> (try simp only [hg, cond_true, cond_false])) <;> (try (refine hK1 _ ?_; clear hK1 K1)) <;> (try simp only [BN3] at hg))) | (refine awp_seq_k fun K hK => ?_) | ((first | refine awp_region ?_ | refine awp_draw (by kernel_rfl) ?_ | refine awp_block ?_ | refine awp_exit ?_ | refine awp_skip ?_ | refine awp_ret ?_); (try simp only [NB, simprocAttr])))
      all_goals simp only [EndP, FinP, resA, resL, resA1, lastV, lastA, lastAs, pur, purs, take_app, List.take_length, S1, simprocAttr, TTRdF, Nat.le_add_right, Nat.le_refl, T40z, aA_len, aA_take40, aA_load, purs_aA, aP_map]
      all_goals exact hR.symm
    | true =>
      have hR : resD needs gives tok = .tup [.agg (aA ((giveT gives (lessT needs tok)).getD zT)), .i (if (giveT gives (lessT needs tok)).isSome then 0 else 5)] := by
        unfold resD doR; rw [if_pos ⟨h1, h2⟩, hc, if_pos rfl]
        cases giveT gives (lessT needs tok) <;> rfl
      have e0 : takeT needs tok = some (lessT needs tok) := by rw [takeT_eq, hc]; rfl
      rw [e0] at hwo
      have e1 : (some (lessT needs tok)).getD zT = lessT needs tok := rfl
      repeat' (first | ((first | refine aops_nil ?_ | refine aqops_nil ?_); (try simp only [NB])) | ((repeat ((fail_if_success (refine hK _ ?_)); clear hK K)); refine hK _ ?_; clear hK K) | ((first | refine aops_k fun K1 hK1 => ?_ | refine aqops_k fun K1 hK1 => ?_ | refine awp_cond_k fun A B hA hB => ?_); simp only [S1, simprocAttr, TTRdF, T40z, z40_ne, z40_map, aA_len, aA_scalar, aA_ne, over_aA, aA_take40, aA_load, e1, List.length_map]; first | (refine hK1 _ ?_; clear hK1 K1) | ((first | refine hA ?_ | refine hB ?_); clear hA hB A B) | ((first | apply call_a E32 | apply call_q E32); exact (hwo _); (refine hK1 _ ?_; clear hK1 K1)) | (((first | (refine ⟨fun hg => hA ?_, fun hg => hB ?_⟩ <;> clear hA hB A B) | refine ⟨fun hg => ?_, fun hg => ?_⟩) <;> (try simp only [BN2] at hg) <;> (try simp only [hg, cond_true, cond_false])) <;> (try (refine hK1 _ ?_; clear hK1 K1)) <;> (try simp only [BN3] at hg))) | (refine awp_seq_k fun K hK => ?_) | ((first | refine awp_region ?_ | refine awp_draw (by kernel_rfl) ?_ | refine awp_block ?_ | refine awp_exit ?_ | refine awp_skip ?_ | refine awp_ret ?_); (try simp only [NB, simprocAttr])))
      let gk := fun i => (giveT (gives.take i) (lessT needs tok)).getD zT
      refine awp_for gives.length 63 (fun i => [(47, .i i), (46, .i gives.length), (45, aI gives), (4, .ptr (h.length + 2) 0 0), (10, .ptr (h.length + 3) 0 0)])
        (fun i => [some ⟨0, [.i kind, .i node, aI needs, aI gives]⟩, some ⟨0, aA tok⟩, some ⟨0, aA zT⟩, some ⟨0, aA (gk i)⟩]) (fun i => giveT (gives.take i) (lessT needs tok) = some (gk i)) ?_ rfl fun i hi hp K hK => ?_
      · refine ⟨rfl, ⟨[], by simp [gk, giveT]⟩, ?_, ⟨trivial, trivial, trivial, trivial, trivial⟩, avlts_aA _ _, avlts_aA _ _, avlts_aA _ _, trivial⟩
        simp only [keeps, avlt, avlts, blksLt, frL, upd_get, S1, simprocAttr, List.length_map, Int.natCast_zero, AV.p.injEq, PV.int.injEq, PV.bool.injEq, PV.sl.injEq] <;> (try and_intros) <;> (try assumption) <;> (try trivial) <;> (try omega)
      rcases Nat.lt_or_ge i gives.length with hlt | hge
      · obtain ⟨k, hx⟩ : ∃ k, gives[i]? = some k := ⟨_, List.getElem?_eq_getElem hlt⟩
        have hm := List.mem_of_getElem? hx
        have hfl : flowB k = true := List.all_eq_true.mp h2 k hm
        have hr : 0 ≤ k ∧ k ≤ 39 := by simp [flowB] at hfl; exact hfl
        have hk40 : k < 40 := by omega
        have hk3 : k.toNat + 1 ≤ 40 := by omega
        have hnx := giveT_next hx hp
        have hget := aA_take (tok := gk i) (b := 8) (z := some [.int .i64 0]) hr.1 hr.2
        by_cases hbig : 2 < gk i k
        · have hstop := giveT_stop hx hp hbig
          have f1 : decide (3 ≤ gk i k) = true := by simp; omega
          repeat' (first | ((first | refine aops_nil ?_ | refine aqops_nil ?_); (try simp only [NB])) | ((repeat ((fail_if_success (refine hK _ ?_)); clear hK K)); refine hK _ ?_; clear hK K) | ((first | refine aops_k fun K1 hK1 => ?_ | refine aqops_k fun K1 hK1 => ?_ | refine awp_cond_k fun A B hA hB => ?_); simp only [S1, simprocAttr, TTRdF, rowI hx, hitI hlt, nextI hl2 hlt, f1, hget, hr.1, hk40, Nat.mul_one, T40z, z40_ne, z40_map, aA_len, aA_scalar, aA_ne, over_aA, aA_take40, aA_load]; first | (refine hK1 _ ?_; clear hK1 K1) | ((first | refine hA ?_ | refine hB ?_); clear hA hB A B) | (((first | (refine ⟨fun hg => hA ?_, fun hg => hB ?_⟩ <;> clear hA hB A B) | refine ⟨fun hg => ?_, fun hg => ?_⟩) <;> (try simp only [BN2] at hg) <;> (try simp only [hg, cond_true, cond_false])) <;> (try (refine hK1 _ ?_; clear hK1 K1)) <;> (try simp only [BN3] at hg))) | (refine awp_seq_k fun K hK => ?_) | ((first | refine awp_region ?_ | refine awp_draw (by kernel_rfl) ?_ | refine awp_block ?_ | refine awp_exit ?_ | refine awp_skip ?_ | refine awp_ret ?_); (try simp only [NB, simprocAttr])))
          all_goals simp only [EndP, FinP, resA, resL, resA1, lastV, lastA, lastAs, pur, purs, take_app, List.take_length, S1, simprocAttr, TTRdF, Nat.le_add_right, Nat.le_refl, T40z, aA_len, aA_take40, aA_load, purs_aA, aP_map]
          all_goals (rw [hR, hstop]; simp)
        · rw [if_neg hbig] at hnx
          have f1 : decide (3 ≤ gk i k) = false := by simp; omega
          have hlow : -9223372036854775808 ≤ gk i k := by have e1 := giveT_ge _ _ _ hp k; have e2 := less_low hc hb k; omega
          have hw : IntKind.i64.wrap (gk i k + 1) = gk i k + 1 := IntWalk.i64_in _ (by omega)
          have hset := aA_set (tok := gk i) (x := gk i k + 1) hr.1 hr.2
          have e2 : gk (i + 1) = setT (gk i) k (gk i k + 1) := by simp only [gk]; rw [hnx]; rfl
          repeat' (first | ((first | refine aops_nil ?_ | refine aqops_nil ?_); (try simp only [NB])) | ((repeat ((fail_if_success (refine hK _ ?_)); clear hK K)); refine hK _ ?_; clear hK K) | ((first | refine aops_k fun K1 hK1 => ?_ | refine aqops_k fun K1 hK1 => ?_ | refine awp_cond_k fun A B hA hB => ?_); simp only [S1, simprocAttr, TTRdF, rowI hx, hitI hlt, nextI hl2 hlt, f1, hw, hget, hset, hr.1, hk40, hk3, Nat.mul_one, aA_len, T40z]; first | (refine hK1 _ ?_; clear hK1 K1) | ((first | refine hA ?_ | refine hB ?_); clear hA hB A B) | (((first | (refine ⟨fun hg => hA ?_, fun hg => hB ?_⟩ <;> clear hA hB A B) | refine ⟨fun hg => ?_, fun hg => ?_⟩) <;> (try simp only [BN2] at hg) <;> (try simp only [hg, cond_true, cond_false])) <;> (try (refine hK1 _ ?_; clear hK1 K1)) <;> (try simp only [BN3] at hg))) | (refine awp_seq_k fun K hK => ?_) | ((first | refine awp_region ?_ | refine awp_draw (by kernel_rfl) ?_ | refine awp_block ?_ | refine awp_exit ?_ | refine awp_skip ?_ | refine awp_ret ?_); (try simp only [NB, simprocAttr])))
          all_goals refine ⟨hlt, by rw [hnx, e2], ?_⟩
          all_goals rw [e2]
          all_goals refine ⟨rfl, ⟨[], by simp⟩, ?_, ⟨trivial, trivial, trivial, trivial, trivial⟩, avlts_aA _ _, avlts_aA _ _, avlts_aA _ _, trivial⟩
          all_goals simp only [keeps, avlt, avlts, blksLt, frL, upd_get, S1, simprocAttr, List.length_map, Int.natCast_zero, AV.p.injEq, PV.int.injEq, PV.bool.injEq, PV.sl.injEq] <;> (try and_intros) <;> (try assumption) <;> (try trivial) <;> (try omega)
      · obtain rfl : i = gives.length := by omega
        repeat' (first | ((first | refine aops_nil ?_ | refine aqops_nil ?_); (try simp only [NB])) | ((repeat ((fail_if_success (refine hK _ ?_)); clear hK K)); refine hK _ ?_; clear hK K) | ((first | refine aops_k fun K1 hK1 => ?_ | refine aqops_k fun K1 hK1 => ?_ | refine awp_cond_k fun A B hA hB => ?_); simp only [S1, simprocAttr, TTRdF, endI, T40z, z40_ne, z40_map, aA_len, aA_scalar, aA_ne, over_aA, aA_take40, aA_load]; first | (refine hK1 _ ?_; clear hK1 K1) | ((first | refine hA ?_ | refine hB ?_); clear hA hB A B) | (((first | (refine ⟨fun hg => hA ?_, fun hg => hB ?_⟩ <;> clear hA hB A B) | refine ⟨fun hg => ?_, fun hg => ?_⟩) <;> (try simp only [BN2] at hg) <;> (try simp only [hg, cond_true, cond_false])) <;> (try (refine hK1 _ ?_; clear hK1 K1)) <;> (try simp only [BN3] at hg))) | (refine awp_seq_k fun K hK => ?_) | ((first | refine awp_region ?_ | refine awp_draw (by kernel_rfl) ?_ | refine awp_block ?_ | refine awp_exit ?_ | refine awp_skip ?_ | refine awp_ret ?_); (try simp only [NB, simprocAttr])))
        simp only [EndP, FinP, resA, resL, resA1, lastV, lastA, lastAs, pur, purs, take_app, List.take_length, S1, simprocAttr, TTRdF, Nat.le_add_right, Nat.le_refl, T40z, aA_len, aA_take40, aA_load, purs_aA, aP_map]
        have e : gives.take gives.length = gives := List.take_length
        have e1 : gk gives.length = (giveT gives (lessT needs tok)).getD zT := by simp only [gk, e]
        have e2 : (giveT gives (lessT needs tok)).isSome = true := by rw [e] at hp; rw [hp]; rfl
        rw [hR, e1, e2]
        all_goals simp
end Go.Proofs.YtjpphhcimpclpaaDoor.AM
end

section
set_option linter.unusedVariables false
set_option linter.unusedSimpArgs false
set_option maxRecDepth 4000
set_option maxHeartbeats 4000000
namespace Go.Proofs.YtjpphhcimpclpaaDoor.AM
open Go Go.Proofs
set_option linter.defProp false in
def TTTgB := And.intro T2 (And.intro T3 (And.intro T4 (And.intro T25 (And.intro T26 (And.intro T27 (And.intro T31 (And.intro T34 (And.intro T40 (And.intro T42 (And.intro T46 (And.intro T50 T53)))))))))))
attribute [local irreducible] awp aops aqops aeops arun arunT

theorem listF_len' (t : Int → Int) : (listF t).length = 40 := by simp [listF]
theorem tokF_in' {S : List Int} (st : StOk S) (i : Int) : 0 ≤ tokF S i ∧ tokF S i ≤ 3 := by
  unfold tokF
  split
  · rename_i h
    obtain ⟨k, rfl⟩ := Int.eq_ofNat_of_zero_le h.1
    obtain ⟨_, h0, h3⟩ := st.held.at (k := k) (by omega)
    exact ⟨h0, h3⟩
  · omega

theorem ru_few {ns : List Nd} {fl : List Fl} (hn0 : (netN ns fl).1 = 0) : (∀ r ∈ (allRu ns fl).1, r.needs.length ≤ 200 ∧ r.gives.length ≤ 200) ∧ (allRu ns fl).1.length ≤ 1000 := by
  have rt := Right.of hn0
  have hn := rt.n
  have hf := rt.f
  unfold allRu
  rw [if_pos hn0]
  refine ⟨fun r hr => ?_, ?_⟩
  · have := ruTo_ok r hr
    omega
  · have h1 := ruTo_le ns fl ns.length
    have h2 : ns.length * (fl.length + 1) ≤ 24 * 41 := Nat.mul_le_mul hn (by omega)
    simp only; omega

/-- Does a rule what a step does? -/
def gameP (S : List Int) (y : Sp) (r : Ru) : Bool := (r.node == y.node) && (((doR r.needs r.gives (tokF S)).2 == 0) && (listF ((doR r.needs r.gives (tokF S)).1.getD zT) == y.to.take 40))

theorem game_calls (ns : List Nd) (fl : List Fl) {S : List Int} (hS : S.length = 49) (i : Int) (h : Heap) : ACalls Tryd.prog gW 7 [aNet ns fl, aS S, .i i] h (fun r h' => r = .b true ∧ h' = h) := by
  have hne := ne_is hS
  have hline := fun h => line_calls h
  have hlg := fun h => large_calls (G := gW) ns fl h
  have t49' : (S.map AV.i).take 49 = S.map AV.i := List.take_of_length_le (by rw [List.length_map, hS]; exact Nat.le_refl _)
  have hem : (zS.map AV.i).isEmpty = false := rfl
  cases hl : largeN ns fl with
  | true =>
    rw [hl] at hlg
    refine acalls_pure (rl := []) mixed Tryd.func7 rfl (rs := [.tmp 6]) rfl Tryd.ntmps7 (by simp) ?_
    repeat' (first | ((first | refine aops_nil ?_ | refine aqops_nil ?_); (try simp only [NB])) | ((repeat ((fail_if_success (refine hK _ ?_)); clear hK K)); refine hK _ ?_; clear hK K) | ((first | refine aops_k fun K1 hK1 => ?_ | refine aqops_k fun K1 hK1 => ?_ | refine awp_cond_k fun A B hA hB => ?_); simp only [S1, simprocAttr, TTTgB, TSz, z49_ne, hne, hS, all_scalar, t49', takeA_arr, takeA_st, List.length_map]; first | (refine hK1 _ ?_; clear hK1 K1) | ((first | refine hA ?_ | refine hB ?_); clear hA hB A B) | ((first | apply call_a E8 | apply call_q E8); exact (hlg _); (refine hK1 _ ?_; clear hK1 K1)) | ((first | apply call_a E10 | apply call_q E10); exact (hline _); (refine hK1 _ ?_; clear hK1 K1)) | (refine join_x (v := ?_) (fun hg hk9 => ?_) ?_; rotate_left; (focus (try ((try simp only [BN] at hg); simp only [S1, simprocAttr, TTTgB, TSz, z49_ne, hne, hS, all_scalar, t49', takeA_arr, takeA_st, List.length_map, hg] at hk9 ⊢)); first | exact hk9 | ((first | apply call_a E8 | apply call_q E8); exact (hlg _); exact hk9) | ((first | apply call_a E10 | apply call_q E10); exact (hline _); exact hk9)); (refine hK1 _ ?_; clear hK1 K1)) | (((first | (refine ⟨fun hg => hA ?_, fun hg => hB ?_⟩ <;> clear hA hB A B) | refine ⟨fun hg => ?_, fun hg => ?_⟩) <;> (try simp only [BN2] at hg) <;> (try simp only [hg, cond_true, cond_false])) <;> (try (refine hK1 _ ?_; clear hK1 K1)) <;> (try simp only [BN3] at hg))) | (refine awp_seq_k fun K hK => ?_) | ((first | refine awp_region ?_ | refine awp_draw (by kernel_rfl) ?_ | refine awp_block ?_ | refine awp_exit ?_ | refine awp_skip ?_ | refine awp_ret ?_); (try simp only [NB, simprocAttr])))
    all_goals simp only [EndP, FinP, resA, resL, resA1, lastV, lastA, lastAs, pur, purs, take_app, List.take_length, S1, simprocAttr, TTTgB, Nat.le_add_right, Nat.le_refl]
  | false =>
  rw [hl] at hlg
  have nk := large_ok hl
  have hdo := fun h => do_calls nk hS i h
  have hto := stepsG_to (ns := ns) (fl := fl) hS
  have hyl : (doG ns fl S i).1.to.length = 49 := by
    unfold doG
    split
    · rfl
    · split
      · rfl
      · split
        · rename_i y hy; exact hto y (List.mem_of_getElem? hy)
        · rfl
  have hdoe : (doG ns fl S i).2 = 0 → ∃ n : Nat, i = (n : Int) ∧ (stepsG ns fl S)[n]? = some (doG ns fl S i).1 := by
    intro e
    unfold doG at e ⊢
    split at e
    · rename_i h1; exact absurd e h1
    · rename_i h1
      rw [if_neg h1]
      split at e
      · cases e
      · rename_i h2
        rw [if_neg h2]
        split at e
        · rename_i y hy
          obtain ⟨n, rfl⟩ := Int.eq_ofNat_of_zero_le (by omega : 0 ≤ i)
          rw [Int.toNat_natCast] at hy
          exact ⟨n, rfl, hy⟩
        · cases e
  generalize hde : (doG ns fl S i).2 = e at *
  generalize (doG ns fl S i).1 = y at *
  have yt49 : (y.to.map AV.i).take 49 = y.to.map AV.i := List.take_of_length_le (by rw [List.length_map, hyl]; exact Nat.le_refl _)
  have hyz : over (zS.map AV.i) 0 (y.to.map AV.i) = y.to.map AV.i := over_full (n := 49) (by rw [List.length_map, hyl]) _ (by rw [List.length_map]; rfl)
  have hey : (y.to.map AV.i).isEmpty = false := ne_is hyl
  by_cases he : e = 0
  case neg =>
    have f0 : (e != 0) = true := by simp [he]
    refine acalls_pure (rl := []) mixed Tryd.func7 rfl (rs := [.tmp 6]) rfl Tryd.ntmps7 (by simp) ?_
    repeat' (first | ((first | refine aops_nil ?_ | refine aqops_nil ?_); (try simp only [NB])) | ((repeat ((fail_if_success (refine hK _ ?_)); clear hK K)); refine hK _ ?_; clear hK K) | ((first | refine aops_k fun K1 hK1 => ?_ | refine aqops_k fun K1 hK1 => ?_ | refine awp_cond_k fun A B hA hB => ?_); simp only [S1, simprocAttr, TTTgB, f0, hyl, yt49, hyz, hey, hem, TSz, z49_ne, z49_map, zS_len, hne, hS, all_scalar, t49', takeA_arr, takeA_st, List.length_map]; first | (refine hK1 _ ?_; clear hK1 K1) | ((first | refine hA ?_ | refine hB ?_); clear hA hB A B) | ((first | apply call_a E8 | apply call_q E8); exact (hlg _); (refine hK1 _ ?_; clear hK1 K1)) | ((first | apply call_a E17 | apply call_q E17); exact (hdo _); (refine hK1 _ ?_; clear hK1 K1)) | ((first | apply call_a E10 | apply call_q E10); exact (hline _); (refine hK1 _ ?_; clear hK1 K1)) | (refine join_x (v := ?_) (fun hg hk9 => ?_) ?_; rotate_left; (focus (try ((try simp only [BN] at hg); simp only [S1, simprocAttr, TTTgB, f0, hyl, yt49, hyz, hey, hem, TSz, z49_ne, z49_map, zS_len, hne, hS, all_scalar, t49', takeA_arr, takeA_st, List.length_map, hg] at hk9 ⊢)); first | exact hk9 | ((first | apply call_a E8 | apply call_q E8); exact (hlg _); exact hk9) | ((first | apply call_a E17 | apply call_q E17); exact (hdo _); exact hk9) | ((first | apply call_a E10 | apply call_q E10); exact (hline _); exact hk9)); (refine hK1 _ ?_; clear hK1 K1)) | (((first | (refine ⟨fun hg => hA ?_, fun hg => hB ?_⟩ <;> clear hA hB A B) | refine ⟨fun hg => ?_, fun hg => ?_⟩) <;> (try simp only [BN2] at hg) <;> (try simp only [hg, cond_true, cond_false])) <;> (try (refine hK1 _ ?_; clear hK1 K1)) <;> (try simp only [BN3] at hg))) | (refine awp_seq_k fun K hK => ?_) | ((first | refine awp_region ?_ | refine awp_draw (by kernel_rfl) ?_ | refine awp_block ?_ | refine awp_exit ?_ | refine awp_skip ?_ | refine awp_ret ?_); (try simp only [NB, simprocAttr])))
    all_goals simp only [EndP, FinP, resA, resL, resA1, lastV, lastA, lastAs, pur, purs, take_app, List.take_length, S1, simprocAttr, TTTgB, Nat.le_add_right, Nat.le_refl]
  have f0 : (e != 0) = false := by simp [he]
  by_cases h5 : y.lk = 5
  · have f5 : (y.lk == 5) = true := by simp [h5]
    refine acalls_pure (rl := []) mixed Tryd.func7 rfl (rs := [.tmp 6]) rfl Tryd.ntmps7 (by simp) ?_
    repeat' (first | ((first | refine aops_nil ?_ | refine aqops_nil ?_); (try simp only [NB])) | ((repeat ((fail_if_success (refine hK _ ?_)); clear hK K)); refine hK _ ?_; clear hK K) | ((first | refine aops_k fun K1 hK1 => ?_ | refine aqops_k fun K1 hK1 => ?_ | refine awp_cond_k fun A B hA hB => ?_); simp only [S1, simprocAttr, TTTgB, f0, f5, hyl, yt49, hyz, hey, hem, TSz, z49_ne, z49_map, zS_len, hne, hS, all_scalar, t49', takeA_arr, takeA_st, List.length_map]; first | (refine hK1 _ ?_; clear hK1 K1) | ((first | refine hA ?_ | refine hB ?_); clear hA hB A B) | ((first | apply call_a E8 | apply call_q E8); exact (hlg _); (refine hK1 _ ?_; clear hK1 K1)) | ((first | apply call_a E17 | apply call_q E17); exact (hdo _); (refine hK1 _ ?_; clear hK1 K1)) | ((first | apply call_a E10 | apply call_q E10); exact (hline _); (refine hK1 _ ?_; clear hK1 K1)) | (refine join_x (v := ?_) (fun hg hk9 => ?_) ?_; rotate_left; (focus (try ((try simp only [BN] at hg); simp only [S1, simprocAttr, TTTgB, f0, f5, hyl, yt49, hyz, hey, hem, TSz, z49_ne, z49_map, zS_len, hne, hS, all_scalar, t49', takeA_arr, takeA_st, List.length_map, hg] at hk9 ⊢)); first | exact hk9 | ((first | apply call_a E8 | apply call_q E8); exact (hlg _); exact hk9) | ((first | apply call_a E17 | apply call_q E17); exact (hdo _); exact hk9) | ((first | apply call_a E10 | apply call_q E10); exact (hline _); exact hk9)); (refine hK1 _ ?_; clear hK1 K1)) | (((first | (refine ⟨fun hg => hA ?_, fun hg => hB ?_⟩ <;> clear hA hB A B) | refine ⟨fun hg => ?_, fun hg => ?_⟩) <;> (try simp only [BN2] at hg) <;> (try simp only [hg, cond_true, cond_false])) <;> (try (refine hK1 _ ?_; clear hK1 K1)) <;> (try simp only [BN3] at hg))) | (refine awp_seq_k fun K hK => ?_) | ((first | refine awp_region ?_ | refine awp_draw (by kernel_rfl) ?_ | refine awp_block ?_ | refine awp_exit ?_ | refine awp_skip ?_ | refine awp_ret ?_); (try simp only [NB, simprocAttr])))
    all_goals simp only [EndP, FinP, resA, resL, resA1, lastV, lastA, lastAs, pur, purs, take_app, List.take_length, S1, simprocAttr, TTTgB, Nat.le_add_right, Nat.le_refl]
  have f5 : (y.lk == 5) = false := by simp [h5]
  by_cases h6 : y.lk = 6
  · have f6 : (y.lk == 6) = true := by simp [h6]
    refine acalls_pure (rl := []) mixed Tryd.func7 rfl (rs := [.tmp 6]) rfl Tryd.ntmps7 (by simp) ?_
    repeat' (first | ((first | refine aops_nil ?_ | refine aqops_nil ?_); (try simp only [NB])) | ((repeat ((fail_if_success (refine hK _ ?_)); clear hK K)); refine hK _ ?_; clear hK K) | ((first | refine aops_k fun K1 hK1 => ?_ | refine aqops_k fun K1 hK1 => ?_ | refine awp_cond_k fun A B hA hB => ?_); simp only [S1, simprocAttr, TTTgB, f0, f5, f6, hyl, yt49, hyz, hey, hem, TSz, z49_ne, z49_map, zS_len, hne, hS, all_scalar, t49', takeA_arr, takeA_st, List.length_map]; first | (refine hK1 _ ?_; clear hK1 K1) | ((first | refine hA ?_ | refine hB ?_); clear hA hB A B) | ((first | apply call_a E8 | apply call_q E8); exact (hlg _); (refine hK1 _ ?_; clear hK1 K1)) | ((first | apply call_a E17 | apply call_q E17); exact (hdo _); (refine hK1 _ ?_; clear hK1 K1)) | ((first | apply call_a E10 | apply call_q E10); exact (hline _); (refine hK1 _ ?_; clear hK1 K1)) | (refine join_x (v := ?_) (fun hg hk9 => ?_) ?_; rotate_left; (focus (try ((try simp only [BN] at hg); simp only [S1, simprocAttr, TTTgB, f0, f5, f6, hyl, yt49, hyz, hey, hem, TSz, z49_ne, z49_map, zS_len, hne, hS, all_scalar, t49', takeA_arr, takeA_st, List.length_map, hg] at hk9 ⊢)); first | exact hk9 | ((first | apply call_a E8 | apply call_q E8); exact (hlg _); exact hk9) | ((first | apply call_a E17 | apply call_q E17); exact (hdo _); exact hk9) | ((first | apply call_a E10 | apply call_q E10); exact (hline _); exact hk9)); (refine hK1 _ ?_; clear hK1 K1)) | (((first | (refine ⟨fun hg => hA ?_, fun hg => hB ?_⟩ <;> clear hA hB A B) | refine ⟨fun hg => ?_, fun hg => ?_⟩) <;> (try simp only [BN2] at hg) <;> (try simp only [hg, cond_true, cond_false])) <;> (try (refine hK1 _ ?_; clear hK1 K1)) <;> (try simp only [BN3] at hg))) | (refine awp_seq_k fun K hK => ?_) | ((first | refine awp_region ?_ | refine awp_draw (by kernel_rfl) ?_ | refine awp_block ?_ | refine awp_exit ?_ | refine awp_skip ?_ | refine awp_ret ?_); (try simp only [NB, simprocAttr])))
    all_goals simp only [EndP, FinP, resA, resL, resA1, lastV, lastA, lastAs, pur, purs, take_app, List.take_length, S1, simprocAttr, TTTgB, Nat.le_add_right, Nat.le_refl]
  have f6 : (y.lk == 6) = false := by simp [h6]
  obtain ⟨n, rfl, hy⟩ := hdoe he
  have hm := List.mem_of_getElem? hy
  obtain ⟨g1, g2⟩ := game_steps hS hm h5 h6
  have hst0 : stC ns fl S = 0 := by
    by_cases e : stC ns fl S = 0
    · exact e
    · exfalso; unfold stepsG at hm; rw [if_pos (.inl e)] at hm; cases hm
  obtain ⟨hn0, hok⟩ := stC_zero hst0
  have st := okS_st hS hok
  obtain ⟨hrk, hrl⟩ := ru_few hn0
  have hall := fun h => rAll_calls ns fl nk h
  have ha2 : (allRu ns fl).2 = 0 := by unfold allRu; rw [if_pos hn0]
  rw [ha2] at hall
  have hmv := fun h => moves_calls nk hS h
  have t40 : (S.map AV.i).take 40 = (S.take 40).map AV.i := by rw [List.map_take]
  have yt40 : (y.to.map AV.i).take 40 = (y.to.take 40).map AV.i := by rw [List.map_take]
  have hdoR : ∀ r ∈ (allRu ns fl).1, ∀ h, ACalls Tryd.prog gW 13 [aRu r, .agg ((S.take 40).map AV.i)] h (fun x h' => x = .tup [.agg ((listF ((doR r.needs r.gives (tokF S)).1.getD zT)).map AV.i), .i (doR r.needs r.gives (tokF S)).2] ∧ h' = h) := by
    intro r hr h
    have := rDo_calls (G := gW) r.kind r.node r.needs r.gives (hrk r hr).1 (hrk r hr).2 (tokF S) (fun i => by have := tokF_in' st i; omega) (fun i => by have := tokF_in' st i; omega) h
    simp only [resD, aA_listF, listF_tokF hS] at this
    exact this
  have hsome : ∃ (j : Nat) (r : Ru), (allRu ns fl).1[j]? = some r ∧ gameP S y r = true := by
    obtain ⟨r, hr, hrn, u, e1, e2⟩ := g1
    obtain ⟨j, hj⟩ := List.getElem?_of_mem hr
    refine ⟨j, r, hj, ?_⟩
    unfold gameP
    rw [hrn, e1, e2.take]
    simp
  have nlt : n < (stepsG ns fl S).length := (List.getElem?_eq_some_iff.mp hy).1
  have fn : decide (((stepsG ns fl S).length : Int) ≤ (n : Int)) = false := by simp; omega
  have hxy : ((stepsG ns fl S).map eMv)[n]? = some [.int .i64 y.node, .int .i64 y.arg, .int .i64 y.lk, .int .i64 y.ln, .int .i64 y.la] := by rw [List.getElem?_map, hy]; rfl
  have n0 : (0 : Int) ≤ (n : Int) := by omega
  refine acalls_pure (rl := []) mixed Tryd.func7 rfl (rs := [.tmp 6]) rfl Tryd.ntmps7 (by simp) ?_
  repeat' (first | ((first | refine aops_nil ?_ | refine aqops_nil ?_); (try simp only [NB])) | ((repeat ((fail_if_success (refine hK _ ?_)); clear hK K)); refine hK _ ?_; clear hK K) | ((first | refine aops_k fun K1 hK1 => ?_ | refine aqops_k fun K1 hK1 => ?_ | refine awp_cond_k fun A B hA hB => ?_); simp only [S1, simprocAttr, TTTgB, f0, f5, f6, fn, hyl, yt49, hyz, hey, hem, TSz, z49_ne, z49_map, zS_len, hne, hS, all_scalar, t49', takeA_arr, takeA_st, List.length_map]; first | (refine hK1 _ ?_; clear hK1 K1) | ((first | refine hA ?_ | refine hB ?_); clear hA hB A B) | ((first | apply call_a E8 | apply call_q E8); exact (hlg _); (refine hK1 _ ?_; clear hK1 K1)) | ((first | apply call_a E17 | apply call_q E17); exact (hdo _); (refine hK1 _ ?_; clear hK1 K1)) | ((first | apply call_a E11 | apply call_q E11); exact (hall _); (refine hK1 _ ?_; clear hK1 K1)) | ((first | apply call_a E16 | apply call_q E16); exact (hmv _); (refine hK1 _ ?_; clear hK1 K1)) | (refine join_x (v := ?_) (fun hg hk9 => ?_) ?_; rotate_left; (focus (try ((try simp only [BN] at hg); simp only [S1, simprocAttr, TTTgB, f0, f5, f6, fn, hyl, yt49, hyz, hey, hem, TSz, z49_ne, z49_map, zS_len, hne, hS, all_scalar, t49', takeA_arr, takeA_st, List.length_map, hg] at hk9 ⊢)); first | exact hk9 | ((first | apply call_a E8 | apply call_q E8); exact (hlg _); exact hk9) | ((first | apply call_a E17 | apply call_q E17); exact (hdo _); exact hk9) | ((first | apply call_a E11 | apply call_q E11); exact (hall _); exact hk9) | ((first | apply call_a E16 | apply call_q E16); exact (hmv _); exact hk9)); (refine hK1 _ ?_; clear hK1 K1)) | (((first | (refine ⟨fun hg => hA ?_, fun hg => hB ?_⟩ <;> clear hA hB A B) | refine ⟨fun hg => ?_, fun hg => ?_⟩) <;> (try simp only [BN2] at hg) <;> (try simp only [hg, cond_true, cond_false])) <;> (try (refine hK1 _ ?_; clear hK1 K1)) <;> (try simp only [BN3] at hg))) | (refine awp_seq_k fun K hK => ?_) | ((first | refine awp_region ?_ | refine awp_draw (by kernel_rfl) ?_ | refine awp_block ?_ | refine awp_exit ?_ | refine awp_skip ?_ | refine awp_ret ?_); (try simp only [NB, simprocAttr])))
  clear hall hmv g1 hdo hm hto
  generalize (allRu ns fl).1 = rs at *
  generalize stepsG ns fl S = sl at *
  refine awp_for rs.length 102 (fun j => [(59, .i j), (58, .i rs.length), (57, aRus rs), (12, aMvs sl), (8, .ptr (h.length + 3) 0 0), (7, .ptr (h.length + 2) 0 0), (4, .ptr (h.length + 1) 0 0), (3, .ptr h.length 0 0), (2, .i n)])
    (fun j => [some ⟨0, cNet ns fl⟩, some ⟨0, S.map AV.i⟩, some ⟨0, y.to.map AV.i⟩, some ⟨0, [.i y.lk, .i y.ln, .i y.la]⟩]) (fun j => ∀ k r, k < j → rs[k]? = some r → gameP S y r = false) ?_ (fun k r hk => absurd hk (Nat.not_lt_zero _)) fun j hj hp K hK => ?_
  · refine ⟨rfl, ⟨[], by simp only [List.append_nil]⟩, ?_, ⟨trivial, trivial, trivial⟩, avlts_is _ _, avlts_is _ _, ⟨trivial, trivial, trivial, trivial⟩, trivial⟩
    simp only [keeps, avlt, avlts, blksLt, frL, upd_get, S1, simprocAttr, List.length_map, Int.natCast_zero, AV.p.injEq, PV.int.injEq, PV.bool.injEq, PV.sl.injEq] <;> (try and_intros) <;> (try assumption) <;> (try trivial) <;> (try omega)
  rcases Nat.lt_or_ge j rs.length with hlt | hge
  · obtain ⟨r, hx⟩ : ∃ r, rs[j]? = some r := ⟨_, List.getElem?_eq_getElem hlt⟩
    have hmr := List.mem_of_getElem? hx
    have hx' : (rs.map eRu)[j]? = some (eRu r) := by rw [List.getElem?_map, hx]; rfl
    have jl : (j : Int) < (rs.length : Int) := by omega
    have j0 : (0 : Int) ≤ (j : Int) := by omega
    have hd := hdoR r hmr
    have hnx := next40 (n := rs.length) hrl hlt
    have hgp : gameP S y r = ((r.node == y.node) && (((doR r.needs r.gives (tokF S)).2 == 0) && (listF ((doR r.needs r.gives (tokF S)).1.getD zT) == y.to.take 40))) := rfl
    have hnext : gameP S y r = false → ∀ k r', k < j + 1 → rs[k]? = some r' → gameP S y r' = false := by
      intro hf k r' hk hr'
      rcases Nat.lt_or_ge k j with h1 | h1
      · exact hp k r' h1 hr'
      · obtain rfl : k = j := by omega
        rw [hx] at hr'; cases hr'; exact hf
    generalize (doR r.needs r.gives (tokF S)).2 = de at *
    generalize (doR r.needs r.gives (tokF S)).1.getD zT = du at *
    have hll := listF_len' du
    have hov := over_full (cs := (listF du).map AV.i) (n := 40) (by rw [List.length_map, hll])
    have lt40 : ((listF du).map AV.i).take 40 = (listF du).map AV.i := List.take_of_length_le (by rw [List.length_map, hll]; exact Nat.le_refl _)
    have heq := eqI (S := listF du) (T := y.to.take 40) (by rw [List.length_take, hyl, hll]; rfl)
    generalize (listF du == y.to.take 40) = g2 at *
    cases gn : (r.node == y.node) with
    | false =>
      have gn' : (r.node != y.node) = true := by simp [bne, gn]
      have hf := hnext (by rw [hgp, gn]; rfl)
      repeat' (first | ((first | refine aops_nil ?_ | refine aqops_nil ?_); (try simp only [NB])) | ((repeat ((fail_if_success (refine hK _ ?_)); clear hK K)); refine hK _ ?_; clear hK K) | ((first | refine aops_k fun K1 hK1 => ?_ | refine aqops_k fun K1 hK1 => ?_ | refine awp_cond_k fun A B hA hB => ?_); simp only [S1, simprocAttr, TTTgB, jl, j0, n0, hx', hxy, eRu, gn', hnx, takeA_arr, takeA_st, TSz, z49_ne, all_scalar, List.length_map, List.length_take, List.length_drop, hS, Nat.mul_one, Nat.zero_add, Nat.add_zero, Int.toNat_natCast]; first | (refine hK1 _ ?_; clear hK1 K1) | ((first | refine hA ?_ | refine hB ?_); clear hA hB A B) | (refine join_x (v := ?_) (fun hg hk9 => ?_) ?_; rotate_left; (focus (try ((try simp only [BN] at hg); simp only [S1, simprocAttr, TTTgB, jl, j0, n0, hx', hxy, eRu, gn', hnx, takeA_arr, takeA_st, TSz, z49_ne, all_scalar, List.length_map, List.length_take, List.length_drop, hS, Nat.mul_one, Nat.zero_add, Nat.add_zero, Int.toNat_natCast, hg] at hk9 ⊢)); first | exact hk9); (refine hK1 _ ?_; clear hK1 K1)) | (((first | (refine ⟨fun hg => hA ?_, fun hg => hB ?_⟩ <;> clear hA hB A B) | refine ⟨fun hg => ?_, fun hg => ?_⟩) <;> (try simp only [BN2] at hg) <;> (try simp only [hg, cond_true, cond_false])) <;> (try (refine hK1 _ ?_; clear hK1 K1)) <;> (try simp only [BN3] at hg))) | (refine awp_seq_k fun K hK => ?_) | ((first | refine awp_region ?_ | refine awp_draw (by kernel_rfl) ?_ | refine awp_block ?_ | refine awp_exit ?_ | refine awp_skip ?_ | refine awp_ret ?_); (try simp only [NB, simprocAttr])))
      all_goals refine ⟨hlt, hf, ?_⟩
      all_goals refine ⟨rfl, ⟨_, rfl⟩, ?_, ⟨trivial, trivial, trivial⟩, avlts_is _ _, avlts_is _ _, ⟨trivial, trivial, trivial, trivial⟩, trivial⟩
      all_goals simp only [keeps, avlt, avlts, blksLt, frL, upd_get, S1, simprocAttr, List.length_map, Int.natCast_zero, AV.p.injEq, PV.int.injEq, PV.bool.injEq, PV.sl.injEq] <;> (try and_intros) <;> (try assumption) <;> (try trivial) <;> (try omega)
    | true =>
    have gn' : (r.node != y.node) = false := by simp [bne, gn]
    cases gd : (de == 0) with
    | false =>
      have hf := hnext (by rw [hgp, gn, gd]; rfl)
      repeat' (first | ((first | refine aops_nil ?_ | refine aqops_nil ?_); (try simp only [NB])) | ((repeat ((fail_if_success (refine hK _ ?_)); clear hK K)); refine hK _ ?_; clear hK K) | ((first | refine aops_k fun K1 hK1 => ?_ | refine aqops_k fun K1 hK1 => ?_ | refine awp_cond_k fun A B hA hB => ?_); simp only [S1, simprocAttr, TTTgB, jl, j0, n0, hx', hxy, eRu, gn', gd, hnx, hll, hov, lt40, yt40, t40, heq, eqA, Q26, and_self, takeA_arr, takeA_st, TSz, z49_ne, all_scalar, List.length_map, List.length_take, List.length_drop, hS, hyl, Nat.mul_one, Nat.zero_add, Nat.add_zero, Int.toNat_natCast]; first | (refine hK1 _ ?_; clear hK1 K1) | ((first | refine hA ?_ | refine hB ?_); clear hA hB A B) | ((first | apply call_a E13 | apply call_q E13); exact (hd _); (refine hK1 _ ?_; clear hK1 K1)) | (refine join_x (v := ?_) (fun hg hk9 => ?_) ?_; rotate_left; (focus (try ((try simp only [BN] at hg); simp only [S1, simprocAttr, TTTgB, jl, j0, n0, hx', hxy, eRu, gn', gd, hnx, hll, hov, lt40, yt40, t40, heq, eqA, Q26, and_self, takeA_arr, takeA_st, TSz, z49_ne, all_scalar, List.length_map, List.length_take, List.length_drop, hS, hyl, Nat.mul_one, Nat.zero_add, Nat.add_zero, Int.toNat_natCast, hg] at hk9 ⊢)); first | exact hk9 | ((first | apply call_a E13 | apply call_q E13); exact (hd _); exact hk9)); (refine hK1 _ ?_; clear hK1 K1)) | (((first | (refine ⟨fun hg => hA ?_, fun hg => hB ?_⟩ <;> clear hA hB A B) | refine ⟨fun hg => ?_, fun hg => ?_⟩) <;> (try simp only [BN2] at hg) <;> (try simp only [hg, cond_true, cond_false])) <;> (try (refine hK1 _ ?_; clear hK1 K1)) <;> (try simp only [BN3] at hg))) | (refine awp_seq_k fun K hK => ?_) | ((first | refine awp_region ?_ | refine awp_draw (by kernel_rfl) ?_ | refine awp_block ?_ | refine awp_exit ?_ | refine awp_skip ?_ | refine awp_ret ?_); (try simp only [NB, simprocAttr])))
      all_goals refine ⟨hlt, hf, ?_⟩
      all_goals refine ⟨rfl, ⟨_, rfl⟩, ?_, ⟨trivial, trivial, trivial⟩, avlts_is _ _, avlts_is _ _, ⟨trivial, trivial, trivial, trivial⟩, trivial⟩
      all_goals simp only [keeps, avlt, avlts, blksLt, frL, upd_get, S1, simprocAttr, List.length_map, Int.natCast_zero, AV.p.injEq, PV.int.injEq, PV.bool.injEq, PV.sl.injEq] <;> (try and_intros) <;> (try assumption) <;> (try trivial) <;> (try omega)
    | true =>
    cases g2 with
    | false =>
      have hf := hnext (by rw [hgp, gn, gd]; rfl)
      repeat' (first | ((first | refine aops_nil ?_ | refine aqops_nil ?_); (try simp only [NB])) | ((repeat ((fail_if_success (refine hK _ ?_)); clear hK K)); refine hK _ ?_; clear hK K) | ((first | refine aops_k fun K1 hK1 => ?_ | refine aqops_k fun K1 hK1 => ?_ | refine awp_cond_k fun A B hA hB => ?_); simp only [S1, simprocAttr, TTTgB, jl, j0, n0, hx', hxy, eRu, gn', gd, hnx, hll, hov, lt40, yt40, t40, heq, eqA, Q26, and_self, takeA_arr, takeA_st, TSz, z49_ne, all_scalar, List.length_map, List.length_take, List.length_drop, hS, hyl, Nat.mul_one, Nat.zero_add, Nat.add_zero, Int.toNat_natCast]; first | (refine hK1 _ ?_; clear hK1 K1) | ((first | refine hA ?_ | refine hB ?_); clear hA hB A B) | ((first | apply call_a E13 | apply call_q E13); exact (hd _); (refine hK1 _ ?_; clear hK1 K1)) | (refine join_x (v := ?_) (fun hg hk9 => ?_) ?_; rotate_left; (focus (try ((try simp only [BN] at hg); simp only [S1, simprocAttr, TTTgB, jl, j0, n0, hx', hxy, eRu, gn', gd, hnx, hll, hov, lt40, yt40, t40, heq, eqA, Q26, and_self, takeA_arr, takeA_st, TSz, z49_ne, all_scalar, List.length_map, List.length_take, List.length_drop, hS, hyl, Nat.mul_one, Nat.zero_add, Nat.add_zero, Int.toNat_natCast, hg] at hk9 ⊢)); first | exact hk9 | ((first | apply call_a E13 | apply call_q E13); exact (hd _); exact hk9)); (refine hK1 _ ?_; clear hK1 K1)) | (((first | (refine ⟨fun hg => hA ?_, fun hg => hB ?_⟩ <;> clear hA hB A B) | refine ⟨fun hg => ?_, fun hg => ?_⟩) <;> (try simp only [BN2] at hg) <;> (try simp only [hg, cond_true, cond_false])) <;> (try (refine hK1 _ ?_; clear hK1 K1)) <;> (try simp only [BN3] at hg))) | (refine awp_seq_k fun K hK => ?_) | ((first | refine awp_region ?_ | refine awp_draw (by kernel_rfl) ?_ | refine awp_block ?_ | refine awp_exit ?_ | refine awp_skip ?_ | refine awp_ret ?_); (try simp only [NB, simprocAttr])))
      all_goals refine ⟨hlt, hf, ?_⟩
      all_goals refine ⟨rfl, ⟨_, rfl⟩, ?_, ⟨trivial, trivial, trivial⟩, avlts_is _ _, avlts_is _ _, ⟨trivial, trivial, trivial, trivial⟩, trivial⟩
      all_goals simp only [keeps, avlt, avlts, blksLt, frL, upd_get, S1, simprocAttr, List.length_map, Int.natCast_zero, AV.p.injEq, PV.int.injEq, PV.bool.injEq, PV.sl.injEq] <;> (try and_intros) <;> (try assumption) <;> (try trivial) <;> (try omega)
    | true =>
    have hw := g2 r hmr (by simpa using gn)
    have hk3 : ((y.lk == 3) = true ∧ (y.lk == 4) = false ∧ (r.kind == 3) = true) ∨ ((y.lk == 3) = false ∧ (y.lk == 4) = true ∧ (r.kind == 3) = true) ∨ ((y.lk == 3) = false ∧ (y.lk == 4) = false ∧ (r.kind == 3) = false) := by
      by_cases a3 : y.lk = 3
      · exact .inl ⟨by simp [a3], by simp [a3], by simp [hw.mp (.inl a3)]⟩
      · by_cases a4 : y.lk = 4
        · exact .inr (.inl ⟨by simp [a3], by simp [a4], by simp [hw.mp (.inr a4)]⟩)
        · exact .inr (.inr ⟨by simp [a3], by simp [a4], by
            have : r.kind ≠ 3 := fun e => (hw.mpr e).elim a3 a4
            simp [this]⟩)
    rcases hk3 with ⟨e3, e4, ek⟩ | ⟨e3, e4, ek⟩ | ⟨e3, e4, ek⟩
    all_goals repeat' (first | ((first | refine aops_nil ?_ | refine aqops_nil ?_); (try simp only [NB])) | ((repeat ((fail_if_success (refine hK _ ?_)); clear hK K)); refine hK _ ?_; clear hK K) | ((first | refine aops_k fun K1 hK1 => ?_ | refine aqops_k fun K1 hK1 => ?_ | refine awp_cond_k fun A B hA hB => ?_); simp only [S1, simprocAttr, TTTgB, jl, j0, n0, hx', hxy, eRu, gn', gd, e3, e4, ek, hnx, hll, hov, lt40, yt40, t40, heq, eqA, Q26, and_self, takeA_arr, takeA_st, TSz, z49_ne, all_scalar, List.length_map, List.length_take, List.length_drop, hS, hyl, Nat.mul_one, Nat.zero_add, Nat.add_zero, Int.toNat_natCast]; first | (refine hK1 _ ?_; clear hK1 K1) | ((first | refine hA ?_ | refine hB ?_); clear hA hB A B) | ((first | apply call_a E13 | apply call_q E13); exact (hd _); (refine hK1 _ ?_; clear hK1 K1)) | ((first | apply call_a E10 | apply call_q E10); exact (hline _); (refine hK1 _ ?_; clear hK1 K1)) | (refine join_x (v := ?_) (fun hg hk9 => ?_) ?_; rotate_left; (focus (try ((try simp only [BN] at hg); simp only [S1, simprocAttr, TTTgB, jl, j0, n0, hx', hxy, eRu, gn', gd, e3, e4, ek, hnx, hll, hov, lt40, yt40, t40, heq, eqA, Q26, and_self, takeA_arr, takeA_st, TSz, z49_ne, all_scalar, List.length_map, List.length_take, List.length_drop, hS, hyl, Nat.mul_one, Nat.zero_add, Nat.add_zero, Int.toNat_natCast, hg] at hk9 ⊢)); first | exact hk9 | ((first | apply call_a E13 | apply call_q E13); exact (hd _); exact hk9) | ((first | apply call_a E10 | apply call_q E10); exact (hline _); exact hk9)); (refine hK1 _ ?_; clear hK1 K1)) | (((first | (refine ⟨fun hg => hA ?_, fun hg => hB ?_⟩ <;> clear hA hB A B) | refine ⟨fun hg => ?_, fun hg => ?_⟩) <;> (try simp only [BN2] at hg) <;> (try simp only [hg, cond_true, cond_false])) <;> (try (refine hK1 _ ?_; clear hK1 K1)) <;> (try simp only [BN3] at hg))) | (refine awp_seq_k fun K hK => ?_) | ((first | refine awp_region ?_ | refine awp_draw (by kernel_rfl) ?_ | refine awp_block ?_ | refine awp_exit ?_ | refine awp_skip ?_ | refine awp_ret ?_); (try simp only [NB, simprocAttr])))
    all_goals simp only [EndP, FinP, resA, resL, resA1, lastV, lastA, lastAs, pur, purs, take_app, List.take_length, S1, simprocAttr, TTTgB, Nat.le_add_right, Nat.le_refl]
  · obtain rfl : j = rs.length := by omega
    exfalso
    obtain ⟨k, r, hk, hg⟩ := hsome
    rw [hp k r (List.getElem?_eq_some_iff.mp hk).1 hk] at hg
    cases hg

theorem arg_stateG {fuel : Nat} {xs : List PV} (h : Ty Tryd.prog fuel 29 xs) : ∃ S : List Int, S.length = 49 ∧ argA Tryd.prog 29 xs = aS S := by
  obtain ⟨m, rows, e, hl, rfl, hf⟩ := ty_struct T29 h
  match rows, hl with
  | [r0, r1, r2, r3], _ =>
    have h0 : Ty Tryd.prog m 26 r0 := hf 0 _ r0 rfl rfl
    have h1 : Ty Tryd.prog m 27 r1 := hf 1 _ r1 rfl rfl
    have h2 : Ty Tryd.prog m 27 r2 := hf 2 _ r2 rfl rfl
    have h3 : Ty Tryd.prog m 3 r3 := hf 3 _ r3 rfl rfl
    obtain ⟨l0, hl0, _, rfl⟩ := ty_intarr T26 T3 h0
    obtain ⟨l1, hl1, _, rfl⟩ := ty_intarr T27 T3 h1
    obtain ⟨l2, hl2, _, rfl⟩ := ty_intarr T27 T3 h2
    obtain ⟨o, _, rfl⟩ := ty_int T3 h3
    refine ⟨l0 ++ (l1 ++ (l2 ++ [o])), by simp only [List.length_append, List.length_cons, List.length_nil]; omega, ?_⟩
    rw [argA_at T29]
    have e2 : (([l0.map (PV.int .i64), l1.map (PV.int .i64), l2.map (PV.int .i64), [.int .i64 o]] : List (List PV)).flatMap id).map AV.p = (l0 ++ (l1 ++ (l2 ++ [o]))).map AV.i := by
      simp only [List.flatMap_cons, List.flatMap_nil, List.append_nil, id_eq, List.map_append, List.map_map, List.map_cons, List.map_nil]; rfl
    rw [e2]; rfl
theorem game_given (xss : List (List PV)) (hl : xss.length = [25, 29, 3].length) (ht : ∀ (j : Nat) t xs, [25, 29, 3][j]? = some t → xss[j]? = some xs → ∃ fuel, Ty Tryd.prog fuel t xs) :
    ACalls Tryd.prog gW 7 (List.zipWith (argA Tryd.prog) [25, 29, 3] xss) [] fun r h' => r = .b true ∧ h' = [] := by
  match xss, hl, ht with
  | [x0, x1, x2], _, ht =>
    obtain ⟨_, h0⟩ := ht 0 25 x0 rfl rfl
    obtain ⟨_, h1⟩ := ht 1 29 x1 rfl rfl
    obtain ⟨_, h2⟩ := ht 2 3 x2 rfl rfl
    obtain ⟨ns, fl, e0⟩ := arg_net h0
    obtain ⟨S, hS, e1⟩ := arg_stateG h1
    obtain ⟨n, hn, rfl⟩ := ty_int T3 h2
    have e2 : argA Tryd.prog 3 [.int .i64 n] = .i n := by rw [argA_at T3]; simp [TI.isAgg]
    simp only [List.zipWith_cons_cons, List.zipWith_nil_left, e0, e1, e2]
    exact game_calls ns fl hS n []
end Go.Proofs.YtjpphhcimpclpaaDoor.AM
end
