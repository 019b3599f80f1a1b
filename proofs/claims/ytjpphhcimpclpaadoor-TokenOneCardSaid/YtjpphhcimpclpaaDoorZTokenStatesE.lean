/- Proved here, in parts, for one law: Contracts: the steps of gates, events, catches and ends, as the program does them. Contracts: the steps of ends and events, as the program does them. Contracts: the steps of tasks and assignments, as the program does them. Plain: a move keeps a state's bounds; how many tokens there are behind it. Contract: all steps of a state, as the document tells them. Contract: whether numbers are within a channel's bounds. Contract: whether it is a state, as the program tells it. Contract: whether it is a state, as the program tells it. Plain: a step of a free rule does what the rule does. Plain: each free rule that goes has its step. Plain: what the moves of a state lead to are states; how many tokens there are in a process without And. Contracts: the steps of any node, as the program does them. Contracts: all steps of a state, as the program does them. Contracts: what may happen in a state; what a move leads to. Conditions: none. -/
import Derived.Test.YtjpphhcimpclpaaDoorZTokenStatesD

section
set_option linter.unusedVariables false
set_option linter.unusedSimpArgs false
set_option maxRecDepth 4000
set_option maxHeartbeats 4000000
namespace Go.Proofs.YtjpphhcimpclpaaDoor.AM
open Go Go.Proofs
set_option linter.defProp false in
def TTTmJ := And.intro T2 (And.intro T3 (And.intro T4 (And.intro T22 (And.intro T23 (And.intro T25 (And.intro T26 (And.intro T27 (And.intro T31 (And.intro T40 (And.intro T46 (And.intro T53 (And.intro T58 (And.intro T60 (And.intro T71 (And.intro T95 (And.intro T98 (And.intro T111 (And.intro T113 (And.intro T116 T117)))))))))))))))))))
attribute [local irreducible] awp aops aqops aeops arun arunT

section
variable {h : Heap} {b lb : Nat} {ns : List Nd} {fl : List Fl} {S : List Int} {l : List Sp}

theorem txor_at (nk : NetOk ns fl) (ok : GmOk h b lb S l) (st : StOk S) (few : l.length ≤ 900000) (i : Int) (ins outs : List Int) (hi : InF ins) (ho : InF outs) (hof : ∀ x ∈ outs, ∃ i : Nat, x = (i : Int) ∧ i < fl.length)
    (hz : outs.length ≠ 1 → tk S (ins.headD 0) ≠ 0) (hels : outs.length ≠ 1 → outs.countP (elsAt fl) = 1) (L : Heap) :
    ACalls Tryd.prog gW 76 [.ptr b 0 0, .i i, aI ins, aI outs] (putG h b lb ns fl S l ++ L) (fun r h' => r = .undef ∧ h' = putG h b lb ns fl S (l ++ xorG fl S i ins outs) ++ L) := by
  have := txor_calls nk (ok.ext L) st few i ins outs hi ho hof hz hels
  rwa [pg_app ok.hb ok.hl, pg_app ok.hb ok.hl] at this
theorem tcatch_at {G : Nat → Option (List PV)} (ok : GmOk h b lb S l) (st : StOk S) (m : Sp) (c : Nat) {k : Nd} (hc : ns[c]? = some k) (ha : 0 ≤ k.a ∧ k.a ≤ 4) (fr : List Int) (hfr : InF fr) (to : List Int) (hto : InF to) (he : to = outsN fl c) (L : Heap) :
    ACalls Tryd.prog G 77 [.ptr b 0 0, aMv m, .i c, aI fr, aI to] (putG h b lb ns fl S l ++ L) (fun r h' => r = .undef ∧ h' = putG h b lb ns fl S (l ++ catchG ns fl S m.node m.arg c fr) ++ L) := by
  have := tcatch_calls (G := G) (ok.ext L) st m c hc ha fr hfr to hto he
  rwa [pg_app ok.hb ok.hl, pg_app ok.hb ok.hl] at this
theorem step_nil_n (ok : GmOk h b lb S l) (m : Sp) (fr : List Int) (hfr : InF fr) (L : Heap) :
    ACalls Tryd.prog gW 51 [.ptr b 0 0, aMv m, aI fr, .p .nils, .p .nilf] (putG h b lb ns fl S l ++ L) (fun r h' => r = .undef ∧ h' = putG h b lb ns fl S (l ++ stF S m (fun T => T) fr []) ++ L) := by
  have := step_nil_at (G := gW) (ns := ns) (fl := fl) ok m fr [] hfr ⟨by simp, by simp⟩ L
  refine ACalls.nrm ?_
  have hk := nrmRows_eI fr
  simp only [nrmAs, nrmA, nrm, hk]
  exact this
theorem step_fn_n (ok : GmOk h b lb S l) (m : Sp) (fr : List Int) (hfr : InF fr) (L : Heap) {f : FuncId} (hE : Enters Tryd.prog f) {caps : List AV} (hcap : avlts (h.length + L.length) caps) {chg : List Int → List Int} (hlen : ∀ T : List Int, T.length = 49 → (chg T).length = 49)
    (hC : ∀ (A : Option Blk) (T : List Int), T.length = 49 → T.drop 40 = S.drop 40 → ACalls Tryd.prog gW f (.ptr (h.length + L.length + 1) 0 0 :: caps) (putG h b lb ns fl S l ++ (L ++ [A, some ⟨0, T.map AV.i⟩])) (fun r h' => r = .undef ∧ h' = putG h b lb ns fl S l ++ (L ++ [A, some ⟨0, (chg T).map AV.i⟩]))) :
    ACalls Tryd.prog gW 51 [.ptr b 0 0, aMv m, aI fr, .p .nils, .fn f caps] (putG h b lb ns fl S l ++ L) (fun r h' => r = .undef ∧ h' = putG h b lb ns fl S (l ++ stF S m chg fr []) ++ L) := by
  have := step_fn_at (G := gW) (ns := ns) (fl := fl) ok m fr [] hfr ⟨by simp, by simp⟩ L hE hcap hlen hC
  refine ACalls.nrm ?_
  have hk := nrmRows_eI fr
  simp only [nrmAs, nrmA, nrm, hk]
  exact this
theorem setm_at (X Y : Option Blk) (A : Option Blk) (T : List Int) (hT : T.length = 49) : ACalls Tryd.prog gW 78 [.ptr (h.length + 2 + 1) 0 0] (putG h b lb ns fl S l ++ ([X, Y] ++ [A, some ⟨0, T.map AV.i⟩]))
    (fun r h' => r = .undef ∧ h' = putG h b lb ns fl S l ++ ([X, Y] ++ [A, some ⟨0, (T.set 48 1).map AV.i⟩])) := by
  have := setm_calls (G := gW) (H := putG h b lb ns fl S l ++ ([X, Y] ++ [A, some ⟨0, T.map AV.i⟩])) (c := h.length + 3) (gc := 0) (by rw [pg_geti]; rfl) hT
  rw [pg_seti] at this
  exact this

theorem tnode_5a (nk : NetOk ns fl) (rt : Right ns fl) (ok : GmOk h b lb S l) (st : StOk S) (few : l.length ≤ 900000) (c : Nat) {k : Nd} (hc : ns[c]? = some k) (hk : k.kind = 5) (m : Nat) (hm : m < 40) (hin : insN fl c = [(m : Int)]) (h0 : tk S (m : Int) ≠ 0) :
    ACalls Tryd.prog gW 49 [.ptr b 0 0, .i c] (putG h b lb ns fl S l) (fun r h' => r = .undef ∧ h' = putG h b lb ns fl S (l ++ nodeG ns fl S c k)) := by
  have hb := ok.hb
  have hl := ok.hl
  have hne := ok.ne
  have hS := ok.held.1
  have gl := gmC_len (ns := ns) (fl := fl) (lb := lb) (n := l.length) hS
  have gv := gmC_vars (ns := ns) (fl := fl) (lb := lb) (n := l.length) hS
  have t49 := gmC_state (ns := ns) (fl := fl) (lb := lb) (n := l.length) hS
  have c0 : (0 : Int) ≤ (c : Int) := by omega
  have hc' := rowN hc
  have hf := rt.f
  have hf' : fl.length ≤ 100 := by omega
  have hkd := rt.kind hc
  have hi := InF_ins hf c
  have ho := InF_outs hf c
  obtain ⟨hv, v0, v3⟩ := ok.held.at hm
  have gk := gmC_at (ns := ns) (fl := fl) (lb := lb) (n := l.length) hv
  have f0 : (0 : Int) ≤ (m : Int) := by omega
  have f40 : (m : Int) < 40 := by omega
  have hz' : (tk S (m : Int) == 0) = false := by simp [h0]
  have hil : (((insN fl c).length : Int) == 1) = true := by rw [hin]; rfl
  have hi0 : (insN fl c)[0]? = some (m : Int) := by rw [hin]; rfl
  have hei : eI (m : Int) = [.int .i64 (m : Int)] := rfl
  have hin0 : (0 : Int) ≤ 0 := Int.le_refl 0
  have e2 : (k.kind == 2) = false := by simp [hk]
  have e3 : (k.kind == 3) = false := by simp [hk]
  have e4 : (k.kind == 4) = false := by simp [hk]
  have e5 : (k.kind == 5) = true := by simp [hk]
  have e6 : (k.kind == 6) = false := by simp [hk]
  have e7 : (k.kind == 7) = false := by simp [hk]
  have e8 : (k.kind == 8) = false := by simp [hk]
  have e1 : (k.kind != 1) = true := by simp [hk]
  have eg : nodeG ns fl S c k = xorG fl S c (insN fl c) (outsN fl c) := by unfold nodeG; rw [if_neg (by omega), if_neg (by omega), if_pos hk]
  rw [eg]
  have hz9 : (outsN fl c).length ≠ 1 → tk S ((insN fl c).headD 0) ≠ 0 := fun _ => by rw [hin]; exact h0
  refine acalls_heap (rl := []) mixed Tryd.func49 rfl (rs := []) rfl Tryd.ntmps49 (by simp) ?_
  repeat' (first | ((first | refine aops_nil ?_ | refine aqops_nil ?_ | refine arun_nil ?_ | refine arunT_nil ?_); (try simp only [NB])) | ((repeat ((fail_if_success (refine hK _ ?_)); clear hK K)); refine hK _ ?_; clear hK K) | ((first | refine aops_k fun K1 hK1 => ?_ | refine aqops_k fun K1 hK1 => ?_ | refine arun_eff rfl rfl rfl fun K1 hK1 => ?_ | refine awp_cond_k fun A B hA hB => ?_); simp only [S1, simprocAttr, TTTmJ, e1, e2, e3, e4, e5, e6, e7, e8, hil, hi0, hei, hin0, f0, f40, gk, hz', c0, hc', eN, takeA_sl0, gmC_net, TSz, z49_ne, z49_map, zS_len, takeA_arr, takeA_st, List.length_map, List.length_take, List.length_drop, pg_len, pg_get0, pg_geti, pg_set0, pg_seti, pg_b hb hne, pg_lb hl, pg_b0 hb hne, pg_lb0 hl, gmB, spB, gl, all_scalar, Nat.mul_one, Nat.zero_add, Nat.add_zero, Int.toNat_natCast, List.length_cons, List.length_nil]; first | (refine hK1 _ ?_; clear hK1 K1) | ((first | refine hA ?_ | refine hB ?_); clear hA hB A B) | ((first | apply call_a E25 | apply call_q E25); exact (ins_calls _ fl hf' _ _); (refine hK1 _ ?_; clear hK1 K1)) | ((first | apply call_a E26 | apply call_q E26); exact (outs_calls _ fl hf' _ _); (refine hK1 _ ?_; clear hK1 K1)) | ((first | apply call_a E76 | apply call_q E76); exact (txor_at nk ok st few c _ _ hi ho (outs_lt c) hz9 (rt.els1 hc hk) _); (refine hK1 _ ?_; clear hK1 K1)) | (refine join_x (v := ?_) (fun hg hk9 => ?_) ?_; rotate_left; (focus (try ((try simp only [BN] at hg); simp only [S1, simprocAttr, TTTmJ, e1, e2, e3, e4, e5, e6, e7, e8, hil, hi0, hei, hin0, f0, f40, gk, hz', c0, hc', eN, takeA_sl0, gmC_net, TSz, z49_ne, z49_map, zS_len, takeA_arr, takeA_st, List.length_map, List.length_take, List.length_drop, pg_len, pg_get0, pg_geti, pg_set0, pg_seti, pg_b hb hne, pg_lb hl, pg_b0 hb hne, pg_lb0 hl, gmB, spB, gl, all_scalar, Nat.mul_one, Nat.zero_add, Nat.add_zero, Int.toNat_natCast, List.length_cons, List.length_nil, hg] at hk9 ⊢)); first | exact hk9 | ((first | apply call_a E25 | apply call_q E25); exact (ins_calls _ fl hf' _ _); exact hk9) | ((first | apply call_a E26 | apply call_q E26); exact (outs_calls _ fl hf' _ _); exact hk9) | ((first | apply call_a E76 | apply call_q E76); exact (txor_at nk ok st few c _ _ hi ho (outs_lt c) hz9 (rt.els1 hc hk) _); exact hk9)); (refine hK1 _ ?_; clear hK1 K1)) | (((first | (refine ⟨fun hg => hA ?_, fun hg => hB ?_⟩ <;> clear hA hB A B) | refine ⟨fun hg => ?_, fun hg => ?_⟩) <;> (try simp only [BN2] at hg) <;> (try simp only [hg, cond_true, cond_false])) <;> (try (refine hK1 _ ?_; clear hK1 K1)) <;> (try simp only [BN3] at hg))) | ((first | refine arun_q (v := ?_) rfl rfl rfl rfl (by decide) (fun R1 K1 hK1 => ?_) ?_ | refine arun_f (v := ?_) rfl rfl rfl (by decide) (fun K1 hK1 => ?_) ?_ | refine arunT_f (v := ?_) rfl rfl rfl (by decide) (fun K1 hK1 => ?_) ?_); rotate_left; (focus (simp only [S1, simprocAttr, TTTmJ, e1, e2, e3, e4, e5, e6, e7, e8, hil, hi0, hei, hin0, f0, f40, gk, hz', c0, hc', eN, takeA_sl0, gmC_net, TSz, z49_ne, z49_map, zS_len, takeA_arr, takeA_st, List.length_map, List.length_take, List.length_drop, pg_len, pg_get0, pg_geti, pg_set0, pg_seti, pg_b hb hne, pg_lb hl, pg_b0 hb hne, pg_lb0 hl, gmB, spB, gl, all_scalar, Nat.mul_one, Nat.zero_add, Nat.add_zero, Int.toNat_natCast, List.length_cons, List.length_nil]; first | (exact hK1 _ _ _) | ((first | apply call_a E25 | apply call_q E25); exact (ins_calls _ fl hf' _ _); exact hK1 _ _ _) | ((first | apply call_a E26 | apply call_q E26); exact (outs_calls _ fl hf' _ _); exact hK1 _ _ _) | ((first | apply call_a E76 | apply call_q E76); exact (txor_at nk ok st few c _ _ hi ho (outs_lt c) hz9 (rt.els1 hc hk) _); exact hK1 _ _ _)))) | (refine arun_tail rfl rfl rfl ?_) | ((first | refine arun_allocj (z := ?_) 0 rfl rfl rfl rfl (by decide) rfl ?_ ?_ | refine arun_allocj (z := ?_) 1 rfl rfl rfl rfl (by decide) rfl ?_ ?_ | refine arun_allocj (z := ?_) 2 rfl rfl rfl rfl (by decide) rfl ?_ ?_); rotate_left; (focus (simp only [S1, simprocAttr, TTTmJ, e1, e2, e3, e4, e5, e6, e7, e8, hil, hi0, hei, hin0, f0, f40, gk, hz', c0, hc', eN, takeA_sl0, gmC_net, TSz, z49_ne, z49_map, zS_len, takeA_arr, takeA_st, List.length_map, List.length_take, List.length_drop, pg_len, pg_get0, pg_geti, pg_set0, pg_seti, pg_b hb hne, pg_lb hl, pg_b0 hb hne, pg_lb0 hl, gmB, spB, gl, all_scalar, Nat.mul_one, Nat.zero_add, Nat.add_zero, Int.toNat_natCast, List.length_cons, List.length_nil, zeroB]; rfl))) | (refine awp_seq_k fun K hK => ?_) | (refine awp_drawQ [0, 1, 2, 3, 4, 5, 6, 7, 8, 9, 10, 11, 12, 13] (fs := []) rfl rfl (by kernel_rfl) (by kernel_rfl) ?_) | ((first | refine awp_region ?_ | refine awp_draw (by kernel_rfl) ?_ | refine awp_block ?_ | refine awp_exit ?_ | refine awp_skip ?_ | refine awp_ret ?_); (try simp only [NB, simprocAttr])))
  all_goals simp only [EndH, FinH, resA, resL, resA1, lastV, lastA, lastAs, pur, purs, pg_len, pg_take, pg_take0, List.length_append, List.length_cons, List.length_nil, S1, simprocAttr, Nat.le_add_right, Nat.le_refl] <;> first | exact pg_keep' hl | exact ⟨pg_keep' hl, rfl⟩ | exact ⟨pg_keep' hl, rfl, rfl⟩

theorem tnode_5b (nk : NetOk ns fl) (rt : Right ns fl) (ok : GmOk h b lb S l) (st : StOk S) (few : l.length ≤ 900000) (c : Nat) {k : Nd} (hc : ns[c]? = some k) (hk : k.kind = 5) (hin : (insN fl c).length ≠ 1) :
    ACalls Tryd.prog gW 49 [.ptr b 0 0, .i c] (putG h b lb ns fl S l) (fun r h' => r = .undef ∧ h' = putG h b lb ns fl S (l ++ nodeG ns fl S c k)) := by
  have hb := ok.hb
  have hl := ok.hl
  have hne := ok.ne
  have hS := ok.held.1
  have gl := gmC_len (ns := ns) (fl := fl) (lb := lb) (n := l.length) hS
  have gv := gmC_vars (ns := ns) (fl := fl) (lb := lb) (n := l.length) hS
  have t49 := gmC_state (ns := ns) (fl := fl) (lb := lb) (n := l.length) hS
  have c0 : (0 : Int) ≤ (c : Int) := by omega
  have hc' := rowN hc
  have hf := rt.f
  have hf' : fl.length ≤ 100 := by omega
  have hkd := rt.kind hc
  have hi := InF_ins hf c
  have ho := InF_outs hf c
  have hil : (((insN fl c).length : Int) == 1) = false := by simp; omega
  have e2 : (k.kind == 2) = false := by simp [hk]
  have e3 : (k.kind == 3) = false := by simp [hk]
  have e4 : (k.kind == 4) = false := by simp [hk]
  have e5 : (k.kind == 5) = true := by simp [hk]
  have e6 : (k.kind == 6) = false := by simp [hk]
  have e7 : (k.kind == 7) = false := by simp [hk]
  have e8 : (k.kind == 8) = false := by simp [hk]
  have e1 : (k.kind != 1) = true := by simp [hk]
  have eg : nodeG ns fl S c k = xorG fl S c (insN fl c) (outsN fl c) := by unfold nodeG; rw [if_neg (by omega), if_neg (by omega), if_pos hk]
  rw [eg]
  have hz9 : (outsN fl c).length ≠ 1 → tk S ((insN fl c).headD 0) ≠ 0 := fun h => by have := rt.xor (List.getElem?_eq_some_iff.mp hc).1 (by rw [kind_of hc]; exact hk); omega
  refine acalls_heap (rl := []) mixed Tryd.func49 rfl (rs := []) rfl Tryd.ntmps49 (by simp) ?_
  repeat' (first | ((first | refine aops_nil ?_ | refine aqops_nil ?_ | refine arun_nil ?_ | refine arunT_nil ?_); (try simp only [NB])) | ((repeat ((fail_if_success (refine hK _ ?_)); clear hK K)); refine hK _ ?_; clear hK K) | ((first | refine aops_k fun K1 hK1 => ?_ | refine aqops_k fun K1 hK1 => ?_ | refine arun_eff rfl rfl rfl fun K1 hK1 => ?_ | refine awp_cond_k fun A B hA hB => ?_); simp only [S1, simprocAttr, TTTmJ, e1, e2, e3, e4, e5, e6, e7, e8, hil, c0, hc', eN, takeA_sl0, gmC_net, TSz, z49_ne, z49_map, zS_len, takeA_arr, takeA_st, List.length_map, List.length_take, List.length_drop, pg_len, pg_get0, pg_geti, pg_set0, pg_seti, pg_b hb hne, pg_lb hl, pg_b0 hb hne, pg_lb0 hl, gmB, spB, gl, all_scalar, Nat.mul_one, Nat.zero_add, Nat.add_zero, Int.toNat_natCast, List.length_cons, List.length_nil]; first | (refine hK1 _ ?_; clear hK1 K1) | ((first | refine hA ?_ | refine hB ?_); clear hA hB A B) | ((first | apply call_a E25 | apply call_q E25); exact (ins_calls _ fl hf' _ _); (refine hK1 _ ?_; clear hK1 K1)) | ((first | apply call_a E26 | apply call_q E26); exact (outs_calls _ fl hf' _ _); (refine hK1 _ ?_; clear hK1 K1)) | ((first | apply call_a E76 | apply call_q E76); exact (txor_at nk ok st few c _ _ hi ho (outs_lt c) hz9 (rt.els1 hc hk) _); (refine hK1 _ ?_; clear hK1 K1)) | (refine join_x (v := ?_) (fun hg hk9 => ?_) ?_; rotate_left; (focus (try ((try simp only [BN] at hg); simp only [S1, simprocAttr, TTTmJ, e1, e2, e3, e4, e5, e6, e7, e8, hil, c0, hc', eN, takeA_sl0, gmC_net, TSz, z49_ne, z49_map, zS_len, takeA_arr, takeA_st, List.length_map, List.length_take, List.length_drop, pg_len, pg_get0, pg_geti, pg_set0, pg_seti, pg_b hb hne, pg_lb hl, pg_b0 hb hne, pg_lb0 hl, gmB, spB, gl, all_scalar, Nat.mul_one, Nat.zero_add, Nat.add_zero, Int.toNat_natCast, List.length_cons, List.length_nil, hg] at hk9 ⊢)); first | exact hk9 | ((first | apply call_a E25 | apply call_q E25); exact (ins_calls _ fl hf' _ _); exact hk9) | ((first | apply call_a E26 | apply call_q E26); exact (outs_calls _ fl hf' _ _); exact hk9) | ((first | apply call_a E76 | apply call_q E76); exact (txor_at nk ok st few c _ _ hi ho (outs_lt c) hz9 (rt.els1 hc hk) _); exact hk9)); (refine hK1 _ ?_; clear hK1 K1)) | (((first | (refine ⟨fun hg => hA ?_, fun hg => hB ?_⟩ <;> clear hA hB A B) | refine ⟨fun hg => ?_, fun hg => ?_⟩) <;> (try simp only [BN2] at hg) <;> (try simp only [hg, cond_true, cond_false])) <;> (try (refine hK1 _ ?_; clear hK1 K1)) <;> (try simp only [BN3] at hg))) | ((first | refine arun_q (v := ?_) rfl rfl rfl rfl (by decide) (fun R1 K1 hK1 => ?_) ?_ | refine arun_f (v := ?_) rfl rfl rfl (by decide) (fun K1 hK1 => ?_) ?_ | refine arunT_f (v := ?_) rfl rfl rfl (by decide) (fun K1 hK1 => ?_) ?_); rotate_left; (focus (simp only [S1, simprocAttr, TTTmJ, e1, e2, e3, e4, e5, e6, e7, e8, hil, c0, hc', eN, takeA_sl0, gmC_net, TSz, z49_ne, z49_map, zS_len, takeA_arr, takeA_st, List.length_map, List.length_take, List.length_drop, pg_len, pg_get0, pg_geti, pg_set0, pg_seti, pg_b hb hne, pg_lb hl, pg_b0 hb hne, pg_lb0 hl, gmB, spB, gl, all_scalar, Nat.mul_one, Nat.zero_add, Nat.add_zero, Int.toNat_natCast, List.length_cons, List.length_nil]; first | (exact hK1 _ _ _) | ((first | apply call_a E25 | apply call_q E25); exact (ins_calls _ fl hf' _ _); exact hK1 _ _ _) | ((first | apply call_a E26 | apply call_q E26); exact (outs_calls _ fl hf' _ _); exact hK1 _ _ _) | ((first | apply call_a E76 | apply call_q E76); exact (txor_at nk ok st few c _ _ hi ho (outs_lt c) hz9 (rt.els1 hc hk) _); exact hK1 _ _ _)))) | (refine arun_tail rfl rfl rfl ?_) | ((first | refine arun_allocj (z := ?_) 0 rfl rfl rfl rfl (by decide) rfl ?_ ?_ | refine arun_allocj (z := ?_) 1 rfl rfl rfl rfl (by decide) rfl ?_ ?_ | refine arun_allocj (z := ?_) 2 rfl rfl rfl rfl (by decide) rfl ?_ ?_); rotate_left; (focus (simp only [S1, simprocAttr, TTTmJ, e1, e2, e3, e4, e5, e6, e7, e8, hil, c0, hc', eN, takeA_sl0, gmC_net, TSz, z49_ne, z49_map, zS_len, takeA_arr, takeA_st, List.length_map, List.length_take, List.length_drop, pg_len, pg_get0, pg_geti, pg_set0, pg_seti, pg_b hb hne, pg_lb hl, pg_b0 hb hne, pg_lb0 hl, gmB, spB, gl, all_scalar, Nat.mul_one, Nat.zero_add, Nat.add_zero, Int.toNat_natCast, List.length_cons, List.length_nil, zeroB]; rfl))) | (refine awp_seq_k fun K hK => ?_) | (refine awp_drawQ [0, 1, 2, 3, 4, 5, 6, 7, 8, 9, 10, 11, 12, 13] (fs := []) rfl rfl (by kernel_rfl) (by kernel_rfl) ?_) | ((first | refine awp_region ?_ | refine awp_draw (by kernel_rfl) ?_ | refine awp_block ?_ | refine awp_exit ?_ | refine awp_skip ?_ | refine awp_ret ?_); (try simp only [NB, simprocAttr])))
  all_goals simp only [EndH, FinH, resA, resL, resA1, lastV, lastA, lastAs, pur, purs, pg_len, pg_take, pg_take0, List.length_append, List.length_cons, List.length_nil, S1, simprocAttr, Nat.le_add_right, Nat.le_refl] <;> first | exact pg_keep' hl | exact ⟨pg_keep' hl, rfl⟩ | exact ⟨pg_keep' hl, rfl, rfl⟩

theorem tnode_6a (nk : NetOk ns fl) (rt : Right ns fl) (ok : GmOk h b lb S l) (st : StOk S) (few : l.length ≤ 900000) (c : Nat) {k : Nd} (hc : ns[c]? = some k) (hk : k.kind = 6) (m : Nat) (hm : m < 40) (hin : insN fl c = [(m : Int)]) (h0 : tk S (m : Int) ≠ 0) :
    ACalls Tryd.prog gW 49 [.ptr b 0 0, .i c] (putG h b lb ns fl S l) (fun r h' => r = .undef ∧ h' = putG h b lb ns fl S (l ++ nodeG ns fl S c k)) := by
  have hb := ok.hb
  have hl := ok.hl
  have hne := ok.ne
  have hS := ok.held.1
  have gl := gmC_len (ns := ns) (fl := fl) (lb := lb) (n := l.length) hS
  have gv := gmC_vars (ns := ns) (fl := fl) (lb := lb) (n := l.length) hS
  have t49 := gmC_state (ns := ns) (fl := fl) (lb := lb) (n := l.length) hS
  have c0 : (0 : Int) ≤ (c : Int) := by omega
  have hc' := rowN hc
  have hf := rt.f
  have hf' : fl.length ≤ 100 := by omega
  have hkd := rt.kind hc
  have hi := InF_ins hf c
  have ho := InF_outs hf c
  obtain ⟨hv, v0, v3⟩ := ok.held.at hm
  have gk := gmC_at (ns := ns) (fl := fl) (lb := lb) (n := l.length) hv
  have f0 : (0 : Int) ≤ (m : Int) := by omega
  have f40 : (m : Int) < 40 := by omega
  have hz' : (tk S (m : Int) == 0) = false := by simp [h0]
  have hil : (((insN fl c).length : Int) == 1) = true := by rw [hin]; rfl
  have hi0 : (insN fl c)[0]? = some (m : Int) := by rw [hin]; rfl
  have hei : eI (m : Int) = [.int .i64 (m : Int)] := rfl
  have hin0 : (0 : Int) ≤ 0 := Int.le_refl 0
  have e2 : (k.kind == 2) = false := by simp [hk]
  have e3 : (k.kind == 3) = false := by simp [hk]
  have e4 : (k.kind == 4) = false := by simp [hk]
  have e5 : (k.kind == 5) = false := by simp [hk]
  have e6 : (k.kind == 6) = true := by simp [hk]
  have e7 : (k.kind == 7) = false := by simp [hk]
  have e8 : (k.kind == 8) = false := by simp [hk]
  have e1 : (k.kind != 1) = true := by simp [hk]
  have eg : nodeG ns fl S c k = moveG S ⟨c, 0, 0, 0, 0, S⟩ (insN fl c) (outsN fl c) := by unfold nodeG; rw [if_neg (by omega), if_neg (by omega), if_neg (by omega), if_pos hk]
  have es := stF_move hS (m := ⟨c, 0, 0, 0, 0, S⟩) (Chg.id hS) hi ho
  simp only at es
  rw [eg, ← es]
  refine acalls_heap (rl := []) mixed Tryd.func49 rfl (rs := []) rfl Tryd.ntmps49 (by simp) ?_
  repeat' (first | ((first | refine aops_nil ?_ | refine aqops_nil ?_ | refine arun_nil ?_ | refine arunT_nil ?_); (try simp only [NB])) | ((repeat ((fail_if_success (refine hK _ ?_)); clear hK K)); refine hK _ ?_; clear hK K) | ((first | refine aops_k fun K1 hK1 => ?_ | refine aqops_k fun K1 hK1 => ?_ | refine arun_eff rfl rfl rfl fun K1 hK1 => ?_ | refine awp_cond_k fun A B hA hB => ?_); simp only [S1, simprocAttr, TTTmJ, e1, e2, e3, e4, e5, e6, e7, e8, hil, hi0, hei, hin0, f0, f40, gk, hz', c0, hc', eN, takeA_sl0, gmC_net, TSz, z49_ne, z49_map, zS_len, takeA_arr, takeA_st, List.length_map, List.length_take, List.length_drop, pg_len, pg_get0, pg_geti, pg_set0, pg_seti, pg_b hb hne, pg_lb hl, pg_b0 hb hne, pg_lb0 hl, gmB, spB, gl, all_scalar, Nat.mul_one, Nat.zero_add, Nat.add_zero, Int.toNat_natCast, List.length_cons, List.length_nil]; first | (refine hK1 _ ?_; clear hK1 K1) | ((first | refine hA ?_ | refine hB ?_); clear hA hB A B) | ((first | apply call_a E25 | apply call_q E25); exact (ins_calls _ fl hf' _ _); (refine hK1 _ ?_; clear hK1 K1)) | ((first | apply call_a E26 | apply call_q E26); exact (outs_calls _ fl hf' _ _); (refine hK1 _ ?_; clear hK1 K1)) | ((first | apply call_a E51 | apply call_q E51); exact (step_nil_at ok ⟨c, 0, 0, 0, 0, S⟩ _ _ hi ho _); (refine hK1 _ ?_; clear hK1 K1)) | (refine join_x (v := ?_) (fun hg hk9 => ?_) ?_; rotate_left; (focus (try ((try simp only [BN] at hg); simp only [S1, simprocAttr, TTTmJ, e1, e2, e3, e4, e5, e6, e7, e8, hil, hi0, hei, hin0, f0, f40, gk, hz', c0, hc', eN, takeA_sl0, gmC_net, TSz, z49_ne, z49_map, zS_len, takeA_arr, takeA_st, List.length_map, List.length_take, List.length_drop, pg_len, pg_get0, pg_geti, pg_set0, pg_seti, pg_b hb hne, pg_lb hl, pg_b0 hb hne, pg_lb0 hl, gmB, spB, gl, all_scalar, Nat.mul_one, Nat.zero_add, Nat.add_zero, Int.toNat_natCast, List.length_cons, List.length_nil, hg] at hk9 ⊢)); first | exact hk9 | ((first | apply call_a E25 | apply call_q E25); exact (ins_calls _ fl hf' _ _); exact hk9) | ((first | apply call_a E26 | apply call_q E26); exact (outs_calls _ fl hf' _ _); exact hk9) | ((first | apply call_a E51 | apply call_q E51); exact (step_nil_at ok ⟨c, 0, 0, 0, 0, S⟩ _ _ hi ho _); exact hk9)); (refine hK1 _ ?_; clear hK1 K1)) | (((first | (refine ⟨fun hg => hA ?_, fun hg => hB ?_⟩ <;> clear hA hB A B) | refine ⟨fun hg => ?_, fun hg => ?_⟩) <;> (try simp only [BN2] at hg) <;> (try simp only [hg, cond_true, cond_false])) <;> (try (refine hK1 _ ?_; clear hK1 K1)) <;> (try simp only [BN3] at hg))) | ((first | refine arun_q (v := ?_) rfl rfl rfl rfl (by decide) (fun R1 K1 hK1 => ?_) ?_ | refine arun_f (v := ?_) rfl rfl rfl (by decide) (fun K1 hK1 => ?_) ?_ | refine arunT_f (v := ?_) rfl rfl rfl (by decide) (fun K1 hK1 => ?_) ?_); rotate_left; (focus (simp only [S1, simprocAttr, TTTmJ, e1, e2, e3, e4, e5, e6, e7, e8, hil, hi0, hei, hin0, f0, f40, gk, hz', c0, hc', eN, takeA_sl0, gmC_net, TSz, z49_ne, z49_map, zS_len, takeA_arr, takeA_st, List.length_map, List.length_take, List.length_drop, pg_len, pg_get0, pg_geti, pg_set0, pg_seti, pg_b hb hne, pg_lb hl, pg_b0 hb hne, pg_lb0 hl, gmB, spB, gl, all_scalar, Nat.mul_one, Nat.zero_add, Nat.add_zero, Int.toNat_natCast, List.length_cons, List.length_nil]; first | (exact hK1 _ _ _) | ((first | apply call_a E25 | apply call_q E25); exact (ins_calls _ fl hf' _ _); exact hK1 _ _ _) | ((first | apply call_a E26 | apply call_q E26); exact (outs_calls _ fl hf' _ _); exact hK1 _ _ _) | ((first | apply call_a E51 | apply call_q E51); exact (step_nil_at ok ⟨c, 0, 0, 0, 0, S⟩ _ _ hi ho _); exact hK1 _ _ _)))) | (refine arun_tail rfl rfl rfl ?_) | ((first | refine arun_allocj (z := ?_) 0 rfl rfl rfl rfl (by decide) rfl ?_ ?_ | refine arun_allocj (z := ?_) 1 rfl rfl rfl rfl (by decide) rfl ?_ ?_ | refine arun_allocj (z := ?_) 2 rfl rfl rfl rfl (by decide) rfl ?_ ?_); rotate_left; (focus (simp only [S1, simprocAttr, TTTmJ, e1, e2, e3, e4, e5, e6, e7, e8, hil, hi0, hei, hin0, f0, f40, gk, hz', c0, hc', eN, takeA_sl0, gmC_net, TSz, z49_ne, z49_map, zS_len, takeA_arr, takeA_st, List.length_map, List.length_take, List.length_drop, pg_len, pg_get0, pg_geti, pg_set0, pg_seti, pg_b hb hne, pg_lb hl, pg_b0 hb hne, pg_lb0 hl, gmB, spB, gl, all_scalar, Nat.mul_one, Nat.zero_add, Nat.add_zero, Int.toNat_natCast, List.length_cons, List.length_nil, zeroB]; rfl))) | (refine awp_seq_k fun K hK => ?_) | (refine awp_drawQ [0, 1, 2, 3, 4, 5, 6, 7, 8, 9, 10, 11, 12, 13] (fs := []) rfl rfl (by kernel_rfl) (by kernel_rfl) ?_) | ((first | refine awp_region ?_ | refine awp_draw (by kernel_rfl) ?_ | refine awp_block ?_ | refine awp_exit ?_ | refine awp_skip ?_ | refine awp_ret ?_); (try simp only [NB, simprocAttr])))
  all_goals simp only [EndH, FinH, resA, resL, resA1, lastV, lastA, lastAs, pur, purs, pg_len, pg_take, pg_take0, List.length_append, List.length_cons, List.length_nil, S1, simprocAttr, Nat.le_add_right, Nat.le_refl] <;> first | exact pg_keep' hl | exact ⟨pg_keep' hl, rfl⟩ | exact ⟨pg_keep' hl, rfl, rfl⟩

theorem tnode_6b (nk : NetOk ns fl) (rt : Right ns fl) (ok : GmOk h b lb S l) (st : StOk S) (few : l.length ≤ 900000) (c : Nat) {k : Nd} (hc : ns[c]? = some k) (hk : k.kind = 6) (hin : (insN fl c).length ≠ 1) :
    ACalls Tryd.prog gW 49 [.ptr b 0 0, .i c] (putG h b lb ns fl S l) (fun r h' => r = .undef ∧ h' = putG h b lb ns fl S (l ++ nodeG ns fl S c k)) := by
  have hb := ok.hb
  have hl := ok.hl
  have hne := ok.ne
  have hS := ok.held.1
  have gl := gmC_len (ns := ns) (fl := fl) (lb := lb) (n := l.length) hS
  have gv := gmC_vars (ns := ns) (fl := fl) (lb := lb) (n := l.length) hS
  have t49 := gmC_state (ns := ns) (fl := fl) (lb := lb) (n := l.length) hS
  have c0 : (0 : Int) ≤ (c : Int) := by omega
  have hc' := rowN hc
  have hf := rt.f
  have hf' : fl.length ≤ 100 := by omega
  have hkd := rt.kind hc
  have hi := InF_ins hf c
  have ho := InF_outs hf c
  have hil : (((insN fl c).length : Int) == 1) = false := by simp; omega
  have e2 : (k.kind == 2) = false := by simp [hk]
  have e3 : (k.kind == 3) = false := by simp [hk]
  have e4 : (k.kind == 4) = false := by simp [hk]
  have e5 : (k.kind == 5) = false := by simp [hk]
  have e6 : (k.kind == 6) = true := by simp [hk]
  have e7 : (k.kind == 7) = false := by simp [hk]
  have e8 : (k.kind == 8) = false := by simp [hk]
  have e1 : (k.kind != 1) = true := by simp [hk]
  have eg : nodeG ns fl S c k = moveG S ⟨c, 0, 0, 0, 0, S⟩ (insN fl c) (outsN fl c) := by unfold nodeG; rw [if_neg (by omega), if_neg (by omega), if_neg (by omega), if_pos hk]
  have es := stF_move hS (m := ⟨c, 0, 0, 0, 0, S⟩) (Chg.id hS) hi ho
  simp only at es
  rw [eg, ← es]
  refine acalls_heap (rl := []) mixed Tryd.func49 rfl (rs := []) rfl Tryd.ntmps49 (by simp) ?_
  repeat' (first | ((first | refine aops_nil ?_ | refine aqops_nil ?_ | refine arun_nil ?_ | refine arunT_nil ?_); (try simp only [NB])) | ((repeat ((fail_if_success (refine hK _ ?_)); clear hK K)); refine hK _ ?_; clear hK K) | ((first | refine aops_k fun K1 hK1 => ?_ | refine aqops_k fun K1 hK1 => ?_ | refine arun_eff rfl rfl rfl fun K1 hK1 => ?_ | refine awp_cond_k fun A B hA hB => ?_); simp only [S1, simprocAttr, TTTmJ, e1, e2, e3, e4, e5, e6, e7, e8, hil, c0, hc', eN, takeA_sl0, gmC_net, TSz, z49_ne, z49_map, zS_len, takeA_arr, takeA_st, List.length_map, List.length_take, List.length_drop, pg_len, pg_get0, pg_geti, pg_set0, pg_seti, pg_b hb hne, pg_lb hl, pg_b0 hb hne, pg_lb0 hl, gmB, spB, gl, all_scalar, Nat.mul_one, Nat.zero_add, Nat.add_zero, Int.toNat_natCast, List.length_cons, List.length_nil]; first | (refine hK1 _ ?_; clear hK1 K1) | ((first | refine hA ?_ | refine hB ?_); clear hA hB A B) | ((first | apply call_a E25 | apply call_q E25); exact (ins_calls _ fl hf' _ _); (refine hK1 _ ?_; clear hK1 K1)) | ((first | apply call_a E26 | apply call_q E26); exact (outs_calls _ fl hf' _ _); (refine hK1 _ ?_; clear hK1 K1)) | ((first | apply call_a E51 | apply call_q E51); exact (step_nil_at ok ⟨c, 0, 0, 0, 0, S⟩ _ _ hi ho _); (refine hK1 _ ?_; clear hK1 K1)) | (refine join_x (v := ?_) (fun hg hk9 => ?_) ?_; rotate_left; (focus (try ((try simp only [BN] at hg); simp only [S1, simprocAttr, TTTmJ, e1, e2, e3, e4, e5, e6, e7, e8, hil, c0, hc', eN, takeA_sl0, gmC_net, TSz, z49_ne, z49_map, zS_len, takeA_arr, takeA_st, List.length_map, List.length_take, List.length_drop, pg_len, pg_get0, pg_geti, pg_set0, pg_seti, pg_b hb hne, pg_lb hl, pg_b0 hb hne, pg_lb0 hl, gmB, spB, gl, all_scalar, Nat.mul_one, Nat.zero_add, Nat.add_zero, Int.toNat_natCast, List.length_cons, List.length_nil, hg] at hk9 ⊢)); first | exact hk9 | ((first | apply call_a E25 | apply call_q E25); exact (ins_calls _ fl hf' _ _); exact hk9) | ((first | apply call_a E26 | apply call_q E26); exact (outs_calls _ fl hf' _ _); exact hk9) | ((first | apply call_a E51 | apply call_q E51); exact (step_nil_at ok ⟨c, 0, 0, 0, 0, S⟩ _ _ hi ho _); exact hk9)); (refine hK1 _ ?_; clear hK1 K1)) | (((first | (refine ⟨fun hg => hA ?_, fun hg => hB ?_⟩ <;> clear hA hB A B) | refine ⟨fun hg => ?_, fun hg => ?_⟩) <;> (try simp only [BN2] at hg) <;> (try simp only [hg, cond_true, cond_false])) <;> (try (refine hK1 _ ?_; clear hK1 K1)) <;> (try simp only [BN3] at hg))) | ((first | refine arun_q (v := ?_) rfl rfl rfl rfl (by decide) (fun R1 K1 hK1 => ?_) ?_ | refine arun_f (v := ?_) rfl rfl rfl (by decide) (fun K1 hK1 => ?_) ?_ | refine arunT_f (v := ?_) rfl rfl rfl (by decide) (fun K1 hK1 => ?_) ?_); rotate_left; (focus (simp only [S1, simprocAttr, TTTmJ, e1, e2, e3, e4, e5, e6, e7, e8, hil, c0, hc', eN, takeA_sl0, gmC_net, TSz, z49_ne, z49_map, zS_len, takeA_arr, takeA_st, List.length_map, List.length_take, List.length_drop, pg_len, pg_get0, pg_geti, pg_set0, pg_seti, pg_b hb hne, pg_lb hl, pg_b0 hb hne, pg_lb0 hl, gmB, spB, gl, all_scalar, Nat.mul_one, Nat.zero_add, Nat.add_zero, Int.toNat_natCast, List.length_cons, List.length_nil]; first | (exact hK1 _ _ _) | ((first | apply call_a E25 | apply call_q E25); exact (ins_calls _ fl hf' _ _); exact hK1 _ _ _) | ((first | apply call_a E26 | apply call_q E26); exact (outs_calls _ fl hf' _ _); exact hK1 _ _ _) | ((first | apply call_a E51 | apply call_q E51); exact (step_nil_at ok ⟨c, 0, 0, 0, 0, S⟩ _ _ hi ho _); exact hK1 _ _ _)))) | (refine arun_tail rfl rfl rfl ?_) | ((first | refine arun_allocj (z := ?_) 0 rfl rfl rfl rfl (by decide) rfl ?_ ?_ | refine arun_allocj (z := ?_) 1 rfl rfl rfl rfl (by decide) rfl ?_ ?_ | refine arun_allocj (z := ?_) 2 rfl rfl rfl rfl (by decide) rfl ?_ ?_); rotate_left; (focus (simp only [S1, simprocAttr, TTTmJ, e1, e2, e3, e4, e5, e6, e7, e8, hil, c0, hc', eN, takeA_sl0, gmC_net, TSz, z49_ne, z49_map, zS_len, takeA_arr, takeA_st, List.length_map, List.length_take, List.length_drop, pg_len, pg_get0, pg_geti, pg_set0, pg_seti, pg_b hb hne, pg_lb hl, pg_b0 hb hne, pg_lb0 hl, gmB, spB, gl, all_scalar, Nat.mul_one, Nat.zero_add, Nat.add_zero, Int.toNat_natCast, List.length_cons, List.length_nil, zeroB]; rfl))) | (refine awp_seq_k fun K hK => ?_) | (refine awp_drawQ [0, 1, 2, 3, 4, 5, 6, 7, 8, 9, 10, 11, 12, 13] (fs := []) rfl rfl (by kernel_rfl) (by kernel_rfl) ?_) | ((first | refine awp_region ?_ | refine awp_draw (by kernel_rfl) ?_ | refine awp_block ?_ | refine awp_exit ?_ | refine awp_skip ?_ | refine awp_ret ?_); (try simp only [NB, simprocAttr])))
  all_goals simp only [EndH, FinH, resA, resL, resA1, lastV, lastA, lastAs, pur, purs, pg_len, pg_take, pg_take0, List.length_append, List.length_cons, List.length_nil, S1, simprocAttr, Nat.le_add_right, Nat.le_refl] <;> first | exact pg_keep' hl | exact ⟨pg_keep' hl, rfl⟩ | exact ⟨pg_keep' hl, rfl, rfl⟩

theorem tnode_8 (nk : NetOk ns fl) (rt : Right ns fl) (ok : GmOk h b lb S l) (st : StOk S) (few : l.length ≤ 900000) (c : Nat) {k : Nd} (hc : ns[c]? = some k) (hk : k.kind = 8) (m : Nat) (hm : m < 40) (hin : insN fl c = [(m : Int)]) (h0 : tk S (m : Int) ≠ 0) :
    ACalls Tryd.prog gW 49 [.ptr b 0 0, .i c] (putG h b lb ns fl S l) (fun r h' => r = .undef ∧ h' = putG h b lb ns fl S (l ++ nodeG ns fl S c k)) := by
  have hb := ok.hb
  have hl := ok.hl
  have hne := ok.ne
  have hS := ok.held.1
  have gl := gmC_len (ns := ns) (fl := fl) (lb := lb) (n := l.length) hS
  have gv := gmC_vars (ns := ns) (fl := fl) (lb := lb) (n := l.length) hS
  have t49 := gmC_state (ns := ns) (fl := fl) (lb := lb) (n := l.length) hS
  have c0 : (0 : Int) ≤ (c : Int) := by omega
  have hc' := rowN hc
  have hf := rt.f
  have hf' : fl.length ≤ 100 := by omega
  have hkd := rt.kind hc
  have hi := InF_ins hf c
  have ho := InF_outs hf c
  obtain ⟨hv, v0, v3⟩ := ok.held.at hm
  have gk := gmC_at (ns := ns) (fl := fl) (lb := lb) (n := l.length) hv
  have f0 : (0 : Int) ≤ (m : Int) := by omega
  have f40 : (m : Int) < 40 := by omega
  have hz' : (tk S (m : Int) == 0) = false := by simp [h0]
  have hil : (((insN fl c).length : Int) == 1) = true := by rw [hin]; rfl
  have hi0 : (insN fl c)[0]? = some (m : Int) := by rw [hin]; rfl
  have hei : eI (m : Int) = [.int .i64 (m : Int)] := rfl
  have hin0 : (0 : Int) ≤ 0 := Int.le_refl 0
  have e2 : (k.kind == 2) = false := by simp [hk]
  have e3 : (k.kind == 3) = false := by simp [hk]
  have e4 : (k.kind == 4) = false := by simp [hk]
  have e5 : (k.kind == 5) = false := by simp [hk]
  have e6 : (k.kind == 6) = false := by simp [hk]
  have e7 : (k.kind == 7) = false := by simp [hk]
  have e8 : (k.kind == 8) = true := by simp [hk]
  have e1 : (k.kind != 1) = true := by simp [hk]
  have eg : nodeG ns fl S c k = catchG ns fl S c 0 c (insN fl c) := by unfold nodeG; rw [if_neg (by omega), if_neg (by omega), if_neg (by omega), if_neg (by omega), if_neg (by omega), if_pos hk]
  rw [eg]
  refine acalls_heap (rl := []) mixed Tryd.func49 rfl (rs := []) rfl Tryd.ntmps49 (by simp) ?_
  repeat' (first | ((first | refine aops_nil ?_ | refine aqops_nil ?_ | refine arun_nil ?_ | refine arunT_nil ?_); (try simp only [NB])) | ((repeat ((fail_if_success (refine hK _ ?_)); clear hK K)); refine hK _ ?_; clear hK K) | ((first | refine aops_k fun K1 hK1 => ?_ | refine aqops_k fun K1 hK1 => ?_ | refine arun_eff rfl rfl rfl fun K1 hK1 => ?_ | refine awp_cond_k fun A B hA hB => ?_); simp only [S1, simprocAttr, TTTmJ, e1, e2, e3, e4, e5, e6, e7, e8, hil, hi0, hei, hin0, f0, f40, gk, hz', c0, hc', eN, takeA_sl0, gmC_net, TSz, z49_ne, z49_map, zS_len, takeA_arr, takeA_st, List.length_map, List.length_take, List.length_drop, pg_len, pg_get0, pg_geti, pg_set0, pg_seti, pg_b hb hne, pg_lb hl, pg_b0 hb hne, pg_lb0 hl, gmB, spB, gl, all_scalar, Nat.mul_one, Nat.zero_add, Nat.add_zero, Int.toNat_natCast, List.length_cons, List.length_nil]; first | (refine hK1 _ ?_; clear hK1 K1) | ((first | refine hA ?_ | refine hB ?_); clear hA hB A B) | ((first | apply call_a E25 | apply call_q E25); exact (ins_calls _ fl hf' _ _); (refine hK1 _ ?_; clear hK1 K1)) | ((first | apply call_a E26 | apply call_q E26); exact (outs_calls _ fl hf' _ _); (refine hK1 _ ?_; clear hK1 K1)) | ((first | apply call_a E77 | apply call_q E77); exact (tcatch_at ok st ⟨c, 0, 0, 0, 0, S⟩ c hc ⟨hkd.2.1, hkd.2.2.2⟩ _ hi _ ho rfl _); (refine hK1 _ ?_; clear hK1 K1)) | (refine join_x (v := ?_) (fun hg hk9 => ?_) ?_; rotate_left; (focus (try ((try simp only [BN] at hg); simp only [S1, simprocAttr, TTTmJ, e1, e2, e3, e4, e5, e6, e7, e8, hil, hi0, hei, hin0, f0, f40, gk, hz', c0, hc', eN, takeA_sl0, gmC_net, TSz, z49_ne, z49_map, zS_len, takeA_arr, takeA_st, List.length_map, List.length_take, List.length_drop, pg_len, pg_get0, pg_geti, pg_set0, pg_seti, pg_b hb hne, pg_lb hl, pg_b0 hb hne, pg_lb0 hl, gmB, spB, gl, all_scalar, Nat.mul_one, Nat.zero_add, Nat.add_zero, Int.toNat_natCast, List.length_cons, List.length_nil, hg] at hk9 ⊢)); first | exact hk9 | ((first | apply call_a E25 | apply call_q E25); exact (ins_calls _ fl hf' _ _); exact hk9) | ((first | apply call_a E26 | apply call_q E26); exact (outs_calls _ fl hf' _ _); exact hk9) | ((first | apply call_a E77 | apply call_q E77); exact (tcatch_at ok st ⟨c, 0, 0, 0, 0, S⟩ c hc ⟨hkd.2.1, hkd.2.2.2⟩ _ hi _ ho rfl _); exact hk9)); (refine hK1 _ ?_; clear hK1 K1)) | (((first | (refine ⟨fun hg => hA ?_, fun hg => hB ?_⟩ <;> clear hA hB A B) | refine ⟨fun hg => ?_, fun hg => ?_⟩) <;> (try simp only [BN2] at hg) <;> (try simp only [hg, cond_true, cond_false])) <;> (try (refine hK1 _ ?_; clear hK1 K1)) <;> (try simp only [BN3] at hg))) | ((first | refine arun_q (v := ?_) rfl rfl rfl rfl (by decide) (fun R1 K1 hK1 => ?_) ?_ | refine arun_f (v := ?_) rfl rfl rfl (by decide) (fun K1 hK1 => ?_) ?_ | refine arunT_f (v := ?_) rfl rfl rfl (by decide) (fun K1 hK1 => ?_) ?_); rotate_left; (focus (simp only [S1, simprocAttr, TTTmJ, e1, e2, e3, e4, e5, e6, e7, e8, hil, hi0, hei, hin0, f0, f40, gk, hz', c0, hc', eN, takeA_sl0, gmC_net, TSz, z49_ne, z49_map, zS_len, takeA_arr, takeA_st, List.length_map, List.length_take, List.length_drop, pg_len, pg_get0, pg_geti, pg_set0, pg_seti, pg_b hb hne, pg_lb hl, pg_b0 hb hne, pg_lb0 hl, gmB, spB, gl, all_scalar, Nat.mul_one, Nat.zero_add, Nat.add_zero, Int.toNat_natCast, List.length_cons, List.length_nil]; first | (exact hK1 _ _ _) | ((first | apply call_a E25 | apply call_q E25); exact (ins_calls _ fl hf' _ _); exact hK1 _ _ _) | ((first | apply call_a E26 | apply call_q E26); exact (outs_calls _ fl hf' _ _); exact hK1 _ _ _) | ((first | apply call_a E77 | apply call_q E77); exact (tcatch_at ok st ⟨c, 0, 0, 0, 0, S⟩ c hc ⟨hkd.2.1, hkd.2.2.2⟩ _ hi _ ho rfl _); exact hK1 _ _ _)))) | (refine arun_tail rfl rfl rfl ?_) | ((first | refine arun_allocj (z := ?_) 0 rfl rfl rfl rfl (by decide) rfl ?_ ?_ | refine arun_allocj (z := ?_) 1 rfl rfl rfl rfl (by decide) rfl ?_ ?_ | refine arun_allocj (z := ?_) 2 rfl rfl rfl rfl (by decide) rfl ?_ ?_); rotate_left; (focus (simp only [S1, simprocAttr, TTTmJ, e1, e2, e3, e4, e5, e6, e7, e8, hil, hi0, hei, hin0, f0, f40, gk, hz', c0, hc', eN, takeA_sl0, gmC_net, TSz, z49_ne, z49_map, zS_len, takeA_arr, takeA_st, List.length_map, List.length_take, List.length_drop, pg_len, pg_get0, pg_geti, pg_set0, pg_seti, pg_b hb hne, pg_lb hl, pg_b0 hb hne, pg_lb0 hl, gmB, spB, gl, all_scalar, Nat.mul_one, Nat.zero_add, Nat.add_zero, Int.toNat_natCast, List.length_cons, List.length_nil, zeroB]; rfl))) | (refine awp_seq_k fun K hK => ?_) | (refine awp_drawQ [0, 1, 2, 3, 4, 5, 6, 7, 8, 9, 10, 11, 12, 13] (fs := []) rfl rfl (by kernel_rfl) (by kernel_rfl) ?_) | ((first | refine awp_region ?_ | refine awp_draw (by kernel_rfl) ?_ | refine awp_block ?_ | refine awp_exit ?_ | refine awp_skip ?_ | refine awp_ret ?_); (try simp only [NB, simprocAttr])))
  all_goals simp only [EndH, FinH, resA, resL, resA1, lastV, lastA, lastAs, pur, purs, pg_len, pg_take, pg_take0, List.length_append, List.length_cons, List.length_nil, S1, simprocAttr, Nat.le_add_right, Nat.le_refl] <;> first | exact pg_keep' hl | exact ⟨pg_keep' hl, rfl⟩ | exact ⟨pg_keep' hl, rfl, rfl⟩
end
end Go.Proofs.YtjpphhcimpclpaaDoor.AM
end

section
set_option linter.unusedVariables false
set_option linter.unusedSimpArgs false
set_option maxRecDepth 4000
set_option maxHeartbeats 4000000
namespace Go.Proofs.YtjpphhcimpclpaaDoor.AM
open Go Go.Proofs
set_option linter.defProp false in
def TTTmK := And.intro T2 (And.intro T3 (And.intro T4 (And.intro T22 (And.intro T23 (And.intro T25 (And.intro T26 (And.intro T27 (And.intro T31 (And.intro T40 (And.intro T46 (And.intro T53 (And.intro T58 (And.intro T60 (And.intro T71 (And.intro T95 (And.intro T98 (And.intro T111 (And.intro T113 (And.intro T116 T117)))))))))))))))))))
attribute [local irreducible] awp aops aqops aeops arun arunT

section
variable {h : Heap} {b lb : Nat} {ns : List Nd} {fl : List Fl} {S : List Int} {l : List Sp}

theorem tnode_2 (nk : NetOk ns fl) (rt : Right ns fl) (ok : GmOk h b lb S l) (st : StOk S) (few : l.length ≤ 900000) (c : Nat) {k : Nd} (hc : ns[c]? = some k) (hk : k.kind = 2) (m : Nat) (hm : m < 40) (hin : insN fl c = [(m : Int)]) (h0 : tk S (m : Int) ≠ 0) :
    ACalls Tryd.prog gW 49 [.ptr b 0 0, .i c] (putG h b lb ns fl S l) (fun r h' => r = .undef ∧ h' = putG h b lb ns fl S (l ++ nodeG ns fl S c k)) := by
  have hb := ok.hb
  have hl := ok.hl
  have hne := ok.ne
  have hS := ok.held.1
  have gl := gmC_len (ns := ns) (fl := fl) (lb := lb) (n := l.length) hS
  have gv := gmC_vars (ns := ns) (fl := fl) (lb := lb) (n := l.length) hS
  have t49 := gmC_state (ns := ns) (fl := fl) (lb := lb) (n := l.length) hS
  have c0 : (0 : Int) ≤ (c : Int) := by omega
  have hc' := rowN hc
  have hf := rt.f
  have hf' : fl.length ≤ 100 := by omega
  have hkd := rt.kind hc
  have hi := InF_ins hf c
  have ho := InF_outs hf c
  obtain ⟨hv, v0, v3⟩ := ok.held.at hm
  have gk := gmC_at (ns := ns) (fl := fl) (lb := lb) (n := l.length) hv
  have f0 : (0 : Int) ≤ (m : Int) := by omega
  have f40 : (m : Int) < 40 := by omega
  have hz' : (tk S (m : Int) == 0) = false := by simp [h0]
  have hil : (((insN fl c).length : Int) == 1) = true := by rw [hin]; rfl
  have hi0 : (insN fl c)[0]? = some (m : Int) := by rw [hin]; rfl
  have hei : eI (m : Int) = [.int .i64 (m : Int)] := rfl
  have hin0 : (0 : Int) ≤ 0 := Int.le_refl 0
  have e2 : (k.kind == 2) = true := by simp [hk]
  have e3 : (k.kind == 3) = false := by simp [hk]
  have e4 : (k.kind == 4) = false := by simp [hk]
  have e5 : (k.kind == 5) = false := by simp [hk]
  have e6 : (k.kind == 6) = false := by simp [hk]
  have e7 : (k.kind == 7) = false := by simp [hk]
  have e8 : (k.kind == 8) = false := by simp [hk]
  have e1 : (k.kind != 1) = true := by simp [hk]
  have hw9 := fun h => tTokens_calls (G := gW) S hS h
  by_cases hw : sumW (S.take 40) = 1
  · have eg : nodeG ns fl S c k = moveG S ⟨c, 0, 7, 0, 0, S.set 48 1⟩ (insN fl c) [] := by unfold nodeG lastG; rw [if_pos hk, if_pos hw]
    have hw' : (sumW (S.take 40) == 1) = true := by simp [hw]
    have es := stF_move hS (m := ⟨c, 0, 7, 0, 0, S⟩) (Chg.set hS (k := 48) (by omega) 1) hi (to := []) ⟨by simp, by simp⟩
    simp only at es
    rw [eg, ← es]
    have hst := fun X Y => step_fn_n (ns := ns) (fl := fl) ok ⟨c, 0, 7, 0, 0, S⟩ (insN fl c) hi [X, Y] E78 (caps := []) trivial (fun T hT => by rw [List.length_set, hT]) (fun A T hT _ => setm_at X Y A T hT)
    refine acalls_heap (rl := []) mixed Tryd.func49 rfl (rs := []) rfl Tryd.ntmps49 (by simp) ?_
    repeat' (first | ((first | refine aops_nil ?_ | refine aqops_nil ?_ | refine arun_nil ?_ | refine arunT_nil ?_); (try simp only [NB])) | ((repeat ((fail_if_success (refine hK _ ?_)); clear hK K)); refine hK _ ?_; clear hK K) | ((first | refine aops_k fun K1 hK1 => ?_ | refine aqops_k fun K1 hK1 => ?_ | refine arun_eff rfl rfl rfl fun K1 hK1 => ?_ | refine awp_cond_k fun A B hA hB => ?_); simp only [S1, simprocAttr, TTTmK, e1, e2, e3, e4, e5, e6, e7, e8, hil, hi0, hei, hin0, f0, f40, gk, hz', hw', t49, c0, hc', eN, takeA_sl0, gmC_net, TSz, z49_ne, z49_map, zS_len, takeA_arr, takeA_st, List.length_map, List.length_take, List.length_drop, pg_len, pg_get0, pg_geti, pg_set0, pg_seti, pg_b hb hne, pg_lb hl, pg_b0 hb hne, pg_lb0 hl, gmB, spB, gl, all_scalar, Nat.mul_one, Nat.zero_add, Nat.add_zero, Int.toNat_natCast, List.length_cons, List.length_nil]; first | (refine hK1 _ ?_; clear hK1 K1) | ((first | refine hA ?_ | refine hB ?_); clear hA hB A B) | ((first | apply call_a E25 | apply call_q E25); exact (ins_calls _ fl hf' _ _); (refine hK1 _ ?_; clear hK1 K1)) | ((first | apply call_a E26 | apply call_q E26); exact (outs_calls _ fl hf' _ _); (refine hK1 _ ?_; clear hK1 K1)) | ((first | apply call_a E19 | apply call_q E19); exact (hw9 _); (refine hK1 _ ?_; clear hK1 K1)) | ((first | apply call_a E51 | apply call_q E51); exact (hst _ _); (refine hK1 _ ?_; clear hK1 K1)) | (refine join_x (v := ?_) (fun hg hk9 => ?_) ?_; rotate_left; (focus (try ((try simp only [BN] at hg); simp only [S1, simprocAttr, TTTmK, e1, e2, e3, e4, e5, e6, e7, e8, hil, hi0, hei, hin0, f0, f40, gk, hz', hw', t49, c0, hc', eN, takeA_sl0, gmC_net, TSz, z49_ne, z49_map, zS_len, takeA_arr, takeA_st, List.length_map, List.length_take, List.length_drop, pg_len, pg_get0, pg_geti, pg_set0, pg_seti, pg_b hb hne, pg_lb hl, pg_b0 hb hne, pg_lb0 hl, gmB, spB, gl, all_scalar, Nat.mul_one, Nat.zero_add, Nat.add_zero, Int.toNat_natCast, List.length_cons, List.length_nil, hg] at hk9 ⊢)); first | exact hk9 | ((first | apply call_a E25 | apply call_q E25); exact (ins_calls _ fl hf' _ _); exact hk9) | ((first | apply call_a E26 | apply call_q E26); exact (outs_calls _ fl hf' _ _); exact hk9) | ((first | apply call_a E19 | apply call_q E19); exact (hw9 _); exact hk9) | ((first | apply call_a E51 | apply call_q E51); exact (hst _ _); exact hk9)); (refine hK1 _ ?_; clear hK1 K1)) | (((first | (refine ⟨fun hg => hA ?_, fun hg => hB ?_⟩ <;> clear hA hB A B) | refine ⟨fun hg => ?_, fun hg => ?_⟩) <;> (try simp only [BN2] at hg) <;> (try simp only [hg, cond_true, cond_false])) <;> (try (refine hK1 _ ?_; clear hK1 K1)) <;> (try simp only [BN3] at hg))) | ((first | refine arun_q (v := ?_) rfl rfl rfl rfl (by decide) (fun R1 K1 hK1 => ?_) ?_ | refine arun_f (v := ?_) rfl rfl rfl (by decide) (fun K1 hK1 => ?_) ?_ | refine arunT_f (v := ?_) rfl rfl rfl (by decide) (fun K1 hK1 => ?_) ?_); rotate_left; (focus (simp only [S1, simprocAttr, TTTmK, e1, e2, e3, e4, e5, e6, e7, e8, hil, hi0, hei, hin0, f0, f40, gk, hz', hw', t49, c0, hc', eN, takeA_sl0, gmC_net, TSz, z49_ne, z49_map, zS_len, takeA_arr, takeA_st, List.length_map, List.length_take, List.length_drop, pg_len, pg_get0, pg_geti, pg_set0, pg_seti, pg_b hb hne, pg_lb hl, pg_b0 hb hne, pg_lb0 hl, gmB, spB, gl, all_scalar, Nat.mul_one, Nat.zero_add, Nat.add_zero, Int.toNat_natCast, List.length_cons, List.length_nil]; first | (exact hK1 _ _ _) | ((first | apply call_a E25 | apply call_q E25); exact (ins_calls _ fl hf' _ _); exact hK1 _ _ _) | ((first | apply call_a E26 | apply call_q E26); exact (outs_calls _ fl hf' _ _); exact hK1 _ _ _) | ((first | apply call_a E19 | apply call_q E19); exact (hw9 _); exact hK1 _ _ _) | ((first | apply call_a E51 | apply call_q E51); exact (hst _ _); exact hK1 _ _ _)))) | (refine arun_tail rfl rfl rfl ?_) | ((first | refine arun_allocj (z := ?_) 0 rfl rfl rfl rfl (by decide) rfl ?_ ?_ | refine arun_allocj (z := ?_) 1 rfl rfl rfl rfl (by decide) rfl ?_ ?_ | refine arun_allocj (z := ?_) 2 rfl rfl rfl rfl (by decide) rfl ?_ ?_); rotate_left; (focus (simp only [S1, simprocAttr, TTTmK, e1, e2, e3, e4, e5, e6, e7, e8, hil, hi0, hei, hin0, f0, f40, gk, hz', hw', t49, c0, hc', eN, takeA_sl0, gmC_net, TSz, z49_ne, z49_map, zS_len, takeA_arr, takeA_st, List.length_map, List.length_take, List.length_drop, pg_len, pg_get0, pg_geti, pg_set0, pg_seti, pg_b hb hne, pg_lb hl, pg_b0 hb hne, pg_lb0 hl, gmB, spB, gl, all_scalar, Nat.mul_one, Nat.zero_add, Nat.add_zero, Int.toNat_natCast, List.length_cons, List.length_nil, zeroB]; rfl))) | (refine awp_seq_k fun K hK => ?_) | (refine awp_drawQ [0, 1, 2, 3, 4, 5, 6, 7, 8, 9, 10, 11, 12, 13] (fs := []) rfl rfl (by kernel_rfl) (by kernel_rfl) ?_) | ((first | refine awp_region ?_ | refine awp_draw (by kernel_rfl) ?_ | refine awp_block ?_ | refine awp_exit ?_ | refine awp_skip ?_ | refine awp_ret ?_); (try simp only [NB, simprocAttr])))
    all_goals simp only [EndH, FinH, resA, resL, resA1, lastV, lastA, lastAs, pur, purs, pg_len, pg_take, pg_take0, List.length_append, List.length_cons, List.length_nil, S1, simprocAttr, Nat.le_add_right, Nat.le_refl] <;> first | exact pg_keep' hl | exact ⟨pg_keep' hl, rfl⟩ | exact ⟨pg_keep' hl, rfl, rfl⟩
  · have eg : nodeG ns fl S c k = moveG S ⟨c, 0, 0, 0, 0, S⟩ (insN fl c) [] := by unfold nodeG lastG; rw [if_pos hk, if_neg hw]
    have hw' : (sumW (S.take 40) == 1) = false := by simp [hw]
    have es := stF_move hS (m := ⟨c, 0, 0, 0, 0, S⟩) (Chg.id hS) hi (to := []) ⟨by simp, by simp⟩
    simp only at es
    rw [eg, ← es]
    refine acalls_heap (rl := []) mixed Tryd.func49 rfl (rs := []) rfl Tryd.ntmps49 (by simp) ?_
    repeat' (first | ((first | refine aops_nil ?_ | refine aqops_nil ?_ | refine arun_nil ?_ | refine arunT_nil ?_); (try simp only [NB])) | ((repeat ((fail_if_success (refine hK _ ?_)); clear hK K)); refine hK _ ?_; clear hK K) | ((first | refine aops_k fun K1 hK1 => ?_ | refine aqops_k fun K1 hK1 => ?_ | refine arun_eff rfl rfl rfl fun K1 hK1 => ?_ | refine awp_cond_k fun A B hA hB => ?_); simp only [S1, simprocAttr, TTTmK, e1, e2, e3, e4, e5, e6, e7, e8, hil, hi0, hei, hin0, f0, f40, gk, hz', hw', t49, c0, hc', eN, takeA_sl0, gmC_net, TSz, z49_ne, z49_map, zS_len, takeA_arr, takeA_st, List.length_map, List.length_take, List.length_drop, pg_len, pg_get0, pg_geti, pg_set0, pg_seti, pg_b hb hne, pg_lb hl, pg_b0 hb hne, pg_lb0 hl, gmB, spB, gl, all_scalar, Nat.mul_one, Nat.zero_add, Nat.add_zero, Int.toNat_natCast, List.length_cons, List.length_nil]; first | (refine hK1 _ ?_; clear hK1 K1) | ((first | refine hA ?_ | refine hB ?_); clear hA hB A B) | ((first | apply call_a E25 | apply call_q E25); exact (ins_calls _ fl hf' _ _); (refine hK1 _ ?_; clear hK1 K1)) | ((first | apply call_a E26 | apply call_q E26); exact (outs_calls _ fl hf' _ _); (refine hK1 _ ?_; clear hK1 K1)) | ((first | apply call_a E19 | apply call_q E19); exact (hw9 _); (refine hK1 _ ?_; clear hK1 K1)) | ((first | apply call_a E51 | apply call_q E51); exact (step_nil_n ok ⟨c, 0, 0, 0, 0, S⟩ _ hi _); (refine hK1 _ ?_; clear hK1 K1)) | (refine join_x (v := ?_) (fun hg hk9 => ?_) ?_; rotate_left; (focus (try ((try simp only [BN] at hg); simp only [S1, simprocAttr, TTTmK, e1, e2, e3, e4, e5, e6, e7, e8, hil, hi0, hei, hin0, f0, f40, gk, hz', hw', t49, c0, hc', eN, takeA_sl0, gmC_net, TSz, z49_ne, z49_map, zS_len, takeA_arr, takeA_st, List.length_map, List.length_take, List.length_drop, pg_len, pg_get0, pg_geti, pg_set0, pg_seti, pg_b hb hne, pg_lb hl, pg_b0 hb hne, pg_lb0 hl, gmB, spB, gl, all_scalar, Nat.mul_one, Nat.zero_add, Nat.add_zero, Int.toNat_natCast, List.length_cons, List.length_nil, hg] at hk9 ⊢)); first | exact hk9 | ((first | apply call_a E25 | apply call_q E25); exact (ins_calls _ fl hf' _ _); exact hk9) | ((first | apply call_a E26 | apply call_q E26); exact (outs_calls _ fl hf' _ _); exact hk9) | ((first | apply call_a E19 | apply call_q E19); exact (hw9 _); exact hk9) | ((first | apply call_a E51 | apply call_q E51); exact (step_nil_n ok ⟨c, 0, 0, 0, 0, S⟩ _ hi _); exact hk9)); (refine hK1 _ ?_; clear hK1 K1)) | (((first | (refine ⟨fun hg => hA ?_, fun hg => hB ?_⟩ <;> clear hA hB A B) | refine ⟨fun hg => ?_, fun hg => ?_⟩) <;> (try simp only [BN2] at hg) <;> (try simp only [hg, cond_true, cond_false])) <;> (try (refine hK1 _ ?_; clear hK1 K1)) <;> (try simp only [BN3] at hg))) | ((first | refine arun_q (v := ?_) rfl rfl rfl rfl (by decide) (fun R1 K1 hK1 => ?_) ?_ | refine arun_f (v := ?_) rfl rfl rfl (by decide) (fun K1 hK1 => ?_) ?_ | refine arunT_f (v := ?_) rfl rfl rfl (by decide) (fun K1 hK1 => ?_) ?_); rotate_left; (focus (simp only [S1, simprocAttr, TTTmK, e1, e2, e3, e4, e5, e6, e7, e8, hil, hi0, hei, hin0, f0, f40, gk, hz', hw', t49, c0, hc', eN, takeA_sl0, gmC_net, TSz, z49_ne, z49_map, zS_len, takeA_arr, takeA_st, List.length_map, List.length_take, List.length_drop, pg_len, pg_get0, pg_geti, pg_set0, pg_seti, pg_b hb hne, pg_lb hl, pg_b0 hb hne, pg_lb0 hl, gmB, spB, gl, all_scalar, Nat.mul_one, Nat.zero_add, Nat.add_zero, Int.toNat_natCast, List.length_cons, List.length_nil]; first | (exact hK1 _ _ _) | ((first | apply call_a E25 | apply call_q E25); exact (ins_calls _ fl hf' _ _); exact hK1 _ _ _) | ((first | apply call_a E26 | apply call_q E26); exact (outs_calls _ fl hf' _ _); exact hK1 _ _ _) | ((first | apply call_a E19 | apply call_q E19); exact (hw9 _); exact hK1 _ _ _) | ((first | apply call_a E51 | apply call_q E51); exact (step_nil_n ok ⟨c, 0, 0, 0, 0, S⟩ _ hi _); exact hK1 _ _ _)))) | (refine arun_tail rfl rfl rfl ?_) | ((first | refine arun_allocj (z := ?_) 0 rfl rfl rfl rfl (by decide) rfl ?_ ?_ | refine arun_allocj (z := ?_) 1 rfl rfl rfl rfl (by decide) rfl ?_ ?_ | refine arun_allocj (z := ?_) 2 rfl rfl rfl rfl (by decide) rfl ?_ ?_); rotate_left; (focus (simp only [S1, simprocAttr, TTTmK, e1, e2, e3, e4, e5, e6, e7, e8, hil, hi0, hei, hin0, f0, f40, gk, hz', hw', t49, c0, hc', eN, takeA_sl0, gmC_net, TSz, z49_ne, z49_map, zS_len, takeA_arr, takeA_st, List.length_map, List.length_take, List.length_drop, pg_len, pg_get0, pg_geti, pg_set0, pg_seti, pg_b hb hne, pg_lb hl, pg_b0 hb hne, pg_lb0 hl, gmB, spB, gl, all_scalar, Nat.mul_one, Nat.zero_add, Nat.add_zero, Int.toNat_natCast, List.length_cons, List.length_nil, zeroB]; rfl))) | (refine awp_seq_k fun K hK => ?_) | (refine awp_drawQ [0, 1, 2, 3, 4, 5, 6, 7, 8, 9, 10, 11, 12, 13] (fs := []) rfl rfl (by kernel_rfl) (by kernel_rfl) ?_) | ((first | refine awp_region ?_ | refine awp_draw (by kernel_rfl) ?_ | refine awp_block ?_ | refine awp_exit ?_ | refine awp_skip ?_ | refine awp_ret ?_); (try simp only [NB, simprocAttr])))
    all_goals simp only [EndH, FinH, resA, resL, resA1, lastV, lastA, lastAs, pur, purs, pg_len, pg_take, pg_take0, List.length_append, List.length_cons, List.length_nil, S1, simprocAttr, Nat.le_add_right, Nat.le_refl] <;> first | exact pg_keep' hl | exact ⟨pg_keep' hl, rfl⟩ | exact ⟨pg_keep' hl, rfl, rfl⟩

theorem tnode_1 (nk : NetOk ns fl) (rt : Right ns fl) (ok : GmOk h b lb S l) (st : StOk S) (few : l.length ≤ 900000) (c : Nat) {k : Nd} (hc : ns[c]? = some k) (hk : k.kind = 1) :
    ACalls Tryd.prog gW 49 [.ptr b 0 0, .i c] (putG h b lb ns fl S l) (fun r h' => r = .undef ∧ h' = putG h b lb ns fl S (l ++ nodeG ns fl S c k)) := by
  have hb := ok.hb
  have hl := ok.hl
  have hne := ok.ne
  have hS := ok.held.1
  have gl := gmC_len (ns := ns) (fl := fl) (lb := lb) (n := l.length) hS
  have gv := gmC_vars (ns := ns) (fl := fl) (lb := lb) (n := l.length) hS
  have t49 := gmC_state (ns := ns) (fl := fl) (lb := lb) (n := l.length) hS
  have c0 : (0 : Int) ≤ (c : Int) := by omega
  have hc' := rowN hc
  have hf := rt.f
  have hf' : fl.length ≤ 100 := by omega
  have hkd := rt.kind hc
  have hi := InF_ins hf c
  have ho := InF_outs hf c
  have e2 : (k.kind == 2) = false := by simp [hk]
  have e3 : (k.kind == 3) = false := by simp [hk]
  have e4 : (k.kind == 4) = false := by simp [hk]
  have e5 : (k.kind == 5) = false := by simp [hk]
  have e6 : (k.kind == 6) = false := by simp [hk]
  have e7 : (k.kind == 7) = false := by simp [hk]
  have e8 : (k.kind == 8) = false := by simp [hk]
  have e1 : (k.kind != 1) = false := by simp [hk]
  have eg : nodeG ns fl S c k = [] := by unfold nodeG; rw [if_neg (by omega), if_neg (by omega), if_neg (by omega), if_neg (by omega), if_neg (by omega), if_neg (by omega)]
  rw [eg, List.append_nil]
  refine acalls_heap (rl := []) mixed Tryd.func49 rfl (rs := []) rfl Tryd.ntmps49 (by simp) ?_
  repeat' (first | ((first | refine aops_nil ?_ | refine aqops_nil ?_ | refine arun_nil ?_ | refine arunT_nil ?_); (try simp only [NB])) | ((repeat ((fail_if_success (refine hK _ ?_)); clear hK K)); refine hK _ ?_; clear hK K) | ((first | refine aops_k fun K1 hK1 => ?_ | refine aqops_k fun K1 hK1 => ?_ | refine arun_eff rfl rfl rfl fun K1 hK1 => ?_ | refine awp_cond_k fun A B hA hB => ?_); simp only [S1, simprocAttr, TTTmK, e1, e2, e3, e4, e5, e6, e7, e8, c0, hc', eN, takeA_sl0, gmC_net, TSz, z49_ne, z49_map, zS_len, takeA_arr, takeA_st, List.length_map, List.length_take, List.length_drop, pg_len, pg_get0, pg_geti, pg_set0, pg_seti, pg_b hb hne, pg_lb hl, pg_b0 hb hne, pg_lb0 hl, gmB, spB, gl, all_scalar, Nat.mul_one, Nat.zero_add, Nat.add_zero, Int.toNat_natCast, List.length_cons, List.length_nil]; first | (refine hK1 _ ?_; clear hK1 K1) | ((first | refine hA ?_ | refine hB ?_); clear hA hB A B) | ((first | apply call_a E25 | apply call_q E25); exact (ins_calls _ fl hf' _ _); (refine hK1 _ ?_; clear hK1 K1)) | ((first | apply call_a E26 | apply call_q E26); exact (outs_calls _ fl hf' _ _); (refine hK1 _ ?_; clear hK1 K1)) | (refine join_x (v := ?_) (fun hg hk9 => ?_) ?_; rotate_left; (focus (try ((try simp only [BN] at hg); simp only [S1, simprocAttr, TTTmK, e1, e2, e3, e4, e5, e6, e7, e8, c0, hc', eN, takeA_sl0, gmC_net, TSz, z49_ne, z49_map, zS_len, takeA_arr, takeA_st, List.length_map, List.length_take, List.length_drop, pg_len, pg_get0, pg_geti, pg_set0, pg_seti, pg_b hb hne, pg_lb hl, pg_b0 hb hne, pg_lb0 hl, gmB, spB, gl, all_scalar, Nat.mul_one, Nat.zero_add, Nat.add_zero, Int.toNat_natCast, List.length_cons, List.length_nil, hg] at hk9 ⊢)); first | exact hk9 | ((first | apply call_a E25 | apply call_q E25); exact (ins_calls _ fl hf' _ _); exact hk9) | ((first | apply call_a E26 | apply call_q E26); exact (outs_calls _ fl hf' _ _); exact hk9)); (refine hK1 _ ?_; clear hK1 K1)) | (((first | (refine ⟨fun hg => hA ?_, fun hg => hB ?_⟩ <;> clear hA hB A B) | refine ⟨fun hg => ?_, fun hg => ?_⟩) <;> (try simp only [BN2] at hg) <;> (try simp only [hg, cond_true, cond_false])) <;> (try (refine hK1 _ ?_; clear hK1 K1)) <;> (try simp only [BN3] at hg))) | ((first | refine arun_q (v := ?_) rfl rfl rfl rfl (by decide) (fun R1 K1 hK1 => ?_) ?_ | refine arun_f (v := ?_) rfl rfl rfl (by decide) (fun K1 hK1 => ?_) ?_ | refine arunT_f (v := ?_) rfl rfl rfl (by decide) (fun K1 hK1 => ?_) ?_); rotate_left; (focus (simp only [S1, simprocAttr, TTTmK, e1, e2, e3, e4, e5, e6, e7, e8, c0, hc', eN, takeA_sl0, gmC_net, TSz, z49_ne, z49_map, zS_len, takeA_arr, takeA_st, List.length_map, List.length_take, List.length_drop, pg_len, pg_get0, pg_geti, pg_set0, pg_seti, pg_b hb hne, pg_lb hl, pg_b0 hb hne, pg_lb0 hl, gmB, spB, gl, all_scalar, Nat.mul_one, Nat.zero_add, Nat.add_zero, Int.toNat_natCast, List.length_cons, List.length_nil]; first | (exact hK1 _ _ _) | ((first | apply call_a E25 | apply call_q E25); exact (ins_calls _ fl hf' _ _); exact hK1 _ _ _) | ((first | apply call_a E26 | apply call_q E26); exact (outs_calls _ fl hf' _ _); exact hK1 _ _ _)))) | (refine arun_tail rfl rfl rfl ?_) | ((first | refine arun_allocj (z := ?_) 0 rfl rfl rfl rfl (by decide) rfl ?_ ?_ | refine arun_allocj (z := ?_) 1 rfl rfl rfl rfl (by decide) rfl ?_ ?_ | refine arun_allocj (z := ?_) 2 rfl rfl rfl rfl (by decide) rfl ?_ ?_); rotate_left; (focus (simp only [S1, simprocAttr, TTTmK, e1, e2, e3, e4, e5, e6, e7, e8, c0, hc', eN, takeA_sl0, gmC_net, TSz, z49_ne, z49_map, zS_len, takeA_arr, takeA_st, List.length_map, List.length_take, List.length_drop, pg_len, pg_get0, pg_geti, pg_set0, pg_seti, pg_b hb hne, pg_lb hl, pg_b0 hb hne, pg_lb0 hl, gmB, spB, gl, all_scalar, Nat.mul_one, Nat.zero_add, Nat.add_zero, Int.toNat_natCast, List.length_cons, List.length_nil, zeroB]; rfl))) | (refine awp_seq_k fun K hK => ?_) | (refine awp_drawQ [0, 1, 2, 3, 4, 5, 6, 7, 8, 9, 10, 11, 12, 13] (fs := []) rfl rfl (by kernel_rfl) (by kernel_rfl) ?_) | ((first | refine awp_region ?_ | refine awp_draw (by kernel_rfl) ?_ | refine awp_block ?_ | refine awp_exit ?_ | refine awp_skip ?_ | refine awp_ret ?_); (try simp only [NB, simprocAttr])))
  all_goals simp only [EndH, FinH, resA, resL, resA1, lastV, lastA, lastAs, pur, purs, pg_len, pg_take, pg_take0, List.length_append, List.length_cons, List.length_nil, S1, simprocAttr, Nat.le_add_right, Nat.le_refl] <;> first | exact pg_keep' hl | exact ⟨pg_keep' hl, rfl⟩ | exact ⟨pg_keep' hl, rfl, rfl⟩

theorem tnode_7 (nk : NetOk ns fl) (rt : Right ns fl) (ok : GmOk h b lb S l) (st : StOk S) (few : l.length ≤ 900000) (c : Nat) {k : Nd} (hc : ns[c]? = some k) (hk : k.kind = 7) (m : Nat) (hm : m < 40) (hin : insN fl c = [(m : Int)]) (h0 : tk S (m : Int) ≠ 0) :
    ACalls Tryd.prog gW 49 [.ptr b 0 0, .i c] (putG h b lb ns fl S l) (fun r h' => r = .undef ∧ h' = putG h b lb ns fl S (l ++ nodeG ns fl S c k)) := by
  have hb := ok.hb
  have hl := ok.hl
  have hne := ok.ne
  have hS := ok.held.1
  have gl := gmC_len (ns := ns) (fl := fl) (lb := lb) (n := l.length) hS
  have gv := gmC_vars (ns := ns) (fl := fl) (lb := lb) (n := l.length) hS
  have t49 := gmC_state (ns := ns) (fl := fl) (lb := lb) (n := l.length) hS
  have c0 : (0 : Int) ≤ (c : Int) := by omega
  have hc' := rowN hc
  have hf := rt.f
  have hf' : fl.length ≤ 100 := by omega
  have hkd := rt.kind hc
  have hi := InF_ins hf c
  have ho := InF_outs hf c
  obtain ⟨hv, v0, v3⟩ := ok.held.at hm
  have gk := gmC_at (ns := ns) (fl := fl) (lb := lb) (n := l.length) hv
  have f0 : (0 : Int) ≤ (m : Int) := by omega
  have f40 : (m : Int) < 40 := by omega
  have hz' : (tk S (m : Int) == 0) = false := by simp [h0]
  have hil : (((insN fl c).length : Int) == 1) = true := by rw [hin]; rfl
  have hi0 : (insN fl c)[0]? = some (m : Int) := by rw [hin]; rfl
  have hei : eI (m : Int) = [.int .i64 (m : Int)] := rfl
  have hin0 : (0 : Int) ≤ 0 := Int.le_refl 0
  have e2 : (k.kind == 2) = false := by simp [hk]
  have e3 : (k.kind == 3) = false := by simp [hk]
  have e4 : (k.kind == 4) = false := by simp [hk]
  have e5 : (k.kind == 5) = false := by simp [hk]
  have e6 : (k.kind == 6) = false := by simp [hk]
  have e7 : (k.kind == 7) = true := by simp [hk]
  have e8 : (k.kind == 8) = false := by simp [hk]
  have e1 : (k.kind != 1) = true := by simp [hk]
  have eg : nodeG ns fl S c k = (outsN fl c).flatMap fun f => catchG ns fl S c f (dstAt fl f) (insN fl c) := by unfold nodeG; rw [if_neg (by omega), if_neg (by omega), if_neg (by omega), if_neg (by omega), if_pos hk]
  let acc := fun j => ((outsN fl c).take j).flatMap fun f => catchG ns fl S c f (dstAt fl f) (insN fl c)
  have hcl : ∀ f d, (catchG ns fl S c f d (insN fl c)).length ≤ 1 := by
    intro f d
    unfold catchG
    split
    · split
      · simp
      · exact moveG_len _ _ _ _
    · exact moveG_len _ _ _ _
  have hal : ∀ j, (acc j).length ≤ j := by
    intro j
    induction j with
    | zero => simp [acc]
    | succ j ih =>
      rcases Nat.lt_or_ge j (outsN fl c).length with hj | hj
      · have e : (outsN fl c).take (j + 1) = (outsN fl c).take j ++ [(outsN fl c)[j]] := by rw [List.take_add_one, List.getElem?_eq_getElem hj]; rfl
        simp only [acc] at ih ⊢
        rw [e, List.flatMap_append, List.length_append]
        have := hcl (outsN fl c)[j] (dstAt fl (outsN fl c)[j])
        simp only [List.flatMap_cons, List.flatMap_nil, List.append_nil]
        omega
      · have e : (outsN fl c).take (j + 1) = (outsN fl c).take j := by rw [List.take_of_length_le (by omega), List.take_of_length_le hj]
        simp only [acc] at ih ⊢
        rw [e]; omega
  have hto : ∀ j, ∀ y ∈ acc j, y.to.length = 49 := by
    intro j y hy
    obtain ⟨f, _, hy⟩ := List.mem_flatMap.mp hy
    unfold catchG at hy
    split at hy
    · split at hy
      · cases hy
      · exact moveG_to hS (by rw [List.length_set, hS]) y hy
    · exact moveG_to hS hS y hy
  have eg2 : nodeG ns fl S c k = acc (outsN fl c).length := by rw [eg]; simp only [acc, List.take_length]
  rw [eg2]
  have hol := ho.1
  refine acalls_heap (rl := []) mixed Tryd.func49 rfl (rs := []) rfl Tryd.ntmps49 (by simp) ?_
  repeat' (first | ((first | refine aops_nil ?_ | refine aqops_nil ?_ | refine arun_nil ?_ | refine arunT_nil ?_); (try simp only [NB])) | ((repeat ((fail_if_success (refine hK _ ?_)); clear hK K)); refine hK _ ?_; clear hK K) | ((first | refine aops_k fun K1 hK1 => ?_ | refine aqops_k fun K1 hK1 => ?_ | refine arun_eff rfl rfl rfl fun K1 hK1 => ?_ | refine awp_cond_k fun A B hA hB => ?_); simp only [S1, simprocAttr, TTTmK, e1, e2, e3, e4, e5, e6, e7, e8, hil, hi0, hei, hin0, f0, f40, gk, hz', c0, hc', eN, takeA_sl0, gmC_net, TSz, z49_ne, z49_map, zS_len, takeA_arr, takeA_st, List.length_map, List.length_take, List.length_drop, pg_len, pg_get0, pg_geti, pg_set0, pg_seti, pg_b hb hne, pg_lb hl, pg_b0 hb hne, pg_lb0 hl, gmB, spB, gl, all_scalar, Nat.mul_one, Nat.zero_add, Nat.add_zero, Int.toNat_natCast, List.length_cons, List.length_nil]; first | (refine hK1 _ ?_; clear hK1 K1) | ((first | refine hA ?_ | refine hB ?_); clear hA hB A B) | ((first | apply call_a E25 | apply call_q E25); exact (ins_calls _ fl hf' _ _); (refine hK1 _ ?_; clear hK1 K1)) | ((first | apply call_a E26 | apply call_q E26); exact (outs_calls _ fl hf' _ _); (refine hK1 _ ?_; clear hK1 K1)) | (refine join_x (v := ?_) (fun hg hk9 => ?_) ?_; rotate_left; (focus (try ((try simp only [BN] at hg); simp only [S1, simprocAttr, TTTmK, e1, e2, e3, e4, e5, e6, e7, e8, hil, hi0, hei, hin0, f0, f40, gk, hz', c0, hc', eN, takeA_sl0, gmC_net, TSz, z49_ne, z49_map, zS_len, takeA_arr, takeA_st, List.length_map, List.length_take, List.length_drop, pg_len, pg_get0, pg_geti, pg_set0, pg_seti, pg_b hb hne, pg_lb hl, pg_b0 hb hne, pg_lb0 hl, gmB, spB, gl, all_scalar, Nat.mul_one, Nat.zero_add, Nat.add_zero, Int.toNat_natCast, List.length_cons, List.length_nil, hg] at hk9 ⊢)); first | exact hk9 | ((first | apply call_a E25 | apply call_q E25); exact (ins_calls _ fl hf' _ _); exact hk9) | ((first | apply call_a E26 | apply call_q E26); exact (outs_calls _ fl hf' _ _); exact hk9)); (refine hK1 _ ?_; clear hK1 K1)) | (((first | (refine ⟨fun hg => hA ?_, fun hg => hB ?_⟩ <;> clear hA hB A B) | refine ⟨fun hg => ?_, fun hg => ?_⟩) <;> (try simp only [BN2] at hg) <;> (try simp only [hg, cond_true, cond_false])) <;> (try (refine hK1 _ ?_; clear hK1 K1)) <;> (try simp only [BN3] at hg))) | ((first | refine arun_q (v := ?_) rfl rfl rfl rfl (by decide) (fun R1 K1 hK1 => ?_) ?_ | refine arun_f (v := ?_) rfl rfl rfl (by decide) (fun K1 hK1 => ?_) ?_ | refine arunT_f (v := ?_) rfl rfl rfl (by decide) (fun K1 hK1 => ?_) ?_); rotate_left; (focus (simp only [S1, simprocAttr, TTTmK, e1, e2, e3, e4, e5, e6, e7, e8, hil, hi0, hei, hin0, f0, f40, gk, hz', c0, hc', eN, takeA_sl0, gmC_net, TSz, z49_ne, z49_map, zS_len, takeA_arr, takeA_st, List.length_map, List.length_take, List.length_drop, pg_len, pg_get0, pg_geti, pg_set0, pg_seti, pg_b hb hne, pg_lb hl, pg_b0 hb hne, pg_lb0 hl, gmB, spB, gl, all_scalar, Nat.mul_one, Nat.zero_add, Nat.add_zero, Int.toNat_natCast, List.length_cons, List.length_nil]; first | (exact hK1 _ _ _) | ((first | apply call_a E25 | apply call_q E25); exact (ins_calls _ fl hf' _ _); exact hK1 _ _ _) | ((first | apply call_a E26 | apply call_q E26); exact (outs_calls _ fl hf' _ _); exact hK1 _ _ _)))) | (refine arun_tail rfl rfl rfl ?_) | ((first | refine arun_allocj (z := ?_) 0 rfl rfl rfl rfl (by decide) rfl ?_ ?_ | refine arun_allocj (z := ?_) 1 rfl rfl rfl rfl (by decide) rfl ?_ ?_ | refine arun_allocj (z := ?_) 2 rfl rfl rfl rfl (by decide) rfl ?_ ?_); rotate_left; (focus (simp only [S1, simprocAttr, TTTmK, e1, e2, e3, e4, e5, e6, e7, e8, hil, hi0, hei, hin0, f0, f40, gk, hz', c0, hc', eN, takeA_sl0, gmC_net, TSz, z49_ne, z49_map, zS_len, takeA_arr, takeA_st, List.length_map, List.length_take, List.length_drop, pg_len, pg_get0, pg_geti, pg_set0, pg_seti, pg_b hb hne, pg_lb hl, pg_b0 hb hne, pg_lb0 hl, gmB, spB, gl, all_scalar, Nat.mul_one, Nat.zero_add, Nat.add_zero, Int.toNat_natCast, List.length_cons, List.length_nil, zeroB]; rfl))) | (refine awp_seq_k fun K hK => ?_) | (refine awp_drawQ [0, 1, 2, 3, 4, 5, 6, 7, 8, 9, 10, 11, 12, 13] (fs := []) rfl rfl (by kernel_rfl) (by kernel_rfl) ?_) | ((first | refine awp_region ?_ | refine awp_draw (by kernel_rfl) ?_ | refine awp_block ?_ | refine awp_exit ?_ | refine awp_skip ?_ | refine awp_ret ?_); (try simp only [NB, simprocAttr])))
  refine awp_forH (outsN fl c).length 174 (fun j => putG h b lb ns fl S (l ++ acc j)) (fun j => [(121, .i j), (120, .i (outsN fl c).length), (119, aI (outsN fl c)), (5, aI (insN fl c)), (1, .i c), (0, .ptr b 0 0)]) (fun j => []) (fun j => True) (fun j => ⟨by rw [pg_len, pg_len], pg_keep hl⟩) ?_ trivial fun j hj hp K hK => ?_
  · have e0 : acc 0 = [] := by simp [acc]
    simp only [e0, List.append_nil]
    refine ⟨rfl, ⟨_, rfl⟩, ?_, trivial⟩
    simp only [keeps, avlt, avlts, blksLt, frL, upd_get, pg_len, S1, simprocAttr, List.length_map, List.length_cons, List.length_nil, Int.natCast_zero, AV.p.injEq, PV.int.injEq, PV.bool.injEq, PV.sl.injEq] <;> (try and_intros) <;> (try assumption) <;> (try trivial) <;> (try omega)
  have okj : GmOk h b lb S (l ++ acc j) := ok.app (hto j) (by have := hal j; omega)
  rcases Nat.lt_or_ge j (outsN fl c).length with hlt | hge
  · obtain ⟨f, hfj⟩ : ∃ f, (outsN fl c)[j]? = some f := ⟨_, List.getElem?_eq_getElem hlt⟩
    obtain ⟨q, hfq, hq⟩ := outs_lt c f (List.mem_of_getElem? hfj)
    subst hfq
    obtain ⟨x, hx⟩ : ∃ x, fl[q]? = some x := ⟨_, List.getElem?_eq_getElem hq⟩
    obtain ⟨⟨s0, s1⟩, d0, d1⟩ := rt.isIn x (List.mem_of_getElem? hx)
    obtain ⟨d, hd⟩ := Int.eq_ofNat_of_zero_le d0
    obtain ⟨k2, hk2⟩ : ∃ k2, ns[d]? = some k2 := ⟨_, List.getElem?_eq_getElem (by omega)⟩
    have hkd2 := rt.kind hk2
    have hx' := rowF hx
    have q0 : (0 : Int) ≤ (q : Int) := by omega
    have eds : dstAt fl (q : Int) = (d : Int) := by unfold dstAt; rw [Int.toNat_natCast, hx]; exact hd
    have ea' : l ++ acc (j + 1) = (l ++ acc j) ++ catchG ns fl S c q d (insN fl c) := by
      simp only [acc]
      rw [List.take_add_one, hfj, List.flatMap_append, List.append_assoc]
      simp [eds]
    generalize hlj : l ++ acc j = lj at ea' okj ⊢
    repeat' (first | ((first | refine aops_nil ?_ | refine aqops_nil ?_); (try simp only [NB])) | ((repeat ((fail_if_success (refine hK _ ?_)); clear hK K)); refine hK _ ?_; clear hK K) | ((first | refine aops_k fun K1 hK1 => ?_ | refine aqops_k fun K1 hK1 => ?_ | refine awp_cond_k fun A B hA hB => ?_); simp only [S1, simprocAttr, TTTmK, rowI hfj, hitI hlt, nextI (by omega) hlt, q0, hx', eF, hd, takeA_sl1, gmC_1, gmC_net, TSz, z49_ne, z49_map, zS_len, takeA_arr, takeA_st, List.length_map, List.length_take, List.length_drop, pg_len, pg_get0, pg_geti, pg_set0, pg_seti, pg_b hb hne, pg_lb hl, pg_b0 hb hne, pg_lb0 hl, gmB, spB, gl, all_scalar, Nat.mul_one, Nat.zero_add, Nat.add_zero, Int.toNat_natCast, List.length_cons, List.length_nil]; first | (refine hK1 _ ?_; clear hK1 K1) | ((first | refine hA ?_ | refine hB ?_); clear hA hB A B) | ((first | apply call_a E26 | apply call_q E26); exact (outs_calls _ fl hf' _ _); (refine hK1 _ ?_; clear hK1 K1)) | ((first | apply call_a E77 | apply call_q E77); exact (tcatch_calls okj st ⟨c, q, 0, 0, 0, S⟩ d hk2 ⟨hkd2.2.1, hkd2.2.2.2⟩ _ hi _ (InF_outs hf d) rfl); (refine hK1 _ ?_; clear hK1 K1)) | (refine join_x (v := ?_) (fun hg hk9 => ?_) ?_; rotate_left; (focus (try ((try simp only [BN] at hg); simp only [S1, simprocAttr, TTTmK, rowI hfj, hitI hlt, nextI (by omega) hlt, q0, hx', eF, hd, takeA_sl1, gmC_1, gmC_net, TSz, z49_ne, z49_map, zS_len, takeA_arr, takeA_st, List.length_map, List.length_take, List.length_drop, pg_len, pg_get0, pg_geti, pg_set0, pg_seti, pg_b hb hne, pg_lb hl, pg_b0 hb hne, pg_lb0 hl, gmB, spB, gl, all_scalar, Nat.mul_one, Nat.zero_add, Nat.add_zero, Int.toNat_natCast, List.length_cons, List.length_nil, hg] at hk9 ⊢)); first | exact hk9 | ((first | apply call_a E26 | apply call_q E26); exact (outs_calls _ fl hf' _ _); exact hk9) | ((first | apply call_a E77 | apply call_q E77); exact (tcatch_calls okj st ⟨c, q, 0, 0, 0, S⟩ d hk2 ⟨hkd2.2.1, hkd2.2.2.2⟩ _ hi _ (InF_outs hf d) rfl); exact hk9)); (refine hK1 _ ?_; clear hK1 K1)) | (((first | (refine ⟨fun hg => hA ?_, fun hg => hB ?_⟩ <;> clear hA hB A B) | refine ⟨fun hg => ?_, fun hg => ?_⟩) <;> (try simp only [BN2] at hg) <;> (try simp only [hg, cond_true, cond_false])) <;> (try (refine hK1 _ ?_; clear hK1 K1)) <;> (try simp only [BN3] at hg))) | (refine awp_seq_k fun K hK => ?_) | ((first | refine awp_region ?_ | refine awp_draw (by kernel_rfl) ?_ | refine awp_block ?_ | refine awp_exit ?_ | refine awp_skip ?_ | refine awp_ret ?_); (try simp only [NB, simprocAttr])))
    all_goals refine ⟨hlt, trivial, ?_⟩
    all_goals simp only [ea']
    all_goals refine ⟨rfl, ⟨[], by simp only [List.append_nil]⟩, ?_, trivial⟩
    all_goals simp only [keeps, avlt, avlts, blksLt, frL, upd_get, pg_len, S1, simprocAttr, List.length_map, List.length_cons, List.length_nil, Int.natCast_zero, AV.p.injEq, PV.int.injEq, PV.bool.injEq, PV.sl.injEq] <;> (try and_intros) <;> (try assumption) <;> (try trivial) <;> (try omega)
  · obtain rfl : j = (outsN fl c).length := by omega
    repeat' (first | ((first | refine aops_nil ?_ | refine aqops_nil ?_); (try simp only [NB])) | ((repeat ((fail_if_success (refine hK _ ?_)); clear hK K)); refine hK _ ?_; clear hK K) | ((first | refine aops_k fun K1 hK1 => ?_ | refine aqops_k fun K1 hK1 => ?_ | refine awp_cond_k fun A B hA hB => ?_); simp only [S1, simprocAttr, TTTmK, endI]; first | (refine hK1 _ ?_; clear hK1 K1) | ((first | refine hA ?_ | refine hB ?_); clear hA hB A B) | (refine join_x (v := ?_) (fun hg hk9 => ?_) ?_; rotate_left; (focus (try ((try simp only [BN] at hg); simp only [S1, simprocAttr, TTTmK, endI, hg] at hk9 ⊢)); first | exact hk9); (refine hK1 _ ?_; clear hK1 K1)) | (((first | (refine ⟨fun hg => hA ?_, fun hg => hB ?_⟩ <;> clear hA hB A B) | refine ⟨fun hg => ?_, fun hg => ?_⟩) <;> (try simp only [BN2] at hg) <;> (try simp only [hg, cond_true, cond_false])) <;> (try (refine hK1 _ ?_; clear hK1 K1)) <;> (try simp only [BN3] at hg))) | (refine awp_seq_k fun K hK => ?_) | ((first | refine awp_region ?_ | refine awp_draw (by kernel_rfl) ?_ | refine awp_block ?_ | refine awp_exit ?_ | refine awp_skip ?_ | refine awp_ret ?_); (try simp only [NB, simprocAttr])))
    all_goals simp only [EndH, FinH, resA, resL, resA1, lastV, lastA, lastAs, pur, purs, pg_len, pg_take, pg_take0, List.length_append, List.length_cons, List.length_nil, S1, simprocAttr, Nat.le_add_right, Nat.le_refl] <;> first | exact pg_keep' hl | exact ⟨pg_keep' hl, rfl⟩ | exact ⟨pg_keep' hl, rfl, rfl⟩
end
end Go.Proofs.YtjpphhcimpclpaaDoor.AM
end

section
set_option linter.unusedVariables false
set_option linter.unusedSimpArgs false
set_option maxRecDepth 4000
set_option maxHeartbeats 4000000
namespace Go.Proofs.YtjpphhcimpclpaaDoor.AM
open Go Go.Proofs
set_option linter.defProp false in
def TTTmI := And.intro T2 (And.intro T3 (And.intro T4 (And.intro T22 (And.intro T23 (And.intro T25 (And.intro T26 (And.intro T27 (And.intro T31 (And.intro T40 (And.intro T46 (And.intro T53 (And.intro T58 (And.intro T60 (And.intro T71 (And.intro T95 (And.intro T98 (And.intro T111 (And.intro T113 (And.intro T116 T117)))))))))))))))))))
attribute [local irreducible] awp aops aqops aeops arun arunT

section
variable {h : Heap} {b lb : Nat} {ns : List Nd} {fl : List Fl} {S : List Int} {l : List Sp}

theorem tnode_3 (nk : NetOk ns fl) (rt : Right ns fl) (ok : GmOk h b lb S l) (st : StOk S) (few : l.length ≤ 900000) (c : Nat) {k : Nd} (hc : ns[c]? = some k) (hk : k.kind = 3) (m : Nat) (hm : m < 40) (hin : insN fl c = [(m : Int)]) (h0 : tk S (m : Int) ≠ 0) :
    ACalls Tryd.prog gW 49 [.ptr b 0 0, .i c] (putG h b lb ns fl S l) (fun r h' => r = .undef ∧ h' = putG h b lb ns fl S (l ++ nodeG ns fl S c k)) := by
  have hb := ok.hb
  have hl := ok.hl
  have hne := ok.ne
  have hS := ok.held.1
  have gl := gmC_len (ns := ns) (fl := fl) (lb := lb) (n := l.length) hS
  have gv := gmC_vars (ns := ns) (fl := fl) (lb := lb) (n := l.length) hS
  have t49 := gmC_state (ns := ns) (fl := fl) (lb := lb) (n := l.length) hS
  have c0 : (0 : Int) ≤ (c : Int) := by omega
  have hc' := rowN hc
  have hf := rt.f
  have hf' : fl.length ≤ 100 := by omega
  have hkd := rt.kind hc
  have hi := InF_ins hf c
  have ho := InF_outs hf c
  obtain ⟨hv, v0, v3⟩ := ok.held.at hm
  have gk := gmC_at (ns := ns) (fl := fl) (lb := lb) (n := l.length) hv
  have f0 : (0 : Int) ≤ (m : Int) := by omega
  have f40 : (m : Int) < 40 := by omega
  have hz' : (tk S (m : Int) == 0) = false := by simp [h0]
  have hil : (((insN fl c).length : Int) == 1) = true := by rw [hin]; rfl
  have hi0 : (insN fl c)[0]? = some (m : Int) := by rw [hin]; rfl
  have hei : eI (m : Int) = [.int .i64 (m : Int)] := rfl
  have hin0 : (0 : Int) ≤ 0 := Int.le_refl 0
  have e2 : (k.kind == 2) = false := by simp [hk]
  have e3 : (k.kind == 3) = true := by simp [hk]
  have e4 : (k.kind == 4) = false := by simp [hk]
  have e5 : (k.kind == 5) = false := by simp [hk]
  have e6 : (k.kind == 6) = false := by simp [hk]
  have e7 : (k.kind == 7) = false := by simp [hk]
  have e8 : (k.kind == 8) = false := by simp [hk]
  have e1 : (k.kind != 1) = true := by simp [hk]
  obtain ⟨a, hka⟩ := Int.eq_ofNat_of_zero_le hkd.2.1
  have a4 : a < 4 := by have := hkd.2.2.1 (by omega); omega
  have hS2 : ∀ v, (S.set (40 + a) v).length = 49 := fun v => by rw [List.length_set, hS]
  have eg : nodeG ns fl S c k = moveG S ⟨c, 0, 1, c, 0, S.set (40 + a) 0⟩ (insN fl c) (outsN fl c) ++ moveG S ⟨c, 1, 1, c, 1, S.set (40 + a) 1⟩ (insN fl c) (outsN fl c) := by
    unfold nodeG; rw [if_neg (by omega), if_pos (.inl hk)]
    unfold dataG; rw [hin, List.headD_cons, if_neg h0, if_pos hk, hka, Int.toNat_natCast]
  rw [eg]
  let acc : Nat → List Sp := fun j => (if j = 0 then [] else moveG S ⟨c, 0, 1, c, 0, S.set (40 + a) 0⟩ (insN fl c) (outsN fl c)) ++ (if j ≤ 1 then [] else moveG S ⟨c, 1, 1, c, 1, S.set (40 + a) 1⟩ (insN fl c) (outsN fl c))
  have hto : ∀ j, ∀ y ∈ acc j, y.to.length = 49 := by
    intro j y hy
    simp only [acc] at hy
    rcases List.mem_append.mp hy with hy | hy
    · split at hy
      · cases hy
      · exact moveG_to hS (hS2 _) y hy
    · split at hy
      · cases hy
      · exact moveG_to hS (hS2 _) y hy
  have hal : ∀ j, (acc j).length ≤ 2 := by
    intro j
    simp only [acc, List.length_append]
    have h1 := moveG_len S ⟨c, 0, 1, c, 0, S.set (40 + a) 0⟩ (insN fl c) (outsN fl c)
    have h2 := moveG_len S ⟨c, 1, 1, c, 1, S.set (40 + a) 1⟩ (insN fl c) (outsN fl c)
    split <;> split <;> simp <;> omega
  have e22 : acc 2 = moveG S ⟨c, 0, 1, c, 0, S.set (40 + a) 0⟩ (insN fl c) (outsN fl c) ++ moveG S ⟨c, 1, 1, c, 1, S.set (40 + a) 1⟩ (insN fl c) (outsN fl c) := by simp only [acc]; rfl
  rw [← e22]
  refine acalls_heap (rl := []) mixed Tryd.func49 rfl (rs := []) rfl Tryd.ntmps49 (by simp) ?_
  repeat' (first | ((first | refine aops_nil ?_ | refine aqops_nil ?_ | refine arun_nil ?_ | refine arunT_nil ?_); (try simp only [NB])) | ((repeat ((fail_if_success (refine hK _ ?_)); clear hK K)); refine hK _ ?_; clear hK K) | ((first | refine aops_k fun K1 hK1 => ?_ | refine aqops_k fun K1 hK1 => ?_ | refine arun_eff rfl rfl rfl fun K1 hK1 => ?_ | refine awp_cond_k fun A B hA hB => ?_); simp only [S1, simprocAttr, TTTmI, e1, e2, e3, e4, e5, e6, e7, e8, hil, hi0, hei, hin0, f0, f40, gk, hz', hka, c0, hc', eN, takeA_sl0, gmC_net, TSz, z49_ne, z49_map, zS_len, takeA_arr, takeA_st, List.length_map, List.length_take, List.length_drop, pg_len, pg_get0, pg_geti, pg_set0, pg_seti, pg_b hb hne, pg_lb hl, pg_b0 hb hne, pg_lb0 hl, gmB, spB, gl, all_scalar, Nat.mul_one, Nat.zero_add, Nat.add_zero, Int.toNat_natCast, List.length_cons, List.length_nil]; first | (refine hK1 _ ?_; clear hK1 K1) | ((first | refine hA ?_ | refine hB ?_); clear hA hB A B) | ((first | apply call_a E25 | apply call_q E25); exact (ins_calls _ fl hf' _ _); (refine hK1 _ ?_; clear hK1 K1)) | ((first | apply call_a E26 | apply call_q E26); exact (outs_calls _ fl hf' _ _); (refine hK1 _ ?_; clear hK1 K1)) | (refine join_x (v := ?_) (fun hg hk9 => ?_) ?_; rotate_left; (focus (try ((try simp only [BN] at hg); simp only [S1, simprocAttr, TTTmI, e1, e2, e3, e4, e5, e6, e7, e8, hil, hi0, hei, hin0, f0, f40, gk, hz', hka, c0, hc', eN, takeA_sl0, gmC_net, TSz, z49_ne, z49_map, zS_len, takeA_arr, takeA_st, List.length_map, List.length_take, List.length_drop, pg_len, pg_get0, pg_geti, pg_set0, pg_seti, pg_b hb hne, pg_lb hl, pg_b0 hb hne, pg_lb0 hl, gmB, spB, gl, all_scalar, Nat.mul_one, Nat.zero_add, Nat.add_zero, Int.toNat_natCast, List.length_cons, List.length_nil, hg] at hk9 ⊢)); first | exact hk9 | ((first | apply call_a E25 | apply call_q E25); exact (ins_calls _ fl hf' _ _); exact hk9) | ((first | apply call_a E26 | apply call_q E26); exact (outs_calls _ fl hf' _ _); exact hk9)); (refine hK1 _ ?_; clear hK1 K1)) | (((first | (refine ⟨fun hg => hA ?_, fun hg => hB ?_⟩ <;> clear hA hB A B) | refine ⟨fun hg => ?_, fun hg => ?_⟩) <;> (try simp only [BN2] at hg) <;> (try simp only [hg, cond_true, cond_false])) <;> (try (refine hK1 _ ?_; clear hK1 K1)) <;> (try simp only [BN3] at hg))) | ((first | refine arun_q (v := ?_) rfl rfl rfl rfl (by decide) (fun R1 K1 hK1 => ?_) ?_ | refine arun_f (v := ?_) rfl rfl rfl (by decide) (fun K1 hK1 => ?_) ?_ | refine arunT_f (v := ?_) rfl rfl rfl (by decide) (fun K1 hK1 => ?_) ?_); rotate_left; (focus (simp only [S1, simprocAttr, TTTmI, e1, e2, e3, e4, e5, e6, e7, e8, hil, hi0, hei, hin0, f0, f40, gk, hz', hka, c0, hc', eN, takeA_sl0, gmC_net, TSz, z49_ne, z49_map, zS_len, takeA_arr, takeA_st, List.length_map, List.length_take, List.length_drop, pg_len, pg_get0, pg_geti, pg_set0, pg_seti, pg_b hb hne, pg_lb hl, pg_b0 hb hne, pg_lb0 hl, gmB, spB, gl, all_scalar, Nat.mul_one, Nat.zero_add, Nat.add_zero, Int.toNat_natCast, List.length_cons, List.length_nil]; first | (exact hK1 _ _ _) | ((first | apply call_a E25 | apply call_q E25); exact (ins_calls _ fl hf' _ _); exact hK1 _ _ _) | ((first | apply call_a E26 | apply call_q E26); exact (outs_calls _ fl hf' _ _); exact hK1 _ _ _)))) | (refine arun_tail rfl rfl rfl ?_) | ((first | refine arun_allocj (z := ?_) 0 rfl rfl rfl rfl (by decide) rfl ?_ ?_ | refine arun_allocj (z := ?_) 1 rfl rfl rfl rfl (by decide) rfl ?_ ?_ | refine arun_allocj (z := ?_) 2 rfl rfl rfl rfl (by decide) rfl ?_ ?_); rotate_left; (focus (simp only [S1, simprocAttr, TTTmI, e1, e2, e3, e4, e5, e6, e7, e8, hil, hi0, hei, hin0, f0, f40, gk, hz', hka, c0, hc', eN, takeA_sl0, gmC_net, TSz, z49_ne, z49_map, zS_len, takeA_arr, takeA_st, List.length_map, List.length_take, List.length_drop, pg_len, pg_get0, pg_geti, pg_set0, pg_seti, pg_b hb hne, pg_lb hl, pg_b0 hb hne, pg_lb0 hl, gmB, spB, gl, all_scalar, Nat.mul_one, Nat.zero_add, Nat.add_zero, Int.toNat_natCast, List.length_cons, List.length_nil, zeroB]; rfl))) | (refine awp_seq_k fun K hK => ?_) | (refine awp_drawQ [0, 1, 2, 3, 4, 5, 6, 7, 8, 9, 10, 11, 12, 13] (fs := []) rfl rfl (by kernel_rfl) (by kernel_rfl) ?_) | ((first | refine awp_region ?_ | refine awp_draw (by kernel_rfl) ?_ | refine awp_block ?_ | refine awp_exit ?_ | refine awp_skip ?_ | refine awp_ret ?_); (try simp only [NB, simprocAttr])))
  refine awp_forH 2 174 (fun j => putG h b lb ns fl S (l ++ acc j)) (fun j => [(59, .i j), (6, aI (outsN fl c)), (5, aI (insN fl c)), (4, .ptr h.length 0 0), (1, .i c), (0, .ptr b 0 0)]) (fun j => [xB k a]) (fun j => True) (fun j => ⟨by rw [pg_len, pg_len], pg_keep hl⟩) ?_ trivial fun j hj hp K hK => ?_
  · have e0 : acc 0 = [] := by simp [acc]
    simp only [e0, List.append_nil]
    refine ⟨rfl, ⟨[], by simp only [List.append_nil]⟩, ?_, ?_⟩
    · simp only [keeps, avlt, avlts, blksLt, frL, upd_get, pg_len, S1, simprocAttr, List.length_map, List.length_cons, List.length_nil, Int.natCast_zero, AV.p.injEq, PV.int.injEq, PV.bool.injEq, PV.sl.injEq] <;> (try and_intros) <;> (try assumption) <;> (try trivial) <;> (try omega)
    · exact ⟨⟨trivial, trivial, trivial, trivial, trivial, trivial⟩, trivial⟩
  have okj : GmOk h b lb S (l ++ acc j) := ok.app (hto j) (by have := hal j; omega)
  rcases Nat.lt_or_ge j 2 with hlt | hge
  · have hlt' : decide ((j : Int) < 2) = true := decide_eq_true (by omega)
    have hnx : IntKind.i64.wrap ((j : Int) + 1) = ((j + 1 : Nat) : Int) := by rw [IntWalk.i64_in _ (by omega)]; omega
    have es := stF_move hS (m := ⟨c, j, 1, c, j, S⟩) (Chg.set hS (k := 40 + a) (by omega) (j : Int)) hi ho
    have ea' : l ++ acc (j + 1) = (l ++ acc j) ++ stF S ⟨c, j, 1, c, j, S⟩ (fun T => T.set (40 + a) (j : Int)) (insN fl c) (outsN fl c) := by
      rw [es, List.append_assoc]
      congr 1
      match j, hlt with
      | 0, _ => simp [acc]
      | 1, _ => simp [acc]
    generalize hlj : l ++ acc j = lj at ea' okj ⊢
    have hst := step_fn_at (G := gW) (ns := ns) (fl := fl) okj ⟨c, j, 1, c, j, S⟩ (insN fl c) (outsN fl c) hi ho [xB k a, some ⟨0, [.i j]⟩] E72 (caps := [.ptr (h.length + 1) 0 0, .ptr h.length 0 0]) ⟨by simp [avlt], by simp [avlt], trivial⟩ (fun T hT => by rw [List.length_set, hT]) (fun A T hT _ => setv1_at k a4 j 0 A T hT)
    repeat' (first | ((first | refine aops_nil ?_ | refine aqops_nil ?_); (try simp only [NB])) | ((repeat ((fail_if_success (refine hK _ ?_)); clear hK K)); refine hK _ ?_; clear hK K) | ((first | refine aops_k fun K1 hK1 => ?_ | refine aqops_k fun K1 hK1 => ?_ | refine awp_cond_k fun A B hA hB => ?_); simp only [S1, simprocAttr, TTTmI, hlt', hnx, TSz, z49_ne, z49_map, zS_len, takeA_arr, takeA_st, List.length_map, List.length_take, List.length_drop, pg_len, pg_get0, pg_geti, pg_set0, pg_seti, pg_b hb hne, pg_lb hl, pg_b0 hb hne, pg_lb0 hl, gmB, spB, gl, all_scalar, Nat.mul_one, Nat.zero_add, Nat.add_zero, Int.toNat_natCast, List.length_cons, List.length_nil]; first | (refine hK1 _ ?_; clear hK1 K1) | ((first | refine hA ?_ | refine hB ?_); clear hA hB A B) | ((first | apply call_a E51 | apply call_q E51); exact hst; (refine hK1 _ ?_; clear hK1 K1)) | (refine join_x (v := ?_) (fun hg hk9 => ?_) ?_; rotate_left; (focus (try ((try simp only [BN] at hg); simp only [S1, simprocAttr, TTTmI, hlt', hnx, TSz, z49_ne, z49_map, zS_len, takeA_arr, takeA_st, List.length_map, List.length_take, List.length_drop, pg_len, pg_get0, pg_geti, pg_set0, pg_seti, pg_b hb hne, pg_lb hl, pg_b0 hb hne, pg_lb0 hl, gmB, spB, gl, all_scalar, Nat.mul_one, Nat.zero_add, Nat.add_zero, Int.toNat_natCast, List.length_cons, List.length_nil, hg] at hk9 ⊢)); first | exact hk9 | ((first | apply call_a E51 | apply call_q E51); exact hst; exact hk9)); (refine hK1 _ ?_; clear hK1 K1)) | (((first | (refine ⟨fun hg => hA ?_, fun hg => hB ?_⟩ <;> clear hA hB A B) | refine ⟨fun hg => ?_, fun hg => ?_⟩) <;> (try simp only [BN2] at hg) <;> (try simp only [hg, cond_true, cond_false])) <;> (try (refine hK1 _ ?_; clear hK1 K1)) <;> (try simp only [BN3] at hg))) | (refine awp_seq_k fun K hK => ?_) | ((first | refine awp_region ?_ | refine awp_draw (by kernel_rfl) ?_ | refine awp_block ?_ | refine awp_exit ?_ | refine awp_skip ?_ | refine awp_ret ?_); (try simp only [NB, simprocAttr])))
    all_goals refine ⟨hlt, trivial, ?_⟩
    all_goals simp only [ea']
    all_goals refine ⟨rfl, ⟨_, rfl⟩, ?_, ?_⟩
    · simp only [keeps, avlt, avlts, blksLt, frL, upd_get, pg_len, S1, simprocAttr, List.length_map, List.length_cons, List.length_nil, Int.natCast_zero, AV.p.injEq, PV.int.injEq, PV.bool.injEq, PV.sl.injEq] <;> (try and_intros) <;> (try assumption) <;> (try trivial) <;> (try omega)
    · exact ⟨⟨trivial, trivial, trivial, trivial, trivial, trivial⟩, trivial⟩
  · obtain rfl : j = 2 := by omega
    repeat' (first | ((first | refine aops_nil ?_ | refine aqops_nil ?_); (try simp only [NB])) | ((repeat ((fail_if_success (refine hK _ ?_)); clear hK K)); refine hK _ ?_; clear hK K) | ((first | refine aops_k fun K1 hK1 => ?_ | refine aqops_k fun K1 hK1 => ?_ | refine awp_cond_k fun A B hA hB => ?_); simp only [S1, simprocAttr, TTTmI, (show decide (((2 : Nat) : Int) < 2) = false by decide)]; first | (refine hK1 _ ?_; clear hK1 K1) | ((first | refine hA ?_ | refine hB ?_); clear hA hB A B) | (refine join_x (v := ?_) (fun hg hk9 => ?_) ?_; rotate_left; (focus (try ((try simp only [BN] at hg); simp only [S1, simprocAttr, TTTmI, (show decide (((2 : Nat) : Int) < 2) = false by decide), hg] at hk9 ⊢)); first | exact hk9); (refine hK1 _ ?_; clear hK1 K1)) | (((first | (refine ⟨fun hg => hA ?_, fun hg => hB ?_⟩ <;> clear hA hB A B) | refine ⟨fun hg => ?_, fun hg => ?_⟩) <;> (try simp only [BN2] at hg) <;> (try simp only [hg, cond_true, cond_false])) <;> (try (refine hK1 _ ?_; clear hK1 K1)) <;> (try simp only [BN3] at hg))) | (refine awp_seq_k fun K hK => ?_) | ((first | refine awp_region ?_ | refine awp_draw (by kernel_rfl) ?_ | refine awp_block ?_ | refine awp_exit ?_ | refine awp_skip ?_ | refine awp_ret ?_); (try simp only [NB, simprocAttr])))
    all_goals simp only [EndH, FinH, resA, resL, resA1, lastV, lastA, lastAs, pur, purs, pg_len, pg_take, pg_take0, List.length_append, List.length_cons, List.length_nil, S1, simprocAttr, Nat.le_add_right, Nat.le_refl] <;> first | exact pg_keep' hl | exact ⟨pg_keep' hl, rfl⟩ | exact ⟨pg_keep' hl, rfl, rfl⟩

theorem tnode_4 (nk : NetOk ns fl) (rt : Right ns fl) (ok : GmOk h b lb S l) (st : StOk S) (few : l.length ≤ 900000) (c : Nat) {k : Nd} (hc : ns[c]? = some k) (hk : k.kind = 4) (m : Nat) (hm : m < 40) (hin : insN fl c = [(m : Int)]) (h0 : tk S (m : Int) ≠ 0) :
    ACalls Tryd.prog gW 49 [.ptr b 0 0, .i c] (putG h b lb ns fl S l) (fun r h' => r = .undef ∧ h' = putG h b lb ns fl S (l ++ nodeG ns fl S c k)) := by
  have hb := ok.hb
  have hl := ok.hl
  have hne := ok.ne
  have hS := ok.held.1
  have gl := gmC_len (ns := ns) (fl := fl) (lb := lb) (n := l.length) hS
  have gv := gmC_vars (ns := ns) (fl := fl) (lb := lb) (n := l.length) hS
  have t49 := gmC_state (ns := ns) (fl := fl) (lb := lb) (n := l.length) hS
  have c0 : (0 : Int) ≤ (c : Int) := by omega
  have hc' := rowN hc
  have hf := rt.f
  have hf' : fl.length ≤ 100 := by omega
  have hkd := rt.kind hc
  have hi := InF_ins hf c
  have ho := InF_outs hf c
  obtain ⟨hv, v0, v3⟩ := ok.held.at hm
  have gk := gmC_at (ns := ns) (fl := fl) (lb := lb) (n := l.length) hv
  have f0 : (0 : Int) ≤ (m : Int) := by omega
  have f40 : (m : Int) < 40 := by omega
  have hz' : (tk S (m : Int) == 0) = false := by simp [h0]
  have hil : (((insN fl c).length : Int) == 1) = true := by rw [hin]; rfl
  have hi0 : (insN fl c)[0]? = some (m : Int) := by rw [hin]; rfl
  have hei : eI (m : Int) = [.int .i64 (m : Int)] := rfl
  have hin0 : (0 : Int) ≤ 0 := Int.le_refl 0
  have e2 : (k.kind == 2) = false := by simp [hk]
  have e3 : (k.kind == 3) = false := by simp [hk]
  have e4 : (k.kind == 4) = true := by simp [hk]
  have e5 : (k.kind == 5) = false := by simp [hk]
  have e6 : (k.kind == 6) = false := by simp [hk]
  have e7 : (k.kind == 7) = false := by simp [hk]
  have e8 : (k.kind == 8) = false := by simp [hk]
  have e1 : (k.kind != 1) = true := by simp [hk]
  obtain ⟨a, hka⟩ := Int.eq_ofNat_of_zero_le hkd.2.1
  have a4 : a < 4 := by have := hkd.2.2.1 (by omega); omega
  have hS2 : ∀ v, (S.set (40 + a) v).length = 49 := fun v => by rw [List.length_set, hS]
  obtain ⟨mm, hmm, ht⟩ := nk.tn
  have ch := fun h => Number_calls (ht k (List.mem_of_getElem? hc)) (vS S) vS_num h
  by_cases h2 : (numR k.term (vS S)).2 = 0
  · have h2' : ((numR k.term (vS S)).2 != 0) = false := by simp [h2]
    have eg : nodeG ns fl S c k = moveG S ⟨c, 0, 2, c, 0, S.set (40 + a) (numR k.term (vS S)).1⟩ (insN fl c) (outsN fl c) := by
      unfold nodeG; rw [if_neg (by omega), if_pos (.inr hk)]
      unfold dataG; rw [hin, List.headD_cons, if_neg h0, if_neg (by omega), if_neg (by simpa using h2), hka, Int.toNat_natCast]
    generalize (numR k.term (vS S)).1 = w at *
    have es := stF_move hS (m := ⟨c, 0, 2, c, 0, S⟩) (Chg.set hS (k := 40 + a) (by omega) w) hi ho
    simp only at es
    rw [eg, ← es]
    have hst := step_fn_at (G := gW) (ns := ns) (fl := fl) ok ⟨c, 0, 2, c, 0, S⟩ (insN fl c) (outsN fl c) hi ho [xB k a, some ⟨1, [.i w]⟩] E75 (caps := [.ptr (h.length + 1) 1 0, .ptr h.length 0 0]) ⟨by simp [avlt], by simp [avlt], trivial⟩ (fun T hT => by rw [List.length_set, hT]) (fun A T hT _ => setv2_at k a4 w 1 A T hT)
    refine acalls_heap (rl := []) mixed Tryd.func49 rfl (rs := []) rfl Tryd.ntmps49 (by simp) ?_
    repeat' (first | ((first | refine aops_nil ?_ | refine aqops_nil ?_ | refine arun_nil ?_ | refine arunT_nil ?_); (try simp only [NB])) | ((repeat ((fail_if_success (refine hK _ ?_)); clear hK K)); refine hK _ ?_; clear hK K) | ((first | refine aops_k fun K1 hK1 => ?_ | refine aqops_k fun K1 hK1 => ?_ | refine arun_eff rfl rfl rfl fun K1 hK1 => ?_ | refine awp_cond_k fun A B hA hB => ?_); simp only [S1, simprocAttr, TTTmI, e1, e2, e3, e4, e5, e6, e7, e8, hil, hi0, hei, hin0, f0, f40, gk, hz', hka, h2', gv, c0, hc', eN, takeA_sl0, gmC_net, TSz, z49_ne, z49_map, zS_len, takeA_arr, takeA_st, List.length_map, List.length_take, List.length_drop, pg_len, pg_get0, pg_geti, pg_set0, pg_seti, pg_b hb hne, pg_lb hl, pg_b0 hb hne, pg_lb0 hl, gmB, spB, gl, all_scalar, Nat.mul_one, Nat.zero_add, Nat.add_zero, Int.toNat_natCast, List.length_cons, List.length_nil]; first | (refine hK1 _ ?_; clear hK1 K1) | ((first | refine hA ?_ | refine hB ?_); clear hA hB A B) | ((first | apply call_a E25 | apply call_q E25); exact (ins_calls _ fl hf' _ _); (refine hK1 _ ?_; clear hK1 K1)) | ((first | apply call_a E26 | apply call_q E26); exact (outs_calls _ fl hf' _ _); (refine hK1 _ ?_; clear hK1 K1)) | ((first | apply call_a E73 | apply call_q E73); exact (ch _); (refine hK1 _ ?_; clear hK1 K1)) | ((first | apply call_a E51 | apply call_q E51); exact hst; (refine hK1 _ ?_; clear hK1 K1)) | (refine join_x (v := ?_) (fun hg hk9 => ?_) ?_; rotate_left; (focus (try ((try simp only [BN] at hg); simp only [S1, simprocAttr, TTTmI, e1, e2, e3, e4, e5, e6, e7, e8, hil, hi0, hei, hin0, f0, f40, gk, hz', hka, h2', gv, c0, hc', eN, takeA_sl0, gmC_net, TSz, z49_ne, z49_map, zS_len, takeA_arr, takeA_st, List.length_map, List.length_take, List.length_drop, pg_len, pg_get0, pg_geti, pg_set0, pg_seti, pg_b hb hne, pg_lb hl, pg_b0 hb hne, pg_lb0 hl, gmB, spB, gl, all_scalar, Nat.mul_one, Nat.zero_add, Nat.add_zero, Int.toNat_natCast, List.length_cons, List.length_nil, hg] at hk9 ⊢)); first | exact hk9 | ((first | apply call_a E25 | apply call_q E25); exact (ins_calls _ fl hf' _ _); exact hk9) | ((first | apply call_a E26 | apply call_q E26); exact (outs_calls _ fl hf' _ _); exact hk9) | ((first | apply call_a E73 | apply call_q E73); exact (ch _); exact hk9) | ((first | apply call_a E51 | apply call_q E51); exact hst; exact hk9)); (refine hK1 _ ?_; clear hK1 K1)) | (((first | (refine ⟨fun hg => hA ?_, fun hg => hB ?_⟩ <;> clear hA hB A B) | refine ⟨fun hg => ?_, fun hg => ?_⟩) <;> (try simp only [BN2] at hg) <;> (try simp only [hg, cond_true, cond_false])) <;> (try (refine hK1 _ ?_; clear hK1 K1)) <;> (try simp only [BN3] at hg))) | ((first | refine arun_q (v := ?_) rfl rfl rfl rfl (by decide) (fun R1 K1 hK1 => ?_) ?_ | refine arun_f (v := ?_) rfl rfl rfl (by decide) (fun K1 hK1 => ?_) ?_ | refine arunT_f (v := ?_) rfl rfl rfl (by decide) (fun K1 hK1 => ?_) ?_); rotate_left; (focus (simp only [S1, simprocAttr, TTTmI, e1, e2, e3, e4, e5, e6, e7, e8, hil, hi0, hei, hin0, f0, f40, gk, hz', hka, h2', gv, c0, hc', eN, takeA_sl0, gmC_net, TSz, z49_ne, z49_map, zS_len, takeA_arr, takeA_st, List.length_map, List.length_take, List.length_drop, pg_len, pg_get0, pg_geti, pg_set0, pg_seti, pg_b hb hne, pg_lb hl, pg_b0 hb hne, pg_lb0 hl, gmB, spB, gl, all_scalar, Nat.mul_one, Nat.zero_add, Nat.add_zero, Int.toNat_natCast, List.length_cons, List.length_nil]; first | (exact hK1 _ _ _) | ((first | apply call_a E25 | apply call_q E25); exact (ins_calls _ fl hf' _ _); exact hK1 _ _ _) | ((first | apply call_a E26 | apply call_q E26); exact (outs_calls _ fl hf' _ _); exact hK1 _ _ _) | ((first | apply call_a E73 | apply call_q E73); exact (ch _); exact hK1 _ _ _) | ((first | apply call_a E51 | apply call_q E51); exact hst; exact hK1 _ _ _)))) | (refine arun_tail rfl rfl rfl ?_) | ((first | refine arun_allocj (z := ?_) 0 rfl rfl rfl rfl (by decide) rfl ?_ ?_ | refine arun_allocj (z := ?_) 1 rfl rfl rfl rfl (by decide) rfl ?_ ?_ | refine arun_allocj (z := ?_) 2 rfl rfl rfl rfl (by decide) rfl ?_ ?_); rotate_left; (focus (simp only [S1, simprocAttr, TTTmI, e1, e2, e3, e4, e5, e6, e7, e8, hil, hi0, hei, hin0, f0, f40, gk, hz', hka, h2', gv, c0, hc', eN, takeA_sl0, gmC_net, TSz, z49_ne, z49_map, zS_len, takeA_arr, takeA_st, List.length_map, List.length_take, List.length_drop, pg_len, pg_get0, pg_geti, pg_set0, pg_seti, pg_b hb hne, pg_lb hl, pg_b0 hb hne, pg_lb0 hl, gmB, spB, gl, all_scalar, Nat.mul_one, Nat.zero_add, Nat.add_zero, Int.toNat_natCast, List.length_cons, List.length_nil, zeroB]; rfl))) | (refine awp_seq_k fun K hK => ?_) | (refine awp_drawQ [0, 1, 2, 3, 4, 5, 6, 7, 8, 9, 10, 11, 12, 13] (fs := []) rfl rfl (by kernel_rfl) (by kernel_rfl) ?_) | (refine awp_drawR [0, 1, 2, 3, 4, 5, 6, 7, 8, 9, 10, 11, 12, 13] 1 (fs := []) rfl (by kernel_rfl) (by kernel_rfl) ?_) | ((first | refine awp_region ?_ | refine awp_draw (by kernel_rfl) ?_ | refine awp_block ?_ | refine awp_exit ?_ | refine awp_skip ?_ | refine awp_ret ?_); (try simp only [NB, simprocAttr])))
    all_goals simp only [EndH, FinH, resA, resL, resA1, lastV, lastA, lastAs, pur, purs, pg_len, pg_take, pg_take0, List.length_append, List.length_cons, List.length_nil, S1, simprocAttr, Nat.le_add_right, Nat.le_refl] <;> first | exact pg_keep' hl | exact ⟨pg_keep' hl, rfl⟩ | exact ⟨pg_keep' hl, rfl, rfl⟩
  · have h2' : ((numR k.term (vS S)).2 != 0) = true := by simp [h2]
    have eg : nodeG ns fl S c k = [faultS S c (numR k.term (vS S)).2] := by
      unfold nodeG; rw [if_neg (by omega), if_pos (.inr hk)]
      unfold dataG; rw [hin, List.headD_cons, if_neg h0, if_neg (by omega), if_pos h2]
    rw [eg]
    refine acalls_heap (rl := []) mixed Tryd.func49 rfl (rs := []) rfl Tryd.ntmps49 (by simp) ?_
    repeat' (first | ((first | refine aops_nil ?_ | refine aqops_nil ?_ | refine arun_nil ?_ | refine arunT_nil ?_); (try simp only [NB])) | ((repeat ((fail_if_success (refine hK _ ?_)); clear hK K)); refine hK _ ?_; clear hK K) | ((first | refine aops_k fun K1 hK1 => ?_ | refine aqops_k fun K1 hK1 => ?_ | refine arun_eff rfl rfl rfl fun K1 hK1 => ?_ | refine awp_cond_k fun A B hA hB => ?_); simp only [S1, simprocAttr, TTTmI, e1, e2, e3, e4, e5, e6, e7, e8, hil, hi0, hei, hin0, f0, f40, gk, hz', hka, h2', gv, c0, hc', eN, takeA_sl0, gmC_net, TSz, z49_ne, z49_map, zS_len, takeA_arr, takeA_st, List.length_map, List.length_take, List.length_drop, pg_len, pg_get0, pg_geti, pg_set0, pg_seti, pg_b hb hne, pg_lb hl, pg_b0 hb hne, pg_lb0 hl, gmB, spB, gl, all_scalar, Nat.mul_one, Nat.zero_add, Nat.add_zero, Int.toNat_natCast, List.length_cons, List.length_nil]; first | (refine hK1 _ ?_; clear hK1 K1) | ((first | refine hA ?_ | refine hB ?_); clear hA hB A B) | ((first | apply call_a E25 | apply call_q E25); exact (ins_calls _ fl hf' _ _); (refine hK1 _ ?_; clear hK1 K1)) | ((first | apply call_a E26 | apply call_q E26); exact (outs_calls _ fl hf' _ _); (refine hK1 _ ?_; clear hK1 K1)) | ((first | apply call_a E73 | apply call_q E73); exact (ch _); (refine hK1 _ ?_; clear hK1 K1)) | ((first | apply call_a E74 | apply call_q E74); exact (tfault_at ok c (numR k.term (vS S)).2 _); (refine hK1 _ ?_; clear hK1 K1)) | (refine join_x (v := ?_) (fun hg hk9 => ?_) ?_; rotate_left; (focus (try ((try simp only [BN] at hg); simp only [S1, simprocAttr, TTTmI, e1, e2, e3, e4, e5, e6, e7, e8, hil, hi0, hei, hin0, f0, f40, gk, hz', hka, h2', gv, c0, hc', eN, takeA_sl0, gmC_net, TSz, z49_ne, z49_map, zS_len, takeA_arr, takeA_st, List.length_map, List.length_take, List.length_drop, pg_len, pg_get0, pg_geti, pg_set0, pg_seti, pg_b hb hne, pg_lb hl, pg_b0 hb hne, pg_lb0 hl, gmB, spB, gl, all_scalar, Nat.mul_one, Nat.zero_add, Nat.add_zero, Int.toNat_natCast, List.length_cons, List.length_nil, hg] at hk9 ⊢)); first | exact hk9 | ((first | apply call_a E25 | apply call_q E25); exact (ins_calls _ fl hf' _ _); exact hk9) | ((first | apply call_a E26 | apply call_q E26); exact (outs_calls _ fl hf' _ _); exact hk9) | ((first | apply call_a E73 | apply call_q E73); exact (ch _); exact hk9) | ((first | apply call_a E74 | apply call_q E74); exact (tfault_at ok c (numR k.term (vS S)).2 _); exact hk9)); (refine hK1 _ ?_; clear hK1 K1)) | (((first | (refine ⟨fun hg => hA ?_, fun hg => hB ?_⟩ <;> clear hA hB A B) | refine ⟨fun hg => ?_, fun hg => ?_⟩) <;> (try simp only [BN2] at hg) <;> (try simp only [hg, cond_true, cond_false])) <;> (try (refine hK1 _ ?_; clear hK1 K1)) <;> (try simp only [BN3] at hg))) | ((first | refine arun_q (v := ?_) rfl rfl rfl rfl (by decide) (fun R1 K1 hK1 => ?_) ?_ | refine arun_f (v := ?_) rfl rfl rfl (by decide) (fun K1 hK1 => ?_) ?_ | refine arunT_f (v := ?_) rfl rfl rfl (by decide) (fun K1 hK1 => ?_) ?_); rotate_left; (focus (simp only [S1, simprocAttr, TTTmI, e1, e2, e3, e4, e5, e6, e7, e8, hil, hi0, hei, hin0, f0, f40, gk, hz', hka, h2', gv, c0, hc', eN, takeA_sl0, gmC_net, TSz, z49_ne, z49_map, zS_len, takeA_arr, takeA_st, List.length_map, List.length_take, List.length_drop, pg_len, pg_get0, pg_geti, pg_set0, pg_seti, pg_b hb hne, pg_lb hl, pg_b0 hb hne, pg_lb0 hl, gmB, spB, gl, all_scalar, Nat.mul_one, Nat.zero_add, Nat.add_zero, Int.toNat_natCast, List.length_cons, List.length_nil]; first | (exact hK1 _ _ _) | ((first | apply call_a E25 | apply call_q E25); exact (ins_calls _ fl hf' _ _); exact hK1 _ _ _) | ((first | apply call_a E26 | apply call_q E26); exact (outs_calls _ fl hf' _ _); exact hK1 _ _ _) | ((first | apply call_a E73 | apply call_q E73); exact (ch _); exact hK1 _ _ _) | ((first | apply call_a E74 | apply call_q E74); exact (tfault_at ok c (numR k.term (vS S)).2 _); exact hK1 _ _ _)))) | (refine arun_tail rfl rfl rfl ?_) | ((first | refine arun_allocj (z := ?_) 0 rfl rfl rfl rfl (by decide) rfl ?_ ?_ | refine arun_allocj (z := ?_) 1 rfl rfl rfl rfl (by decide) rfl ?_ ?_ | refine arun_allocj (z := ?_) 2 rfl rfl rfl rfl (by decide) rfl ?_ ?_); rotate_left; (focus (simp only [S1, simprocAttr, TTTmI, e1, e2, e3, e4, e5, e6, e7, e8, hil, hi0, hei, hin0, f0, f40, gk, hz', hka, h2', gv, c0, hc', eN, takeA_sl0, gmC_net, TSz, z49_ne, z49_map, zS_len, takeA_arr, takeA_st, List.length_map, List.length_take, List.length_drop, pg_len, pg_get0, pg_geti, pg_set0, pg_seti, pg_b hb hne, pg_lb hl, pg_b0 hb hne, pg_lb0 hl, gmB, spB, gl, all_scalar, Nat.mul_one, Nat.zero_add, Nat.add_zero, Int.toNat_natCast, List.length_cons, List.length_nil, zeroB]; rfl))) | (refine awp_seq_k fun K hK => ?_) | (refine awp_drawQ [0, 1, 2, 3, 4, 5, 6, 7, 8, 9, 10, 11, 12, 13] (fs := []) rfl rfl (by kernel_rfl) (by kernel_rfl) ?_) | (refine awp_drawR [0, 1, 2, 3, 4, 5, 6, 7, 8, 9, 10, 11, 12, 13] 1 (fs := []) rfl (by kernel_rfl) (by kernel_rfl) ?_) | ((first | refine awp_region ?_ | refine awp_draw (by kernel_rfl) ?_ | refine awp_block ?_ | refine awp_exit ?_ | refine awp_skip ?_ | refine awp_ret ?_); (try simp only [NB, simprocAttr])))
    all_goals simp only [EndH, FinH, resA, resL, resA1, lastV, lastA, lastAs, pur, purs, pg_len, pg_take, pg_take0, List.length_append, List.length_cons, List.length_nil, S1, simprocAttr, Nat.le_add_right, Nat.le_refl] <;> first | exact pg_keep' hl | exact ⟨pg_keep' hl, rfl⟩ | exact ⟨pg_keep' hl, rfl, rfl⟩
end
end Go.Proofs.YtjpphhcimpclpaaDoor.AM
end

section
set_option linter.unusedVariables false
set_option linter.unusedSimpArgs false
namespace Go.Proofs.YtjpphhcimpclpaaDoor.AM
open Go Go.Proofs

/-- Tokens of a state with n flows. -/
structure TokOk (n : Nat) (S : List Int) : Prop where
  len : S.length = 49
  tok : ∀ k : Nat, k < 40 → 0 ≤ tk S k ∧ tk S k ≤ 3
  off : ∀ k : Nat, n ≤ k → k < 40 → tk S k = 0
/-- All else of a state. -/
structure RestOk (S : List Int) : Prop where
  q : ∀ k : Nat, k < 4 → 0 ≤ qAt S k ∧ qAt S k ≤ 3
  v : ∀ k : Nat, k < 4 → Num (S.getD (40 + k) 0)
  md : 0 ≤ mdS S ∧ mdS S ≤ 2

theorem inM_num {x : Int} : inM x = true ↔ Num x := by unfold inM Num; simp

theorem okS_of {n : Nat} {S : List Int} (h1 : TokOk n S) (h2 : RestOk S) : okS n S = true := by
  unfold okS
  simp only [Bool.and_eq_true, List.all_eq_true, List.mem_range, Bool.not_eq_true', decide_eq_true_eq]
  refine ⟨⟨fun i hi => ?_, fun i hi => ?_⟩, ?_, h2.md⟩
  · unfold badT
    have := h1.tok i hi
    have ho := h1.off i
    by_cases hn : n ≤ i
    · have := ho hn hi
      simp only [Bool.or_eq_false_iff, Bool.and_eq_false_iff, decide_eq_false_iff_not, bne_eq_false_iff_eq]
      exact ⟨⟨by omega, by omega⟩, .inr this⟩
    · simp only [Bool.or_eq_false_iff, Bool.and_eq_false_iff, decide_eq_false_iff_not, bne_eq_false_iff_eq]
      exact ⟨⟨by omega, by omega⟩, .inl (by omega)⟩
  · unfold badQ
    have := h2.q i hi
    simp only [Bool.or_eq_false_iff, decide_eq_false_iff_not]
    omega
  · unfold inV
    rw [vS_0, vS_1, vS_2, vS_3]
    simp only [Bool.and_eq_true, inM_num]
    exact ⟨⟨⟨h2.v 0 (by omega), h2.v 1 (by omega)⟩, h2.v 2 (by omega)⟩, h2.v 3 (by omega)⟩

theorem okS_to {n : Nat} {S : List Int} (hS : S.length = 49) (h : okS n S = true) : TokOk n S ∧ RestOk S := by
  unfold okS at h
  simp only [Bool.and_eq_true, List.all_eq_true, List.mem_range, Bool.not_eq_true', decide_eq_true_eq] at h
  obtain ⟨⟨h1, h2⟩, h3, h4⟩ := h
  refine ⟨⟨hS, fun k hk => ?_, fun k hn hk => ?_⟩, ⟨fun k hk => ?_, fun k hk => ?_, h4⟩⟩
  · have := h1 k hk
    unfold badT at this
    simp only [Bool.or_eq_false_iff, decide_eq_false_iff_not] at this
    omega
  · have := h1 k hk
    unfold badT at this
    simp only [Bool.or_eq_false_iff, Bool.and_eq_false_iff, decide_eq_false_iff_not, bne_eq_false_iff_eq] at this
    rcases this.2 with h | h
    · omega
    · exact h
  · have := h2 k hk
    unfold badQ at this
    simp only [Bool.or_eq_false_iff, decide_eq_false_iff_not] at this
    omega
  · unfold inV at h3
    rw [vS_0, vS_1, vS_2, vS_3] at h3
    simp only [Bool.and_eq_true, inM_num] at h3
    match k, hk with
    | 0, _ => exact h3.1.1.1
    | 1, _ => exact h3.1.1.2
    | 2, _ => exact h3.1.2
    | 3, _ => exact h3.2

/-- How many tokens there are. -/
def sumT (S : List Int) : Int := (S.take 40).sum
theorem sum_set : ∀ (l : List Int) (k : Nat) (x v : Int), l[k]? = some x → (l.set k v).sum = l.sum - x + v
  | [], k, x, v, h => by simp at h
  | a :: r, 0, x, v, h => by
    simp only [List.getElem?_cons_zero, Option.some.injEq] at h
    subst h
    simp only [List.set_cons_zero, List.sum_cons]; omega
  | a :: r, k + 1, x, v, h => by
    rw [List.getElem?_cons_succ] at h
    have := sum_set r k x v h
    simp only [List.set_cons_succ, List.sum_cons, this]; omega
theorem tk_get {S : List Int} (hS : S.length = 49) {k : Nat} (hk : k < 40) : S[k]? = some (tk S k) := at_get hS (by omega)
theorem sumT_set {S : List Int} (hS : S.length = 49) {k : Nat} (hk : k < 40) (v : Int) : sumT (S.set k v) = sumT S - tk S k + v := by
  unfold sumT
  rw [List.take_set]
  exact sum_set _ _ _ _ (by rw [List.getElem?_take_of_lt hk]; exact tk_get hS hk)
theorem tk_set {S : List Int} (hS : S.length = 49) {k j : Nat} (hk : k < 40) (v : Int) : tk (S.set k v) j = if j = k then v else tk S j := by
  unfold tk
  rw [Int.toNat_natCast, List.getD_eq_getElem?_getD, List.getElem?_set]
  by_cases e : k = j
  · subst e; rw [if_pos rfl, if_pos rfl, if_pos (by omega)]; rfl
  · rw [if_neg e, if_neg (fun h => e h.symm), ← List.getD_eq_getElem?_getD]
theorem drop_set40 {S : List Int} {k : Nat} (hk : k < 40) (v : Int) : (S.set k v).drop 40 = S.drop 40 := List.drop_set_of_lt hk

theorem TokOk.set {n : Nat} {S : List Int} (h : TokOk n S) {k : Nat} (hn : k < n) (hk : k < 40) {v : Int} (h0 : 0 ≤ v) (h3 : v ≤ 3) : TokOk n (S.set k v) := by
  refine ⟨by rw [List.length_set, h.len], fun j hj => ?_, fun j hnj hj => ?_⟩
  · rw [tk_set h.len hk]
    split
    · exact ⟨h0, h3⟩
    · exact h.tok j hj
  · rw [tk_set h.len hk, if_neg (by omega)]
    exact h.off j hnj hj

def InFl (n : Nat) (l : List Int) : Prop := ∀ f ∈ l, ∃ j : Nat, f = (j : Int) ∧ j < n ∧ j < 40

theorem runT_ok {n : Nat} : ∀ {l S T : List Int}, TokOk n S → InFl n l → runO stepT l S = some T → TokOk n T ∧ T.drop 40 = S.drop 40 ∧ sumT T = sumT S - l.length
  | [], S, T, h, _, e => by cases e; exact ⟨h, rfl, by simp⟩
  | f :: r, S, T, h, hi, e => by
    obtain ⟨j, rfl, hn, hj⟩ := hi f (by simp)
    unfold runO at e
    rw [List.foldlM_cons] at e
    obtain ⟨U, e1, e2⟩ := Option.bind_eq_some_iff.mp e
    unfold stepT at e1
    split at e1
    · cases e1
    · rename_i h1
      cases e1
      rw [Int.toNat_natCast] at e2
      have ht := h.tok j hj
      obtain ⟨a1, a2, a3⟩ := runT_ok (h.set hn hj (v := tk S j - 1) (by omega) (by omega)) (fun f hf => hi f (by simp [hf])) e2
      refine ⟨a1, by rw [a2, drop_set40 hj], ?_⟩
      rw [a3, sumT_set h.len hj, List.length_cons]; omega
theorem runP_ok {n : Nat} : ∀ {l S T : List Int}, TokOk n S → InFl n l → runO stepP l S = some T → TokOk n T ∧ T.drop 40 = S.drop 40 ∧ sumT T = sumT S + l.length
  | [], S, T, h, _, e => by cases e; exact ⟨h, rfl, by simp⟩
  | f :: r, S, T, h, hi, e => by
    obtain ⟨j, rfl, hn, hj⟩ := hi f (by simp)
    unfold runO at e
    rw [List.foldlM_cons] at e
    obtain ⟨U, e1, e2⟩ := Option.bind_eq_some_iff.mp e
    unfold stepP at e1
    split at e1
    · cases e1
    · rename_i h1
      cases e1
      rw [Int.toNat_natCast] at e2
      have ht := h.tok j hj
      obtain ⟨a1, a2, a3⟩ := runP_ok (h.set hn hj (v := tk S j + 1) (by omega) (by omega)) (fun f hf => hi f (by simp [hf])) e2
      refine ⟨a1, by rw [a2, drop_set40 hj], ?_⟩
      rw [a3, sumT_set h.len hj, List.length_cons]; omega

theorem joinS_tk {S T : List Int} (hS : S.length = 49) {k : Nat} (hk : k < 40) : tk (joinS S T) k = tk S k := by
  unfold tk joinS
  rw [Int.toNat_natCast, List.getD_eq_getElem?_getD, List.getElem?_append_left (by rw [List.length_take]; omega), List.getElem?_take_of_lt (by omega), ← List.getD_eq_getElem?_getD]
theorem joinS_ok {n : Nat} {S T : List Int} (h : TokOk n S) (hT : T.length = 49) : TokOk n (joinS S T) := by
  refine ⟨by simp [joinS, h.len, hT], fun k hk => by rw [joinS_tk h.len hk]; exact h.tok k hk, fun k hn hk => by rw [joinS_tk h.len hk]; exact h.off k hn hk⟩
theorem joinS_drop {S T : List Int} (hS : S.length = 49) : (joinS S T).drop 40 = T.drop 40 := by
  unfold joinS
  rw [List.drop_append_of_le_length (by rw [List.length_take]; omega), List.drop_of_length_le (by rw [List.length_take]; omega), List.nil_append]
theorem joinS_sum {S T : List Int} (hS : S.length = 49) : sumT (joinS S T) = sumT S := by
  unfold sumT joinS
  rw [List.take_append_of_le_length (by rw [List.length_take]; omega), List.take_take]
  rfl

theorem RestOk.drop {S T : List Int} (h : RestOk S) (e : T.drop 40 = S.drop 40) : RestOk T := by
  have g : ∀ k, T.getD (40 + k) 0 = S.getD (40 + k) 0 := fun k => by
    rw [List.getD_eq_getElem?_getD, List.getD_eq_getElem?_getD, ← List.getElem?_drop, ← List.getElem?_drop, e]
  refine ⟨fun k hk => ?_, fun k hk => by rw [g]; exact h.v k hk, ?_⟩
  · have := h.q k hk
    unfold qAt at this ⊢
    rw [Int.toNat_natCast] at this ⊢
    rwa [show 44 + k = 40 + (4 + k) by omega, g, show 40 + (4 + k) = 44 + k by omega]
  · have := h.md
    unfold mdS at this ⊢
    rwa [show 48 = 40 + 8 by rfl, g]
theorem mdS_drop {S T : List Int} (e : T.drop 40 = S.drop 40) : mdS T = mdS S := by
  unfold mdS
  rw [List.getD_eq_getElem?_getD, List.getD_eq_getElem?_getD, show 48 = 40 + 8 by rfl, ← List.getElem?_drop, ← List.getElem?_drop, e]

/-- What a move makes. -/
theorem move_ok {n : Nat} {S : List Int} (h : TokOk n S) {x : Sp} (hx : x.to.length = 49) {fr to : List Int} (hf : InFl n fr) (ht : InFl n to) : ∀ y ∈ moveG S x fr to,
    TokOk n y.to ∧ y.to.drop 40 = x.to.drop 40 ∧ y.node = x.node ∧ y.arg = x.arg ∧ y.lk = x.lk ∧ y.ln = x.ln ∧ y.la = x.la ∧ sumT y.to = sumT S - fr.length + to.length := by
  intro y hy
  unfold moveG at hy
  split at hy
  · cases hy
  rename_i T hT
  split at hy
  · cases hy
  rename_i U hU
  obtain rfl := List.mem_singleton.mp hy
  obtain ⟨a1, a2, a3⟩ := runT_ok (joinS_ok h hx) hf hT
  obtain ⟨b1, b2, b3⟩ := runP_ok a1 ht hU
  exact ⟨b1, by simp only; rw [b2, a2, joinS_drop h.len], rfl, rfl, rfl, rfl, rfl, by simp only; rw [b3, a3, joinS_sum h.len]⟩

theorem InFl_ins {ns : List Nd} {fl : List Fl} (rt : Right ns fl) (i : Int) : InFl fl.length (insN fl i) := by
  intro f hm
  obtain ⟨j, _, h1, rfl, _⟩ := pickF_mem hm
  exact ⟨j, rfl, h1, by have := rt.f; omega⟩
theorem InFl_outs {ns : List Nd} {fl : List Fl} (rt : Right ns fl) (i : Int) : InFl fl.length (outsN fl i) := by
  intro f hm
  obtain ⟨j, _, h1, rfl, _⟩ := pickF_mem hm
  exact ⟨j, rfl, h1, by have := rt.f; omega⟩
theorem InFl_one {n : Nat} {l : List Int} (h : InFl n l) {f : Int} (hf : f ∈ l) : InFl n [f] := fun g hg => by rw [List.mem_singleton.mp hg]; exact h f hf

theorem getD_set {S : List Int} {k j : Nat} {v : Int} (hk : k < S.length) : (S.set k v).getD j 0 = if j = k then v else S.getD j 0 := by
  rw [List.getD_eq_getElem?_getD, List.getElem?_set]
  by_cases e : k = j
  · subst e; rw [if_pos rfl, if_pos rfl, if_pos hk]; rfl
  · rw [if_neg e, if_neg (fun h => e h.symm), ← List.getD_eq_getElem?_getD]

theorem RestOk.setV {S : List Int} (h : RestOk S) (hS : S.length = 49) {a : Nat} (ha : a < 4) {v : Int} (hv : Num v) : RestOk (S.set (40 + a) v) := by
  refine ⟨fun k hk => ?_, fun k hk => ?_, ?_⟩
  · unfold qAt; rw [Int.toNat_natCast, getD_set (by omega), if_neg (by omega)]
    have := h.q k hk; unfold qAt at this; rwa [Int.toNat_natCast] at this
  · rw [getD_set (by omega)]
    split
    · exact hv
    · exact h.v k hk
  · unfold mdS; rw [getD_set (by omega), if_neg (by omega)]; exact h.md
theorem RestOk.setQ {S : List Int} (h : RestOk S) (hS : S.length = 49) {a : Nat} (ha : a < 4) {v : Int} (h0 : 0 ≤ v) (h3 : v ≤ 3) : RestOk (S.set (44 + a) v) := by
  refine ⟨fun k hk => ?_, fun k hk => ?_, ?_⟩
  · unfold qAt; rw [Int.toNat_natCast, getD_set (by omega)]
    split
    · exact ⟨h0, h3⟩
    · have := h.q k hk; unfold qAt at this; rwa [Int.toNat_natCast] at this
  · rw [getD_set (by omega), if_neg (by omega)]; exact h.v k hk
  · unfold mdS; rw [getD_set (by omega), if_neg (by omega)]; exact h.md
theorem RestOk.setM {S : List Int} (h : RestOk S) (hS : S.length = 49) {v : Int} (h0 : 0 ≤ v) (h3 : v ≤ 2) : RestOk (S.set 48 v) := by
  refine ⟨fun k hk => ?_, fun k hk => ?_, ?_⟩
  · unfold qAt; rw [Int.toNat_natCast, getD_set (by omega), if_neg (by omega)]
    have := h.q k hk; unfold qAt at this; rwa [Int.toNat_natCast] at this
  · rw [getD_set (by omega), if_neg (by omega)]; exact h.v k hk
  · unfold mdS; rw [getD_set (by omega), if_pos rfl]; exact ⟨h0, h3⟩
theorem mdS_set {S : List Int} (hS : S.length = 49) {k : Nat} (hk : k < 48) (v : Int) : mdS (S.set k v) = mdS S := by
  unfold mdS; rw [getD_set (by omega), if_neg (by omega)]
theorem mdS_setM {S : List Int} (hS : S.length = 49) (v : Int) : mdS (S.set 48 v) = v := by
  unfold mdS; rw [getD_set (by omega), if_pos rfl]
theorem tk_set48 {S : List Int} (v : Int) {k : Nat} (hk : k < 40) : tk (S.set 48 v) k = tk S k := by
  unfold tk
  rw [Int.toNat_natCast, List.getD_eq_getElem?_getD, List.getElem?_set, if_neg (by omega), ← List.getD_eq_getElem?_getD]
theorem TokOk.setM {n : Nat} {S : List Int} (h : TokOk n S) (v : Int) : TokOk n (S.set 48 v) :=
  ⟨by rw [List.length_set, h.len], fun k hk => by rw [tk_set48 v hk]; exact h.tok k hk, fun k hn hk => by rw [tk_set48 v hk]; exact h.off k hn hk⟩
theorem sumT_setM (S : List Int) (v : Int) : sumT (S.set 48 v) = sumT S := by
  unfold sumT
  rw [List.take_set_of_le (by omega)]

theorem numR_num {t : Tm} {v : Int → Int} (hv : inV v = true → ∀ i, Num (v i)) : Num (numR t v).1 := by
  unfold numR
  split
  · unfold Num; simp only; omega
  · rename_i e
    obtain ⟨g1, g2, g3⟩ := ask_good (by simpa using e)
    have g0 : truthOp t.op = false := by
      cases hh : truthOp t.op with
      | false => rfl
      | true => unfold outN at g3; rw [hh] at g3; simp at g3
    exact (ev_good (hv g2) g1).1 g0

/-- What is said of a step: it leads to a state; its mode is told by its label; its tokens. -/
structure StepOk (n : Nat) (S : List Int) (y : Sp) (d : Int) : Prop where
  tok : TokOk n y.to
  rest : RestOk y.to
  sum : sumT y.to = sumT S + d
  md : (y.lk = 7 ∧ mdS y.to = 1) ∨ (y.lk = 6 ∧ mdS y.to = 2) ∨ (y.lk ≠ 7 ∧ y.lk ≠ 6 ∧ mdS y.to = 0)

theorem StepOk.move {n : Nat} {S : List Int} (h : TokOk n S) {x : Sp} (hx : x.to.length = 49) (hr : RestOk x.to) {fr to : List Int} (hf : InFl n fr) (ht : InFl n to)
    (hm : (x.lk = 7 ∧ mdS x.to = 1) ∨ (x.lk = 6 ∧ mdS x.to = 2) ∨ (x.lk ≠ 7 ∧ x.lk ≠ 6 ∧ mdS x.to = 0)) : ∀ y ∈ moveG S x fr to, StepOk n S y ((to.length : Int) - fr.length) := by
  intro y hy
  obtain ⟨a1, a2, a3, a4, a5, a6, a7, a8⟩ := move_ok h hx hf ht y hy
  exact ⟨a1, hr.drop a2, by rw [a8]; omega, by rw [a5, mdS_drop a2]; exact hm⟩
theorem StepOk.fault {n : Nat} {S : List Int} (h : TokOk n S) (hr : RestOk S) (i e : Int) : StepOk n S (faultS S i e) 0 :=
  ⟨h.setM 2, hr.setM h.len (by decide) (by decide), by show sumT (S.set 48 2) = _; rw [sumT_setM]; omega, .inr (.inl ⟨rfl, mdS_setM h.len 2⟩)⟩

theorem vS_numQ {S : List Int} (hr : RestOk S) : ∀ i, Num (vS S i) := by
  intro i
  unfold vS
  split
  · exact hr.v 0 (by omega)
  · split
    · exact hr.v 1 (by omega)
    · split
      · exact hr.v 2 (by omega)
      · exact hr.v 3 (by omega)
end Go.Proofs.YtjpphhcimpclpaaDoor.AM
end

section
set_option linter.unusedVariables false
set_option linter.unusedSimpArgs false
set_option maxRecDepth 4000
set_option maxHeartbeats 4000000
namespace Go.Proofs.YtjpphhcimpclpaaDoor.AM
open Go Go.Proofs
set_option linter.defProp false in
attribute [local irreducible] awp aops aqops aeops arun arunT

abbrev aSps (l : List Sp) : AV := .p (.sl (l.map eSp))

theorem over_gen : ∀ (l c : List AV) (k : Nat), k + l.length ≤ c.length → over c k l = c.take k ++ l ++ c.drop (k + l.length)
  | [], c, k, h => by simp [over]
  | x :: r, c, k, h => by
    simp only [List.length_cons] at h
    simp only [over]
    rw [over_gen r (c.set k x) (k + 1) (by simp; omega)]
    rw [List.take_add_one, List.getElem?_set_self (by omega), List.take_set_of_le (Nat.le_refl k), List.drop_set_of_lt (by omega)]
    simp only [Option.toList_some, List.length_cons, List.append_assoc, List.cons_append, List.nil_append]
    congr 4
    omega
theorem over_two {S : List Int} (hS : S.length = 49) (a b : AV) (t : List AV) (ht : t.length = 50) : over (a :: b :: t) 2 (S.map AV.i) = a :: b :: (S.map AV.i ++ t.drop 49) := by
  have h51 : 2 + (S.map AV.i).length ≤ (a :: b :: t).length := by rw [List.length_map, hS, List.length_cons, List.length_cons, ht]; decide
  rw [over_gen (S.map AV.i) (a :: b :: t) 2 h51]
  rw [List.length_map, hS]; rfl
def eSp' (x : Sp) : List PV := if x.to.length = 49 then eSp x else List.replicate 54 (.int .i64 0)
theorem eSp'_len (x : Sp) : (eSp' x).length = 54 := by
  unfold eSp'
  split
  · rename_i h; unfold eSp; rw [List.length_map, cSp_len h]
  · rw [List.length_replicate]
theorem eSp'_ok (r : Sp) : ∀ x ∈ eSp' r, x ≠ .nils := by
  intro x hx
  unfold eSp' at hx
  split at hx
  · exact eSp_ok r x hx
  · rw [(List.mem_replicate.mp hx).2]; exact fun e => by cases e
theorem eSp'_map {l : List Sp} (h : ∀ y ∈ l, y.to.length = 49) : l.map eSp' = l.map eSp := by
  apply List.map_congr_left
  intro x hx
  unfold eSp'; rw [if_pos (h x hx)]
theorem cSps_e {l : List Sp} (h : ∀ y ∈ l, y.to.length = 49) : cSps l = (flatE eSp' l).map AV.p := by
  unfold flatE
  rw [List.flatMap_def, eSp'_map h, ← List.flatMap_def]
  unfold cSps eSp
  rw [List.map_flatMap, List.map_flatMap]
  congr 1; funext x
  rw [List.map_map]; rfl
theorem Ghost.game {P : Program} {G : Nat → Option (List PV)} {h : Heap} {s : St} {A B : Option Blk} {ns : List Nd} {fl : List Fl} {S : List Int} (hS : S.length = 49) (hh : s.heap = h ++ [A, B, some ⟨0, .p (.sl (ns.map eN)) :: .p (.sl (fl.map eF)) :: (S.map AV.i ++ [.p .nils])⟩]) : Ghost P G h s ⟨s.fr, s.nt, h ++ [A, B, gmB ns fl S (h.length + 3) [], spB []]⟩ := by
  have := Ghost.adoptCell (P := P) (G := G) (h0 := h) (s := s) (b := h.length + 2) (j := 51) (bk := ⟨0, .p (.sl (ns.map eN)) :: .p (.sl (fl.map eF)) :: (S.map AV.i ++ [.p .nils])⟩) 54 (by rw [hh]; simp [get_app]) (by simp [hS]) (by omega)
  rw [hh] at this
  have e : (AV.p (.sl (ns.map eN)) :: .p (.sl (fl.map eF)) :: (S.map AV.i ++ [.p .nils])).set 51 (.ref (h.length + 3) 0 0 54 0) = gmC ns fl S (h.length + 3) 0 := by
    unfold gmC
    rw [show (51 : Nat) = 49 + 1 + 1 by rfl, List.set_cons_succ, List.set_cons_succ, List.set_append_right _ _ (by simp [hS])]
    simp [hS]
  simp only [List.length_append, List.length_cons, List.length_nil, List.append_assoc, List.cons_append, List.nil_append, set_app, List.set_cons_succ, List.set_cons_zero, Nat.zero_add, Nat.reduceAdd, e] at this
  exact this

theorem pg_avl2 {ns : List Nd} {fl : List Fl} {S : List Int} {m lb n : Nat} (hl : lb < m) : avlts m (gmC ns fl S lb n) := by
  have : ∀ (m : Nat) (a c : List AV), avlts m a → avlts m c → avlts m (a ++ c) := by
    intro m a c ha hc
    induction a with
    | nil => exact hc
    | cons x r ih => exact ⟨ha.1, ih ha.2⟩
  exact ⟨trivial, trivial, this _ _ _ (avlts_is _ S) ⟨hl, trivial⟩⟩

end Go.Proofs.YtjpphhcimpclpaaDoor.AM
end

section
set_option linter.unusedVariables false
set_option linter.unusedSimpArgs false
set_option maxRecDepth 4000
set_option maxHeartbeats 4000000
namespace Go.Proofs.YtjpphhcimpclpaaDoor.AM
open Go Go.Proofs
set_option linter.defProp false in
def TTToM := And.intro T2 (And.intro T3 (And.intro T4 (And.intro T22 (And.intro T23 (And.intro T25 (And.intro T26 (And.intro T27 (And.intro T29 (And.intro T31 (And.intro T40 (And.intro T60 T71)))))))))))
attribute [local irreducible] awp aops aqops aeops arun arunT
variable {G : Nat → Option (List PV)}

def okH (l : List Int) : Bool := l.all fun x => !(decide (x < 0) || decide (3 < x))
theorem okH_step {l : List Int} {i : Nat} {x : Int} (h : l[i]? = some x) : okH (l.take (i + 1)) = (okH (l.take i) && !(decide (x < 0) || decide (3 < x))) := by
  unfold okH
  rw [List.take_add_one, h, List.all_append]; simp
theorem okH_no {l : List Int} {i : Nat} {x : Int} (h : l[i]? = some x) (hx : (decide (x < 0) || decide (3 < x)) = true) : okH l = false := by
  unfold okH
  rw [List.all_eq_false]
  exact ⟨x, List.mem_of_getElem? h, by rw [hx]; decide⟩

theorem held_calls {h : Heap} {b g off n : Nat} {S : List Int} (hb : h[b]? = some (some ⟨g, S.map AV.i⟩)) (hn : off + n ≤ S.length) (h1 : n ≤ 100) :
    ACalls Tryd.prog G 22 [.ref b g off 1 n] h (fun r h' => r = .b (okH ((S.drop off).take n)) ∧ h' = h) := by
  have hlt : b < h.length := (List.getElem?_eq_some_iff.mp hb).1
  refine acalls_pure (rl := []) mixed Tryd.func22 rfl (rs := [.tmp 2]) rfl Tryd.ntmps22 (by simp) ?_
  repeat' (first | ((first | refine aops_nil ?_ | refine aqops_nil ?_); (try simp only [NB])) | ((repeat ((fail_if_success (refine hK _ ?_)); clear hK K)); refine hK _ ?_; clear hK K) | ((first | refine aops_k fun K1 hK1 => ?_ | refine aqops_k fun K1 hK1 => ?_ | refine awp_cond_k fun A B hA hB => ?_); simp only [S1, simprocAttr, TTToM]; first | (refine hK1 _ ?_; clear hK1 K1) | ((first | refine hA ?_ | refine hB ?_); clear hA hB A B) | (refine join_x (v := ?_) (fun hg hk9 => ?_) ?_; rotate_left; (focus (try ((try simp only [BN] at hg); simp only [S1, simprocAttr, TTToM, hg] at hk9 ⊢)); first | exact hk9); (refine hK1 _ ?_; clear hK1 K1)) | (((first | (refine ⟨fun hg => hA ?_, fun hg => hB ?_⟩ <;> clear hA hB A B) | refine ⟨fun hg => ?_, fun hg => ?_⟩) <;> (try simp only [BN2] at hg) <;> (try simp only [hg, cond_true, cond_false])) <;> (try (refine hK1 _ ?_; clear hK1 K1)) <;> (try simp only [BN3] at hg))) | (refine awp_seq_k fun K hK => ?_) | ((first | refine awp_region ?_ | refine awp_draw (by kernel_rfl) ?_ | refine awp_block ?_ | refine awp_exit ?_ | refine awp_skip ?_ | refine awp_ret ?_); (try simp only [NB, simprocAttr])))
  refine awp_for n 18 (fun i => [(7, .i i), (6, .i n), (5, .ref b g off 1 n)]) (fun i => []) (fun i => okH (((S.drop off).take n).take i) = true) ?_ rfl fun i hi hp K hK => ?_
  · refine ⟨rfl, ⟨[], by simp only [List.append_nil]⟩, ?_, trivial⟩
    simp only [keeps, avlt, avlts, blksLt, frL, upd_get, S1, simprocAttr, List.length_map, Int.natCast_zero, AV.p.injEq, PV.int.injEq, PV.bool.injEq, PV.sl.injEq] <;> (try and_intros) <;> (try assumption) <;> (try trivial) <;> (try omega)
  rcases Nat.lt_or_ge i n with hlti | hge
  · have hx0 : S[off + i]? = some (S.getD (off + i) 0) := by rw [List.getD_eq_getElem?_getD, List.getElem?_eq_getElem (by omega)]; rfl
    generalize S.getD (off + i) 0 = x at *
    have hx : ((S.drop off).take n)[i]? = some x := by rw [List.getElem?_take_of_lt hlti, List.getElem?_drop]; exact hx0
    have dr := dropI hx0
    have hst := okH_step hx
    have i0 : (0 : Int) ≤ (i : Int) := by omega
    have hlt' : (i : Int) < (n : Int) := by omega
    cases f1 : decide (x < 0) with
    | true =>
      have ho := okH_no hx (by rw [f1]; rfl)
      rw [ho]
      repeat' (first | ((first | refine aops_nil ?_ | refine aqops_nil ?_); (try simp only [NB])) | ((repeat ((fail_if_success (refine hK _ ?_)); clear hK K)); refine hK _ ?_; clear hK K) | ((first | refine aops_k fun K1 hK1 => ?_ | refine aqops_k fun K1 hK1 => ?_ | refine awp_cond_k fun A B hA hB => ?_); simp only [S1, simprocAttr, TTToM, hb, hlt', i0, dr, f1, Int.toNat_natCast, Nat.mul_one, Nat.zero_add, Nat.add_zero]; first | (refine hK1 _ ?_; clear hK1 K1) | ((first | refine hA ?_ | refine hB ?_); clear hA hB A B) | (refine join_x (v := ?_) (fun hg hk9 => ?_) ?_; rotate_left; (focus (try ((try simp only [BN] at hg); simp only [S1, simprocAttr, TTToM, hb, hlt', i0, dr, f1, Int.toNat_natCast, Nat.mul_one, Nat.zero_add, Nat.add_zero, hg] at hk9 ⊢)); first | exact hk9); (refine hK1 _ ?_; clear hK1 K1)) | (((first | (refine ⟨fun hg => hA ?_, fun hg => hB ?_⟩ <;> clear hA hB A B) | refine ⟨fun hg => ?_, fun hg => ?_⟩) <;> (try simp only [BN2] at hg) <;> (try simp only [hg, cond_true, cond_false])) <;> (try (refine hK1 _ ?_; clear hK1 K1)) <;> (try simp only [BN3] at hg))) | (refine awp_seq_k fun K hK => ?_) | ((first | refine awp_region ?_ | refine awp_draw (by kernel_rfl) ?_ | refine awp_block ?_ | refine awp_exit ?_ | refine awp_skip ?_ | refine awp_ret ?_); (try simp only [NB, simprocAttr])))
      all_goals simp only [EndP, FinP, resA, resL, resA1, lastV, lastA, lastAs, pur, purs, take_app, List.take_length, S1, simprocAttr, TTToM, Nat.le_add_right, Nat.le_refl]
    | false =>
    cases f2 : decide (3 < x) with
    | true =>
      have ho := okH_no hx (by rw [f1, f2]; rfl)
      rw [ho]
      repeat' (first | ((first | refine aops_nil ?_ | refine aqops_nil ?_); (try simp only [NB])) | ((repeat ((fail_if_success (refine hK _ ?_)); clear hK K)); refine hK _ ?_; clear hK K) | ((first | refine aops_k fun K1 hK1 => ?_ | refine aqops_k fun K1 hK1 => ?_ | refine awp_cond_k fun A B hA hB => ?_); simp only [S1, simprocAttr, TTToM, hb, hlt', i0, dr, f1, f2, Int.toNat_natCast, Nat.mul_one, Nat.zero_add, Nat.add_zero]; first | (refine hK1 _ ?_; clear hK1 K1) | ((first | refine hA ?_ | refine hB ?_); clear hA hB A B) | (refine join_x (v := ?_) (fun hg hk9 => ?_) ?_; rotate_left; (focus (try ((try simp only [BN] at hg); simp only [S1, simprocAttr, TTToM, hb, hlt', i0, dr, f1, f2, Int.toNat_natCast, Nat.mul_one, Nat.zero_add, Nat.add_zero, hg] at hk9 ⊢)); first | exact hk9); (refine hK1 _ ?_; clear hK1 K1)) | (((first | (refine ⟨fun hg => hA ?_, fun hg => hB ?_⟩ <;> clear hA hB A B) | refine ⟨fun hg => ?_, fun hg => ?_⟩) <;> (try simp only [BN2] at hg) <;> (try simp only [hg, cond_true, cond_false])) <;> (try (refine hK1 _ ?_; clear hK1 K1)) <;> (try simp only [BN3] at hg))) | (refine awp_seq_k fun K hK => ?_) | ((first | refine awp_region ?_ | refine awp_draw (by kernel_rfl) ?_ | refine awp_block ?_ | refine awp_exit ?_ | refine awp_skip ?_ | refine awp_ret ?_); (try simp only [NB, simprocAttr])))
      all_goals simp only [EndP, FinP, resA, resL, resA1, lastV, lastA, lastAs, pur, purs, take_app, List.take_length, S1, simprocAttr, TTToM, Nat.le_add_right, Nat.le_refl]
    | false =>
      rw [hp, f1, f2] at hst
      repeat' (first | ((first | refine aops_nil ?_ | refine aqops_nil ?_); (try simp only [NB])) | ((repeat ((fail_if_success (refine hK _ ?_)); clear hK K)); refine hK _ ?_; clear hK K) | ((first | refine aops_k fun K1 hK1 => ?_ | refine aqops_k fun K1 hK1 => ?_ | refine awp_cond_k fun A B hA hB => ?_); simp only [S1, simprocAttr, TTToM, hb, hlt', next40 (n := n) (by omega) hlti, i0, dr, f1, f2, Int.toNat_natCast, Nat.mul_one, Nat.zero_add, Nat.add_zero]; first | (refine hK1 _ ?_; clear hK1 K1) | ((first | refine hA ?_ | refine hB ?_); clear hA hB A B) | (refine join_x (v := ?_) (fun hg hk9 => ?_) ?_; rotate_left; (focus (try ((try simp only [BN] at hg); simp only [S1, simprocAttr, TTToM, hb, hlt', next40 (n := n) (by omega) hlti, i0, dr, f1, f2, Int.toNat_natCast, Nat.mul_one, Nat.zero_add, Nat.add_zero, hg] at hk9 ⊢)); first | exact hk9); (refine hK1 _ ?_; clear hK1 K1)) | (((first | (refine ⟨fun hg => hA ?_, fun hg => hB ?_⟩ <;> clear hA hB A B) | refine ⟨fun hg => ?_, fun hg => ?_⟩) <;> (try simp only [BN2] at hg) <;> (try simp only [hg, cond_true, cond_false])) <;> (try (refine hK1 _ ?_; clear hK1 K1)) <;> (try simp only [BN3] at hg))) | (refine awp_seq_k fun K hK => ?_) | ((first | refine awp_region ?_ | refine awp_draw (by kernel_rfl) ?_ | refine awp_block ?_ | refine awp_exit ?_ | refine awp_skip ?_ | refine awp_ret ?_); (try simp only [NB, simprocAttr])))
      all_goals refine ⟨hlti, hst, ?_⟩
      all_goals refine ⟨rfl, ⟨[], by simp only [List.append_nil]⟩, ?_, trivial⟩
      all_goals simp only [keeps, avlt, avlts, blksLt, frL, upd_get, S1, simprocAttr, List.length_map, Int.natCast_zero, AV.p.injEq, PV.int.injEq, PV.bool.injEq, PV.sl.injEq] <;> (try and_intros) <;> (try assumption) <;> (try trivial) <;> (try omega)
  · obtain rfl : i = n := by omega
    rw [List.take_take, Nat.min_self] at hp
    repeat' (first | ((first | refine aops_nil ?_ | refine aqops_nil ?_); (try simp only [NB])) | ((repeat ((fail_if_success (refine hK _ ?_)); clear hK K)); refine hK _ ?_; clear hK K) | ((first | refine aops_k fun K1 hK1 => ?_ | refine aqops_k fun K1 hK1 => ?_ | refine awp_cond_k fun A B hA hB => ?_); simp only [S1, simprocAttr, TTToM, Int.lt_irrefl]; first | (refine hK1 _ ?_; clear hK1 K1) | ((first | refine hA ?_ | refine hB ?_); clear hA hB A B) | (refine join_x (v := ?_) (fun hg hk9 => ?_) ?_; rotate_left; (focus (try ((try simp only [BN] at hg); simp only [S1, simprocAttr, TTToM, Int.lt_irrefl, hg] at hk9 ⊢)); first | exact hk9); (refine hK1 _ ?_; clear hK1 K1)) | (((first | (refine ⟨fun hg => hA ?_, fun hg => hB ?_⟩ <;> clear hA hB A B) | refine ⟨fun hg => ?_, fun hg => ?_⟩) <;> (try simp only [BN2] at hg) <;> (try simp only [hg, cond_true, cond_false])) <;> (try (refine hK1 _ ?_; clear hK1 K1)) <;> (try simp only [BN3] at hg))) | (refine awp_seq_k fun K hK => ?_) | ((first | refine awp_region ?_ | refine awp_draw (by kernel_rfl) ?_ | refine awp_block ?_ | refine awp_exit ?_ | refine awp_skip ?_ | refine awp_ret ?_); (try simp only [NB, simprocAttr])))
    all_goals simp only [EndP, FinP, resA, resL, resA1, lastV, lastA, lastAs, pur, purs, take_app, List.take_length, S1, simprocAttr, TTToM, Nat.le_add_right, Nat.le_refl]
    all_goals rw [hp]
end Go.Proofs.YtjpphhcimpclpaaDoor.AM
end

section
set_option linter.unusedVariables false
set_option linter.unusedSimpArgs false
set_option maxRecDepth 4000
set_option maxHeartbeats 4000000
namespace Go.Proofs.YtjpphhcimpclpaaDoor.AM
open Go Go.Proofs
set_option linter.defProp false in
attribute [local irreducible] awp aops aqops aeops arun arunT

/-- The tokens, of which the first so many are put to nought. -/
def restZ (S : List Int) (j : Nat) : List Int := List.replicate j 0 ++ (S.take 40).drop j
theorem restZ_len {S : List Int} (hS : S.length = 49) {j : Nat} (hj : j ≤ 40) : (restZ S j).length = 40 := by simp [restZ, hS]; omega
theorem restZ_set {S : List Int} (hS : S.length = 49) {j : Nat} (hj : j < 40) : (restZ S j).set j 0 = restZ S (j + 1) := by
  have hl : j < (S.take 40).length := by rw [List.length_take]; omega
  unfold restZ
  rw [List.set_append_right _ _ (by simp), List.length_replicate, Nat.sub_self, List.drop_eq_getElem_cons hl, List.set_cons_zero, List.replicate_succ', List.append_assoc]; rfl
theorem eqI : ∀ {S T : List Int}, S.length = T.length → eqCells true (S.map AV.i) (T.map AV.i) = some (S == T)
  | [], [], _ => rfl
  | x :: r, [], h => by cases h
  | [], y :: q, h => by cases h
  | x :: r, y :: q, h => by
    have := eqI (S := r) (T := q) (by simpa using h)
    simp only [List.map_cons, eqCells, this]
    rfl
theorem restZ_eq {S : List Int} {n : Nat} (hS : S.length = 49) (hn : n ≤ 40) : (restZ S n == List.replicate 40 0) = (List.range 40).all fun i => !(decide ((n : Int) ≤ (i : Int)) && (tk S i != 0)) := by
  rw [Bool.eq_iff_iff, beq_iff_eq, List.all_eq_true]
  constructor
  · intro e i hi
    have hi := List.mem_range.mp hi
    by_cases h : n ≤ i
    · have e1 : (restZ S n)[i]? = some 0 := by rw [e, List.getElem?_replicate, if_pos hi]
      unfold restZ at e1
      rw [List.getElem?_append_right (by simpa using h), List.length_replicate, List.getElem?_drop, show n + (i - n) = i by omega, List.getElem?_take_of_lt hi, at_get hS (by omega)] at e1
      have e2 : tk S (i : Int) = 0 := Option.some.inj e1
      simp [e2]
    · have : decide ((n : Int) ≤ (i : Int)) = false := decide_eq_false (by omega)
      rw [this]; rfl
  · intro h
    apply List.ext_getElem?
    intro i
    rw [List.getElem?_replicate]
    split
    · rename_i hi
      unfold restZ
      by_cases hni : n ≤ i
      · have h1 := h i (List.mem_range.mpr hi)
        have : decide ((n : Int) ≤ (i : Int)) = true := decide_eq_true (by omega)
        rw [this] at h1
        simp at h1
        rw [List.getElem?_append_right (by simpa using hni), List.length_replicate, List.getElem?_drop, show n + (i - n) = i by omega, List.getElem?_take_of_lt hi, at_get hS (by omega)]
        exact congrArg some h1
      · rw [List.getElem?_append_left (by simp; omega), List.getElem?_replicate, if_pos (by omega)]
    · exact List.getElem?_eq_none (by rw [restZ_len hS hn]; omega)

/-- A state's bounds, told by lists. -/
theorem okS_eq {n : Nat} {S : List Int} (hS : S.length = 49) (hn : n ≤ 40) : okS n S = ((restZ S n == List.replicate 40 0) && (okH (S.take 40) && (okH ((S.drop 44).take 4) && (inV (vS S) && (decide (0 ≤ mdS S) && decide (mdS S ≤ 2)))))) := by
  have a : (List.range 40).all (fun i => !badT n S i) = ((restZ S n == List.replicate 40 0) && okH (S.take 40)) := by
    rw [restZ_eq hS hn, Bool.eq_iff_iff]
    unfold okH badT
    simp only [Bool.and_eq_true, List.all_eq_true, List.mem_range, Bool.not_eq_true', Bool.or_eq_false_iff]
    constructor
    · refine fun h => ⟨fun i hi => (h i hi).2, fun x hx => ?_⟩
      obtain ⟨i, hi, e⟩ := List.mem_iff_getElem.mp hx
      rw [List.length_take] at hi
      have h1 := (h i (by omega)).1
      have e2 : tk S (i : Int) = x := by
        have := at_get hS (k := i) (by omega)
        rw [← e, List.getElem_take]
        rw [List.getElem?_eq_getElem (by omega)] at this
        exact (Option.some.inj this).symm
      rw [e2] at h1; exact h1
    · refine fun h i hi => ⟨?_, h.1 i hi⟩
      have := h.2 (tk S i) (List.mem_of_getElem? (i := i) (by rw [List.getElem?_take_of_lt hi]; exact at_get hS (by omega)))
      exact this
  have b : (List.range 4).all (fun i => !badQ S i) = okH ((S.drop 44).take 4) := by
    rw [Bool.eq_iff_iff]
    unfold okH badQ
    simp only [List.all_eq_true, List.mem_range, Bool.not_eq_true', Bool.or_eq_false_iff]
    constructor
    · intro h x hx
      obtain ⟨i, hi, e⟩ := List.mem_iff_getElem.mp hx
      rw [List.length_take, List.length_drop] at hi
      have h1 := h i (by omega)
      have e2 : qAt S (i : Int) = x := by
        have := at_get hS (k := 44 + i) (by omega)
        rw [← e, List.getElem_take, List.getElem_drop]
        rw [List.getElem?_eq_getElem (by omega)] at this
        exact (Option.some.inj this).symm
      rw [e2] at h1; exact h1
    · intro h i hi
      exact h (qAt S i) (List.mem_of_getElem? (i := i) (by rw [List.getElem?_take_of_lt hi, List.getElem?_drop]; exact at_get hS (by omega)))
  unfold okS
  rw [a, b]
  simp only [Bool.and_assoc]
end Go.Proofs.YtjpphhcimpclpaaDoor.AM
end

section
set_option linter.unusedVariables false
set_option linter.unusedSimpArgs false
set_option maxRecDepth 4000
set_option maxHeartbeats 4000000
namespace Go.Proofs.YtjpphhcimpclpaaDoor.AM
open Go Go.Proofs
set_option linter.defProp false in
def TTToO := And.intro T2 (And.intro T3 (And.intro T4 (And.intro T22 (And.intro T23 (And.intro T25 (And.intro T26 (And.intro T27 (And.intro T29 (And.intro T31 (And.intro T40 (And.intro T60 T71)))))))))))
attribute [local irreducible] awp aops aqops aeops arun arunT

theorem tChk_calls {ns : List Nd} {fl : List Fl} (nk : NetOk ns fl) {S : List Int} (hS : S.length = 49) (h : Heap) :
    ACalls Tryd.prog gW 9 [aNet ns fl, aS S] h (fun r h' => r = .i (stC ns fl S) ∧ h' = h) := by
  have hne := ne_is hS
  have hc := fun h => Check_calls ns fl nk h
  by_cases h0 : (netN ns fl).1 = 0
  case neg =>
    have h0' : ((netN ns fl).1 != 0) = true := by simp [h0]
    have hst : stC ns fl S = 4 := by unfold stC; rw [if_pos h0]
    rw [hst]
    refine acalls_pure (rl := []) mixed Tryd.func9 rfl (rs := [.tmp 4]) rfl Tryd.ntmps9 (by simp) ?_
    repeat' (first | ((first | refine aops_nil ?_ | refine aqops_nil ?_); (try simp only [NB])) | ((repeat ((fail_if_success (refine hK _ ?_)); clear hK K)); refine hK _ ?_; clear hK K) | ((first | refine aops_k fun K1 hK1 => ?_ | refine aqops_k fun K1 hK1 => ?_ | refine awp_cond_k fun A B hA hB => ?_); simp only [S1, simprocAttr, TTToO, List.length_map, hS, hne, all_scalar, h0']; first | (refine hK1 _ ?_; clear hK1 K1) | ((first | refine hA ?_ | refine hB ?_); clear hA hB A B) | ((first | apply call_a E21 | apply call_q E21); exact (hc _); (refine hK1 _ ?_; clear hK1 K1)) | (refine join_x (v := ?_) (fun hg hk9 => ?_) ?_; rotate_left; (focus (try ((try simp only [BN] at hg); simp only [S1, simprocAttr, TTToO, List.length_map, hS, hne, all_scalar, h0', hg] at hk9 ⊢)); first | exact hk9 | ((first | apply call_a E21 | apply call_q E21); exact (hc _); exact hk9)); (refine hK1 _ ?_; clear hK1 K1)) | (((first | (refine ⟨fun hg => hA ?_, fun hg => hB ?_⟩ <;> clear hA hB A B) | refine ⟨fun hg => ?_, fun hg => ?_⟩) <;> (try simp only [BN2] at hg) <;> (try simp only [hg, cond_true, cond_false])) <;> (try (refine hK1 _ ?_; clear hK1 K1)) <;> (try simp only [BN3] at hg))) | (refine awp_seq_k fun K hK => ?_) | ((first | refine awp_region ?_ | refine awp_draw (by kernel_rfl) ?_ | refine awp_block ?_ | refine awp_exit ?_ | refine awp_skip ?_ | refine awp_ret ?_); (try simp only [NB, simprocAttr])))
    all_goals simp only [EndP, FinP, resA, resL, resA1, lastV, lastA, lastAs, pur, purs, take_app, List.take_length, S1, simprocAttr, TTToO, Nat.le_add_right, Nat.le_refl]
  have h0' : ((netN ns fl).1 != 0) = false := by simp [h0]
  have rt := Right.of h0
  have hf := rt.f
  have t40 : (S.map AV.i).take 40 = (S.take 40).map AV.i := by rw [List.map_take]
  have l40 : (S.take 40).length = 40 := by rw [List.length_take, hS]; rfl
  have hov := over_full (cs := (S.take 40).map AV.i) (n := 40) (by rw [List.length_map, l40])
  refine acalls_pure (rl := []) mixed Tryd.func9 rfl (rs := [.tmp 4]) rfl Tryd.ntmps9 (by simp) ?_
  repeat' (first | ((first | refine aops_nil ?_ | refine aqops_nil ?_); (try simp only [NB])) | ((repeat ((fail_if_success (refine hK _ ?_)); clear hK K)); refine hK _ ?_; clear hK K) | ((first | refine aops_k fun K1 hK1 => ?_ | refine aqops_k fun K1 hK1 => ?_ | refine awp_cond_k fun A B hA hB => ?_); simp only [S1, simprocAttr, TTToO, h0', t40, l40, hov, hne, hS, all_scalar, takeA_arr, takeA_st, eqA, Q26, List.length_map, List.length_take, List.length_drop, Nat.mul_one, Nat.zero_add, Nat.add_zero, Int.toNat_natCast, and_self]; first | (refine hK1 _ ?_; clear hK1 K1) | ((first | refine hA ?_ | refine hB ?_); clear hA hB A B) | ((first | apply call_a E21 | apply call_q E21); exact (hc _); (refine hK1 _ ?_; clear hK1 K1)) | (refine join_x (v := ?_) (fun hg hk9 => ?_) ?_; rotate_left; (focus (try ((try simp only [BN] at hg); simp only [S1, simprocAttr, TTToO, h0', t40, l40, hov, hne, hS, all_scalar, takeA_arr, takeA_st, eqA, Q26, List.length_map, List.length_take, List.length_drop, Nat.mul_one, Nat.zero_add, Nat.add_zero, Int.toNat_natCast, and_self, hg] at hk9 ⊢)); first | exact hk9 | ((first | apply call_a E21 | apply call_q E21); exact (hc _); exact hk9)); (refine hK1 _ ?_; clear hK1 K1)) | (((first | (refine ⟨fun hg => hA ?_, fun hg => hB ?_⟩ <;> clear hA hB A B) | refine ⟨fun hg => ?_, fun hg => ?_⟩) <;> (try simp only [BN2] at hg) <;> (try simp only [hg, cond_true, cond_false])) <;> (try (refine hK1 _ ?_; clear hK1 K1)) <;> (try simp only [BN3] at hg))) | (refine awp_seq_k fun K hK => ?_) | ((first | refine awp_region ?_ | refine awp_draw (by kernel_rfl) ?_ | refine awp_block ?_ | refine awp_exit ?_ | refine awp_skip ?_ | refine awp_ret ?_); (try simp only [NB, simprocAttr])))
  refine awp_for fl.length 58 (fun j => [(21, .i j), (20, .i fl.length), (7, .ptr (h.length + 2) 0 0), (3, .ptr (h.length + 1) 0 0), (2, .ptr h.length 0 0)])
    (fun j => [some ⟨0, cNet ns fl⟩, some ⟨0, S.map AV.i⟩, some ⟨0, (restZ S j).map AV.i⟩]) (fun j => True) ?_ trivial fun j hj hp K hK => ?_
  · have r0 : restZ S 0 = S.take 40 := rfl
    simp only [r0]
    refine ⟨rfl, ⟨[], by simp only [List.append_nil]⟩, ?_, ⟨trivial, trivial, trivial⟩, avlts_is _ _, avlts_is _ _, trivial⟩
    simp only [keeps, avlt, avlts, blksLt, frL, upd_get, S1, simprocAttr, List.length_map, Int.natCast_zero, AV.p.injEq, PV.int.injEq, PV.bool.injEq, PV.sl.injEq] <;> (try and_intros) <;> (try assumption) <;> (try trivial) <;> (try omega)
  rcases Nat.lt_or_ge j fl.length with hlt | hge
  · have j0 : (0 : Int) ≤ (j : Int) := by omega
    have j40 : (j : Int) < 40 := by omega
    have jl : (j : Int) < (fl.length : Int) := by omega
    have hj41 : j + 1 ≤ 40 := by omega
    have rl := restZ_len hS (j := j) (by omega)
    have rs : ((restZ S j).map AV.i).set j (.p (.int .i64 0)) = (restZ S (j + 1)).map AV.i := by rw [setI_c, restZ_set hS (by omega)]
    repeat' (first | ((first | refine aops_nil ?_ | refine aqops_nil ?_); (try simp only [NB])) | ((repeat ((fail_if_success (refine hK _ ?_)); clear hK K)); refine hK _ ?_; clear hK K) | ((first | refine aops_k fun K1 hK1 => ?_ | refine aqops_k fun K1 hK1 => ?_ | refine awp_cond_k fun A B hA hB => ?_); simp only [S1, simprocAttr, TTToO, jl, next40 (n := fl.length) (by omega) hlt, j0, j40, hj41, rl, rs, hne, hS, all_scalar, takeA_arr, takeA_st, eqA, Q26, List.length_map, List.length_take, List.length_drop, Nat.mul_one, Nat.zero_add, Nat.add_zero, Int.toNat_natCast, and_self]; first | (refine hK1 _ ?_; clear hK1 K1) | ((first | refine hA ?_ | refine hB ?_); clear hA hB A B) | (refine join_x (v := ?_) (fun hg hk9 => ?_) ?_; rotate_left; (focus (try ((try simp only [BN] at hg); simp only [S1, simprocAttr, TTToO, jl, next40 (n := fl.length) (by omega) hlt, j0, j40, hj41, rl, rs, hne, hS, all_scalar, takeA_arr, takeA_st, eqA, Q26, List.length_map, List.length_take, List.length_drop, Nat.mul_one, Nat.zero_add, Nat.add_zero, Int.toNat_natCast, and_self, hg] at hk9 ⊢)); first | exact hk9); (refine hK1 _ ?_; clear hK1 K1)) | (((first | (refine ⟨fun hg => hA ?_, fun hg => hB ?_⟩ <;> clear hA hB A B) | refine ⟨fun hg => ?_, fun hg => ?_⟩) <;> (try simp only [BN2] at hg) <;> (try simp only [hg, cond_true, cond_false])) <;> (try (refine hK1 _ ?_; clear hK1 K1)) <;> (try simp only [BN3] at hg))) | (refine awp_seq_k fun K hK => ?_) | ((first | refine awp_region ?_ | refine awp_draw (by kernel_rfl) ?_ | refine awp_block ?_ | refine awp_exit ?_ | refine awp_skip ?_ | refine awp_ret ?_); (try simp only [NB, simprocAttr])))
    all_goals refine ⟨hlt, trivial, ?_⟩
    all_goals refine ⟨rfl, ⟨[], by simp only [List.append_nil]⟩, ?_, ⟨trivial, trivial, trivial⟩, avlts_is _ _, avlts_is _ _, trivial⟩
    all_goals simp only [keeps, avlt, avlts, blksLt, frL, upd_get, S1, simprocAttr, List.length_map, Int.natCast_zero, AV.p.injEq, PV.int.injEq, PV.bool.injEq, PV.sl.injEq] <;> (try and_intros) <;> (try assumption) <;> (try trivial) <;> (try omega)
  obtain rfl : j = fl.length := by omega
  have hok := okS_eq hS hf
  have hst : stC ns fl S = if okS fl.length S = true then 0 else 1 := by unfold stC; rw [if_neg (by simpa using h0)]
  rw [hok] at hst
  have hH : ∀ j, (h ++ [some ⟨0, cNet ns fl⟩, some ⟨0, S.map AV.i⟩, some ⟨0, (restZ S j).map AV.i⟩])[h.length + 1]? = some (some ⟨0, S.map AV.i⟩) := fun j => by simp [get_app]
  have hh1 := held_calls (G := gW) (off := 0) (n := 40) (hH fl.length) (by omega) (by omega)
  have hh2 := held_calls (G := gW) (off := 44) (n := 4) (hH fl.length) (by omega) (by omega)
  rw [List.drop_zero] at hh1
  have hf4 := fun h => fitsV_calls (G := gW) (vS S) h
  have eq0 := eqI (S := restZ S fl.length) (T := List.replicate 40 0) (by rw [restZ_len hS hf, List.length_replicate])
  generalize (restZ S fl.length == List.replicate 40 0) = z0 at eq0 hst
  simp only [List.replicate_succ, List.replicate_zero, List.map_cons, List.map_nil] at eq0
  have rl := restZ_len hS (j := fl.length) hf
  have ar := vS_arr hS
  have dm := dropI (at_get hS (k := 48) (by omega))
  have emd : S.getD 48 0 = mdS S := rfl
  rw [emd] at dm
  have rtk : ((restZ S fl.length).map AV.i).take 40 = (restZ S fl.length).map AV.i := List.take_of_length_le (by rw [List.length_map, rl]; exact Nat.le_refl _)
  generalize mdS S = v at hst dm
  cases z0 with
  | false =>
    repeat' (first | ((first | refine aops_nil ?_ | refine aqops_nil ?_); (try simp only [NB])) | ((repeat ((fail_if_success (refine hK _ ?_)); clear hK K)); refine hK _ ?_; clear hK K) | ((first | refine aops_k fun K1 hK1 => ?_ | refine aqops_k fun K1 hK1 => ?_ | refine awp_cond_k fun A B hA hB => ?_); simp only [S1, simprocAttr, TTToO, Int.lt_irrefl, eq0, rl, rtk, ar, dm,  hne, hS, all_scalar, takeA_arr, takeA_st, eqA, Q26, List.length_map, List.length_take, List.length_drop, Nat.mul_one, Nat.zero_add, Nat.add_zero, Int.toNat_natCast, and_self]; first | (refine hK1 _ ?_; clear hK1 K1) | ((first | refine hA ?_ | refine hB ?_); clear hA hB A B) | ((first | apply call_a E22 | apply call_q E22); exact hh1; (refine hK1 _ ?_; clear hK1 K1)) | ((first | apply call_a E22 | apply call_q E22); exact hh2; (refine hK1 _ ?_; clear hK1 K1)) | ((first | apply call_a E23 | apply call_q E23); exact (hf4 _); (refine hK1 _ ?_; clear hK1 K1)) | (refine join_x (v := ?_) (fun hg hk9 => ?_) ?_; rotate_left; (focus (try ((try simp only [BN] at hg); simp only [S1, simprocAttr, TTToO, Int.lt_irrefl, eq0, rl, rtk, ar, dm,  hne, hS, all_scalar, takeA_arr, takeA_st, eqA, Q26, List.length_map, List.length_take, List.length_drop, Nat.mul_one, Nat.zero_add, Nat.add_zero, Int.toNat_natCast, and_self, hg] at hk9 ⊢)); first | exact hk9 | ((first | apply call_a E22 | apply call_q E22); exact hh1; exact hk9) | ((first | apply call_a E22 | apply call_q E22); exact hh2; exact hk9) | ((first | apply call_a E23 | apply call_q E23); exact (hf4 _); exact hk9)); (refine hK1 _ ?_; clear hK1 K1)) | (((first | (refine ⟨fun hg => hA ?_, fun hg => hB ?_⟩ <;> clear hA hB A B) | refine ⟨fun hg => ?_, fun hg => ?_⟩) <;> (try simp only [BN2] at hg) <;> (try simp only [hg, cond_true, cond_false])) <;> (try (refine hK1 _ ?_; clear hK1 K1)) <;> (try simp only [BN3] at hg))) | (refine awp_seq_k fun K hK => ?_) | ((first | refine awp_region ?_ | refine awp_draw (by kernel_rfl) ?_ | refine awp_block ?_ | refine awp_exit ?_ | refine awp_skip ?_ | refine awp_ret ?_); (try simp only [NB, simprocAttr])))
    all_goals simp only [EndP, FinP, resA, resL, resA1, lastV, lastA, lastAs, pur, purs, take_app, List.take_length, S1, simprocAttr, TTToO, Nat.le_add_right, Nat.le_refl]
    all_goals rw [hst]; rfl
  | true =>
  cases f1 : okH (S.take 40) with
  | false =>
    rw [f1] at hst hh1
    repeat' (first | ((first | refine aops_nil ?_ | refine aqops_nil ?_); (try simp only [NB])) | ((repeat ((fail_if_success (refine hK _ ?_)); clear hK K)); refine hK _ ?_; clear hK K) | ((first | refine aops_k fun K1 hK1 => ?_ | refine aqops_k fun K1 hK1 => ?_ | refine awp_cond_k fun A B hA hB => ?_); simp only [S1, simprocAttr, TTToO, Int.lt_irrefl, eq0, rl, rtk, ar, dm,  hne, hS, all_scalar, takeA_arr, takeA_st, eqA, Q26, List.length_map, List.length_take, List.length_drop, Nat.mul_one, Nat.zero_add, Nat.add_zero, Int.toNat_natCast, and_self]; first | (refine hK1 _ ?_; clear hK1 K1) | ((first | refine hA ?_ | refine hB ?_); clear hA hB A B) | ((first | apply call_a E22 | apply call_q E22); exact hh1; (refine hK1 _ ?_; clear hK1 K1)) | ((first | apply call_a E22 | apply call_q E22); exact hh2; (refine hK1 _ ?_; clear hK1 K1)) | ((first | apply call_a E23 | apply call_q E23); exact (hf4 _); (refine hK1 _ ?_; clear hK1 K1)) | (refine join_x (v := ?_) (fun hg hk9 => ?_) ?_; rotate_left; (focus (try ((try simp only [BN] at hg); simp only [S1, simprocAttr, TTToO, Int.lt_irrefl, eq0, rl, rtk, ar, dm,  hne, hS, all_scalar, takeA_arr, takeA_st, eqA, Q26, List.length_map, List.length_take, List.length_drop, Nat.mul_one, Nat.zero_add, Nat.add_zero, Int.toNat_natCast, and_self, hg] at hk9 ⊢)); first | exact hk9 | ((first | apply call_a E22 | apply call_q E22); exact hh1; exact hk9) | ((first | apply call_a E22 | apply call_q E22); exact hh2; exact hk9) | ((first | apply call_a E23 | apply call_q E23); exact (hf4 _); exact hk9)); (refine hK1 _ ?_; clear hK1 K1)) | (((first | (refine ⟨fun hg => hA ?_, fun hg => hB ?_⟩ <;> clear hA hB A B) | refine ⟨fun hg => ?_, fun hg => ?_⟩) <;> (try simp only [BN2] at hg) <;> (try simp only [hg, cond_true, cond_false])) <;> (try (refine hK1 _ ?_; clear hK1 K1)) <;> (try simp only [BN3] at hg))) | (refine awp_seq_k fun K hK => ?_) | ((first | refine awp_region ?_ | refine awp_draw (by kernel_rfl) ?_ | refine awp_block ?_ | refine awp_exit ?_ | refine awp_skip ?_ | refine awp_ret ?_); (try simp only [NB, simprocAttr])))
    all_goals simp only [EndP, FinP, resA, resL, resA1, lastV, lastA, lastAs, pur, purs, take_app, List.take_length, S1, simprocAttr, TTToO, Nat.le_add_right, Nat.le_refl]
    all_goals rw [hst]; rfl
  | true =>
  rw [f1] at hst hh1
  cases f2 : okH ((S.drop 44).take 4) with
  | false =>
    rw [f2] at hst hh2
    repeat' (first | ((first | refine aops_nil ?_ | refine aqops_nil ?_); (try simp only [NB])) | ((repeat ((fail_if_success (refine hK _ ?_)); clear hK K)); refine hK _ ?_; clear hK K) | ((first | refine aops_k fun K1 hK1 => ?_ | refine aqops_k fun K1 hK1 => ?_ | refine awp_cond_k fun A B hA hB => ?_); simp only [S1, simprocAttr, TTToO, Int.lt_irrefl, eq0, rl, rtk, ar, dm,  hne, hS, all_scalar, takeA_arr, takeA_st, eqA, Q26, List.length_map, List.length_take, List.length_drop, Nat.mul_one, Nat.zero_add, Nat.add_zero, Int.toNat_natCast, and_self]; first | (refine hK1 _ ?_; clear hK1 K1) | ((first | refine hA ?_ | refine hB ?_); clear hA hB A B) | ((first | apply call_a E22 | apply call_q E22); exact hh1; (refine hK1 _ ?_; clear hK1 K1)) | ((first | apply call_a E22 | apply call_q E22); exact hh2; (refine hK1 _ ?_; clear hK1 K1)) | ((first | apply call_a E23 | apply call_q E23); exact (hf4 _); (refine hK1 _ ?_; clear hK1 K1)) | (refine join_x (v := ?_) (fun hg hk9 => ?_) ?_; rotate_left; (focus (try ((try simp only [BN] at hg); simp only [S1, simprocAttr, TTToO, Int.lt_irrefl, eq0, rl, rtk, ar, dm,  hne, hS, all_scalar, takeA_arr, takeA_st, eqA, Q26, List.length_map, List.length_take, List.length_drop, Nat.mul_one, Nat.zero_add, Nat.add_zero, Int.toNat_natCast, and_self, hg] at hk9 ⊢)); first | exact hk9 | ((first | apply call_a E22 | apply call_q E22); exact hh1; exact hk9) | ((first | apply call_a E22 | apply call_q E22); exact hh2; exact hk9) | ((first | apply call_a E23 | apply call_q E23); exact (hf4 _); exact hk9)); (refine hK1 _ ?_; clear hK1 K1)) | (((first | (refine ⟨fun hg => hA ?_, fun hg => hB ?_⟩ <;> clear hA hB A B) | refine ⟨fun hg => ?_, fun hg => ?_⟩) <;> (try simp only [BN2] at hg) <;> (try simp only [hg, cond_true, cond_false])) <;> (try (refine hK1 _ ?_; clear hK1 K1)) <;> (try simp only [BN3] at hg))) | (refine awp_seq_k fun K hK => ?_) | ((first | refine awp_region ?_ | refine awp_draw (by kernel_rfl) ?_ | refine awp_block ?_ | refine awp_exit ?_ | refine awp_skip ?_ | refine awp_ret ?_); (try simp only [NB, simprocAttr])))
    all_goals simp only [EndP, FinP, resA, resL, resA1, lastV, lastA, lastAs, pur, purs, take_app, List.take_length, S1, simprocAttr, TTToO, Nat.le_add_right, Nat.le_refl]
    all_goals rw [hst]; rfl
  | true =>
  rw [f2] at hst hh2
  cases f3 : inV (vS S) with
  | false =>
    rw [f3] at hst hf4
    repeat' (first | ((first | refine aops_nil ?_ | refine aqops_nil ?_); (try simp only [NB])) | ((repeat ((fail_if_success (refine hK _ ?_)); clear hK K)); refine hK _ ?_; clear hK K) | ((first | refine aops_k fun K1 hK1 => ?_ | refine aqops_k fun K1 hK1 => ?_ | refine awp_cond_k fun A B hA hB => ?_); simp only [S1, simprocAttr, TTToO, Int.lt_irrefl, eq0, rl, rtk, ar, dm,  hne, hS, all_scalar, takeA_arr, takeA_st, eqA, Q26, List.length_map, List.length_take, List.length_drop, Nat.mul_one, Nat.zero_add, Nat.add_zero, Int.toNat_natCast, and_self]; first | (refine hK1 _ ?_; clear hK1 K1) | ((first | refine hA ?_ | refine hB ?_); clear hA hB A B) | ((first | apply call_a E22 | apply call_q E22); exact hh1; (refine hK1 _ ?_; clear hK1 K1)) | ((first | apply call_a E22 | apply call_q E22); exact hh2; (refine hK1 _ ?_; clear hK1 K1)) | ((first | apply call_a E23 | apply call_q E23); exact (hf4 _); (refine hK1 _ ?_; clear hK1 K1)) | (refine join_x (v := ?_) (fun hg hk9 => ?_) ?_; rotate_left; (focus (try ((try simp only [BN] at hg); simp only [S1, simprocAttr, TTToO, Int.lt_irrefl, eq0, rl, rtk, ar, dm,  hne, hS, all_scalar, takeA_arr, takeA_st, eqA, Q26, List.length_map, List.length_take, List.length_drop, Nat.mul_one, Nat.zero_add, Nat.add_zero, Int.toNat_natCast, and_self, hg] at hk9 ⊢)); first | exact hk9 | ((first | apply call_a E22 | apply call_q E22); exact hh1; exact hk9) | ((first | apply call_a E22 | apply call_q E22); exact hh2; exact hk9) | ((first | apply call_a E23 | apply call_q E23); exact (hf4 _); exact hk9)); (refine hK1 _ ?_; clear hK1 K1)) | (((first | (refine ⟨fun hg => hA ?_, fun hg => hB ?_⟩ <;> clear hA hB A B) | refine ⟨fun hg => ?_, fun hg => ?_⟩) <;> (try simp only [BN2] at hg) <;> (try simp only [hg, cond_true, cond_false])) <;> (try (refine hK1 _ ?_; clear hK1 K1)) <;> (try simp only [BN3] at hg))) | (refine awp_seq_k fun K hK => ?_) | ((first | refine awp_region ?_ | refine awp_draw (by kernel_rfl) ?_ | refine awp_block ?_ | refine awp_exit ?_ | refine awp_skip ?_ | refine awp_ret ?_); (try simp only [NB, simprocAttr])))
    all_goals simp only [EndP, FinP, resA, resL, resA1, lastV, lastA, lastAs, pur, purs, take_app, List.take_length, S1, simprocAttr, TTToO, Nat.le_add_right, Nat.le_refl]
    all_goals rw [hst]; rfl
  | true =>
  rw [f3] at hst hf4
  by_cases h1 : v < 0
  · have f4 : decide (v < 0) = true := decide_eq_true h1
    have f5 : decide (0 ≤ v) = false := decide_eq_false (by omega)
    rw [f5] at hst
    repeat' (first | ((first | refine aops_nil ?_ | refine aqops_nil ?_); (try simp only [NB])) | ((repeat ((fail_if_success (refine hK _ ?_)); clear hK K)); refine hK _ ?_; clear hK K) | ((first | refine aops_k fun K1 hK1 => ?_ | refine aqops_k fun K1 hK1 => ?_ | refine awp_cond_k fun A B hA hB => ?_); simp only [S1, simprocAttr, TTToO, Int.lt_irrefl, eq0, rl, rtk, ar, dm, f4, hne, hS, all_scalar, takeA_arr, takeA_st, eqA, Q26, List.length_map, List.length_take, List.length_drop, Nat.mul_one, Nat.zero_add, Nat.add_zero, Int.toNat_natCast, and_self]; first | (refine hK1 _ ?_; clear hK1 K1) | ((first | refine hA ?_ | refine hB ?_); clear hA hB A B) | ((first | apply call_a E22 | apply call_q E22); exact hh1; (refine hK1 _ ?_; clear hK1 K1)) | ((first | apply call_a E22 | apply call_q E22); exact hh2; (refine hK1 _ ?_; clear hK1 K1)) | ((first | apply call_a E23 | apply call_q E23); exact (hf4 _); (refine hK1 _ ?_; clear hK1 K1)) | (refine join_x (v := ?_) (fun hg hk9 => ?_) ?_; rotate_left; (focus (try ((try simp only [BN] at hg); simp only [S1, simprocAttr, TTToO, Int.lt_irrefl, eq0, rl, rtk, ar, dm, f4, hne, hS, all_scalar, takeA_arr, takeA_st, eqA, Q26, List.length_map, List.length_take, List.length_drop, Nat.mul_one, Nat.zero_add, Nat.add_zero, Int.toNat_natCast, and_self, hg] at hk9 ⊢)); first | exact hk9 | ((first | apply call_a E22 | apply call_q E22); exact hh1; exact hk9) | ((first | apply call_a E22 | apply call_q E22); exact hh2; exact hk9) | ((first | apply call_a E23 | apply call_q E23); exact (hf4 _); exact hk9)); (refine hK1 _ ?_; clear hK1 K1)) | (((first | (refine ⟨fun hg => hA ?_, fun hg => hB ?_⟩ <;> clear hA hB A B) | refine ⟨fun hg => ?_, fun hg => ?_⟩) <;> (try simp only [BN2] at hg) <;> (try simp only [hg, cond_true, cond_false])) <;> (try (refine hK1 _ ?_; clear hK1 K1)) <;> (try simp only [BN3] at hg))) | (refine awp_seq_k fun K hK => ?_) | ((first | refine awp_region ?_ | refine awp_draw (by kernel_rfl) ?_ | refine awp_block ?_ | refine awp_exit ?_ | refine awp_skip ?_ | refine awp_ret ?_); (try simp only [NB, simprocAttr])))
    all_goals simp only [EndP, FinP, resA, resL, resA1, lastV, lastA, lastAs, pur, purs, take_app, List.take_length, S1, simprocAttr, TTToO, Nat.le_add_right, Nat.le_refl]
    all_goals rw [hst]; rfl
  have f4 : decide (v < 0) = false := decide_eq_false h1
  have f5 : decide (0 ≤ v) = true := decide_eq_true (by omega)
  by_cases h2 : 2 < v
  · have f6 : decide (2 < v) = true := decide_eq_true h2
    have f7 : decide (v ≤ 2) = false := decide_eq_false (by omega)
    rw [f5, f7] at hst
    repeat' (first | ((first | refine aops_nil ?_ | refine aqops_nil ?_); (try simp only [NB])) | ((repeat ((fail_if_success (refine hK _ ?_)); clear hK K)); refine hK _ ?_; clear hK K) | ((first | refine aops_k fun K1 hK1 => ?_ | refine aqops_k fun K1 hK1 => ?_ | refine awp_cond_k fun A B hA hB => ?_); simp only [S1, simprocAttr, TTToO, Int.lt_irrefl, eq0, rl, rtk, ar, dm, f4, f6, hne, hS, all_scalar, takeA_arr, takeA_st, eqA, Q26, List.length_map, List.length_take, List.length_drop, Nat.mul_one, Nat.zero_add, Nat.add_zero, Int.toNat_natCast, and_self]; first | (refine hK1 _ ?_; clear hK1 K1) | ((first | refine hA ?_ | refine hB ?_); clear hA hB A B) | ((first | apply call_a E22 | apply call_q E22); exact hh1; (refine hK1 _ ?_; clear hK1 K1)) | ((first | apply call_a E22 | apply call_q E22); exact hh2; (refine hK1 _ ?_; clear hK1 K1)) | ((first | apply call_a E23 | apply call_q E23); exact (hf4 _); (refine hK1 _ ?_; clear hK1 K1)) | (refine join_x (v := ?_) (fun hg hk9 => ?_) ?_; rotate_left; (focus (try ((try simp only [BN] at hg); simp only [S1, simprocAttr, TTToO, Int.lt_irrefl, eq0, rl, rtk, ar, dm, f4, f6, hne, hS, all_scalar, takeA_arr, takeA_st, eqA, Q26, List.length_map, List.length_take, List.length_drop, Nat.mul_one, Nat.zero_add, Nat.add_zero, Int.toNat_natCast, and_self, hg] at hk9 ⊢)); first | exact hk9 | ((first | apply call_a E22 | apply call_q E22); exact hh1; exact hk9) | ((first | apply call_a E22 | apply call_q E22); exact hh2; exact hk9) | ((first | apply call_a E23 | apply call_q E23); exact (hf4 _); exact hk9)); (refine hK1 _ ?_; clear hK1 K1)) | (((first | (refine ⟨fun hg => hA ?_, fun hg => hB ?_⟩ <;> clear hA hB A B) | refine ⟨fun hg => ?_, fun hg => ?_⟩) <;> (try simp only [BN2] at hg) <;> (try simp only [hg, cond_true, cond_false])) <;> (try (refine hK1 _ ?_; clear hK1 K1)) <;> (try simp only [BN3] at hg))) | (refine awp_seq_k fun K hK => ?_) | ((first | refine awp_region ?_ | refine awp_draw (by kernel_rfl) ?_ | refine awp_block ?_ | refine awp_exit ?_ | refine awp_skip ?_ | refine awp_ret ?_); (try simp only [NB, simprocAttr])))
    all_goals simp only [EndP, FinP, resA, resL, resA1, lastV, lastA, lastAs, pur, purs, take_app, List.take_length, S1, simprocAttr, TTToO, Nat.le_add_right, Nat.le_refl]
    all_goals rw [hst]; rfl
  have f6 : decide (2 < v) = false := decide_eq_false h2
  have f7 : decide (v ≤ 2) = true := decide_eq_true (by omega)
  rw [f5, f7] at hst
  repeat' (first | ((first | refine aops_nil ?_ | refine aqops_nil ?_); (try simp only [NB])) | ((repeat ((fail_if_success (refine hK _ ?_)); clear hK K)); refine hK _ ?_; clear hK K) | ((first | refine aops_k fun K1 hK1 => ?_ | refine aqops_k fun K1 hK1 => ?_ | refine awp_cond_k fun A B hA hB => ?_); simp only [S1, simprocAttr, TTToO, Int.lt_irrefl, eq0, rl, rtk, ar, dm, f4, f6, hne, hS, all_scalar, takeA_arr, takeA_st, eqA, Q26, List.length_map, List.length_take, List.length_drop, Nat.mul_one, Nat.zero_add, Nat.add_zero, Int.toNat_natCast, and_self]; first | (refine hK1 _ ?_; clear hK1 K1) | ((first | refine hA ?_ | refine hB ?_); clear hA hB A B) | ((first | apply call_a E22 | apply call_q E22); exact hh1; (refine hK1 _ ?_; clear hK1 K1)) | ((first | apply call_a E22 | apply call_q E22); exact hh2; (refine hK1 _ ?_; clear hK1 K1)) | ((first | apply call_a E23 | apply call_q E23); exact (hf4 _); (refine hK1 _ ?_; clear hK1 K1)) | (refine join_x (v := ?_) (fun hg hk9 => ?_) ?_; rotate_left; (focus (try ((try simp only [BN] at hg); simp only [S1, simprocAttr, TTToO, Int.lt_irrefl, eq0, rl, rtk, ar, dm, f4, f6, hne, hS, all_scalar, takeA_arr, takeA_st, eqA, Q26, List.length_map, List.length_take, List.length_drop, Nat.mul_one, Nat.zero_add, Nat.add_zero, Int.toNat_natCast, and_self, hg] at hk9 ⊢)); first | exact hk9 | ((first | apply call_a E22 | apply call_q E22); exact hh1; exact hk9) | ((first | apply call_a E22 | apply call_q E22); exact hh2; exact hk9) | ((first | apply call_a E23 | apply call_q E23); exact (hf4 _); exact hk9)); (refine hK1 _ ?_; clear hK1 K1)) | (((first | (refine ⟨fun hg => hA ?_, fun hg => hB ?_⟩ <;> clear hA hB A B) | refine ⟨fun hg => ?_, fun hg => ?_⟩) <;> (try simp only [BN2] at hg) <;> (try simp only [hg, cond_true, cond_false])) <;> (try (refine hK1 _ ?_; clear hK1 K1)) <;> (try simp only [BN3] at hg))) | (refine awp_seq_k fun K hK => ?_) | ((first | refine awp_region ?_ | refine awp_draw (by kernel_rfl) ?_ | refine awp_block ?_ | refine awp_exit ?_ | refine awp_skip ?_ | refine awp_ret ?_); (try simp only [NB, simprocAttr])))
  all_goals simp only [EndP, FinP, resA, resL, resA1, lastV, lastA, lastAs, pur, purs, take_app, List.take_length, S1, simprocAttr, TTToO, Nat.le_add_right, Nat.le_refl]
  all_goals rw [hst]; rfl
end Go.Proofs.YtjpphhcimpclpaaDoor.AM
end

section
set_option linter.unusedVariables false
set_option linter.unusedSimpArgs false
namespace Go.Proofs.YtjpphhcimpclpaaDoor.AM
open Go Go.Proofs

/-- The tokens of a state, as a function. -/
def tokF (S : List Int) : Int → Int := fun i => if 0 ≤ i ∧ i < 40 then tk S i else 0
def listF (t : Int → Int) : List Int := (List.range 40).map fun (i : Nat) => t (i : Int)
theorem listF_tokF {S : List Int} (hS : S.length = 49) : listF (tokF S) = S.take 40 := by
  apply List.ext_getElem?
  intro i
  unfold listF
  rw [List.getElem?_map]
  rcases Nat.lt_or_ge i 40 with hi | hi
  · rw [List.getElem?_range hi, List.getElem?_take_of_lt hi, at_get hS (by omega)]
    unfold tokF
    rw [Option.map_some, if_pos ⟨by omega, by omega⟩]; rfl
  · rw [List.getElem?_eq_none (by simpa using hi), List.getElem?_eq_none (by rw [List.length_take]; omega)]; rfl

structure RelT (S : List Int) (t : Int → Int) : Prop where
  len : S.length = 49
  eq : ∀ i : Int, 0 ≤ i → i < 40 → tk S i = t i
theorem RelT.tokF {S : List Int} (hS : S.length = 49) : RelT S (tokF S) := ⟨hS, fun i h0 h1 => by unfold AM.tokF; rw [if_pos ⟨h0, h1⟩]⟩
theorem RelT.take {S : List Int} {t : Int → Int} (h : RelT S t) : S.take 40 = listF t := by
  rw [← listF_tokF h.len]
  unfold listF
  apply List.map_congr_left
  intro i hi
  have := List.mem_range.mp hi
  unfold AM.tokF
  rw [if_pos ⟨by omega, by omega⟩, h.eq _ (by omega) (by omega)]
theorem RelT.set {S : List Int} {t : Int → Int} (h : RelT S t) {f v : Int} (h0 : 0 ≤ f) (h1 : f < 40) : RelT (S.set f.toNat v) (setT t f v) := by
  have hl := h.len
  refine ⟨by rw [List.length_set, hl], fun i i0 i1 => ?_⟩
  unfold tk setT
  rw [List.getD_eq_getElem?_getD, List.getElem?_set]
  by_cases e : i = f
  · subst e; rw [if_pos rfl, if_pos rfl, if_pos (by omega)]; rfl
  · rw [if_neg (by omega), if_neg e, ← List.getD_eq_getElem?_getD]
    exact h.eq i i0 i1
end Go.Proofs.YtjpphhcimpclpaaDoor.AM
end

section
set_option linter.unusedVariables false
set_option linter.unusedSimpArgs false
namespace Go.Proofs.YtjpphhcimpclpaaDoor.AM
open Go Go.Proofs

theorem mem_nodesG {ns : List Nd} {fl : List Fl} {S : List Int} {j : Nat} {k : Nd} (hk : ns[j]? = some k) {y : Sp} (hy : y ∈ nodeG ns fl S j k) : ∀ {n : Nat}, j < n → y ∈ nodesG ns fl S n
  | 0, h => by omega
  | n + 1, h => by
    rw [nodesG]
    by_cases e : j = n
    · subst e; rw [hk]; exact List.mem_append.mpr (.inr hy)
    · exact List.mem_append.mpr (.inl (mem_nodesG hk hy (by omega)))

end Go.Proofs.YtjpphhcimpclpaaDoor.AM
end

section
set_option linter.unusedVariables false
set_option linter.unusedSimpArgs false
namespace Go.Proofs.YtjpphhcimpclpaaDoor.AM
open Go Go.Proofs

theorem foldl_wrap : ∀ (l : List Int) (a : Int), (∀ x ∈ l, 0 ≤ x ∧ x ≤ 3) → 0 ≤ a → a + 3 * l.length ≤ 1000000 → l.foldl (fun n x => IntKind.i64.wrap (n + x)) a = a + l.sum ∧ 0 ≤ l.sum
  | [], a, _, _, _ => by simp
  | x :: r, a, h, h0, h1 => by
    have hx := h x (by simp)
    simp only [List.length_cons] at h1
    have hw : IntKind.i64.wrap (a + x) = a + x := IntWalk.i64_in _ (by omega)
    obtain ⟨q1, q2⟩ := foldl_wrap r (a + x) (fun y hy => h y (by simp [hy])) (by omega) (by omega)
    rw [List.foldl_cons, hw, q1, List.sum_cons]
    omega
theorem take_mem {n : Nat} {S : List Int} (h : TokOk n S) : ∀ x ∈ S.take 40, 0 ≤ x ∧ x ≤ 3 := by
  intro x hx
  obtain ⟨k, hk⟩ := List.getElem?_of_mem hx
  have hl : k < 40 := by
    rcases Nat.lt_or_ge k 40 with h | h
    · exact h
    · rw [List.getElem?_eq_none (by rw [List.length_take]; omega)] at hk; cases hk
  rw [List.getElem?_take_of_lt hl, tk_get h.len hl] at hk
  cases hk
  exact h.tok k hl
theorem sumW_eq {n : Nat} {S : List Int} (h : TokOk n S) : sumW (S.take 40) = sumT S := by
  unfold sumW sumT
  have := (foldl_wrap (S.take 40) 0 (take_mem h) (by omega) (by rw [List.length_take, h.len]; omega)).1
  rw [this]; omega
theorem mem_le_sum : ∀ (l : List Int), (∀ x ∈ l, 0 ≤ x) → ∀ x ∈ l, x ≤ l.sum ∧ 0 ≤ l.sum
  | [], _, x, hx => by cases hx
  | a :: r, h, x, hx => by
    have ha := h a (by simp)
    have hr : 0 ≤ r.sum := by
      cases r with
      | nil => simp
      | cons b t => exact (mem_le_sum (b :: t) (fun y hy => h y (by simp [hy])) b (by simp)).2
    rw [List.sum_cons]
    rcases List.mem_cons.mp hx with rfl | hx
    · exact ⟨by omega, by omega⟩
    · have := mem_le_sum r (fun y hy => h y (by simp [hy])) x hx
      omega
theorem tk_le_sum {n : Nat} {S : List Int} (h : TokOk n S) {k : Nat} (hk : k < 40) : tk S k ≤ sumT S := by
  have hm : tk S k ∈ S.take 40 := List.mem_of_getElem? (by rw [List.getElem?_take_of_lt hk]; exact tk_get h.len hk)
  exact (mem_le_sum (S.take 40) (fun x hx => (take_mem h x hx).1) _ hm).1

/-! ### How many flows a node has. -/
theorem Right.ar2 {ns : List Nd} {fl : List Fl} (h : Right ns fl) {i : Nat} {k : Nd} (hc : ns[i]? = some k) (h2 : k.kind = 2) : (insN fl i).length = 1 := by
  have := h.three (List.getElem?_eq_some_iff.mp hc).1
  unfold threeB at this
  simp only [kind_of hc, h2, Int.reduceEq, reduceIte, Bool.and_eq_true, beq_iff_eq] at this
  exact this.1
theorem Right.ar1 {ns : List Nd} {fl : List Fl} (h : Right ns fl) {i : Nat} {k : Nd} (hc : ns[i]? = some k) (h1 : k.kind = 1) : (insN fl i).length = 0 ∧ (outsN fl i).length = 1 := by
  have := h.three (List.getElem?_eq_some_iff.mp hc).1
  unfold threeB at this
  simp only [kind_of hc, h1, Int.reduceEq, reduceIte, Bool.and_eq_true, beq_iff_eq] at this
  exact this
theorem Right.ar11 {ns : List Nd} {fl : List Fl} (h : Right ns fl) {i : Nat} {k : Nd} (hc : ns[i]? = some k) (h3 : k.kind = 3 ∨ k.kind = 4 ∨ k.kind = 8) : (insN fl i).length = 1 ∧ (outsN fl i).length = 1 := by
  have := h.three (List.getElem?_eq_some_iff.mp hc).1
  unfold threeB at this
  rcases h3 with h3 | h3 | h3
  all_goals simp only [kind_of hc, h3, Int.reduceEq, reduceIte, Bool.and_eq_true, beq_iff_eq] at this
  all_goals exact this
theorem Right.ar7 {ns : List Nd} {fl : List Fl} (h : Right ns fl) {i : Nat} {k : Nd} (hc : ns[i]? = some k) (h7 : k.kind = 7) : (insN fl i).length = 1 ∧ 2 ≤ (outsN fl i).length ∧ ∀ f ∈ outsN fl i, ∃ (c : Nat) (k' : Nd), dstAt fl f = (c : Int) ∧ ns[c]? = some k' ∧ k'.kind = 8 := by
  have := h.three (List.getElem?_eq_some_iff.mp hc).1
  unfold threeB at this
  simp only [kind_of hc, h7, Int.reduceEq, reduceIte, Bool.and_eq_true, beq_iff_eq, decide_eq_true_eq] at this
  refine ⟨this.1.1, this.1.2, fun f hf => ?_⟩
  have h0 := this.2
  unfold cntB at h0
  rw [List.take_length, List.countP_eq_zero] at h0
  have h1 := h0 f hf
  obtain ⟨j, x, hj, rfl, hx, _⟩ := pickF_mem hf
  unfold othAt at h1
  unfold dstAt
  rw [Int.toNat_natCast, hx] at h1 ⊢
  simp only [bne_iff_ne, ne_eq, Decidable.not_not] at h1
  have hi := h.isIn x (List.mem_of_getElem? hx)
  obtain ⟨d0, d1⟩ := hi.2
  obtain ⟨c, hcd⟩ := Int.eq_ofNat_of_zero_le d0
  have hlt : c < ns.length := by omega
  refine ⟨c, ns[c], hcd, List.getElem?_eq_getElem hlt, ?_⟩
  rw [hcd] at h1
  rw [← kind_of (List.getElem?_eq_getElem hlt)]; exact h1

/-! ### Steps. -/
/-- A step as it is in a process without And, of a state with one token. -/
def OneStep (y : Sp) (d : Int) : Prop := d = if y.lk = 7 then -1 else 0

section
variable {ns : List Nd} {fl : List Fl} {S : List Int}

theorem catch_ok (rt : Right ns fl) (h : TokOk fl.length S) (hr : RestOk S) (hm : mdS S = 0) (node arg : Int) {c : Nat} {k : Nd} (hc : ns[c]? = some k) {fr : List Int} (hf : InFl fl.length fr) :
    ∀ y ∈ catchG ns fl S node arg c fr, StepOk fl.length S y (((outsN fl c).length : Int) - fr.length) ∧ y.lk ≠ 7 := by
  intro y hy
  have hk := rt.kind hc
  have en : ndA ns c = k.a := by unfold ndA; rw [Int.toNat_natCast, hc]
  unfold catchG at hy
  rw [en] at hy
  obtain ⟨a, hka⟩ := Int.eq_ofNat_of_zero_le hk.2.1
  have key : ∀ x : Sp, x.lk = 3 ∨ x.lk = 4 → y ∈ moveG S x fr (outsN fl c) → y.lk ≠ 7 := by
    intro x hx hy
    unfold moveG at hy
    split at hy
    · cases hy
    · split at hy
      · cases hy
      · obtain rfl := List.mem_singleton.mp hy
        simp only; omega
  split at hy
  · rename_i h4
    have a4 : a < 4 := by omega
    have hq := hr.q a a4
    rw [hka, Int.toNat_natCast] at hy
    split at hy
    · cases hy
    · have hz : qAt S (a : Int) ≠ 0 := by assumption
      refine ⟨StepOk.move h (x := ⟨node, arg, 3, c, 0, S.set (44 + a) (qAt S a - 1)⟩) (by simp [h.len]) (hr.setQ h.len a4 (by omega) (by omega)) hf (InFl_outs rt c) (.inr (.inr ⟨by simp, by simp, ?_⟩)) y hy, key _ (.inl rfl) hy⟩
      simp only; rw [mdS_set h.len (by omega), hm]
  · exact ⟨StepOk.move h (x := ⟨node, arg, 4, c, 0, S⟩) h.len hr hf (InFl_outs rt c) (.inr (.inr ⟨by simp, by simp, hm⟩)) y hy, key _ (.inr rfl) hy⟩

theorem lk_move {S : List Int} {x y : Sp} {fr to : List Int} (hy : y ∈ moveG S x fr to) : y.lk = x.lk := by
  unfold moveG at hy
  split at hy
  · cases hy
  · split at hy
    · cases hy
    · obtain rfl := List.mem_singleton.mp hy; rfl

theorem node_ok (rt : Right ns fl) (h : TokOk fl.length S) (hr : RestOk S) (hm : mdS S = 0) {i : Nat} {k : Nd} (hc : ns[i]? = some k) :
    ∀ y ∈ nodeG ns fl S i k, ∃ d, StepOk fl.length S y d ∧ (k.kind ≠ 6 → sumT S = 1 → OneStep y d) := by
  intro y hy
  have hk := rt.kind hc
  have hi := InFl_ins rt i
  have ho := InFl_outs rt i
  have hnum : ∀ t : Tm, Num (numR t (vS S)).1 := fun t => numR_num fun _ => vS_numQ hr
  unfold nodeG at hy
  split at hy
  · rename_i h2
    have ar := rt.ar2 hc h2
    unfold lastG at hy
    rw [sumW_eq h] at hy
    split at hy
    · refine ⟨_, StepOk.move h (x := ⟨i, 0, 7, 0, 0, S.set 48 1⟩) (by simp [h.len]) (hr.setM h.len (by decide) (by decide)) hi (fun f hf => by cases hf) (.inl ⟨rfl, mdS_setM h.len 1⟩) y hy, fun _ _ => ?_⟩
      unfold OneStep
      rw [lk_move hy, if_pos rfl, ar]; rfl
    · rename_i h1
      exact ⟨_, StepOk.move h (x := ⟨i, 0, 0, 0, 0, S⟩) h.len hr hi (fun f hf => by cases hf) (.inr (.inr ⟨by simp, by simp, hm⟩)) y hy, fun _ h => absurd h h1⟩
  rename_i h2
  split at hy
  · rename_i h34
    have ar := rt.ar11 hc (by omega)
    obtain ⟨a, hka⟩ := Int.eq_ofNat_of_zero_le hk.2.1
    have a4 : a < 4 := by have := hk.2.2.1 h34; omega
    unfold dataG at hy
    rw [hka, Int.toNat_natCast] at hy
    have dv : ∀ (b c d : Int) (v : Int), c ≠ 7 → c ≠ 6 → Num v → y ∈ moveG S ⟨i, b, c, i, d, S.set (40 + a) v⟩ (insN fl i) (outsN fl i) → ∃ d, StepOk fl.length S y d ∧ (k.kind ≠ 6 → sumT S = 1 → OneStep y d) := by
      intro b c d v h7 h6 hv hy
      refine ⟨_, StepOk.move h (x := ⟨i, b, c, i, d, S.set (40 + a) v⟩) (by simp [h.len]) (hr.setV h.len a4 hv) hi ho (.inr (.inr ⟨h7, h6, by simp only; rw [mdS_set h.len (by omega), hm]⟩)) y hy, fun _ _ => ?_⟩
      unfold OneStep
      rw [lk_move hy, ar.1, ar.2, if_neg h7]; rfl
    split at hy
    · cases hy
    split at hy
    · rcases List.mem_append.mp hy with hy | hy
      · exact dv _ _ _ _ (by decide) (by decide) ⟨by decide, by decide⟩ hy
      · exact dv _ _ _ _ (by decide) (by decide) ⟨by decide, by decide⟩ hy
    split at hy
    · obtain rfl := List.mem_singleton.mp hy
      exact ⟨0, .fault h hr _ _, fun _ _ => by unfold OneStep; rfl⟩
    · exact dv _ _ _ _ (by decide) (by decide) (hnum _) hy
  rename_i h34
  split at hy
  · rename_i h5
    have hx := rt.xor (List.getElem?_eq_some_iff.mp hc).1 (by rw [kind_of hc]; exact h5)
    unfold xorG at hy
    split at hy
    · rename_i h1
      obtain ⟨f, hf, hy⟩ := List.mem_flatMap.mp hy
      refine ⟨_, StepOk.move h (x := ⟨i, f, 0, 0, 0, S⟩) h.len hr (InFl_one hi hf) ho (.inr (.inr ⟨by simp, by simp, hm⟩)) y hy, fun _ _ => ?_⟩
      unfold OneStep
      rw [lk_move hy, h1]; rfl
    rename_i h1
    split at hy
    · cases hy
    split at hy
    · obtain rfl := List.mem_singleton.mp hy
      exact ⟨0, .fault h hr _ _, fun _ _ => by unfold OneStep; rfl⟩
    rename_i he
    have hin := chooseG_in (v := vS S) (rt.els hc h5 h1) (by simpa using he)
    refine ⟨_, StepOk.move h (x := ⟨i, (chooseG fl (vS S) (outsN fl i)).1, 0, 0, 0, S⟩) h.len hr hi (InFl_one ho hin) (.inr (.inr ⟨by simp, by simp, hm⟩)) y hy, fun _ _ => ?_⟩
    unfold OneStep
    rw [lk_move hy, show (insN fl i).length = 1 by omega]; rfl
  rename_i h5
  split at hy
  · rename_i h6
    exact ⟨_, StepOk.move h (x := ⟨i, 0, 0, 0, 0, S⟩) h.len hr hi ho (.inr (.inr ⟨by simp, by simp, hm⟩)) y hy, fun h => absurd h6 h⟩
  rename_i h6
  split at hy
  · rename_i h7
    obtain ⟨a1, a2, a3⟩ := rt.ar7 hc h7
    obtain ⟨f, hf, hy⟩ := List.mem_flatMap.mp hy
    obtain ⟨c, k', e1, e2, e3⟩ := a3 f hf
    rw [e1] at hy
    obtain ⟨q, q7⟩ := catch_ok rt h hr hm i f e2 hi y hy
    have ar := rt.ar11 e2 (by omega)
    refine ⟨_, q, fun _ _ => ?_⟩
    unfold OneStep
    rw [if_neg q7, ar.2, a1]; rfl
  rename_i h7
  split at hy
  · rename_i h8
    obtain ⟨q, q7⟩ := catch_ok rt h hr hm i 0 hc hi y hy
    have ar := rt.ar11 hc (by omega)
    refine ⟨_, q, fun _ _ => ?_⟩
    unfold OneStep
    rw [if_neg q7, ar.1, ar.2]; rfl
  · cases hy

theorem mem_nodes {y : Sp} : ∀ {n : Nat}, y ∈ nodesG ns fl S n → ∃ (j : Nat) (k : Nd), ns[j]? = some k ∧ y ∈ nodeG ns fl S j k
  | 0, h => by cases h
  | n + 1, h => by
    rw [nodesG] at h
    rcases List.mem_append.mp h with h | h
    · exact mem_nodes h
    · split at h
      · rename_i k hk; exact ⟨n, k, hk, h⟩
      · cases h
theorem mem_sends {y : Sp} : ∀ {m : Nat}, y ∈ sendsG ns S m → ∃ j, j < m ∧ y ∈ sendG ns S j
  | 0, h => by cases h
  | m + 1, h => by
    rw [sendsG] at h
    rcases List.mem_append.mp h with h | h
    · obtain ⟨j, h1, h2⟩ := mem_sends h; exact ⟨j, by omega, h2⟩
    · exact ⟨m, by omega, h⟩

theorem send_ok (h : TokOk fl.length S) (hr : RestOk S) (hm : mdS S = 0) {m : Nat} (h4 : m < 4) : ∀ y ∈ sendG ns S m, StepOk fl.length S y 0 ∧ y.lk ≠ 7 := by
  intro y hy
  unfold sendG at hy
  split at hy
  · rename_i hq
    have := hr.q m h4
    have q := StepOk.move h (x := ⟨-1, m, 5, 0, m, S.set (44 + m) (qAt S m + 1)⟩) (by simp [h.len]) (hr.setQ h.len h4 (by omega) (by omega)) (fr := []) (to := []) (fun f hf => by cases hf) (fun f hf => by cases hf)
      (.inr (.inr ⟨by simp, by simp, by simp only; rw [mdS_set h.len (by omega), hm]⟩)) y hy
    exact ⟨q, by rw [lk_move hy]; simp⟩
  · cases hy

/-- What the moves of a state lead to. -/
theorem steps_ok (hS : S.length = 49) (h0 : stC ns fl S = 0) : ∀ y ∈ stepsG ns fl S,
    ∃ d, StepOk fl.length S y d ∧ ((∀ k ∈ ns, k.kind ≠ 6) → sumT S = 1 → OneStep y d) := by
  intro y hy
  obtain ⟨hn, hk⟩ := stC_zero h0
  have rt := Right.of hn
  obtain ⟨h, hr⟩ := okS_to hS hk
  unfold stepsG at hy
  split at hy
  · cases hy
  rename_i hm
  have hm : mdS S = 0 := by rw [not_or] at hm; simpa using hm.2
  rcases List.mem_append.mp hy with hy | hy
  · obtain ⟨j, k, h1, h2⟩ := mem_nodes hy
    obtain ⟨d, a1, a2⟩ := node_ok rt h hr hm h1 y h2
    exact ⟨d, a1, fun ha => a2 (ha k (List.mem_of_getElem? h1))⟩
  · obtain ⟨j, h1, h2⟩ := mem_sends hy
    obtain ⟨q1, q2⟩ := send_ok h hr hm h1 y h2
    exact ⟨0, q1, fun _ _ => by unfold OneStep; rw [if_neg q2]⟩
theorem steps_state (hS : S.length = 49) (h0 : stC ns fl S = 0) {y : Sp} (hy : y ∈ stepsG ns fl S) : stC ns fl y.to = 0 ∧ (mdS y.to == 1) = (y.lk == 7) ∧ (mdS y.to == 2) = (y.lk == 6) := by
  obtain ⟨d, q, _⟩ := steps_ok hS h0 y hy
  refine ⟨?_, ?_⟩
  · unfold stC
    rw [if_neg (by simp [(stC_zero h0).1]), if_pos (okS_of q.tok q.rest)]
  · rcases q.md with ⟨h1, h2⟩ | ⟨h1, h2⟩ | ⟨h1, h2, h3⟩
    · rw [h1, h2]; exact ⟨rfl, rfl⟩
    · rw [h1, h2]; exact ⟨rfl, rfl⟩
    · rw [h3]
      refine ⟨?_, ?_⟩ <;> (rw [eq_comm]; simp [h1, h2])

/-! ### A process without And. -/

/-- What is kept: one token till it is ended. -/
def OneOk (ns : List Nd) (fl : List Fl) (S : List Int) : Prop := S.length = 49 ∧ stC ns fl S = 0 ∧ sumT S = if mdS S = 1 then 0 else 1

theorem one_step (ha : ∀ k ∈ ns, k.kind ≠ 6) (h : OneOk ns fl S) {y : Sp} (hy : y ∈ stepsG ns fl S) : OneOk ns fl y.to := by
  obtain ⟨hS, h0, hs⟩ := h
  obtain ⟨d, q, q1⟩ := steps_ok hS h0 y hy
  have hm : mdS S = 0 := by
    unfold stepsG at hy
    split at hy
    · cases hy
    · rename_i hm; rw [not_or] at hm; simpa using hm.2
  rw [hm, if_neg (by decide)] at hs
  have hd := q1 ha hs
  refine ⟨q.tok.len, (steps_state hS h0 hy).1, ?_⟩
  rw [q.sum, hs, hd]
  rcases q.md with ⟨h1, h2⟩ | ⟨h1, h2⟩ | ⟨h1, h2, h3⟩
  · rw [h1, h2]; rfl
  · rw [h1, h2]; rfl
  · rw [if_neg h1, h3]; rfl

theorem sum_pos : ∀ (l : List Int), (∀ x ∈ l, 0 ≤ x) → l.sum = 1 → ∃ (k : Nat), l[k]? = some 1
  | [], _, h => by simp at h
  | a :: r, h0, h => by
    have ha := h0 a (by simp)
    rw [List.sum_cons] at h
    by_cases e : a = 1
    · exact ⟨0, by rw [e]; rfl⟩
    · have hr : 0 ≤ r.sum := by
        cases r with
        | nil => simp
        | cons b t => exact (mem_le_sum (b :: t) (fun y hy => h0 y (by simp [hy])) b (by simp)).2
      obtain ⟨k, hk⟩ := sum_pos r (fun x hx => h0 x (by simp [hx])) (by omega)
      exact ⟨k + 1, hk⟩

theorem step_take {S : List Int} {j : Nat} (h1 : tk S j = 1) : stepT S (j : Int) = some (S.set j 0) := by
  unfold stepT; rw [h1, if_neg (by decide), Int.toNat_natCast]; rfl
theorem move_one {x : Sp} (h : TokOk fl.length S) (hs : sumT S = 1) (hx : x.to.length = 49) {f : Nat} (hf : f < 40) (h1 : tk S f = 1) {to : List Int} (ht : to.length ≤ 1) (hto : InFl fl.length to) : moveG S x [(f : Int)] to ≠ [] := by
  have hj := joinS_ok h hx
  have e1 : tk (joinS S x.to) f = 1 := by rw [joinS_tk h.len hf]; exact h1
  unfold moveG
  have e2 : runO stepT [(f : Int)] (joinS S x.to) = some ((joinS S x.to).set f 0) := by
    unfold runO; rw [List.foldlM_cons, step_take e1]; rfl
  rw [e2]
  simp only
  match to, ht, hto with
  | [], _, _ => simp [runO]
  | [g], _, hto =>
    obtain ⟨j, rfl, hn, hj40⟩ := hto g (by simp)
    have : tk ((joinS S x.to).set f 0) j ≤ 1 := by
      rw [tk_set hj.len hf]
      split
      · decide
      · rw [joinS_tk h.len hj40, ← hs]; exact tk_le_sum h hj40
    have e3 : runO stepP [(j : Int)] ((joinS S x.to).set f 0) = some (((joinS S x.to).set f 0).set j (tk ((joinS S x.to).set f 0) j + 1)) := by
      unfold runO; rw [List.foldlM_cons]
      unfold stepP
      rw [if_neg (by omega), Int.toNat_natCast]; rfl
    rw [e3]; simp

theorem len_one {α : Type} {l : List α} (h : l.length = 1) : ∃ a, l = [a] := by
  match l, h with
  | [a], _ => exact ⟨a, rfl⟩
theorem awaits_of {c : Nat} {k : Nd} (hc : ns[c]? = some k) (h8 : k.kind = 8) {a : Nat} (ha : k.a = a) : awaitsB ns a = true := by
  unfold awaitsB
  rw [List.any_eq_true]
  exact ⟨k, List.mem_of_getElem? hc, by simp [h8, ha]⟩
theorem mem_sendsG {y : Sp} {m n : Nat} (h : m < n) (hy : y ∈ sendG ns S m) : y ∈ sendsG ns S n := by
  induction n with
  | zero => omega
  | succ n ih =>
    rw [sendsG]
    by_cases e : m = n
    · subst e; exact List.mem_append_right _ hy
    · exact List.mem_append_left _ (ih (by omega))

/-- A catch, or what it waits for, can go. -/
theorem catch_goes (rt : Right ns fl) (h : TokOk fl.length S) (hr : RestOk S) (hs : sumT S = 1) (node arg : Int) {c : Nat} {k : Nd} (hc : ns[c]? = some k) (h8 : k.kind = 8) {f : Nat} (hf : f < 40) (h1 : tk S f = 1) :
    catchG ns fl S node arg c [(f : Int)] ≠ [] ∨ sendsG ns S 4 ≠ [] := by
  have hk := rt.kind hc
  have ar := rt.ar11 hc (by omega)
  have en : ndA ns c = k.a := by unfold ndA; rw [Int.toNat_natCast, hc]
  obtain ⟨a, hka⟩ := Int.eq_ofNat_of_zero_le hk.2.1
  by_cases h4 : k.a < 4
  · have a4 : a < 4 := by omega
    have hq := hr.q a a4
    by_cases hz : qAt S (a : Int) = 0
    · right
      have : sendG ns S a ≠ [] := by
        unfold sendG
        rw [if_pos ⟨awaits_of hc h8 hka, by omega⟩]
        unfold moveG
        simp [runO]
      obtain ⟨y, hy⟩ := List.exists_mem_of_ne_nil _ this
      exact List.ne_nil_of_mem (mem_sendsG a4 hy)
    · left
      unfold catchG
      rw [en, if_pos h4, hka, if_neg hz]
      exact move_one h hs (by simp [h.len]) hf h1 (by omega) (InFl_outs rt c)
  · left
    unfold catchG
    rw [en, if_neg h4]
    exact move_one h hs h.len hf h1 (by omega) (InFl_outs rt c)

/-- A process without And never sticks. -/
theorem one_goes (ha : ∀ k ∈ ns, k.kind ≠ 6) (h : OneOk ns fl S) (hm : mdS S = 0) : stepsG ns fl S ≠ [] := by
  obtain ⟨hS, h0, hs⟩ := h
  obtain ⟨hn, hk⟩ := stC_zero h0
  have rt := Right.of hn
  obtain ⟨h, hr⟩ := okS_to hS hk
  rw [hm, if_neg (by decide)] at hs
  unfold stepsG
  rw [if_neg (by simp [h0, hm])]
  obtain ⟨f, hf⟩ := sum_pos (S.take 40) (fun x hx => (take_mem h x hx).1) hs
  have hf40 : f < 40 := by
    rcases Nat.lt_or_ge f 40 with h | h
    · exact h
    · rw [List.getElem?_eq_none (by rw [List.length_take]; omega)] at hf; cases hf
  rw [List.getElem?_take_of_lt hf40, tk_get hS hf40] at hf
  have h1 : tk S f = 1 := Option.some.inj hf
  have hfl : f < fl.length := by
    rcases Nat.lt_or_ge f fl.length with h2 | h2
    · exact h2
    · have := h.off f h2 hf40; omega
  obtain ⟨x, hx⟩ : ∃ x, fl[f]? = some x := ⟨_, List.getElem?_eq_getElem hfl⟩
  have hi := rt.isIn x (List.mem_of_getElem? hx)
  obtain ⟨d0, d1⟩ := hi.2
  obtain ⟨c, hcd⟩ := Int.eq_ofNat_of_zero_le d0
  have hlt : c < ns.length := by omega
  obtain ⟨k, hc⟩ : ∃ k, ns[c]? = some k := ⟨_, List.getElem?_eq_getElem hlt⟩
  have hin : (f : Int) ∈ insN fl c := by
    have : ∀ n, f < n → n ≤ fl.length → (f : Int) ∈ pickF (fun f => f.dst == (c : Int)) fl n := by
      intro n
      induction n with
      | zero => intro h; omega
      | succ n ih =>
        intro h1 h2
        obtain ⟨z, hz⟩ : ∃ z, fl[n]? = some z := ⟨_, List.getElem?_eq_getElem (by omega)⟩
        unfold pickF
        rw [hz]
        simp only
        by_cases e : f = n
        · subst e
          rw [hx] at hz; cases hz
          rw [if_pos (by simp [hcd])]
          simp
        · have := ih (by omega) (by omega)
          split
          · exact List.mem_append_left _ this
          · exact this
    exact this fl.length hfl (Nat.le_refl _)
  suffices hh : nodeG ns fl S c k ≠ [] ∨ sendsG ns S 4 ≠ [] by
    rcases hh with hh | hh
    · obtain ⟨y, hy⟩ := List.exists_mem_of_ne_nil _ hh
      exact List.ne_nil_of_mem (List.mem_append_left _ (mem_nodesG hc hy hlt))
    · obtain ⟨y, hy⟩ := List.exists_mem_of_ne_nil _ hh
      exact List.ne_nil_of_mem (List.mem_append_right _ hy)
  have hk := rt.kind hc
  have hone : (insN fl c).length = 1 → insN fl c = [(f : Int)] := by
    intro e
    obtain ⟨a, ea⟩ := len_one e
    rw [ea] at hin ⊢
    rw [List.mem_singleton.mp hin]
  have ho := InFl_outs rt c
  unfold nodeG
  by_cases h2 : k.kind = 2
  · left
    rw [if_pos h2, hone (rt.ar2 hc h2)]
    unfold lastG
    split
    · exact move_one h hs (by simp [h.len]) hf40 h1 (by simp) (fun f hf => by cases hf)
    · exact move_one h hs h.len hf40 h1 (by simp) (fun f hf => by cases hf)
  rw [if_neg h2]
  by_cases h34 : k.kind = 3 ∨ k.kind = 4
  · left
    have ar := rt.ar11 hc (by omega)
    rw [if_pos h34, hone ar.1]
    unfold dataG
    rw [List.headD_cons, h1, if_neg (by decide)]
    split
    · have := move_one (x := ⟨c, 0, 1, c, 0, S.set (40 + k.a.toNat) 0⟩) h hs (by simp [h.len]) hf40 h1 (to := outsN fl c) (by omega) ho
      intro e
      exact this (List.append_eq_nil_iff.mp e).1
    · split
      · simp
      · exact move_one h hs (by simp [h.len]) hf40 h1 (by omega) ho
  rw [if_neg h34]
  by_cases h5 : k.kind = 5
  · left
    rw [if_pos h5]
    have hx := rt.xor hlt (by rw [kind_of hc]; exact h5)
    unfold xorG
    by_cases h11 : (outsN fl c).length = 1
    · rw [if_pos h11]
      have := move_one (x := ⟨c, (f : Int), 0, 0, 0, S⟩) h hs h.len hf40 h1 (to := outsN fl c) (by omega) ho
      obtain ⟨y, hy⟩ := List.exists_mem_of_ne_nil _ this
      exact List.ne_nil_of_mem (List.mem_flatMap.mpr ⟨f, hin, hy⟩)
    · rw [if_neg h11, hone (by omega), List.headD_cons, h1, if_neg (by decide)]
      split
      · simp
      · rename_i he
        have hin := chooseG_in (v := vS S) (rt.els hc h5 h11) (by simpa using he)
        exact move_one h hs h.len hf40 h1 (by simp) (InFl_one ho hin)
  rw [if_neg h5, if_neg (ha k (List.mem_of_getElem? hc))]
  by_cases h7 : k.kind = 7
  · obtain ⟨a1, a2, a3⟩ := rt.ar7 hc h7
    rw [if_pos h7, hone a1]
    obtain ⟨g, hg⟩ : ∃ g, g ∈ outsN fl c := by
      match hq : outsN fl c, a2 with
      | g :: _, _ => exact ⟨g, by simp⟩
    obtain ⟨c', k', e1, e2, e3⟩ := a3 g hg
    rcases catch_goes rt h hr hs c g e2 e3 hf40 h1 with hh | hh
    · left
      obtain ⟨y, hy⟩ := List.exists_mem_of_ne_nil _ hh
      exact List.ne_nil_of_mem (List.mem_flatMap.mpr ⟨g, hg, by rw [e1]; exact hy⟩)
    · exact .inr hh
  rw [if_neg h7]
  by_cases h8 : k.kind = 8
  · rw [if_pos h8, hone (rt.ar11 hc (by omega)).1]
    exact catch_goes rt h hr hs c 0 hc h8 hf40 h1
  · exfalso
    have h6 := ha k (List.mem_of_getElem? hc)
    have h11 : k.kind = 1 := by omega
    have := (rt.ar1 hc h11).1
    rw [List.length_eq_zero_iff.mp this] at hin
    cases hin
end
end Go.Proofs.YtjpphhcimpclpaaDoor.AM
end

section
set_option linter.unusedVariables false
set_option linter.unusedSimpArgs false
set_option maxRecDepth 4000
set_option maxHeartbeats 4000000
namespace Go.Proofs.YtjpphhcimpclpaaDoor.AM
open Go Go.Proofs
set_option linter.defProp false in
attribute [local irreducible] awp aops aqops aeops arun arunT

section
variable {h : Heap} {b lb : Nat} {ns : List Nd} {fl : List Fl} {S : List Int} {l : List Sp}

theorem tnode_calls (nk : NetOk ns fl) (rt : Right ns fl) (ok : GmOk h b lb S l) (st : StOk S) (few : l.length ≤ 900000) (c : Nat) {k : Nd} (hc : ns[c]? = some k) :
    ACalls Tryd.prog gW 49 [.ptr b 0 0, .i c] (putG h b lb ns fl S l) (fun r h' => r = .undef ∧ h' = putG h b lb ns fl S (l ++ nodeG ns fl S c k)) := by
  have hkd := rt.kind hc
  have hS := ok.held.1
  by_cases h1 : k.kind = 1
  · exact tnode_1 nk rt ok st few c hc h1
  have hne := rt.ins hc h1
  by_cases hl1 : (insN fl c).length = 1
  · obtain ⟨m0, hm0⟩ : ∃ m0, insN fl c = [m0] := by
      match hq : insN fl c, hl1 with
      | [a], _ => exact ⟨a, rfl⟩
    obtain ⟨f0, f40⟩ := (InF_ins rt.f c).2 m0 (by rw [hm0]; simp)
    obtain ⟨m, rfl⟩ := Int.eq_ofNat_of_zero_le f0
    have m40 : m < 40 := by omega
    by_cases h0 : tk S (m : Int) = 0
    · have := tnode_none (ns := ns) (fl := fl) nk rt ok c hc m m40 hm0 h1 h0
      have hz := node_zero (ns := ns) hS m40 hm0 h0 (k := k) fun h5 hx => by
        have := rt.xor (List.getElem?_eq_some_iff.mp hc).1 (by rw [kind_of hc]; exact h5)
        omega
      rw [hz, List.append_nil]
      exact this
    · by_cases h2 : k.kind = 2
      · exact tnode_2 nk rt ok st few c hc h2 m m40 hm0 h0
      by_cases h3 : k.kind = 3
      · exact tnode_3 nk rt ok st few c hc h3 m m40 hm0 h0
      by_cases h4 : k.kind = 4
      · exact tnode_4 nk rt ok st few c hc h4 m m40 hm0 h0
      by_cases h5 : k.kind = 5
      · exact tnode_5a nk rt ok st few c hc h5 m m40 hm0 h0
      by_cases h6 : k.kind = 6
      · exact tnode_6a nk rt ok st few c hc h6 m m40 hm0 h0
      by_cases h7 : k.kind = 7
      · exact tnode_7 nk rt ok st few c hc h7 m m40 hm0 h0
      · exact tnode_8 nk rt ok st few c hc (by omega) m m40 hm0 h0
  · by_cases h5 : k.kind = 5
    · exact tnode_5b nk rt ok st few c hc h5 hl1
    by_cases h6 : k.kind = 6
    · exact tnode_6b nk rt ok st few c hc h6 hl1
    exfalso
    by_cases h2 : k.kind = 2
    · exact hl1 (rt.ar2 hc h2)
    by_cases h7 : k.kind = 7
    · exact hl1 (rt.ar7 hc h7).1
    exact hl1 (rt.ar11 hc (by omega)).1
end
end Go.Proofs.YtjpphhcimpclpaaDoor.AM
end

section
set_option linter.unusedVariables false
set_option linter.unusedSimpArgs false
set_option maxRecDepth 4000
set_option maxHeartbeats 4000000
namespace Go.Proofs.YtjpphhcimpclpaaDoor.AM
open Go Go.Proofs
set_option linter.defProp false in
def TTTmM := And.intro T2 (And.intro T3 (And.intro T4 (And.intro T22 (And.intro T25 (And.intro T26 (And.intro T27 (And.intro T31 (And.intro T40 (And.intro T46 (And.intro T53 (And.intro T60 (And.intro T95 (And.intro T98 (And.intro T111 (And.intro T113 (And.intro T116 T117))))))))))))))))
attribute [local irreducible] awp aops aqops aeops arun arunT

theorem step_fn_nn {h : Heap} {b lb : Nat} {ns : List Nd} {fl : List Fl} {S : List Int} {l : List Sp} (ok : GmOk h b lb S l) (m : Sp) (L : Heap) {f : FuncId} (hE : Enters Tryd.prog f) {caps : List AV} (hcap : avlts (h.length + L.length) caps) {chg : List Int → List Int} (hlen : ∀ T : List Int, T.length = 49 → (chg T).length = 49)
    (hC : ∀ (A : Option Blk) (T : List Int), T.length = 49 → T.drop 40 = S.drop 40 → ACalls Tryd.prog gW f (.ptr (h.length + L.length + 1) 0 0 :: caps) (putG h b lb ns fl S l ++ (L ++ [A, some ⟨0, T.map AV.i⟩])) (fun r h' => r = .undef ∧ h' = putG h b lb ns fl S l ++ (L ++ [A, some ⟨0, (chg T).map AV.i⟩]))) :
    ACalls Tryd.prog gW 51 [.ptr b 0 0, aMv m, .p .nils, .p .nils, .fn f caps] (putG h b lb ns fl S l ++ L) (fun r h' => r = .undef ∧ h' = putG h b lb ns fl S (l ++ stF S m chg [] []) ++ L) := by
  have := step_fn_at (G := gW) (ns := ns) (fl := fl) ok m [] [] ⟨by simp, by simp⟩ ⟨by simp, by simp⟩ L hE hcap hlen hC
  refine ACalls.nrm ?_
  simp only [nrmAs, nrmA, nrm]
  exact this

theorem more_at {h : Heap} {b lb : Nat} {ns : List Nd} {fl : List Fl} {S : List Int} {l : List Sp} {a : Nat} (ha : a < 4) {q : Int} (hq : S[44 + a]? = some q) (hq0 : 0 ≤ q ∧ q ≤ 3) (A : Option Blk) (T : List Int) (hT : T.length = 49) (hd : T.drop 40 = S.drop 40) :
    ACalls Tryd.prog gW 52 [.ptr (h.length + 1 + 1) 0 0, .ptr h.length 0 0] (putG h b lb ns fl S l ++ ([some ⟨0, [.i a]⟩] ++ [A, some ⟨0, T.map AV.i⟩]))
    (fun r h' => r = .undef ∧ h' = putG h b lb ns fl S l ++ ([some ⟨0, [.i a]⟩] ++ [A, some ⟨0, (T.set (44 + a) (q + 1)).map AV.i⟩])) := by
  have hqT : T[44 + a]? = some q := by
    have e : (T.drop 40)[4 + a]? = (S.drop 40)[4 + a]? := by rw [hd]
    rw [List.getElem?_drop, List.getElem?_drop, show 40 + (4 + a) = 44 + a by omega] at e
    rw [e, hq]
  have := more_calls (G := gW) (H := putG h b lb ns fl S l ++ ([some ⟨0, [.i a]⟩] ++ [A, some ⟨0, T.map AV.i⟩])) (c := h.length + 2) (r := h.length) (gc := 0) (gr := 0) (by rw [pg_geti]; rfl) hT ha (by rw [pg_get0]; rfl) hqT hq0
  rw [pg_seti] at this
  exact this

theorem tSteps_calls {ns : List Nd} {fl : List Fl} (nk : NetOk ns fl) {S : List Int} (hS : S.length = 49) (h : Heap) :
    ACalls Tryd.prog gW 34 [aNet ns fl, aS S] h (fun r h' => r = aSps (stepsG ns fl S) ∧ h' = h) := by
  have hne := ne_is hS
  have hck := fun h => tChk_calls nk hS h
  have dm := dropI (at_get hS (k := 48) (by omega))
  have emd : S.getD 48 0 = mdS S := rfl
  rw [emd] at dm
  have t49 : ((S.map AV.i).drop 0).take 49 = S.map AV.i := by rw [List.drop_zero]; exact List.take_of_length_le (by rw [List.length_map, hS]; exact Nat.le_refl _)
  have t49' : (S.map AV.i).take 49 = S.map AV.i := by rwa [List.drop_zero] at t49
  by_cases h0 : stC ns fl S = 0
  case neg =>
    have e : stepsG ns fl S = [] := by unfold stepsG; rw [if_pos (.inl h0)]
    have f0 : (stC ns fl S != 0) = true := by simp [h0]
    rw [e]
    refine acalls_pure (rl := []) mixed Tryd.func34 rfl (rs := [.tmp 4]) rfl Tryd.ntmps34 (by simp) ?_
    repeat' (first | ((first | refine aops_nil ?_ | refine aqops_nil ?_); (try simp only [NB])) | ((repeat ((fail_if_success (refine hK _ ?_)); clear hK K)); refine hK _ ?_; clear hK K) | ((first | refine aops_k fun K1 hK1 => ?_ | refine aqops_k fun K1 hK1 => ?_ | refine awp_cond_k fun A B hA hB => ?_); simp only [S1, simprocAttr, TTTmM, TSz, z49_ne, z49_map, zS_len, f0, hne, hS, all_scalar, t49', dm, takeA_arr, takeA_st, List.length_map]; first | (refine hK1 _ ?_; clear hK1 K1) | ((first | refine hA ?_ | refine hB ?_); clear hA hB A B) | ((first | apply call_a E9 | apply call_q E9); exact (hck _); (refine hK1 _ ?_; clear hK1 K1)) | (refine join_x (v := ?_) (fun hg hk9 => ?_) ?_; rotate_left; (focus (try ((try simp only [BN] at hg); simp only [S1, simprocAttr, TTTmM, TSz, z49_ne, z49_map, zS_len, f0, hne, hS, all_scalar, t49', dm, takeA_arr, takeA_st, List.length_map, hg] at hk9 ⊢)); first | exact hk9 | ((first | apply call_a E9 | apply call_q E9); exact (hck _); exact hk9)); (refine hK1 _ ?_; clear hK1 K1)) | (((first | (refine ⟨fun hg => hA ?_, fun hg => hB ?_⟩ <;> clear hA hB A B) | refine ⟨fun hg => ?_, fun hg => ?_⟩) <;> (try simp only [BN2] at hg) <;> (try simp only [hg, cond_true, cond_false])) <;> (try (refine hK1 _ ?_; clear hK1 K1)) <;> (try simp only [BN3] at hg))) | (refine awp_seq_k fun K hK => ?_) | ((first | refine awp_region ?_ | refine awp_draw (by kernel_rfl) ?_ | refine awp_block ?_ | refine awp_exit ?_ | refine awp_skip ?_ | refine awp_ret ?_); (try simp only [NB, simprocAttr])))
    all_goals simp only [EndP, FinP, resA, resL, resA1, lastV, lastA, lastAs, pur, purs, take_app, List.take_length, S1, simprocAttr, TTTmM, Nat.le_add_right, Nat.le_refl]
    all_goals rfl
  have f0 : (stC ns fl S != 0) = false := by simp [h0]
  by_cases h1 : mdS S = 0
  case neg =>
    have e : stepsG ns fl S = [] := by unfold stepsG; rw [if_pos (.inr h1)]
    have f1 : (mdS S != 0) = true := by simp [h1]
    rw [e]
    refine acalls_pure (rl := []) mixed Tryd.func34 rfl (rs := [.tmp 4]) rfl Tryd.ntmps34 (by simp) ?_
    repeat' (first | ((first | refine aops_nil ?_ | refine aqops_nil ?_); (try simp only [NB])) | ((repeat ((fail_if_success (refine hK _ ?_)); clear hK K)); refine hK _ ?_; clear hK K) | ((first | refine aops_k fun K1 hK1 => ?_ | refine aqops_k fun K1 hK1 => ?_ | refine awp_cond_k fun A B hA hB => ?_); simp only [S1, simprocAttr, TTTmM, TSz, z49_ne, z49_map, zS_len, f0, f1, hne, hS, all_scalar, t49', dm, takeA_arr, takeA_st, List.length_map]; first | (refine hK1 _ ?_; clear hK1 K1) | ((first | refine hA ?_ | refine hB ?_); clear hA hB A B) | ((first | apply call_a E9 | apply call_q E9); exact (hck _); (refine hK1 _ ?_; clear hK1 K1)) | (refine join_x (v := ?_) (fun hg hk9 => ?_) ?_; rotate_left; (focus (try ((try simp only [BN] at hg); simp only [S1, simprocAttr, TTTmM, TSz, z49_ne, z49_map, zS_len, f0, f1, hne, hS, all_scalar, t49', dm, takeA_arr, takeA_st, List.length_map, hg] at hk9 ⊢)); first | exact hk9 | ((first | apply call_a E9 | apply call_q E9); exact (hck _); exact hk9)); (refine hK1 _ ?_; clear hK1 K1)) | (((first | (refine ⟨fun hg => hA ?_, fun hg => hB ?_⟩ <;> clear hA hB A B) | refine ⟨fun hg => ?_, fun hg => ?_⟩) <;> (try simp only [BN2] at hg) <;> (try simp only [hg, cond_true, cond_false])) <;> (try (refine hK1 _ ?_; clear hK1 K1)) <;> (try simp only [BN3] at hg))) | (refine awp_seq_k fun K hK => ?_) | ((first | refine awp_region ?_ | refine awp_draw (by kernel_rfl) ?_ | refine awp_block ?_ | refine awp_exit ?_ | refine awp_skip ?_ | refine awp_ret ?_); (try simp only [NB, simprocAttr])))
    all_goals simp only [EndP, FinP, resA, resL, resA1, lastV, lastA, lastAs, pur, purs, take_app, List.take_length, S1, simprocAttr, TTTmM, Nat.le_add_right, Nat.le_refl]
    all_goals rfl
  have f1 : (mdS S != 0) = false := by simp [h1]
  have e : stepsG ns fl S = nodesG ns fl S ns.length ++ sendsG ns S 4 := by unfold stepsG; rw [if_neg (by simp [h0, h1])]
  rw [e]
  refine acalls_pure (rl := []) mixed Tryd.func34 rfl (rs := [.tmp 4]) rfl Tryd.ntmps34 (by simp) ?_
  have ov2 := over_two hS
  repeat' (first | ((first | refine aops_nil ?_ | refine aqops_nil ?_); (try simp only [NB])) | ((repeat ((fail_if_success (refine hK _ ?_)); clear hK K)); refine hK _ ?_; clear hK K) | ((first | refine aops_k fun K1 hK1 => ?_ | refine aqops_k fun K1 hK1 => ?_ | refine awp_cond_k fun A B hA hB => ?_); simp only [S1, simprocAttr, TTTmM, TSz, z49_ne, z49_map, zS_len, f0, f1, hne, hS, ov2, all_scalar, t49', dm, takeA_arr, takeA_st, List.length_map, List.length_cons, List.length_nil, List.drop_succ_cons, List.drop_zero, List.all_append, List.length_append]; first | (refine hK1 _ ?_; clear hK1 K1) | ((first | refine hA ?_ | refine hB ?_); clear hA hB A B) | ((first | apply call_a E9 | apply call_q E9); exact (hck _); (refine hK1 _ ?_; clear hK1 K1)) | (refine join_x (v := ?_) (fun hg hk9 => ?_) ?_; rotate_left; (focus (try ((try simp only [BN] at hg); simp only [S1, simprocAttr, TTTmM, TSz, z49_ne, z49_map, zS_len, f0, f1, hne, hS, ov2, all_scalar, t49', dm, takeA_arr, takeA_st, List.length_map, List.length_cons, List.length_nil, List.drop_succ_cons, List.drop_zero, List.all_append, List.length_append, hg] at hk9 ⊢)); first | exact hk9 | ((first | apply call_a E9 | apply call_q E9); exact (hck _); exact hk9)); (refine hK1 _ ?_; clear hK1 K1)) | (((first | (refine ⟨fun hg => hA ?_, fun hg => hB ?_⟩ <;> clear hA hB A B) | refine ⟨fun hg => ?_, fun hg => ?_⟩) <;> (try simp only [BN2] at hg) <;> (try simp only [hg, cond_true, cond_false])) <;> (try (refine hK1 _ ?_; clear hK1 K1)) <;> (try simp only [BN3] at hg))) | (refine awp_seq_k fun K hK => ?_) | ((first | refine awp_region ?_ | refine awp_draw (by kernel_rfl) ?_ | refine awp_block ?_ | refine awp_exit ?_ | refine awp_skip ?_ | refine awp_ret ?_); (try simp only [NB, simprocAttr])))
  obtain ⟨hn0, hok⟩ := stC_zero h0
  have rt := Right.of hn0
  have st := okS_st hS hok
  have hn := rt.n
  have hf := rt.f
  have hnl : ∀ j, j ≤ ns.length → (nodesG ns fl S j).length ≤ 2400 := fun j hj => Nat.le_trans (nodesG_len ns fl S hf j) (by omega)
  have gok : ∀ l : List Sp, (∀ y ∈ l, y.to.length = 49) → l.length ≤ 3000 → GmOk (h ++ [some ⟨0, cNet ns fl⟩, some ⟨0, S.map AV.i⟩, none, none]) (h.length + 2) (h.length + 3) S l :=
    fun l h1 h2 => ⟨by simp, by simp, by omega, st.held, h1, by omega⟩
  have hnode : ∀ (l : List Sp), (∀ y ∈ l, y.to.length = 49) → l.length ≤ 3000 → ∀ (c : Nat) (k : Nd), ns[c]? = some k → ACalls Tryd.prog gW 49 [.ptr (h.length + 2) 0 0, .i c] (h ++ [some ⟨0, cNet ns fl⟩, some ⟨0, S.map AV.i⟩, gmB ns fl S (h.length + 3) l, spB l])
      (fun r h' => r = .undef ∧ h' = h ++ [some ⟨0, cNet ns fl⟩, some ⟨0, S.map AV.i⟩, gmB ns fl S (h.length + 3) (l ++ nodeG ns fl S c k), spB (l ++ nodeG ns fl S c k)]) := by
    intro l h1 h2 c k hc
    have := tnode_calls nk rt (gok l h1 h2) st (by omega) c hc
    have e1 := pg_tail h (some ⟨0, cNet ns fl⟩) (some ⟨0, S.map AV.i⟩) none none [] ns fl S l
    have e2 := pg_tail h (some ⟨0, cNet ns fl⟩) (some ⟨0, S.map AV.i⟩) none none [] ns fl S (l ++ nodeG ns fl S c k)
    rw [List.append_nil] at e1 e2
    rwa [e1, e2] at this
  refine awp_forG ns.length 57 (fun j => [(25, .i j), (24, .i ns.length), (5, .ptr (h.length + 2) 0 0), (3, .ptr (h.length + 1) 0 0), (2, .ptr h.length 0 0)])
    (fun j => [some ⟨0, cNet ns fl⟩, some ⟨0, S.map AV.i⟩, gmB ns fl S (h.length + 3) (nodesG ns fl S j), spB (nodesG ns fl S j)]) (fun j => True) ?_ trivial fun j hj hp K hK => ?_
  · refine (Ghost.game hS rfl).trans (Sub.ghost ⟨rfl, ⟨[], by simp only [List.append_nil]; rfl⟩, ?_, ⟨trivial, trivial, trivial⟩, avlts_is _ _, pg_avl2 (by simp), avlts_is _ _, trivial⟩)
    simp only [keeps, avlt, avlts, blksLt, frL, upd_get, S1, simprocAttr, List.length_map, Int.natCast_zero, AV.p.injEq, PV.int.injEq, PV.bool.injEq, PV.sl.injEq] <;> (try and_intros) <;> (try assumption) <;> (try trivial) <;> (try omega)
  rcases Nat.lt_or_ge j ns.length with hlt | hge
  · obtain ⟨k, hx⟩ : ∃ k, ns[j]? = some k := ⟨_, List.getElem?_eq_getElem hlt⟩
    have ej : nodesG ns fl S (j + 1) = nodesG ns fl S j ++ nodeG ns fl S j k := by rw [nodesG, hx]
    have hnd := hnode (nodesG ns fl S j) (nodesG_to hS j) (by have := hnl j hj; omega) j k hx
    repeat' (first | ((first | refine aops_nil ?_ | refine aqops_nil ?_); (try simp only [NB])) | ((repeat ((fail_if_success (refine hK _ ?_)); clear hK K)); refine hK _ ?_; clear hK K) | ((first | refine aops_k fun K1 hK1 => ?_ | refine aqops_k fun K1 hK1 => ?_ | refine awp_cond_k fun A B hA hB => ?_); simp only [S1, simprocAttr, TTTmM, hitN hlt, nextN nk.n hlt]; first | (refine hK1 _ ?_; clear hK1 K1) | ((first | refine hA ?_ | refine hB ?_); clear hA hB A B) | ((first | apply call_a E49 | apply call_q E49); exact hnd; (refine hK1 _ ?_; clear hK1 K1)) | (refine join_x (v := ?_) (fun hg hk9 => ?_) ?_; rotate_left; (focus (try ((try simp only [BN] at hg); simp only [S1, simprocAttr, TTTmM, hitN hlt, nextN nk.n hlt, hg] at hk9 ⊢)); first | exact hk9 | ((first | apply call_a E49 | apply call_q E49); exact hnd; exact hk9)); (refine hK1 _ ?_; clear hK1 K1)) | (((first | (refine ⟨fun hg => hA ?_, fun hg => hB ?_⟩ <;> clear hA hB A B) | refine ⟨fun hg => ?_, fun hg => ?_⟩) <;> (try simp only [BN2] at hg) <;> (try simp only [hg, cond_true, cond_false])) <;> (try (refine hK1 _ ?_; clear hK1 K1)) <;> (try simp only [BN3] at hg))) | (refine awp_seq_k fun K hK => ?_) | ((first | refine awp_region ?_ | refine awp_draw (by kernel_rfl) ?_ | refine awp_block ?_ | refine awp_exit ?_ | refine awp_skip ?_ | refine awp_ret ?_); (try simp only [NB, simprocAttr])))
    all_goals refine ⟨hlt, trivial, ?_⟩
    all_goals simp only [ej]
    all_goals refine ⟨rfl, ⟨_, rfl⟩, ?_, ⟨trivial, trivial, trivial⟩, avlts_is _ _, pg_avl2 (by simp), avlts_is _ _, trivial⟩
    all_goals simp only [keeps, avlt, avlts, blksLt, frL, upd_get, S1, simprocAttr, List.length_map, Int.natCast_zero, AV.p.injEq, PV.int.injEq, PV.bool.injEq, PV.sl.injEq] <;> (try and_intros) <;> (try assumption) <;> (try trivial) <;> (try omega)
  obtain rfl : j = ns.length := by omega
  have ar44 : ((S.map AV.i).drop 44).take 4 = ((S.drop 44).take 4).map AV.i := by rw [List.map_take, List.map_drop]
  have l4 : ((S.drop 44).take 4).length = 4 := by simp [hS]
  repeat' (first | ((first | refine aops_nil ?_ | refine aqops_nil ?_); (try simp only [NB])) | ((repeat ((fail_if_success (refine hK _ ?_)); clear hK K)); refine hK _ ?_; clear hK K) | ((first | refine aops_k fun K1 hK1 => ?_ | refine aqops_k fun K1 hK1 => ?_ | refine awp_cond_k fun A B hA hB => ?_); simp only [S1, simprocAttr, TTTmM, TSz, z49_ne, endN, ar44, hS, takeA_arr, takeA_st, List.length_map, List.length_drop, List.length_take]; first | (refine hK1 _ ?_; clear hK1 K1) | ((first | refine hA ?_ | refine hB ?_); clear hA hB A B) | (refine join_x (v := ?_) (fun hg hk9 => ?_) ?_; rotate_left; (focus (try ((try simp only [BN] at hg); simp only [S1, simprocAttr, TTTmM, TSz, z49_ne, endN, ar44, hS, takeA_arr, takeA_st, List.length_map, List.length_drop, List.length_take, hg] at hk9 ⊢)); first | exact hk9); (refine hK1 _ ?_; clear hK1 K1)) | (((first | (refine ⟨fun hg => hA ?_, fun hg => hB ?_⟩ <;> clear hA hB A B) | refine ⟨fun hg => ?_, fun hg => ?_⟩) <;> (try simp only [BN2] at hg) <;> (try simp only [hg, cond_true, cond_false])) <;> (try (refine hK1 _ ?_; clear hK1 K1)) <;> (try simp only [BN3] at hg))) | (refine awp_seq_k fun K hK => ?_) | ((first | refine awp_region ?_ | refine awp_draw (by kernel_rfl) ?_ | refine awp_block ?_ | refine awp_exit ?_ | refine awp_skip ?_ | refine awp_ret ?_); (try simp only [NB, simprocAttr])))
  have hl0 : ∀ y ∈ nodesG ns fl S ns.length, y.to.length = 49 := nodesG_to hS ns.length
  have hl1 : (nodesG ns fl S ns.length).length ≤ 2400 := hnl _ (Nat.le_refl _)
  generalize nodesG ns fl S ns.length = l0 at *
  have hlm : ∀ m, m ≤ 4 → (l0 ++ sendsG ns S m).length ≤ 2500 := fun m hm => by
    rw [List.length_append]; have := sendsG_len ns S m; omega
  have htm : ∀ m, ∀ y ∈ l0 ++ sendsG ns S m, y.to.length = 49 := fun m y hy => (List.mem_append.mp hy).elim (hl0 y) (sendsG_to hS m y)
  refine awp_for 4 57 (fun m => [(34, .i m), (33, .agg (((S.drop 44).take 4).map AV.i)), (5, .ptr (h.length + 2) 0 0), (3, .ptr (h.length + 1) 0 0), (2, .ptr h.length 0 0)])
    (fun m => [some ⟨0, cNet ns fl⟩, some ⟨0, S.map AV.i⟩, gmB ns fl S (h.length + 3) (l0 ++ sendsG ns S m), spB (l0 ++ sendsG ns S m)]) (fun m => True) ?_ trivial fun m hm hp K hK => ?_
  · have s0 : sendsG ns S 0 = [] := rfl
    simp only [s0, List.append_nil]
    refine ⟨rfl, ⟨[], by simp only [List.append_nil]⟩, ?_, ⟨trivial, trivial, trivial⟩, avlts_is _ _, pg_avl2 (by simp), avlts_is _ _, trivial⟩
    simp only [keeps, avlt, avlts, blksLt, frL, upd_get, S1, simprocAttr, List.length_map, Int.natCast_zero, AV.p.injEq, PV.int.injEq, PV.bool.injEq, PV.sl.injEq] <;> (try and_intros) <;> (try assumption) <;> (try trivial) <;> (try omega)
    all_goals exact avlts_is _ _
  rcases Nat.lt_or_ge m 4 with hlt | hge
  · have m0 : (0 : Int) ≤ (m : Int) := by omega
    have m4 : (m : Int) < 4 := by omega
    obtain ⟨hq, q0, q3⟩ := st.q hlt
    have hq4 : ((S.drop 44).take 4)[m]? = some (qAt S m) := by rw [List.getElem?_take_of_lt hlt, List.getElem?_drop]; exact hq
    have hdq := dropI hq4
    have hw9 := fun h => awaits_calls (G := gW) ns fl nk.n m hlt h
    have es : sendsG ns S (m + 1) = sendsG ns S m ++ sendG ns S m := rfl
    cases ew : awaitsB ns m with
    | false =>
      rw [ew] at hw9
      have hs : sendG ns S m = [] := by unfold sendG; rw [if_neg (by simp [ew])]
      repeat' (first | ((first | refine aops_nil ?_ | refine aqops_nil ?_); (try simp only [NB])) | ((repeat ((fail_if_success (refine hK _ ?_)); clear hK K)); refine hK _ ?_; clear hK K) | ((first | refine aops_k fun K1 hK1 => ?_ | refine aqops_k fun K1 hK1 => ?_ | refine awp_cond_k fun A B hA hB => ?_); simp only [S1, simprocAttr, TTTmM, m0, m4, next40 (n := 4) (by omega) hlt, hdq, l4, List.length_map, Int.toNat_natCast, Nat.mul_one, Nat.zero_add]; first | (refine hK1 _ ?_; clear hK1 K1) | ((first | refine hA ?_ | refine hB ?_); clear hA hB A B) | ((first | apply call_a E50 | apply call_q E50); exact (hw9 _); (refine hK1 _ ?_; clear hK1 K1)) | (refine join_x (v := ?_) (fun hg hk9 => ?_) ?_; rotate_left; (focus (try ((try simp only [BN] at hg); simp only [S1, simprocAttr, TTTmM, m0, m4, next40 (n := 4) (by omega) hlt, hdq, l4, List.length_map, Int.toNat_natCast, Nat.mul_one, Nat.zero_add, hg] at hk9 ⊢)); first | exact hk9 | ((first | apply call_a E50 | apply call_q E50); exact (hw9 _); exact hk9)); (refine hK1 _ ?_; clear hK1 K1)) | (((first | (refine ⟨fun hg => hA ?_, fun hg => hB ?_⟩ <;> clear hA hB A B) | refine ⟨fun hg => ?_, fun hg => ?_⟩) <;> (try simp only [BN2] at hg) <;> (try simp only [hg, cond_true, cond_false])) <;> (try (refine hK1 _ ?_; clear hK1 K1)) <;> (try simp only [BN3] at hg))) | (refine awp_seq_k fun K hK => ?_) | ((first | refine awp_region ?_ | refine awp_draw (by kernel_rfl) ?_ | refine awp_block ?_ | refine awp_exit ?_ | refine awp_skip ?_ | refine awp_ret ?_); (try simp only [NB, simprocAttr])))
      all_goals refine ⟨hlt, trivial, ?_⟩
      all_goals simp only [es, hs, List.append_nil]
      all_goals refine ⟨rfl, ⟨_, rfl⟩, ?_, ⟨trivial, trivial, trivial⟩, avlts_is _ _, pg_avl2 (by simp), avlts_is _ _, trivial⟩
      all_goals simp only [keeps, avlt, avlts, blksLt, frL, upd_get, S1, simprocAttr, List.length_map, Int.natCast_zero, AV.p.injEq, PV.int.injEq, PV.bool.injEq, PV.sl.injEq] <;> (try and_intros) <;> (try assumption) <;> (try trivial) <;> (try omega)
      all_goals exact avlts_is _ _
    | true =>
      rw [ew] at hw9
      by_cases h3 : qAt S (m : Int) < 3
      · have h3' : decide (qAt S (m : Int) < 3) = true := decide_eq_true h3
        have hs : sendG ns S m = moveG S ⟨-1, m, 5, 0, m, S.set (44 + m) (qAt S m + 1)⟩ [] [] := by unfold sendG; rw [if_pos ⟨ew, h3⟩]
        generalize qAt S (m : Int) = q at *
        have em := stF_move hS (m := ⟨-1, m, 5, 0, m, S⟩) (Chg.set hS (k := 44 + m) (by omega) (q + 1)) (fr := []) (to := []) ⟨by simp, by simp⟩ ⟨by simp, by simp⟩
        simp only at em
        have hadd : ACalls Tryd.prog gW 51 [.ptr (h.length + 2) 0 0, aMv ⟨-1, m, 5, 0, m, S⟩, .p .nils, .p .nils, .fn 52 [.ptr (h.length + 4) 0 0]] (h ++ (some ⟨0, cNet ns fl⟩ :: some ⟨0, S.map AV.i⟩ :: gmB ns fl S (h.length + 3) (l0 ++ sendsG ns S m) :: spB (l0 ++ sendsG ns S m) :: [some ⟨0, [.i m]⟩]))
            (fun r h' => r = .undef ∧ h' = h ++ (some ⟨0, cNet ns fl⟩ :: some ⟨0, S.map AV.i⟩ :: gmB ns fl S (h.length + 3) (l0 ++ sendsG ns S m ++ sendG ns S m) :: spB (l0 ++ sendsG ns S m ++ sendG ns S m) :: [some ⟨0, [.i m]⟩])) := by
          have := step_fn_nn (ns := ns) (fl := fl) (gok _ (htm m) (by have := hlm m (by omega); omega)) ⟨-1, m, 5, 0, m, S⟩ [some ⟨0, [.i m]⟩] E52 (caps := [.ptr (h.length + 4) 0 0]) ⟨by simp [avlt], trivial⟩ (chg := fun T => T.set (44 + m) (q + 1)) (fun T hT => by rw [List.length_set, hT])
            (fun A T hT hd => by
              have := more_at (h := h ++ [some ⟨0, cNet ns fl⟩, some ⟨0, S.map AV.i⟩, none, none]) (b := h.length + 2) (lb := h.length + 3) (ns := ns) (fl := fl) (S := S) (l := l0 ++ sendsG ns S m) hlt hq ⟨q0, q3⟩ A T hT hd
              simpa using this)
          rw [em, ← hs] at this
          rwa [pg_tail, pg_tail] at this
        repeat' (first | ((first | refine aops_nil ?_ | refine aqops_nil ?_); (try simp only [NB])) | ((repeat ((fail_if_success (refine hK _ ?_)); clear hK K)); refine hK _ ?_; clear hK K) | ((first | refine aops_k fun K1 hK1 => ?_ | refine aqops_k fun K1 hK1 => ?_ | refine awp_cond_k fun A B hA hB => ?_); simp only [S1, simprocAttr, TTTmM, m0, m4, next40 (n := 4) (by omega) hlt, hdq, l4, h3', List.length_map, List.length_cons, List.length_nil, Int.toNat_natCast, Nat.mul_one, Nat.zero_add]; first | (refine hK1 _ ?_; clear hK1 K1) | ((first | refine hA ?_ | refine hB ?_); clear hA hB A B) | ((first | apply call_a E50 | apply call_q E50); exact (hw9 _); (refine hK1 _ ?_; clear hK1 K1)) | ((first | apply call_a E51 | apply call_q E51); exact hadd; (refine hK1 _ ?_; clear hK1 K1)) | (refine join_x (v := ?_) (fun hg hk9 => ?_) ?_; rotate_left; (focus (try ((try simp only [BN] at hg); simp only [S1, simprocAttr, TTTmM, m0, m4, next40 (n := 4) (by omega) hlt, hdq, l4, h3', List.length_map, List.length_cons, List.length_nil, Int.toNat_natCast, Nat.mul_one, Nat.zero_add, hg] at hk9 ⊢)); first | exact hk9 | ((first | apply call_a E50 | apply call_q E50); exact (hw9 _); exact hk9) | ((first | apply call_a E51 | apply call_q E51); exact hadd; exact hk9)); (refine hK1 _ ?_; clear hK1 K1)) | (((first | (refine ⟨fun hg => hA ?_, fun hg => hB ?_⟩ <;> clear hA hB A B) | refine ⟨fun hg => ?_, fun hg => ?_⟩) <;> (try simp only [BN2] at hg) <;> (try simp only [hg, cond_true, cond_false])) <;> (try (refine hK1 _ ?_; clear hK1 K1)) <;> (try simp only [BN3] at hg))) | (refine awp_seq_k fun K hK => ?_) | ((first | refine awp_region ?_ | refine awp_draw (by kernel_rfl) ?_ | refine awp_block ?_ | refine awp_exit ?_ | refine awp_skip ?_ | refine awp_ret ?_); (try simp only [NB, simprocAttr])))
        all_goals refine ⟨hlt, trivial, ?_⟩
        all_goals simp only [es, ← List.append_assoc]
        all_goals refine ⟨rfl, ⟨_, by simp only [List.append_assoc, List.cons_append, List.nil_append]; rfl⟩, ?_, ⟨trivial, trivial, trivial⟩, avlts_is _ _, pg_avl2 (by simp), avlts_is _ _, trivial⟩
        all_goals simp only [keeps, avlt, avlts, blksLt, frL, upd_get, S1, simprocAttr, List.length_map, Int.natCast_zero, AV.p.injEq, PV.int.injEq, PV.bool.injEq, PV.sl.injEq] <;> (try and_intros) <;> (try assumption) <;> (try trivial) <;> (try omega)
        all_goals exact avlts_is _ _
      · have h3' : decide (qAt S (m : Int) < 3) = false := decide_eq_false h3
        have hs : sendG ns S m = [] := by unfold sendG; rw [if_neg (by simp [h3])]
        repeat' (first | ((first | refine aops_nil ?_ | refine aqops_nil ?_); (try simp only [NB])) | ((repeat ((fail_if_success (refine hK _ ?_)); clear hK K)); refine hK _ ?_; clear hK K) | ((first | refine aops_k fun K1 hK1 => ?_ | refine aqops_k fun K1 hK1 => ?_ | refine awp_cond_k fun A B hA hB => ?_); simp only [S1, simprocAttr, TTTmM, m0, m4, next40 (n := 4) (by omega) hlt, hdq, l4, h3', List.length_map, Int.toNat_natCast, Nat.mul_one, Nat.zero_add]; first | (refine hK1 _ ?_; clear hK1 K1) | ((first | refine hA ?_ | refine hB ?_); clear hA hB A B) | ((first | apply call_a E50 | apply call_q E50); exact (hw9 _); (refine hK1 _ ?_; clear hK1 K1)) | (refine join_x (v := ?_) (fun hg hk9 => ?_) ?_; rotate_left; (focus (try ((try simp only [BN] at hg); simp only [S1, simprocAttr, TTTmM, m0, m4, next40 (n := 4) (by omega) hlt, hdq, l4, h3', List.length_map, Int.toNat_natCast, Nat.mul_one, Nat.zero_add, hg] at hk9 ⊢)); first | exact hk9 | ((first | apply call_a E50 | apply call_q E50); exact (hw9 _); exact hk9)); (refine hK1 _ ?_; clear hK1 K1)) | (((first | (refine ⟨fun hg => hA ?_, fun hg => hB ?_⟩ <;> clear hA hB A B) | refine ⟨fun hg => ?_, fun hg => ?_⟩) <;> (try simp only [BN2] at hg) <;> (try simp only [hg, cond_true, cond_false])) <;> (try (refine hK1 _ ?_; clear hK1 K1)) <;> (try simp only [BN3] at hg))) | (refine awp_seq_k fun K hK => ?_) | ((first | refine awp_region ?_ | refine awp_draw (by kernel_rfl) ?_ | refine awp_block ?_ | refine awp_exit ?_ | refine awp_skip ?_ | refine awp_ret ?_); (try simp only [NB, simprocAttr])))
        all_goals refine ⟨hlt, trivial, ?_⟩
        all_goals simp only [es, hs, List.append_nil]
        all_goals refine ⟨rfl, ⟨_, rfl⟩, ?_, ⟨trivial, trivial, trivial⟩, avlts_is _ _, pg_avl2 (by simp), avlts_is _ _, trivial⟩
        all_goals simp only [keeps, avlt, avlts, blksLt, frL, upd_get, S1, simprocAttr, List.length_map, Int.natCast_zero, AV.p.injEq, PV.int.injEq, PV.bool.injEq, PV.sl.injEq] <;> (try and_intros) <;> (try assumption) <;> (try trivial) <;> (try omega)
        all_goals exact avlts_is _ _
  obtain rfl : m = 4 := by omega
  have hz := htm 4
  have hrf := gmC_ref (ns := ns) (fl := fl) (lb := h.length + 3) (n := (l0 ++ sendsG ns S 4).length) hS
  rw [List.length_append] at hrf
  repeat' (first | ((first | refine aops_nil ?_ | refine aqops_nil ?_); (try simp only [NB])) | ((repeat ((fail_if_success (refine hK _ ?_)); clear hK K)); refine hK _ ?_; clear hK K) | ((first | refine aops_k fun K1 hK1 => ?_ | refine aqops_k fun K1 hK1 => ?_ | refine awp_cond_k fun A B hA hB => ?_); simp only [S1, simprocAttr, TTTmM, gmB, hrf]; first | (refine hK1 _ ?_; clear hK1 K1) | ((first | refine hA ?_ | refine hB ?_); clear hA hB A B) | (refine join_x (v := ?_) (fun hg hk9 => ?_) ?_; rotate_left; (focus (try ((try simp only [BN] at hg); simp only [S1, simprocAttr, TTTmM, gmB, hrf, hg] at hk9 ⊢)); first | exact hk9); (refine hK1 _ ?_; clear hK1 K1)) | (((first | (refine ⟨fun hg => hA ?_, fun hg => hB ?_⟩ <;> clear hA hB A B) | refine ⟨fun hg => ?_, fun hg => ?_⟩) <;> (try simp only [BN2] at hg) <;> (try simp only [hg, cond_true, cond_false])) <;> (try (refine hK1 _ ?_; clear hK1 K1)) <;> (try simp only [BN3] at hg))) | (refine awp_seq_k fun K hK => ?_) | ((first | refine awp_region ?_ | refine awp_draw (by kernel_rfl) ?_ | refine awp_block ?_ | refine awp_exit ?_ | refine awp_skip ?_ | refine awp_ret ?_); (try simp only [NB, simprocAttr])))
  rw [show aSps (l0 ++ sendsG ns S 4) = .p (.sl ((l0 ++ sendsG ns S 4).map eSp')) from congrArg (fun x => AV.p (.sl x)) (eSp'_map hz).symm]
  exact EndP_rows eSp'_len eSp'_ok (.inr rfl) (l := l0 ++ sendsG ns S 4) (List.length_append).symm rfl (by simp only [spB, cSps_e hz, blkAt, get_app, List.getElem?_cons_succ, List.getElem?_cons_zero, List.length_append, if_true]) (by omega) (by simp) (by simp) rfl
end Go.Proofs.YtjpphhcimpclpaaDoor.AM
end

section
set_option linter.unusedVariables false
set_option linter.unusedSimpArgs false
set_option maxRecDepth 4000
set_option maxHeartbeats 4000000
namespace Go.Proofs.YtjpphhcimpclpaaDoor.AM
open Go Go.Proofs
set_option linter.defProp false in
def TTTmN := And.intro T2 (And.intro T3 (And.intro T4 (And.intro T22 (And.intro T25 (And.intro T26 (And.intro T27 (And.intro T31 (And.intro T40 (And.intro T46 (And.intro T50 (And.intro T53 (And.intro T60 (And.intro T95 T98)))))))))))))
attribute [local irreducible] awp aops aqops aeops arun arunT

theorem stepsG_to {ns : List Nd} {fl : List Fl} {S : List Int} (hS : S.length = 49) : ∀ y ∈ stepsG ns fl S, y.to.length = 49 := by
  intro y hy
  unfold stepsG at hy
  split at hy
  · cases hy
  · rcases List.mem_append.mp hy with h | h
    · exact nodesG_to hS _ y h
    · exact sendsG_to hS _ y h
theorem stepsG_len {ns : List Nd} {fl : List Fl} {S : List Int} : (stepsG ns fl S).length ≤ 2500 := by
  unfold stepsG
  split
  · simp
  · rename_i h0
    rw [not_or] at h0
    have rt := Right.of (stC_zero (by simpa using h0.1)).1
    have hn := rt.n
    have hf := rt.f
    have h1 := nodesG_len ns fl S hf ns.length
    have h2 := sendsG_len ns S 4
    rw [List.length_append]
    have : 100 * ns.length ≤ 100 * 24 := Nat.mul_le_mul_left _ hn
    omega

def cMv (y : Sp) : List Int := [y.node, y.arg, y.lk, y.ln, y.la]
def eMv (y : Sp) : List PV := (cMv y).map (PV.int .i64)
def cMvs (l : List Sp) : List Int := l.flatMap cMv
abbrev aMvs (l : List Sp) : AV := .p (.sl (l.map eMv))
theorem eMv_len (y : Sp) : (eMv y).length = 5 := rfl
theorem eMv_ok (y : Sp) : ∀ x ∈ eMv y, x ≠ .nils := by
  intro x hx
  obtain ⟨n, _, rfl⟩ := List.mem_map.mp hx
  exact fun e => by cases e
theorem cMvs_e (l : List Sp) : (cMvs l).map AV.i = (flatE eMv l).map AV.p := by
  unfold flatE cMvs eMv
  rw [List.map_flatMap, List.map_flatMap]
  congr 1
theorem cMvs_len : ∀ l : List Sp, (cMvs l).length = l.length * 5
  | [] => rfl
  | x :: r => by
    have := cMvs_len r
    unfold cMvs at this ⊢
    rw [List.flatMap_cons, List.length_append, this, List.length_cons]; simp [cMv] <;> omega
theorem cMvs_step {l : List Sp} {j : Nat} {y : Sp} (h : l[j]? = some y) : cMvs (l.take (j + 1)) = cMvs (l.take j) ++ [y.node, y.arg, y.lk, y.ln, y.la] := by
  unfold cMvs
  rw [List.take_add_one, h, List.flatMap_append]
  simp [cMv]

theorem moves_calls {ns : List Nd} {fl : List Fl} (nk : NetOk ns fl) {S : List Int} (hS : S.length = 49) (h : Heap) :
    ACalls Tryd.prog gW 16 [aNet ns fl, aS S] h (fun r h' => r = aMvs (stepsG ns fl S) ∧ h' = h) := by
  have hne := ne_is hS
  have hst := fun h => tSteps_calls nk hS h
  have hto := stepsG_to (ns := ns) (fl := fl) hS
  have hln := stepsG_len (ns := ns) (fl := fl) (S := S)
  have t49' : (S.map AV.i).take 49 = S.map AV.i := List.take_of_length_le (by rw [List.length_map, hS]; exact Nat.le_refl _)
  refine acalls_pure (rl := []) mixed Tryd.func16 rfl (rs := [.tmp 4]) rfl Tryd.ntmps16 (by simp) ?_
  repeat' (first | ((first | refine aops_nil ?_ | refine aqops_nil ?_); (try simp only [NB])) | ((repeat ((fail_if_success (refine hK _ ?_)); clear hK K)); refine hK _ ?_; clear hK K) | ((first | refine aops_k fun K1 hK1 => ?_ | refine aqops_k fun K1 hK1 => ?_ | refine awp_cond_k fun A B hA hB => ?_); simp only [S1, simprocAttr, TTTmN, TSz, z49_ne, z49_map, zS_len, hne, hS, all_scalar, t49', takeA_arr, takeA_st, List.length_map]; first | (refine hK1 _ ?_; clear hK1 K1) | ((first | refine hA ?_ | refine hB ?_); clear hA hB A B) | ((first | apply call_a E34 | apply call_q E34); exact (hst _); (refine hK1 _ ?_; clear hK1 K1)) | (((first | (refine ⟨fun hg => hA ?_, fun hg => hB ?_⟩ <;> clear hA hB A B) | refine ⟨fun hg => ?_, fun hg => ?_⟩) <;> (try simp only [BN2] at hg) <;> (try simp only [hg, cond_true, cond_false])) <;> (try (refine hK1 _ ?_; clear hK1 K1)) <;> (try simp only [BN3] at hg))) | (refine awp_seq_k fun K hK => ?_) | ((first | refine awp_region ?_ | refine awp_draw (by kernel_rfl) ?_ | refine awp_block ?_ | refine awp_exit ?_ | refine awp_skip ?_ | refine awp_ret ?_); (try simp only [NB, simprocAttr])))
  clear hst
  generalize stepsG ns fl S = sl at *
  refine awp_forG sl.length 23 (fun j => [(12, .i j), (11, .i sl.length), (10, aSps sl), (5, .ref (h.length + 2) j 0 5 j)])
    (fun j => [some ⟨0, cNet ns fl⟩, some ⟨0, S.map AV.i⟩, some ⟨j, (cMvs (sl.take j)).map AV.i⟩]) (fun j => True) ?_ trivial fun j hj hp K hK => ?_
  · refine (Ghost.adopt 5 5 rfl).trans (Sub.ghost ⟨rfl, ⟨[], by simp [cMvs]⟩, ?_, ⟨trivial, trivial, trivial⟩, avlts_is _ _, avlts_is _ _, trivial⟩)
    simp only [keeps, avlt, upd_get, frL, List.length_cons, List.length_nil]
    simp
  rcases Nat.lt_or_ge j sl.length with hlt | hge
  · obtain ⟨y, hy⟩ : ∃ y, sl[j]? = some y := ⟨_, List.getElem?_eq_getElem hlt⟩
    have hxy : (sl.map eSp)[j]? = some ((cSp y).map (PV.int .i64)) := by rw [List.getElem?_map, hy]; rfl
    have hyl := hto y (List.mem_of_getElem? hy)
    have jl : (j : Int) < (sl.length : Int) := by omega
    have j0 : (0 : Int) ≤ (j : Int) := by omega
    have hnx : IntKind.i64.wrap ((j : Int) + 1) = ((j + 1 : Nat) : Int) := by rw [IntWalk.i64_in _ (by omega)]; omega
    have y54 : (cSp y).length = 54 := cSp_len hyl
    have ymm := (mapmap (cSp y)).trans (cSp_eq y)
    have yov := over_tail hyl
    have yt49 : (y.to.map AV.i).take 49 = y.to.map AV.i := List.take_of_length_le (by rw [List.length_map, hyl]; exact Nat.le_refl _)
    have hmax : j + 1 ≤ maxCount := by unfold maxCount; omega
    have hcl : (cMvs (sl.take j)).length = j * 5 := by rw [cMvs_len, List.length_take, Nat.min_eq_left (by omega)]
    have hcs := cMvs_step hy
    repeat' (first | ((first | refine aops_nil ?_ | refine aqops_nil ?_); (try simp only [NB])) | ((repeat ((fail_if_success (refine hK _ ?_)); clear hK K)); refine hK _ ?_; clear hK K) | ((first | refine aops_k fun K1 hK1 => ?_ | refine aqops_k fun K1 hK1 => ?_ | refine awp_cond_k fun A B hA hB => ?_); simp only [S1, simprocAttr, TTTmN, jl, j0, hxy, hnx, y54, ymm, yov, yt49, hyl, hmax, hcl, takeA_arr, takeA_st, all_scalar, List.length_map, List.length_cons, List.length_nil, Nat.mul_one, Nat.zero_add, Nat.add_zero, Int.toNat_natCast]; first | (refine hK1 _ ?_; clear hK1 K1) | ((first | refine hA ?_ | refine hB ?_); clear hA hB A B) | (((first | (refine ⟨fun hg => hA ?_, fun hg => hB ?_⟩ <;> clear hA hB A B) | refine ⟨fun hg => ?_, fun hg => ?_⟩) <;> (try simp only [BN2] at hg) <;> (try simp only [hg, cond_true, cond_false])) <;> (try (refine hK1 _ ?_; clear hK1 K1)) <;> (try simp only [BN3] at hg))) | (refine awp_seq_k fun K hK => ?_) | ((first | refine awp_region ?_ | refine awp_draw (by kernel_rfl) ?_ | refine awp_block ?_ | refine awp_exit ?_ | refine awp_skip ?_ | refine awp_ret ?_); (try simp only [NB, simprocAttr])))
    all_goals refine ⟨hlt, trivial, ?_⟩
    all_goals simp only [hcs, List.map_append, List.map_cons, List.map_nil]
    all_goals refine ⟨rfl, ⟨_, rfl⟩, ?_, ⟨trivial, trivial, trivial⟩, avlts_is _ _, (by have := avlts_is (h.length + 3) (cMvs (sl.take j) ++ [y.node, y.arg, y.lk, y.ln, y.la]); simpa using this), trivial⟩
    all_goals simp only [keeps, avlt, avlts, blksLt, frL, upd_get, S1, simprocAttr, List.length_map, Int.natCast_zero, AV.p.injEq, PV.int.injEq, PV.bool.injEq, PV.sl.injEq] <;> (try and_intros) <;> (try assumption) <;> (try trivial) <;> (try omega)
  · obtain rfl : j = sl.length := by omega
    repeat' (first | ((first | refine aops_nil ?_ | refine aqops_nil ?_); (try simp only [NB])) | ((repeat ((fail_if_success (refine hK _ ?_)); clear hK K)); refine hK _ ?_; clear hK K) | ((first | refine aops_k fun K1 hK1 => ?_ | refine aqops_k fun K1 hK1 => ?_ | refine awp_cond_k fun A B hA hB => ?_); simp only [S1, simprocAttr, TTTmN, Int.lt_irrefl]; first | (refine hK1 _ ?_; clear hK1 K1) | ((first | refine hA ?_ | refine hB ?_); clear hA hB A B) | (((first | (refine ⟨fun hg => hA ?_, fun hg => hB ?_⟩ <;> clear hA hB A B) | refine ⟨fun hg => ?_, fun hg => ?_⟩) <;> (try simp only [BN2] at hg) <;> (try simp only [hg, cond_true, cond_false])) <;> (try (refine hK1 _ ?_; clear hK1 K1)) <;> (try simp only [BN3] at hg))) | (refine awp_seq_k fun K hK => ?_) | ((first | refine awp_region ?_ | refine awp_draw (by kernel_rfl) ?_ | refine awp_block ?_ | refine awp_exit ?_ | refine awp_skip ?_ | refine awp_ret ?_); (try simp only [NB, simprocAttr])))
    exact EndP_rows eMv_len eMv_ok (.inr rfl) (l := sl) rfl rfl (by simp only [cMvs_e, List.take_length, blkAt, get_app, List.getElem?_cons_succ, List.getElem?_cons_zero, if_true]) (by omega) (by simp) (by simp) rfl

def zSp : Sp := ⟨0, 0, 0, 0, 0, zS⟩
/-- What a move leads to, its label and its error. -/
noncomputable def doG (ns : List Nd) (fl : List Fl) (S : List Int) (i : Int) : Sp × Int :=
  if stC ns fl S ≠ 0 then (zSp, stC ns fl S) else if i < 0 then (zSp, 6) else match (stepsG ns fl S)[i.toNat]? with | some y => (y, 0) | none => (zSp, 6)
abbrev aLb (y : Sp) : AV := .agg [.i y.lk, .i y.ln, .i y.la]

theorem do_calls {ns : List Nd} {fl : List Fl} (nk : NetOk ns fl) {S : List Int} (hS : S.length = 49) (i : Int) (h : Heap) :
    ACalls Tryd.prog gW 17 [aNet ns fl, aS S, .i i] h (fun r h' => r = .tup [aS (doG ns fl S i).1.to, aLb (doG ns fl S i).1, .i (doG ns fl S i).2] ∧ h' = h) := by
  have hne := ne_is hS
  have hst := fun h => tSteps_calls nk hS h
  have hck := fun h => tChk_calls nk hS h
  have hto := stepsG_to (ns := ns) (fl := fl) hS
  have t49' : (S.map AV.i).take 49 = S.map AV.i := List.take_of_length_le (by rw [List.length_map, hS]; exact Nat.le_refl _)
  have hzl : (zS.map AV.i).length = 49 := by rw [List.length_map]; rfl
  have hem : (zS.map AV.i).isEmpty = false := rfl
  have hzz : over (zS.map AV.i) 0 (zS.map AV.i) = zS.map AV.i := over_full (n := 49) (by rw [List.length_map]; rfl) _ hzl
  have hzt : (zS.map AV.i).take 49 = zS.map AV.i := List.take_of_length_le (by rw [hzl]; exact Nat.le_refl _)
  by_cases h0 : stC ns fl S = 0
  case neg =>
    have f0 : (stC ns fl S != 0) = true := by simp [h0]
    have e : doG ns fl S i = (zSp, stC ns fl S) := by unfold doG; rw [if_pos h0]
    rw [e]
    refine acalls_pure (rl := []) mixed Tryd.func17 rfl (rs := [.cell 6 29, .cell 7 46, .tmp 8]) rfl Tryd.ntmps17 (by simp) ?_
    repeat' (first | ((first | refine aops_nil ?_ | refine aqops_nil ?_); (try simp only [NB])) | ((repeat ((fail_if_success (refine hK _ ?_)); clear hK K)); refine hK _ ?_; clear hK K) | ((first | refine aops_k fun K1 hK1 => ?_ | refine aqops_k fun K1 hK1 => ?_ | refine awp_cond_k fun A B hA hB => ?_); simp only [S1, simprocAttr, TTTmN, f0, TSz, z49_ne, z49_map, zS_len, hem, hzz, hzt, hne, hS, all_scalar, t49', takeA_arr, takeA_st, List.length_map]; first | (refine hK1 _ ?_; clear hK1 K1) | ((first | refine hA ?_ | refine hB ?_); clear hA hB A B) | ((first | apply call_a E9 | apply call_q E9); exact (hck _); (refine hK1 _ ?_; clear hK1 K1)) | (refine join_x (v := ?_) (fun hg hk9 => ?_) ?_; rotate_left; (focus (try ((try simp only [BN] at hg); simp only [S1, simprocAttr, TTTmN, f0, TSz, z49_ne, z49_map, zS_len, hem, hzz, hzt, hne, hS, all_scalar, t49', takeA_arr, takeA_st, List.length_map, hg] at hk9 ⊢)); first | exact hk9 | ((first | apply call_a E9 | apply call_q E9); exact (hck _); exact hk9)); (refine hK1 _ ?_; clear hK1 K1)) | (((first | (refine ⟨fun hg => hA ?_, fun hg => hB ?_⟩ <;> clear hA hB A B) | refine ⟨fun hg => ?_, fun hg => ?_⟩) <;> (try simp only [BN2] at hg) <;> (try simp only [hg, cond_true, cond_false])) <;> (try (refine hK1 _ ?_; clear hK1 K1)) <;> (try simp only [BN3] at hg))) | (refine awp_seq_k fun K hK => ?_) | ((first | refine awp_region ?_ | refine awp_draw (by kernel_rfl) ?_ | refine awp_block ?_ | refine awp_exit ?_ | refine awp_skip ?_ | refine awp_ret ?_); (try simp only [NB, simprocAttr])))
    all_goals simp only [EndP, FinP, resA, resL, resA1, lastV, lastA, lastAs, pur, purs, take_app, List.take_length, S1, simprocAttr, TTTmN, Nat.le_add_right, Nat.le_refl, hzt, hzl, List.length_map, zS_len, TSz, takeA_st, purs_is, mapmap]
    all_goals rfl
  have f0 : (stC ns fl S != 0) = false := by simp [h0]
  rw [h0] at hck
  by_cases h1 : i < 0
  · have f1 : decide (i < 0) = true := decide_eq_true h1
    have e : doG ns fl S i = (zSp, 6) := by unfold doG; rw [if_neg (by simpa using h0), if_pos h1]
    rw [e]
    refine acalls_pure (rl := []) mixed Tryd.func17 rfl (rs := [.cell 6 29, .cell 7 46, .tmp 8]) rfl Tryd.ntmps17 (by simp) ?_
    repeat' (first | ((first | refine aops_nil ?_ | refine aqops_nil ?_); (try simp only [NB])) | ((repeat ((fail_if_success (refine hK _ ?_)); clear hK K)); refine hK _ ?_; clear hK K) | ((first | refine aops_k fun K1 hK1 => ?_ | refine aqops_k fun K1 hK1 => ?_ | refine awp_cond_k fun A B hA hB => ?_); simp only [S1, simprocAttr, TTTmN, f1, TSz, z49_ne, z49_map, zS_len, hem, hzz, hzt, hne, hS, all_scalar, t49', takeA_arr, takeA_st, List.length_map]; first | (refine hK1 _ ?_; clear hK1 K1) | ((first | refine hA ?_ | refine hB ?_); clear hA hB A B) | ((first | apply call_a E9 | apply call_q E9); exact (hck _); (refine hK1 _ ?_; clear hK1 K1)) | ((first | apply call_a E34 | apply call_q E34); exact (hst _); (refine hK1 _ ?_; clear hK1 K1)) | (refine join_x (v := ?_) (fun hg hk9 => ?_) ?_; rotate_left; (focus (try ((try simp only [BN] at hg); simp only [S1, simprocAttr, TTTmN, f1, TSz, z49_ne, z49_map, zS_len, hem, hzz, hzt, hne, hS, all_scalar, t49', takeA_arr, takeA_st, List.length_map, hg] at hk9 ⊢)); first | exact hk9 | ((first | apply call_a E9 | apply call_q E9); exact (hck _); exact hk9) | ((first | apply call_a E34 | apply call_q E34); exact (hst _); exact hk9)); (refine hK1 _ ?_; clear hK1 K1)) | (((first | (refine ⟨fun hg => hA ?_, fun hg => hB ?_⟩ <;> clear hA hB A B) | refine ⟨fun hg => ?_, fun hg => ?_⟩) <;> (try simp only [BN2] at hg) <;> (try simp only [hg, cond_true, cond_false])) <;> (try (refine hK1 _ ?_; clear hK1 K1)) <;> (try simp only [BN3] at hg))) | (refine awp_seq_k fun K hK => ?_) | ((first | refine awp_region ?_ | refine awp_draw (by kernel_rfl) ?_ | refine awp_block ?_ | refine awp_exit ?_ | refine awp_skip ?_ | refine awp_ret ?_); (try simp only [NB, simprocAttr])))
    all_goals simp only [EndP, FinP, resA, resL, resA1, lastV, lastA, lastAs, pur, purs, take_app, List.take_length, S1, simprocAttr, TTTmN, Nat.le_add_right, Nat.le_refl, hzt, hzl, List.length_map, zS_len, TSz, takeA_st, purs_is, mapmap]
    all_goals rfl
  have f1 : decide (i < 0) = false := decide_eq_false h1
  obtain ⟨n, rfl⟩ := Int.eq_ofNat_of_zero_le (by omega : 0 ≤ i)
  rcases Nat.lt_or_ge n (stepsG ns fl S).length with hlt | hge
  · obtain ⟨y, hy⟩ : ∃ y, (stepsG ns fl S)[n]? = some y := ⟨_, List.getElem?_eq_getElem hlt⟩
    have e : doG ns fl S (n : Int) = (y, 0) := by unfold doG; rw [if_neg (by simpa using h0), if_neg h1, Int.toNat_natCast, hy]
    rw [e]
    have hyl := hto y (List.mem_of_getElem? hy)
    generalize stepsG ns fl S = sl at *
    have hxy : (sl.map eSp)[n]? = some ((cSp y).map (PV.int .i64)) := by rw [List.getElem?_map, hy]; rfl
    have f2 : decide ((sl.length : Int) ≤ (n : Int)) = false := by simp; omega
    have n0 : (0 : Int) ≤ (n : Int) := by omega
    have y54 : (cSp y).length = 54 := cSp_len hyl
    have ymm := (mapmap (cSp y)).trans (cSp_eq y)
    have ycons : (cSp y).map (PV.int .i64) = .int .i64 y.node :: .int .i64 y.arg :: .int .i64 y.lk :: .int .i64 y.ln :: .int .i64 y.la :: y.to.map (PV.int .i64) := rfl
    have yto : (y.to.map (PV.int .i64)).map AV.p = y.to.map AV.i := mapmap y.to
    have yt49 : (y.to.map AV.i).take 49 = y.to.map AV.i := List.take_of_length_le (by rw [List.length_map, hyl]; exact Nat.le_refl _)
    have yt49p : (y.to.map (PV.int .i64)).take 49 = y.to.map (PV.int .i64) := List.take_of_length_le (by rw [List.length_map, hyl]; exact Nat.le_refl _)
    have hyz : over (zS.map AV.i) 0 (y.to.map AV.i) = y.to.map AV.i := over_full (n := 49) (by rw [List.length_map, hyl]) _ hzl
    refine acalls_pure (rl := []) mixed Tryd.func17 rfl (rs := [.cell 6 29, .cell 7 46, .tmp 8]) rfl Tryd.ntmps17 (by simp) ?_
    repeat' (first | ((first | refine aops_nil ?_ | refine aqops_nil ?_ | refine arun_nil ?_ | refine arunT_nil ?_); (try simp only [NB])) | ((repeat ((fail_if_success (refine hK _ ?_)); clear hK K)); refine hK _ ?_; clear hK K) | ((first | refine aops_k fun K1 hK1 => ?_ | refine aqops_k fun K1 hK1 => ?_ | refine arun_eff rfl rfl rfl fun K1 hK1 => ?_ | refine awp_cond_k fun A B hA hB => ?_); simp only [S1, simprocAttr, TTTmN, f1, f2, n0, hxy, y54, ymm, ycons, yto, yt49, yt49p, hyz, hyl, TSz, z49_ne, z49_map, zS_len, hem, hne, hS, all_scalar, t49', takeA_arr, takeA_st, List.length_map, List.length_cons, List.length_take, List.length_drop, Nat.mul_one, Nat.zero_add, Nat.add_zero, Int.toNat_natCast]; first | (refine hK1 _ ?_; clear hK1 K1) | ((first | refine hA ?_ | refine hB ?_); clear hA hB A B) | ((first | apply call_a E9 | apply call_q E9); exact (hck _); (refine hK1 _ ?_; clear hK1 K1)) | ((first | apply call_a E34 | apply call_q E34); exact (hst _); (refine hK1 _ ?_; clear hK1 K1)) | (refine join_x (v := ?_) (fun hg hk9 => ?_) ?_; rotate_left; (focus (try ((try simp only [BN] at hg); simp only [S1, simprocAttr, TTTmN, f1, f2, n0, hxy, y54, ymm, ycons, yto, yt49, yt49p, hyz, hyl, TSz, z49_ne, z49_map, zS_len, hem, hne, hS, all_scalar, t49', takeA_arr, takeA_st, List.length_map, List.length_cons, List.length_take, List.length_drop, Nat.mul_one, Nat.zero_add, Nat.add_zero, Int.toNat_natCast, hg] at hk9 ⊢)); first | exact hk9 | ((first | apply call_a E9 | apply call_q E9); exact (hck _); exact hk9) | ((first | apply call_a E34 | apply call_q E34); exact (hst _); exact hk9)); (refine hK1 _ ?_; clear hK1 K1)) | (((first | (refine ⟨fun hg => hA ?_, fun hg => hB ?_⟩ <;> clear hA hB A B) | refine ⟨fun hg => ?_, fun hg => ?_⟩) <;> (try simp only [BN2] at hg) <;> (try simp only [hg, cond_true, cond_false])) <;> (try (refine hK1 _ ?_; clear hK1 K1)) <;> (try simp only [BN3] at hg))) | ((first | refine arun_q (v := ?_) rfl rfl rfl rfl (by decide) (fun R1 K1 hK1 => ?_) ?_ | refine arun_f (v := ?_) rfl rfl rfl (by decide) (fun K1 hK1 => ?_) ?_ | refine arunT_f (v := ?_) rfl rfl rfl (by decide) (fun K1 hK1 => ?_) ?_ | refine arun_w (v := ?_) rfl rfl rfl rfl (by decide) (fun H1 K1 hK1 => ?_) ?_); rotate_left; (focus (simp only [S1, simprocAttr, TTTmN, f1, f2, n0, hxy, y54, ymm, ycons, yto, yt49, yt49p, hyz, hyl, TSz, z49_ne, z49_map, zS_len, hem, hne, hS, all_scalar, t49', takeA_arr, takeA_st, List.length_map, List.length_cons, List.length_take, List.length_drop, Nat.mul_one, Nat.zero_add, Nat.add_zero, Int.toNat_natCast]; first | (exact hK1 _ _ _) | ((first | apply call_a E9 | apply call_q E9); exact (hck _); exact hK1 _ _ _) | ((first | apply call_a E34 | apply call_q E34); exact (hst _); exact hK1 _ _ _)))) | (refine arun_tail rfl rfl rfl ?_) | ((first | refine arun_allocj (z := ?_) 0 rfl rfl rfl rfl (by decide) rfl ?_ ?_ | refine arun_allocj (z := ?_) 1 rfl rfl rfl rfl (by decide) rfl ?_ ?_ | refine arun_allocj (z := ?_) 2 rfl rfl rfl rfl (by decide) rfl ?_ ?_); rotate_left; (focus (simp only [S1, simprocAttr, TTTmN, f1, f2, n0, hxy, y54, ymm, ycons, yto, yt49, yt49p, hyz, hyl, TSz, z49_ne, z49_map, zS_len, hem, hne, hS, all_scalar, t49', takeA_arr, takeA_st, List.length_map, List.length_cons, List.length_take, List.length_drop, Nat.mul_one, Nat.zero_add, Nat.add_zero, Int.toNat_natCast, zeroB]; rfl))) | (refine awp_seq_k fun K hK => ?_) | (refine awp_drawR [0, 1, 2, 3, 4, 5, 6, 7, 8, 9, 10, 11, 12, 13] 0 (fs := [2, 7, 10]) rfl (by kernel_rfl) (by kernel_rfl) ?_) | ((first | refine awp_region ?_ | refine awp_draw (by kernel_rfl) ?_ | refine awp_block ?_ | refine awp_exit ?_ | refine awp_skip ?_ | refine awp_ret ?_); (try simp only [NB, simprocAttr])))
    all_goals simp only [EndP, FinP, resA, resL, resA1, lastV, lastA, lastAs, pur, purs, take_app, List.take_length, S1, simprocAttr, TTTmN, Nat.le_add_right, Nat.le_refl, yt49, hyl, List.length_map, TSz, takeA_st, purs_is, mapmap]
  · have e : doG ns fl S (n : Int) = (zSp, 6) := by unfold doG; rw [if_neg (by simpa using h0), if_neg h1, Int.toNat_natCast, List.getElem?_eq_none hge]
    rw [e]
    generalize stepsG ns fl S = sl at *
    have f2 : decide ((sl.length : Int) ≤ (n : Int)) = true := by simp; omega
    refine acalls_pure (rl := []) mixed Tryd.func17 rfl (rs := [.cell 6 29, .cell 7 46, .tmp 8]) rfl Tryd.ntmps17 (by simp) ?_
    repeat' (first | ((first | refine aops_nil ?_ | refine aqops_nil ?_); (try simp only [NB])) | ((repeat ((fail_if_success (refine hK _ ?_)); clear hK K)); refine hK _ ?_; clear hK K) | ((first | refine aops_k fun K1 hK1 => ?_ | refine aqops_k fun K1 hK1 => ?_ | refine awp_cond_k fun A B hA hB => ?_); simp only [S1, simprocAttr, TTTmN, f1, f2, TSz, z49_ne, z49_map, zS_len, hem, hzz, hzt, hne, hS, all_scalar, t49', takeA_arr, takeA_st, List.length_map]; first | (refine hK1 _ ?_; clear hK1 K1) | ((first | refine hA ?_ | refine hB ?_); clear hA hB A B) | ((first | apply call_a E9 | apply call_q E9); exact (hck _); (refine hK1 _ ?_; clear hK1 K1)) | ((first | apply call_a E34 | apply call_q E34); exact (hst _); (refine hK1 _ ?_; clear hK1 K1)) | (refine join_x (v := ?_) (fun hg hk9 => ?_) ?_; rotate_left; (focus (try ((try simp only [BN] at hg); simp only [S1, simprocAttr, TTTmN, f1, f2, TSz, z49_ne, z49_map, zS_len, hem, hzz, hzt, hne, hS, all_scalar, t49', takeA_arr, takeA_st, List.length_map, hg] at hk9 ⊢)); first | exact hk9 | ((first | apply call_a E9 | apply call_q E9); exact (hck _); exact hk9) | ((first | apply call_a E34 | apply call_q E34); exact (hst _); exact hk9)); (refine hK1 _ ?_; clear hK1 K1)) | (((first | (refine ⟨fun hg => hA ?_, fun hg => hB ?_⟩ <;> clear hA hB A B) | refine ⟨fun hg => ?_, fun hg => ?_⟩) <;> (try simp only [BN2] at hg) <;> (try simp only [hg, cond_true, cond_false])) <;> (try (refine hK1 _ ?_; clear hK1 K1)) <;> (try simp only [BN3] at hg))) | (refine awp_seq_k fun K hK => ?_) | ((first | refine awp_region ?_ | refine awp_draw (by kernel_rfl) ?_ | refine awp_block ?_ | refine awp_exit ?_ | refine awp_skip ?_ | refine awp_ret ?_); (try simp only [NB, simprocAttr])))
    all_goals simp only [EndP, FinP, resA, resL, resA1, lastV, lastA, lastAs, pur, purs, take_app, List.take_length, S1, simprocAttr, TTTmN, Nat.le_add_right, Nat.le_refl, hzt, hzl, List.length_map, zS_len, TSz, takeA_st, purs_is, mapmap]
    all_goals rfl
end Go.Proofs.YtjpphhcimpclpaaDoor.AM
end
