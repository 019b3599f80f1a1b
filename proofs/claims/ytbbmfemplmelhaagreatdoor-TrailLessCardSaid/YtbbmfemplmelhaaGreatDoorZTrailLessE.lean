/- Proved here, in parts, for one law: Plain: what is moved, as the document tells it. Contracts: a step more; a fault, as the program does it. Contracts: a step more that changes the rest of a state; the functions that change it. Contracts: the functions that change the rest of a state. Contracts: a fault; the step of a catch that goes, as the program does it. Contracts: how many tokens there are; which messages are awaited; what stands on nothing. Contracts: the steps of an Xor, as the program does them. Contracts: the steps of a node, as the program does them: what returns at once; tasks and assignments. Contracts: the steps of gates, events, catches and ends, as the program does them. Contracts: the steps of ends and events, as the program does them. Contracts: the steps of tasks and assignments, as the program does them. Contracts: the steps of any node, as the program does them. Contracts: all steps of a state, as the program does them. Conditions: none. -/
import Derived.Test.YtbbmfemplmelhaaGreatDoorZTrailLessD

section
set_option linter.unusedVariables false
set_option linter.unusedSimpArgs false
set_option maxRecDepth 4000
set_option maxHeartbeats 4000000
namespace Go.Proofs.YtbbmfemplmelhaaGreatDoor.AM
open Go Go.Proofs
set_option linter.defProp false in
def TTTmB := And.intro T2 (And.intro T3 (And.intro T4 (And.intro T25 (And.intro T28 (And.intro T41 (And.intro T57 (And.intro T58 (And.intro T92 (And.intro T118 (And.intro T121 (And.intro T142 (And.intro T144 T147))))))))))))
attribute [local irreducible] awp aops aqops aeops arun arunT
variable {G : Nat → Option (List PV)}

theorem takeF_len : ∀ (l S : List Int), (takeF l S).1.length = S.length
  | [], S => rfl
  | f :: r, S => by
    unfold takeF
    split
    · simp
    · rw [takeF_len r]; simp
theorem giveF_len : ∀ (l S : List Int), (giveF l S).1.length = S.length
  | [], S => rfl
  | f :: r, S => by
    unfold giveF
    split
    · simp
    · rw [giveF_len r]; simp
theorem mvF_len (S fr to : List Int) : (mvF S fr to).1.length = S.length := by
  unfold mvF
  split
  · rw [giveF_len, takeF_len]
  · rw [takeF_len]

theorem joinS_set {S X : List Int} (hS : S.length = 49) {k : Nat} (hk : k < 40) (v : Int) : (joinS S X).set k v = joinS (S.set k v) X := by
  unfold joinS
  rw [List.set_append_left _ _ (by rw [List.length_take]; omega), List.take_set]
theorem joinS_tkI {S X : List Int} (hS : S.length = 49) {k : Nat} (hk : k < 40) : tk (joinS S X) k = tk S k := by
  unfold tk joinS
  rw [Int.toNat_natCast, List.getD_eq_getElem?_getD, List.getElem?_append_left (by rw [List.length_take]; omega), List.getElem?_take_of_lt (by omega), ← List.getD_eq_getElem?_getD]
theorem runO_cons (step : List Int → Int → Option (List Int)) (f : Int) (r S : List Int) : runO step (f :: r) S = (step S f).bind (runO step r) := by
  unfold runO; rw [List.foldlM_cons]; rfl
theorem runT_join {X : List Int} : ∀ {l S : List Int}, S.length = 49 → InF l → runO stepT l (joinS S X) = if (takeF l S).2 = true then some (joinS (takeF l S).1 X) else none
  | [], S, _, _ => rfl
  | f :: r, S, hS, h => by
    obtain ⟨f0, f40⟩ := h.2 f (by simp)
    obtain ⟨k, rfl⟩ := Int.eq_ofNat_of_zero_le f0
    have k40 : k < 40 := by omega
    have ih := runT_join (X := X) (l := r) (S := S.set k (tk S k - 1)) (by rw [List.length_set, hS]) ⟨by have := h.1; simp at this; omega, fun g hg => h.2 g (by simp [hg])⟩
    have e : stepT (joinS S X) (k : Int) = if tk S k < 1 then none else some (joinS (S.set k (tk S k - 1)) X) := by
      unfold stepT; rw [joinS_tkI hS k40, Int.toNat_natCast, joinS_set hS k40]
    rw [runO_cons, e]
    by_cases h1 : tk S k < 1
    · have e2 : takeF ((k : Int) :: r) S = (S.set k (tk S k - 1), false) := by
        unfold takeF; rw [if_pos (by omega), Int.toNat_natCast]
      rw [if_pos h1, e2]; rfl
    · have e2 : takeF ((k : Int) :: r) S = takeF r (S.set k (tk S k - 1)) := by
        conv => lhs; unfold takeF
        rw [if_neg (by omega), Int.toNat_natCast]
      rw [if_neg h1, e2]; exact ih
theorem runP_join {X : List Int} : ∀ {l S : List Int}, S.length = 49 → InF l → runO stepP l (joinS S X) = if (giveF l S).2 = true then some (joinS (giveF l S).1 X) else none
  | [], S, _, _ => rfl
  | f :: r, S, hS, h => by
    obtain ⟨f0, f40⟩ := h.2 f (by simp)
    obtain ⟨k, rfl⟩ := Int.eq_ofNat_of_zero_le f0
    have k40 : k < 40 := by omega
    have ih := runP_join (X := X) (l := r) (S := S.set k (tk S k + 1)) (by rw [List.length_set, hS]) ⟨by have := h.1; simp at this; omega, fun g hg => h.2 g (by simp [hg])⟩
    have e : stepP (joinS S X) (k : Int) = if 2 < tk S k then none else some (joinS (S.set k (tk S k + 1)) X) := by
      unfold stepP; rw [joinS_tkI hS k40, Int.toNat_natCast, joinS_set hS k40]
    rw [runO_cons, e]
    by_cases h1 : 2 < tk S k
    · have e2 : giveF ((k : Int) :: r) S = (S.set k (tk S k + 1), false) := by
        unfold giveF; rw [if_pos (by omega), Int.toNat_natCast]
      rw [if_pos h1, e2]; rfl
    · have e2 : giveF ((k : Int) :: r) S = giveF r (S.set k (tk S k + 1)) := by
        conv => lhs; unfold giveF
        rw [if_neg (by omega), Int.toNat_natCast]
      rw [if_neg h1, e2]; exact ih

/-- The steps that the program adds. -/
def stF (S : List Int) (m : Sp) (chg : List Int → List Int) (fr to : List Int) : List Sp := if (mvF S fr to).2 = true then [{ m with to := chg (mvF S fr to).1 }] else []

/-- What changes the rest of a state alone. -/
def Chg (S : List Int) (chg : List Int → List Int) (X : List Int) : Prop := X.length = 49 ∧ ∀ T : List Int, T.length = 49 → T.drop 40 = S.drop 40 → chg T = joinS T X

theorem set_drop40 {S : List Int} {k : Nat} (hk : k < 40) (v : Int) : (S.set k v).drop 40 = S.drop 40 := List.drop_set_of_lt hk
theorem takeF_drop : ∀ {l S : List Int}, InF l → (takeF l S).1.drop 40 = S.drop 40
  | [], S, _ => rfl
  | f :: r, S, h => by
    obtain ⟨f0, f40⟩ := h.2 f (by simp)
    have k40 : f.toNat < 40 := by omega
    unfold takeF
    split
    · exact set_drop40 k40 _
    · rw [takeF_drop (l := r) ⟨by have := h.1; simp at this; omega, fun g hg => h.2 g (by simp [hg])⟩]; exact set_drop40 k40 _
theorem giveF_drop : ∀ {l S : List Int}, InF l → (giveF l S).1.drop 40 = S.drop 40
  | [], S, _ => rfl
  | f :: r, S, h => by
    obtain ⟨f0, f40⟩ := h.2 f (by simp)
    have k40 : f.toNat < 40 := by omega
    unfold giveF
    split
    · exact set_drop40 k40 _
    · rw [giveF_drop (l := r) ⟨by have := h.1; simp at this; omega, fun g hg => h.2 g (by simp [hg])⟩]; exact set_drop40 k40 _

theorem stF_move {S X : List Int} (hS : S.length = 49) {m : Sp} {chg : List Int → List Int} (hc : Chg S chg X) {fr to : List Int} (hf : InF fr) (ht : InF to) : stF S m chg fr to = moveG S { m with to := X } fr to := by
  unfold stF moveG
  simp only
  rw [runT_join hS hf]
  have l1 : (takeF fr S).1.length = 49 := by rw [takeF_len, hS]
  have d1 := takeF_drop (S := S) hf
  unfold mvF
  cases h1 : (takeF fr S).2 with
  | false => simp [h1]
  | true =>
    have d2 := giveF_drop (S := (takeF fr S).1) ht
    simp only [if_true]
    rw [runP_join l1 ht]
    cases h2 : (giveF to (takeF fr S).1).2 with
    | false => simp
    | true =>
      simp only [if_true]
      rw [hc.2 _ (by rw [giveF_len, l1]) (by rw [d2, d1])]

theorem joinS_same {T X : List Int} (h : T.drop 40 = X.drop 40) : joinS T X = T := by unfold joinS; rw [← h, List.take_append_drop]
theorem Chg.id {S : List Int} (hS : S.length = 49) : Chg S (fun T => T) S := ⟨hS, fun T _ hd => (joinS_same hd).symm⟩
theorem Chg.set {S : List Int} (hS : S.length = 49) {k : Nat} (hk : 40 ≤ k) (v : Int) : Chg S (fun T => T.set k v) (S.set k v) := by
  refine ⟨by rw [List.length_set, hS], fun T hT hd => ?_⟩
  unfold joinS
  simp only
  rw [List.drop_set, if_neg (by omega), ← hd]
  conv => lhs; rw [← List.take_append_drop 40 T]
  rw [List.set_append_right _ _ (by rw [List.length_take]; omega), List.length_take, Nat.min_eq_left (by omega)]

/-- A move as it is handed on: without a state. -/
abbrev aMv (m : Sp) : AV := .agg [.i m.node, .i m.arg, .i m.lk, .i m.ln, .i m.la]

theorem step_nil {h : Heap} {b lb : Nat} {ns : List Nd} {fl : List Fl} {S : List Int} {l : List Sp} (ok : GmOk h b lb S l) (m : Sp) (fr to : List Int) (hfr : InF fr) (hto : InF to) :
    ACalls Tryz.prog G 82 [.ptr b 0 0, aMv m, aI fr, aI to, .p .nilf] (putG h b lb ns fl S l) (fun r h' => r = .undef ∧ h' = putG h b lb ns fl S (l ++ stF S m (fun T => T) fr to)) := by
  have hb := ok.hb
  have hl := ok.hl
  have hne := ok.ne
  have hS := ok.held.1
  have hmax : l.length + 1 ≤ maxCount := by have := ok.few; unfold maxCount; omega
  have gl := gmC_len (ns := ns) (fl := fl) (lb := lb) (n := l.length) hS
  have hmv := fun L => moved_calls (G := G) (H := putG h b lb ns fl S l ++ L) (pg_b hb hne L) ok.held fr to hfr hto
  have hT : (mvF S fr to).1.length = 49 := by rw [mvF_len, hS]
  have hzl : (zS.map AV.i).length = 49 := by rw [List.length_map]; rfl
  have hem : (zS.map AV.i).isEmpty = false := rfl
  have hsF : stF S m (fun T => T) fr to = if (mvF S fr to).2 = true then [{ m with to := (mvF S fr to).1 }] else [] := rfl
  generalize (mvF S fr to).1 = T at *
  have hso : over (zS.map AV.i) 0 (T.map AV.i) = T.map AV.i := over_full (n := 49) (by rw [List.length_map, hT]) _ hzl
  have hTt : ((T.map AV.i).take 49 = T.map AV.i) := List.take_of_length_le (by rw [List.length_map, hT]; exact Nat.le_refl _)
  have htl := over_tail hT
  have hx : ({ m with to := T } : Sp).to.length = 49 := hT
  have hln : (cSp { m with to := T }).length = 54 := cSp_len hx
  have heq : (AV.p (.int .i64 m.node) :: .p (.int .i64 m.arg) :: .p (.int .i64 m.lk) :: .p (.int .i64 m.ln) :: .p (.int .i64 m.la) :: T.map AV.i) = (cSp { m with to := T }).map AV.i := rfl
  have hov2 := over_full (cs := (cSp { m with to := T }).map AV.i) (n := 54) (by rw [List.length_map, hln])
  have hpv := pvs_is (cSp { m with to := T })
  have hti : ((cSp { m with to := T }).map (PV.int .i64)).take 54 = (cSp { m with to := T }).map (PV.int .i64) := List.take_of_length_le (by rw [List.length_map, hln]; exact Nat.le_refl _)
  have hmm := mapmap (cSp { m with to := T })
  have hsl := cSps_len ok.len
  have hrf := gmC_ref (ns := ns) (fl := fl) (lb := lb) (n := l.length) hS
  have hgs := gmC_set (ns := ns) (fl := fl) (lb := lb) (n := l.length) (m := l.length + 1) hS
  have hgb := pg_gb (ns := ns) (fl := fl) (S := S) (l := l) hb hne
  have hfn : ∀ L : Heap, ((putG h b lb ns fl S l ++ L).set lb (some ⟨l.length + 1, cSps l ++ (cSp { m with to := T }).map AV.i⟩)).set b (some ⟨0, gmC ns fl S lb (l.length + 1)⟩) = putG h b lb ns fl S (l ++ [{ m with to := T }]) ++ L := fun L => by
    have := pg_fin (ns := ns) (fl := fl) (S := S) (l := l) (l' := l ++ [{ m with to := T }]) hb hl hne L
    simpa only [spB, gmB, List.length_append, List.length_cons, List.length_nil, Nat.zero_add, cSps_app] using this
  rw [hsF]
  cases hq : (mvF S fr to).2 with
  | false =>
    simp only [hq, if_false, List.append_nil, Bool.false_eq_true] at hmv ⊢
    refine acalls_heap (rl := []) mixed Tryz.func82 rfl (rs := []) rfl Tryz.ntmps82 (by simp) ?_
    repeat' (first | ((first | refine aops_nil ?_ | refine aqops_nil ?_); (try simp only [NB])) | ((repeat ((fail_if_success (refine hK _ ?_)); clear hK K)); refine hK _ ?_; clear hK K) | ((first | refine aops_k fun K1 hK1 => ?_ | refine aqops_k fun K1 hK1 => ?_ | refine awp_cond_k fun A B hA hB => ?_); simp only [S1, simprocAttr, TTTmB, TSz, z49_ne, z49_map, zS_len, hem, hso, hT, hTt, htl, all_scalar, pg_b hb hne, pg_lb hl, pg_b0 hb hne, pg_lb0 hl, takeA_arr, takeA_st, List.length_map, List.length_take, List.length_drop, List.length_cons, List.length_nil, pg_len, pg_get0, pg_geti, pg_set0, pg_seti, Nat.mul_one, Nat.zero_add, Nat.add_zero, Int.toNat_natCast]; first | (refine hK1 _ ?_; clear hK1 K1) | ((first | refine hA ?_ | refine hB ?_); clear hA hB A B) | ((first | apply call_a E120 | apply call_q E120); exact (hmv _); (refine hK1 _ ?_; clear hK1 K1)) | (((first | (refine ⟨fun hg => hA ?_, fun hg => hB ?_⟩ <;> clear hA hB A B) | refine ⟨fun hg => ?_, fun hg => ?_⟩) <;> (try simp only [BN2] at hg) <;> (try simp only [hg, cond_true, cond_false])) <;> (try (refine hK1 _ ?_; clear hK1 K1)) <;> (try simp only [BN3] at hg))) | (refine awp_seq_k fun K hK => ?_) | ((first | refine awp_region ?_ | refine awp_draw (by kernel_rfl) ?_ | refine awp_block ?_ | refine awp_exit ?_ | refine awp_skip ?_ | refine awp_ret ?_); (try simp only [NB, simprocAttr])))
    all_goals simp only [EndH, FinH, resA, resL, resA1, lastV, lastA, lastAs, pur, purs, pg_len, pg_take, pg_take0, List.length_append, List.length_cons, List.length_nil, S1, simprocAttr, Nat.le_add_right, Nat.le_refl] <;> first | exact pg_keep' hl | exact ⟨pg_keep' hl, rfl⟩ | exact ⟨pg_keep' hl, rfl, rfl⟩
  | true =>
    simp only [hq, if_true] at hmv ⊢
    refine acalls_heap (rl := []) mixed Tryz.func82 rfl (rs := []) rfl Tryz.ntmps82 (by simp) ?_
    repeat' (first | ((first | refine aops_nil ?_ | refine aqops_nil ?_ | refine arun_nil ?_ | refine arunT_nil ?_); (try simp only [NB])) | ((repeat ((fail_if_success (refine hK _ ?_)); clear hK K)); refine hK _ ?_; clear hK K) | ((first | refine aops_k fun K1 hK1 => ?_ | refine aqops_k fun K1 hK1 => ?_ | refine arun_eff rfl rfl rfl fun K1 hK1 => ?_ | refine awp_cond_k fun A B hA hB => ?_); simp only [S1, simprocAttr, TTTmB, TSz, z49_ne, z49_map, zS_len, hem, hso, hT, hTt, htl, heq, hln, hov2, hpv, hti, hmm, hsl, hrf, hgs, hgb, hfn, hmax, all_scalar, pg_b hb hne, pg_lb hl, pg_b0 hb hne, pg_lb0 hl, gmB, spB, gl, takeA_arr, takeA_st, List.length_map, List.length_take, List.length_drop, List.length_cons, List.length_nil, pg_len, pg_get0, pg_geti, pg_set0, pg_seti, Nat.mul_one, Nat.zero_add, Nat.add_zero, Int.toNat_natCast]; first | (refine hK1 _ ?_; clear hK1 K1) | ((first | refine hA ?_ | refine hB ?_); clear hA hB A B) | ((first | apply call_a E120 | apply call_q E120); exact (hmv _); (refine hK1 _ ?_; clear hK1 K1)) | (((first | (refine ⟨fun hg => hA ?_, fun hg => hB ?_⟩ <;> clear hA hB A B) | refine ⟨fun hg => ?_, fun hg => ?_⟩) <;> (try simp only [BN2] at hg) <;> (try simp only [hg, cond_true, cond_false])) <;> (try (refine hK1 _ ?_; clear hK1 K1)) <;> (try simp only [BN3] at hg))) | ((first | refine arun_q (v := ?_) rfl rfl rfl rfl (by decide) (fun R1 K1 hK1 => ?_) ?_ | refine arun_f (v := ?_) rfl rfl rfl (by decide) (fun K1 hK1 => ?_) ?_ | refine arunT_f (v := ?_) rfl rfl rfl (by decide) (fun K1 hK1 => ?_) ?_); rotate_left; (focus (simp only [S1, simprocAttr, TTTmB, TSz, z49_ne, z49_map, zS_len, hem, hso, hT, hTt, htl, heq, hln, hov2, hpv, hti, hmm, hsl, hrf, hgs, hgb, hfn, hmax, all_scalar, pg_b hb hne, pg_lb hl, pg_b0 hb hne, pg_lb0 hl, gmB, spB, gl, takeA_arr, takeA_st, List.length_map, List.length_take, List.length_drop, List.length_cons, List.length_nil, pg_len, pg_get0, pg_geti, pg_set0, pg_seti, Nat.mul_one, Nat.zero_add, Nat.add_zero, Int.toNat_natCast]; first | (exact hK1 _ _ _) | ((first | apply call_a E120 | apply call_q E120); exact (hmv _); exact hK1 _ _ _)))) | (refine arun_tail rfl rfl rfl ?_) | ((first | refine arun_allocj (z := ?_) 0 rfl rfl rfl rfl (by decide) rfl ?_ ?_ | refine arun_allocj (z := ?_) 1 rfl rfl rfl rfl (by decide) rfl ?_ ?_ | refine arun_allocj (z := ?_) 2 rfl rfl rfl rfl (by decide) rfl ?_ ?_); rotate_left; (focus (simp only [S1, simprocAttr, TTTmB, TSz, z49_ne, z49_map, zS_len, hem, hso, hT, hTt, htl, heq, hln, hov2, hpv, hti, hmm, hsl, hrf, hgs, hgb, hfn, hmax, all_scalar, pg_b hb hne, pg_lb hl, pg_b0 hb hne, pg_lb0 hl, gmB, spB, gl, takeA_arr, takeA_st, List.length_map, List.length_take, List.length_drop, List.length_cons, List.length_nil, pg_len, pg_get0, pg_geti, pg_set0, pg_seti, Nat.mul_one, Nat.zero_add, Nat.add_zero, Int.toNat_natCast, zeroB]; rfl))) | (refine awp_seq_k fun K hK => ?_) | (refine awp_drawR (es := []) [0, 1, 2, 3, 4, 5, 6, 7, 8, 9, 10, 11, 12] 0 (fs := []) rfl (by kernel_rfl) (by kernel_rfl) ?_) | ((first | refine awp_region ?_ | refine awp_draw (by kernel_rfl) ?_ | refine awp_block ?_ | refine awp_exit ?_ | refine awp_skip ?_ | refine awp_ret ?_); (try simp only [NB, simprocAttr])))
    all_goals simp only [EndH, FinH, resA, resL, resA1, lastV, lastA, lastAs, pur, purs, pg_len, pg_take, pg_take0, List.length_append, List.length_cons, List.length_nil, S1, simprocAttr, Nat.le_add_right, Nat.le_refl] <;> first | exact pg_keep' hl | exact ⟨pg_keep' hl, rfl⟩ | exact ⟨pg_keep' hl, rfl, rfl⟩
end Go.Proofs.YtbbmfemplmelhaaGreatDoor.AM
end

section
set_option linter.unusedVariables false
set_option linter.unusedSimpArgs false
set_option maxRecDepth 4000
set_option maxHeartbeats 4000000
namespace Go.Proofs.YtbbmfemplmelhaaGreatDoor.AM
open Go Go.Proofs
set_option linter.defProp false in
def TTTmC := And.intro T2 (And.intro T3 (And.intro T4 (And.intro T25 (And.intro T28 (And.intro T41 (And.intro T57 (And.intro T58 (And.intro T77 (And.intro T92 (And.intro T118 (And.intro T121 (And.intro T142 (And.intro T144 (And.intro T146 T147))))))))))))))
attribute [local irreducible] awp aops aqops aeops arun arunT
variable {G : Nat → Option (List PV)}

theorem step_fn {h : Heap} {b lb : Nat} {ns : List Nd} {fl : List Fl} {S : List Int} {l : List Sp} (ok : GmOk h b lb S l) (m : Sp) (fr to : List Int) (hfr : InF fr) (hto : InF to) {f : FuncId} (hE : Enters Tryz.prog f) {caps : List AV} (hcap : avlts h.length caps) {chg : List Int → List Int} (hlen : ∀ T : List Int, T.length = 49 → (chg T).length = 49)
    (hC : ∀ (A : Option Blk) (T : List Int), T.length = 49 → T.drop 40 = S.drop 40 → ACalls Tryz.prog G f (.ptr (h.length + 1) 0 0 :: caps) (putG h b lb ns fl S l ++ [A, some ⟨0, T.map AV.i⟩]) (fun r h' => r = .undef ∧ h' = putG h b lb ns fl S l ++ [A, some ⟨0, (chg T).map AV.i⟩])) :
    ACalls Tryz.prog G 82 [.ptr b 0 0, aMv m, aI fr, aI to, .fn f caps] (putG h b lb ns fl S l) (fun r h' => r = .undef ∧ h' = putG h b lb ns fl S (l ++ stF S m chg fr to)) := by
  have hb := ok.hb
  have hl := ok.hl
  have hne := ok.ne
  have hS := ok.held.1
  have hmax : l.length + 1 ≤ maxCount := by have := ok.few; unfold maxCount; omega
  have gl := gmC_len (ns := ns) (fl := fl) (lb := lb) (n := l.length) hS
  have hmv := fun L => moved_calls (G := G) (H := putG h b lb ns fl S l ++ L) (pg_b hb hne L) ok.held fr to hfr hto
  have hT : (mvF S fr to).1.length = 49 := by rw [mvF_len, hS]
  have hzl : (zS.map AV.i).length = 49 := by rw [List.length_map]; rfl
  have hem : (zS.map AV.i).isEmpty = false := rfl
  have hsF : stF S m chg fr to = if (mvF S fr to).2 = true then [{ m with to := chg (mvF S fr to).1 }] else [] := rfl
  have hdp : (mvF S fr to).1.drop 40 = S.drop 40 := by
    unfold mvF
    split
    · rw [giveF_drop hto, takeF_drop hfr]
    · exact takeF_drop hfr
  generalize (mvF S fr to).1 = T at *
  have hCT := fun A => hC A T hT hdp
  have hT0 := hT
  have hso0 : over (zS.map AV.i) 0 (T.map AV.i) = T.map AV.i := over_full (n := 49) (by rw [List.length_map, hT]) _ hzl
  have hTt0 : ((T.map AV.i).take 49 = T.map AV.i) := List.take_of_length_le (by rw [List.length_map, hT]; exact Nat.le_refl _)
  have hU := hlen T hT
  generalize chg T = U at *
  have hTt : ((U.map AV.i).take 49 = U.map AV.i) := List.take_of_length_le (by rw [List.length_map, hU]; exact Nat.le_refl _)
  have htl := over_tail hU
  have hx : ({ m with to := U } : Sp).to.length = 49 := hU
  have hln : (cSp { m with to := U }).length = 54 := cSp_len hx
  have heq : (AV.p (.int .i64 m.node) :: .p (.int .i64 m.arg) :: .p (.int .i64 m.lk) :: .p (.int .i64 m.ln) :: .p (.int .i64 m.la) :: U.map AV.i) = (cSp { m with to := U }).map AV.i := rfl
  have hov2 := over_full (cs := (cSp { m with to := U }).map AV.i) (n := 54) (by rw [List.length_map, hln])
  have hpv := pvs_is (cSp { m with to := U })
  have hti : ((cSp { m with to := U }).map (PV.int .i64)).take 54 = (cSp { m with to := U }).map (PV.int .i64) := List.take_of_length_le (by rw [List.length_map, hln]; exact Nat.le_refl _)
  have hmm := mapmap (cSp { m with to := U })
  have hsl := cSps_len ok.len
  have hrf := gmC_ref (ns := ns) (fl := fl) (lb := lb) (n := l.length) hS
  have hgs := gmC_set (ns := ns) (fl := fl) (lb := lb) (n := l.length) (m := l.length + 1) hS
  have hgb := pg_gb (ns := ns) (fl := fl) (S := S) (l := l) hb hne
  have hfn : ∀ L : Heap, ((putG h b lb ns fl S l ++ L).set lb (some ⟨l.length + 1, cSps l ++ (cSp { m with to := U }).map AV.i⟩)).set b (some ⟨0, gmC ns fl S lb (l.length + 1)⟩) = putG h b lb ns fl S (l ++ [{ m with to := U }]) ++ L := fun L => by
    have := pg_fin (ns := ns) (fl := fl) (S := S) (l := l) (l' := l ++ [{ m with to := U }]) hb hl hne L
    simpa only [spB, gmB, List.length_append, List.length_cons, List.length_nil, Nat.zero_add, cSps_app] using this
  rw [hsF]
  cases hq : (mvF S fr to).2 with
  | false =>
    simp only [hq, if_false, List.append_nil, Bool.false_eq_true] at hmv ⊢
    refine acalls_heap (rl := []) mixed Tryz.func82 rfl (rs := []) rfl Tryz.ntmps82 (by simp) ?_
    repeat' (first | ((first | refine aops_nil ?_ | refine aqops_nil ?_); (try simp only [NB])) | ((repeat ((fail_if_success (refine hK _ ?_)); clear hK K)); refine hK _ ?_; clear hK K) | ((first | refine aops_k fun K1 hK1 => ?_ | refine aqops_k fun K1 hK1 => ?_ | refine awp_cond_k fun A B hA hB => ?_); simp only [S1, simprocAttr, TTTmC, TSz, z49_ne, z49_map, zS_len, hem, hso0, hT0, hTt0, hU, hTt, htl, all_scalar, pg_b hb hne, pg_lb hl, pg_b0 hb hne, pg_lb0 hl, takeA_arr, takeA_st, List.length_map, List.length_take, List.length_drop, List.length_cons, List.length_nil, pg_len, pg_get0, pg_geti, pg_set0, pg_seti, Nat.mul_one, Nat.zero_add, Nat.add_zero, Int.toNat_natCast]; first | (refine hK1 _ ?_; clear hK1 K1) | ((first | refine hA ?_ | refine hB ?_); clear hA hB A B) | ((first | apply call_a E120 | apply call_q E120); exact (hmv _); (refine hK1 _ ?_; clear hK1 K1)) | ((first | apply call_a hE | apply call_q hE); exact (hCT _); (refine hK1 _ ?_; clear hK1 K1)) | (((first | (refine ⟨fun hg => hA ?_, fun hg => hB ?_⟩ <;> clear hA hB A B) | refine ⟨fun hg => ?_, fun hg => ?_⟩) <;> (try simp only [BN2] at hg) <;> (try simp only [hg, cond_true, cond_false])) <;> (try (refine hK1 _ ?_; clear hK1 K1)) <;> (try simp only [BN3] at hg))) | (refine awp_seq_k fun K hK => ?_) | ((first | refine awp_region ?_ | refine awp_draw (by kernel_rfl) ?_ | refine awp_block ?_ | refine awp_exit ?_ | refine awp_skip ?_ | refine awp_ret ?_); (try simp only [NB, simprocAttr])))
    all_goals simp only [EndH, FinH, resA, resL, resA1, lastV, lastA, lastAs, pur, purs, pg_len, pg_take, pg_take0, List.length_append, List.length_cons, List.length_nil, S1, simprocAttr, Nat.le_add_right, Nat.le_refl] <;> first | exact pg_keep' hl | exact ⟨pg_keep' hl, rfl⟩ | exact ⟨pg_keep' hl, rfl, rfl⟩
  | true =>
    simp only [hq, if_true] at hmv ⊢
    refine acalls_heap (rl := []) mixed Tryz.func82 rfl (rs := []) rfl Tryz.ntmps82 (by simp) ?_
    repeat' (first | ((first | refine aops_nil ?_ | refine aqops_nil ?_ | refine arun_nil ?_ | refine arunT_nil ?_); (try simp only [NB])) | ((repeat ((fail_if_success (refine hK _ ?_)); clear hK K)); refine hK _ ?_; clear hK K) | ((first | refine aops_k fun K1 hK1 => ?_ | refine aqops_k fun K1 hK1 => ?_ | refine arun_eff rfl rfl rfl fun K1 hK1 => ?_ | refine awp_cond_k fun A B hA hB => ?_); simp only [S1, simprocAttr, TTTmC, TSz, z49_ne, z49_map, zS_len, hem, hso0, hT0, hTt0, hU, hTt, htl, heq, hln, hov2, hpv, hti, hmm, hsl, hrf, hgs, hgb, hfn, hmax, all_scalar, pg_b hb hne, pg_lb hl, pg_b0 hb hne, pg_lb0 hl, gmB, spB, gl, takeA_arr, takeA_st, List.length_map, List.length_take, List.length_drop, List.length_cons, List.length_nil, pg_len, pg_get0, pg_geti, pg_set0, pg_seti, Nat.mul_one, Nat.zero_add, Nat.add_zero, Int.toNat_natCast]; first | (refine hK1 _ ?_; clear hK1 K1) | ((first | refine hA ?_ | refine hB ?_); clear hA hB A B) | ((first | apply call_a E120 | apply call_q E120); exact (hmv _); (refine hK1 _ ?_; clear hK1 K1)) | ((first | apply call_a hE | apply call_q hE); exact (hCT _); (refine hK1 _ ?_; clear hK1 K1)) | (((first | (refine ⟨fun hg => hA ?_, fun hg => hB ?_⟩ <;> clear hA hB A B) | refine ⟨fun hg => ?_, fun hg => ?_⟩) <;> (try simp only [BN2] at hg) <;> (try simp only [hg, cond_true, cond_false])) <;> (try (refine hK1 _ ?_; clear hK1 K1)) <;> (try simp only [BN3] at hg))) | ((first | refine arun_q (v := ?_) rfl rfl rfl rfl (by decide) (fun R1 K1 hK1 => ?_) ?_ | refine arun_f (v := ?_) rfl rfl rfl (by decide) (fun K1 hK1 => ?_) ?_ | refine arunT_f (v := ?_) rfl rfl rfl (by decide) (fun K1 hK1 => ?_) ?_); rotate_left; (focus (simp only [S1, simprocAttr, TTTmC, TSz, z49_ne, z49_map, zS_len, hem, hso0, hT0, hTt0, hU, hTt, htl, heq, hln, hov2, hpv, hti, hmm, hsl, hrf, hgs, hgb, hfn, hmax, all_scalar, pg_b hb hne, pg_lb hl, pg_b0 hb hne, pg_lb0 hl, gmB, spB, gl, takeA_arr, takeA_st, List.length_map, List.length_take, List.length_drop, List.length_cons, List.length_nil, pg_len, pg_get0, pg_geti, pg_set0, pg_seti, Nat.mul_one, Nat.zero_add, Nat.add_zero, Int.toNat_natCast]; first | (exact hK1 _ _ _) | ((first | apply call_a E120 | apply call_q E120); exact (hmv _); exact hK1 _ _ _) | ((first | apply call_a hE | apply call_q hE); exact (hCT _); exact hK1 _ _ _)))) | (refine arun_tail rfl rfl rfl ?_) | ((first | refine arun_allocj (z := ?_) 0 rfl rfl rfl rfl (by decide) rfl ?_ ?_ | refine arun_allocj (z := ?_) 1 rfl rfl rfl rfl (by decide) rfl ?_ ?_ | refine arun_allocj (z := ?_) 2 rfl rfl rfl rfl (by decide) rfl ?_ ?_); rotate_left; (focus (simp only [S1, simprocAttr, TTTmC, TSz, z49_ne, z49_map, zS_len, hem, hso0, hT0, hTt0, hU, hTt, htl, heq, hln, hov2, hpv, hti, hmm, hsl, hrf, hgs, hgb, hfn, hmax, all_scalar, pg_b hb hne, pg_lb hl, pg_b0 hb hne, pg_lb0 hl, gmB, spB, gl, takeA_arr, takeA_st, List.length_map, List.length_take, List.length_drop, List.length_cons, List.length_nil, pg_len, pg_get0, pg_geti, pg_set0, pg_seti, Nat.mul_one, Nat.zero_add, Nat.add_zero, Int.toNat_natCast, zeroB]; rfl))) | (refine awp_seq_k fun K hK => ?_) | (refine awp_drawR (es := []) [0, 1, 2, 3, 4, 5, 6, 7, 8, 9, 10, 11, 12] 0 (fs := []) rfl (by kernel_rfl) (by kernel_rfl) ?_) | ((first | refine awp_region ?_ | refine awp_draw (by kernel_rfl) ?_ | refine awp_block ?_ | refine awp_exit ?_ | refine awp_skip ?_ | refine awp_ret ?_); (try simp only [NB, simprocAttr])))
    all_goals simp only [EndH, FinH, resA, resL, resA1, lastV, lastA, lastAs, pur, purs, pg_len, pg_take, pg_take0, List.length_append, List.length_cons, List.length_nil, S1, simprocAttr, Nat.le_add_right, Nat.le_refl] <;> first | exact pg_keep' hl | exact ⟨pg_keep' hl, rfl⟩ | exact ⟨pg_keep' hl, rfl, rfl⟩
end Go.Proofs.YtbbmfemplmelhaaGreatDoor.AM
end

section
set_option linter.unusedVariables false
set_option linter.unusedSimpArgs false
set_option maxRecDepth 4000
set_option maxHeartbeats 4000000
namespace Go.Proofs.YtbbmfemplmelhaaGreatDoor.AM
open Go Go.Proofs
set_option linter.defProp false in
def TTTmD := And.intro T2 (And.intro T3 (And.intro T4 (And.intro T25 (And.intro T28 (And.intro T41 (And.intro T57 (And.intro T58 (And.intro T75 (And.intro T77 (And.intro T92 (And.intro T118 (And.intro T142 (And.intro T144 (And.intro T146 T147))))))))))))))
attribute [local irreducible] awp aops aqops aeops arun arunT
variable {G : Nat → Option (List PV)}

theorem set_kept {H : Heap} {c g : Nat} {T U : List Int} : ∀ (b : Nat) (bk : Blk), (H.set c (some ⟨g, U.map AV.i⟩))[b]? = some (some bk) → H[b]? = some (some bk) ∨ ∀ x ∈ bk.cells, AVlt H.length x := by
  intro b bk hb
  rw [List.getElem?_set] at hb
  split at hb
  · split at hb
    · cases hb; exact .inr (avlts_lt _ (avlts_is _ U))
    · cases hb
  · exact .inl hb
theorem set_take (H : Heap) (c : Nat) (x : Option Blk) : (H.set c x).take H.length = H.set c x := List.take_of_length_le (by simp)
theorem set_len (H : Heap) (c : Nat) (x : Option Blk) : (H.set c x).length = H.length := by simp

theorem setv_1 {H : Heap} {c r x gc gr gx : Nat} {T : List Int} (hc : H[c]? = some (some ⟨gc, T.map AV.i⟩)) (hT : T.length = 49) {v : Int} (hr : H[r]? = some (some ⟨gr, [.i v]⟩)) {kd : Int} {a : Nat} (ha : a < 4) {rest : List AV} (hx : H[x]? = some (some ⟨gx, .i kd :: .i a :: rest⟩)) :
    ACalls Tryz.prog G 110 [.ptr c gc 0, .ptr r gr 0, .ptr x gx 0] H (fun q h' => q = .undef ∧ h' = H.set c (some ⟨gc, (T.set (40 + a) v).map AV.i⟩)) := by
  have hcL := app_get1 hc
  have hrL := app_get1 hr
  have hxL := app_get1 hx
  have a0 : (0 : Int) ≤ (a : Int) := by omega
  have a4' : (a : Int) < 4 := by omega
  have h49 : 40 + a + 1 ≤ 49 := by omega
  have hse := fun v => setI_c T (40 + a) v
  have hk := set_kept (H := H) (c := c) (g := gc) (T := T) (U := T.set (40 + a) v)
  have htk := set_take H c
  have hsl := set_len H c
  refine acalls_heap (rl := []) mixed Tryz.func110 rfl (rs := []) rfl Tryz.ntmps110 (by simp) ?_
  repeat' (first | ((first | refine aops_nil ?_ | refine aqops_nil ?_ | refine arun_nil ?_ | refine arunT_nil ?_); (try simp only [NB])) | ((repeat ((fail_if_success (refine hK _ ?_)); clear hK K)); refine hK _ ?_; clear hK K) | ((first | refine aops_k fun K1 hK1 => ?_ | refine aqops_k fun K1 hK1 => ?_ | refine arun_eff rfl rfl rfl fun K1 hK1 => ?_ | refine awp_cond_k fun A B hA hB => ?_); simp only [S1, simprocAttr, TTTmD, TSz, z49_ne, hc, hr, hx, hcL, hrL, hxL, a0, a4', h49, hse, hT, htk, hsl, List.length_map, Nat.mul_one, Nat.zero_add, Nat.add_zero, Int.toNat_natCast]; first | (refine hK1 _ ?_; clear hK1 K1) | ((first | refine hA ?_ | refine hB ?_); clear hA hB A B) | (((first | (refine ⟨fun hg => hA ?_, fun hg => hB ?_⟩ <;> clear hA hB A B) | refine ⟨fun hg => ?_, fun hg => ?_⟩) <;> (try simp only [BN2] at hg) <;> (try simp only [hg, cond_true, cond_false])) <;> (try (refine hK1 _ ?_; clear hK1 K1)) <;> (try simp only [BN3] at hg))) | ((first | refine arun_q (v := ?_) rfl rfl rfl rfl (by decide) (fun R1 K1 hK1 => ?_) ?_ | refine arun_f (v := ?_) rfl rfl rfl (by decide) (fun K1 hK1 => ?_) ?_ | refine arunT_f (v := ?_) rfl rfl rfl (by decide) (fun K1 hK1 => ?_) ?_); rotate_left; (focus (simp only [S1, simprocAttr, TTTmD, TSz, z49_ne, hc, hr, hx, hcL, hrL, hxL, a0, a4', h49, hse, hT, htk, hsl, List.length_map, Nat.mul_one, Nat.zero_add, Nat.add_zero, Int.toNat_natCast]; first | (exact hK1 _ _ _)))) | (refine arun_tail rfl rfl rfl ?_) | ((first | refine arun_allocj (z := ?_) 0 rfl rfl rfl rfl (by decide) rfl ?_ ?_ | refine arun_allocj (z := ?_) 1 rfl rfl rfl rfl (by decide) rfl ?_ ?_ | refine arun_allocj (z := ?_) 2 rfl rfl rfl rfl (by decide) rfl ?_ ?_); rotate_left; (focus (simp only [S1, simprocAttr, TTTmD, TSz, z49_ne, hc, hr, hx, hcL, hrL, hxL, a0, a4', h49, hse, hT, htk, hsl, List.length_map, Nat.mul_one, Nat.zero_add, Nat.add_zero, Int.toNat_natCast, zeroB]; rfl))) | (refine awp_seq_k fun K hK => ?_) | (refine awp_drawR (es := []) [0, 1, 2, 3, 4, 5, 6, 7] 0 (fs := []) rfl (by kernel_rfl) (by kernel_rfl) ?_) | ((first | refine awp_region ?_ | refine awp_draw (by kernel_rfl) ?_ | refine awp_block ?_ | refine awp_exit ?_ | refine awp_skip ?_ | refine awp_ret ?_); (try simp only [NB, simprocAttr])))
  all_goals simp only [EndH, FinH, resA, resL, resA1, lastV, lastA, lastAs, pur, purs, hsl, htk, List.length_append, List.length_cons, List.length_nil, S1, simprocAttr, TTTmD, Nat.le_add_right, Nat.le_refl, List.append_nil]
  all_goals exact hk

theorem setv_2 {H : Heap} {c r x gc gr gx : Nat} {T : List Int} (hc : H[c]? = some (some ⟨gc, T.map AV.i⟩)) (hT : T.length = 49) {v : Int} (hr : H[r]? = some (some ⟨gr, [.i v]⟩)) {kd : Int} {a : Nat} (ha : a < 4) {rest : List AV} (hx : H[x]? = some (some ⟨gx, .i kd :: .i a :: rest⟩)) :
    ACalls Tryz.prog G 113 [.ptr c gc 0, .ptr r gr 0, .ptr x gx 0] H (fun q h' => q = .undef ∧ h' = H.set c (some ⟨gc, (T.set (40 + a) v).map AV.i⟩)) := by
  have hcL := app_get1 hc
  have hrL := app_get1 hr
  have hxL := app_get1 hx
  have a0 : (0 : Int) ≤ (a : Int) := by omega
  have a4' : (a : Int) < 4 := by omega
  have h49 : 40 + a + 1 ≤ 49 := by omega
  have hse := fun v => setI_c T (40 + a) v
  have hk := set_kept (H := H) (c := c) (g := gc) (T := T) (U := T.set (40 + a) v)
  have htk := set_take H c
  have hsl := set_len H c
  refine acalls_heap (rl := []) mixed Tryz.func113 rfl (rs := []) rfl Tryz.ntmps113 (by simp) ?_
  repeat' (first | ((first | refine aops_nil ?_ | refine aqops_nil ?_ | refine arun_nil ?_ | refine arunT_nil ?_); (try simp only [NB])) | ((repeat ((fail_if_success (refine hK _ ?_)); clear hK K)); refine hK _ ?_; clear hK K) | ((first | refine aops_k fun K1 hK1 => ?_ | refine aqops_k fun K1 hK1 => ?_ | refine arun_eff rfl rfl rfl fun K1 hK1 => ?_ | refine awp_cond_k fun A B hA hB => ?_); simp only [S1, simprocAttr, TTTmD, TSz, z49_ne, hc, hr, hx, hcL, hrL, hxL, a0, a4', h49, hse, hT, htk, hsl, List.length_map, Nat.mul_one, Nat.zero_add, Nat.add_zero, Int.toNat_natCast]; first | (refine hK1 _ ?_; clear hK1 K1) | ((first | refine hA ?_ | refine hB ?_); clear hA hB A B) | (((first | (refine ⟨fun hg => hA ?_, fun hg => hB ?_⟩ <;> clear hA hB A B) | refine ⟨fun hg => ?_, fun hg => ?_⟩) <;> (try simp only [BN2] at hg) <;> (try simp only [hg, cond_true, cond_false])) <;> (try (refine hK1 _ ?_; clear hK1 K1)) <;> (try simp only [BN3] at hg))) | ((first | refine arun_q (v := ?_) rfl rfl rfl rfl (by decide) (fun R1 K1 hK1 => ?_) ?_ | refine arun_f (v := ?_) rfl rfl rfl (by decide) (fun K1 hK1 => ?_) ?_ | refine arunT_f (v := ?_) rfl rfl rfl (by decide) (fun K1 hK1 => ?_) ?_); rotate_left; (focus (simp only [S1, simprocAttr, TTTmD, TSz, z49_ne, hc, hr, hx, hcL, hrL, hxL, a0, a4', h49, hse, hT, htk, hsl, List.length_map, Nat.mul_one, Nat.zero_add, Nat.add_zero, Int.toNat_natCast]; first | (exact hK1 _ _ _)))) | (refine arun_tail rfl rfl rfl ?_) | ((first | refine arun_allocj (z := ?_) 0 rfl rfl rfl rfl (by decide) rfl ?_ ?_ | refine arun_allocj (z := ?_) 1 rfl rfl rfl rfl (by decide) rfl ?_ ?_ | refine arun_allocj (z := ?_) 2 rfl rfl rfl rfl (by decide) rfl ?_ ?_); rotate_left; (focus (simp only [S1, simprocAttr, TTTmD, TSz, z49_ne, hc, hr, hx, hcL, hrL, hxL, a0, a4', h49, hse, hT, htk, hsl, List.length_map, Nat.mul_one, Nat.zero_add, Nat.add_zero, Int.toNat_natCast, zeroB]; rfl))) | (refine awp_seq_k fun K hK => ?_) | (refine awp_drawR (es := []) [0, 1, 2, 3, 4, 5, 6, 7] 0 (fs := []) rfl (by kernel_rfl) (by kernel_rfl) ?_) | ((first | refine awp_region ?_ | refine awp_draw (by kernel_rfl) ?_ | refine awp_block ?_ | refine awp_exit ?_ | refine awp_skip ?_ | refine awp_ret ?_); (try simp only [NB, simprocAttr])))
  all_goals simp only [EndH, FinH, resA, resL, resA1, lastV, lastA, lastAs, pur, purs, hsl, htk, List.length_append, List.length_cons, List.length_nil, S1, simprocAttr, TTTmD, Nat.le_add_right, Nat.le_refl, List.append_nil]
  all_goals exact hk

theorem setm_calls {H : Heap} {c gc : Nat} {T : List Int} (hc : H[c]? = some (some ⟨gc, T.map AV.i⟩)) (hT : T.length = 49) :
    ACalls Tryz.prog G 117 [.ptr c gc 0] H (fun q h' => q = .undef ∧ h' = H.set c (some ⟨gc, (T.set 48 1).map AV.i⟩)) := by
  have hcL := app_get1 hc
  have hse := fun v => setI_c T 48 v
  have hk := set_kept (H := H) (c := c) (g := gc) (T := T) (U := T.set 48 1)
  have htk := set_take H c
  have hsl := set_len H c
  refine acalls_heap (rl := []) mixed Tryz.func117 rfl (rs := []) rfl Tryz.ntmps117 (by simp) ?_
  repeat' (first | ((first | refine aops_nil ?_ | refine aqops_nil ?_); (try simp only [NB])) | ((repeat ((fail_if_success (refine hK _ ?_)); clear hK K)); refine hK _ ?_; clear hK K) | ((first | refine aops_k fun K1 hK1 => ?_ | refine aqops_k fun K1 hK1 => ?_ | refine awp_cond_k fun A B hA hB => ?_); simp only [S1, simprocAttr, TTTmD, TSz, z49_ne, hc, hcL, hse, hT, htk, hsl, List.length_map, Nat.mul_one, Nat.zero_add, Nat.add_zero, Int.toNat_natCast]; first | (refine hK1 _ ?_; clear hK1 K1) | ((first | refine hA ?_ | refine hB ?_); clear hA hB A B) | (((first | (refine ⟨fun hg => hA ?_, fun hg => hB ?_⟩ <;> clear hA hB A B) | refine ⟨fun hg => ?_, fun hg => ?_⟩) <;> (try simp only [BN2] at hg) <;> (try simp only [hg, cond_true, cond_false])) <;> (try (refine hK1 _ ?_; clear hK1 K1)) <;> (try simp only [BN3] at hg))) | (refine awp_seq_k fun K hK => ?_) | ((first | refine awp_region ?_ | refine awp_draw (by kernel_rfl) ?_ | refine awp_block ?_ | refine awp_exit ?_ | refine awp_skip ?_ | refine awp_ret ?_); (try simp only [NB, simprocAttr])))
  all_goals simp only [EndH, FinH, resA, resL, resA1, lastV, lastA, lastAs, pur, purs, hsl, htk, List.length_append, List.length_cons, List.length_nil, S1, simprocAttr, TTTmD, Nat.le_add_right, Nat.le_refl, List.append_nil]
  all_goals exact hk

theorem less_calls {H : Heap} {c r gc gr : Nat} {T : List Int} (hc : H[c]? = some (some ⟨gc, T.map AV.i⟩)) (hT : T.length = 49) {a : Nat} (ha : a < 4) (hr : H[r]? = some (some ⟨gr, [.i a]⟩)) {q : Int} (hq : T[44 + a]? = some q) (hq0 : 0 ≤ q ∧ q ≤ 3) :
    ACalls Tryz.prog G 142 [.ptr c gc 0, .ptr r gr 0] H (fun u h' => u = .undef ∧ h' = H.set c (some ⟨gc, (T.set (44 + a) (q - 1)).map AV.i⟩)) := by
  have hcL := app_get1 hc
  have hrL := app_get1 hr
  have a0 : (0 : Int) ≤ (a : Int) := by omega
  have a4' : (a : Int) < 4 := by omega
  have h49 : 44 + a + 1 ≤ 49 := by omega
  have hw : IntKind.i64.wrap (q - 1) = q - 1 := IntWalk.i64_in _ (by omega)
  have hdr := dropI hq
  have hse := fun v => setI_c T (44 + a) v
  have hk := set_kept (H := H) (c := c) (g := gc) (T := T) (U := T.set (44 + a) (q - 1))
  have htk := set_take H c
  have hsl := set_len H c
  refine acalls_heap (rl := []) mixed Tryz.func142 rfl (rs := []) rfl Tryz.ntmps142 (by simp) ?_
  repeat' (first | ((first | refine aops_nil ?_ | refine aqops_nil ?_ | refine arun_nil ?_ | refine arunT_nil ?_); (try simp only [NB])) | ((repeat ((fail_if_success (refine hK _ ?_)); clear hK K)); refine hK _ ?_; clear hK K) | ((first | refine aops_k fun K1 hK1 => ?_ | refine aqops_k fun K1 hK1 => ?_ | refine arun_eff rfl rfl rfl fun K1 hK1 => ?_ | refine awp_cond_k fun A B hA hB => ?_); simp only [S1, simprocAttr, TTTmD, TSz, z49_ne, hc, hr, hcL, hrL, a0, a4', h49, hw, hdr, hse, hT, htk, hsl, List.length_map, Nat.mul_one, Nat.zero_add, Nat.add_zero, Int.toNat_natCast]; first | (refine hK1 _ ?_; clear hK1 K1) | ((first | refine hA ?_ | refine hB ?_); clear hA hB A B) | (((first | (refine ⟨fun hg => hA ?_, fun hg => hB ?_⟩ <;> clear hA hB A B) | refine ⟨fun hg => ?_, fun hg => ?_⟩) <;> (try simp only [BN2] at hg) <;> (try simp only [hg, cond_true, cond_false])) <;> (try (refine hK1 _ ?_; clear hK1 K1)) <;> (try simp only [BN3] at hg))) | ((first | refine arun_q (v := ?_) rfl rfl rfl rfl (by decide) (fun R1 K1 hK1 => ?_) ?_ | refine arun_f (v := ?_) rfl rfl rfl (by decide) (fun K1 hK1 => ?_) ?_ | refine arunT_f (v := ?_) rfl rfl rfl (by decide) (fun K1 hK1 => ?_) ?_); rotate_left; (focus (simp only [S1, simprocAttr, TTTmD, TSz, z49_ne, hc, hr, hcL, hrL, a0, a4', h49, hw, hdr, hse, hT, htk, hsl, List.length_map, Nat.mul_one, Nat.zero_add, Nat.add_zero, Int.toNat_natCast]; first | (exact hK1 _ _ _)))) | (refine arun_tail rfl rfl rfl ?_) | ((first | refine arun_allocj (z := ?_) 0 rfl rfl rfl rfl (by decide) rfl ?_ ?_ | refine arun_allocj (z := ?_) 1 rfl rfl rfl rfl (by decide) rfl ?_ ?_ | refine arun_allocj (z := ?_) 2 rfl rfl rfl rfl (by decide) rfl ?_ ?_); rotate_left; (focus (simp only [S1, simprocAttr, TTTmD, TSz, z49_ne, hc, hr, hcL, hrL, a0, a4', h49, hw, hdr, hse, hT, htk, hsl, List.length_map, Nat.mul_one, Nat.zero_add, Nat.add_zero, Int.toNat_natCast, zeroB]; rfl))) | (refine awp_seq_k fun K hK => ?_) | (refine awp_drawR (es := []) [0, 1, 2, 3, 4, 5, 6, 7, 8, 9, 10] 0 (fs := []) rfl (by kernel_rfl) (by kernel_rfl) ?_) | ((first | refine awp_region ?_ | refine awp_draw (by kernel_rfl) ?_ | refine awp_block ?_ | refine awp_exit ?_ | refine awp_skip ?_ | refine awp_ret ?_); (try simp only [NB, simprocAttr])))
  all_goals simp only [EndH, FinH, resA, resL, resA1, lastV, lastA, lastAs, pur, purs, hsl, htk, List.length_append, List.length_cons, List.length_nil, S1, simprocAttr, TTTmD, Nat.le_add_right, Nat.le_refl, List.append_nil]
  all_goals exact hk

theorem more_calls {H : Heap} {c r gc gr : Nat} {T : List Int} (hc : H[c]? = some (some ⟨gc, T.map AV.i⟩)) (hT : T.length = 49) {a : Nat} (ha : a < 4) (hr : H[r]? = some (some ⟨gr, [.i a]⟩)) {q : Int} (hq : T[44 + a]? = some q) (hq0 : 0 ≤ q ∧ q ≤ 3) :
    ACalls Tryz.prog G 83 [.ptr c gc 0, .ptr r gr 0] H (fun u h' => u = .undef ∧ h' = H.set c (some ⟨gc, (T.set (44 + a) (q + 1)).map AV.i⟩)) := by
  have hcL := app_get1 hc
  have hrL := app_get1 hr
  have a0 : (0 : Int) ≤ (a : Int) := by omega
  have a4' : (a : Int) < 4 := by omega
  have h49 : 44 + a + 1 ≤ 49 := by omega
  have hw : IntKind.i64.wrap (q + 1) = q + 1 := IntWalk.i64_in _ (by omega)
  have hdr := dropI hq
  have hse := fun v => setI_c T (44 + a) v
  have hk := set_kept (H := H) (c := c) (g := gc) (T := T) (U := T.set (44 + a) (q + 1))
  have htk := set_take H c
  have hsl := set_len H c
  refine acalls_heap (rl := []) mixed Tryz.func83 rfl (rs := []) rfl Tryz.ntmps83 (by simp) ?_
  repeat' (first | ((first | refine aops_nil ?_ | refine aqops_nil ?_ | refine arun_nil ?_ | refine arunT_nil ?_); (try simp only [NB])) | ((repeat ((fail_if_success (refine hK _ ?_)); clear hK K)); refine hK _ ?_; clear hK K) | ((first | refine aops_k fun K1 hK1 => ?_ | refine aqops_k fun K1 hK1 => ?_ | refine arun_eff rfl rfl rfl fun K1 hK1 => ?_ | refine awp_cond_k fun A B hA hB => ?_); simp only [S1, simprocAttr, TTTmD, TSz, z49_ne, hc, hr, hcL, hrL, a0, a4', h49, hw, hdr, hse, hT, htk, hsl, List.length_map, Nat.mul_one, Nat.zero_add, Nat.add_zero, Int.toNat_natCast]; first | (refine hK1 _ ?_; clear hK1 K1) | ((first | refine hA ?_ | refine hB ?_); clear hA hB A B) | (((first | (refine ⟨fun hg => hA ?_, fun hg => hB ?_⟩ <;> clear hA hB A B) | refine ⟨fun hg => ?_, fun hg => ?_⟩) <;> (try simp only [BN2] at hg) <;> (try simp only [hg, cond_true, cond_false])) <;> (try (refine hK1 _ ?_; clear hK1 K1)) <;> (try simp only [BN3] at hg))) | ((first | refine arun_q (v := ?_) rfl rfl rfl rfl (by decide) (fun R1 K1 hK1 => ?_) ?_ | refine arun_f (v := ?_) rfl rfl rfl (by decide) (fun K1 hK1 => ?_) ?_ | refine arunT_f (v := ?_) rfl rfl rfl (by decide) (fun K1 hK1 => ?_) ?_); rotate_left; (focus (simp only [S1, simprocAttr, TTTmD, TSz, z49_ne, hc, hr, hcL, hrL, a0, a4', h49, hw, hdr, hse, hT, htk, hsl, List.length_map, Nat.mul_one, Nat.zero_add, Nat.add_zero, Int.toNat_natCast]; first | (exact hK1 _ _ _)))) | (refine arun_tail rfl rfl rfl ?_) | ((first | refine arun_allocj (z := ?_) 0 rfl rfl rfl rfl (by decide) rfl ?_ ?_ | refine arun_allocj (z := ?_) 1 rfl rfl rfl rfl (by decide) rfl ?_ ?_ | refine arun_allocj (z := ?_) 2 rfl rfl rfl rfl (by decide) rfl ?_ ?_); rotate_left; (focus (simp only [S1, simprocAttr, TTTmD, TSz, z49_ne, hc, hr, hcL, hrL, a0, a4', h49, hw, hdr, hse, hT, htk, hsl, List.length_map, Nat.mul_one, Nat.zero_add, Nat.add_zero, Int.toNat_natCast, zeroB]; rfl))) | (refine awp_seq_k fun K hK => ?_) | (refine awp_drawR (es := []) [0, 1, 2, 3, 4, 5, 6, 7, 8, 9, 10] 0 (fs := []) rfl (by kernel_rfl) (by kernel_rfl) ?_) | ((first | refine awp_region ?_ | refine awp_draw (by kernel_rfl) ?_ | refine awp_block ?_ | refine awp_exit ?_ | refine awp_skip ?_ | refine awp_ret ?_); (try simp only [NB, simprocAttr])))
  all_goals simp only [EndH, FinH, resA, resL, resA1, lastV, lastA, lastAs, pur, purs, hsl, htk, List.length_append, List.length_cons, List.length_nil, S1, simprocAttr, TTTmD, Nat.le_add_right, Nat.le_refl, List.append_nil]
  all_goals exact hk
end Go.Proofs.YtbbmfemplmelhaaGreatDoor.AM
end

section
set_option linter.unusedVariables false
set_option linter.unusedSimpArgs false
set_option maxRecDepth 4000
set_option maxHeartbeats 4000000
namespace Go.Proofs.YtbbmfemplmelhaaGreatDoor.AM
open Go Go.Proofs
set_option linter.defProp false in
def TTTmE := And.intro T2 (And.intro T3 (And.intro T4 (And.intro T22 (And.intro T25 (And.intro T28 (And.intro T41 (And.intro T57 (And.intro T58 (And.intro T77 (And.intro T92 (And.intro T118 (And.intro T121 (And.intro T142 (And.intro T144 (And.intro T146 T147)))))))))))))))
attribute [local irreducible] awp aops aqops aeops arun arunT
variable {G : Nat → Option (List PV)}

theorem step_nil_at {h : Heap} {b lb : Nat} {ns : List Nd} {fl : List Fl} {S : List Int} {l : List Sp} (ok : GmOk h b lb S l) (m : Sp) (fr to : List Int) (hfr : InF fr) (hto : InF to) (L : Heap) :
    ACalls Tryz.prog G 82 [.ptr b 0 0, aMv m, aI fr, aI to, .p .nilf] (putG h b lb ns fl S l ++ L) (fun r h' => r = .undef ∧ h' = putG h b lb ns fl S (l ++ stF S m (fun T => T) fr to) ++ L) := by
  have := step_nil (G := G) (ns := ns) (fl := fl) (ok.ext L) m fr to hfr hto
  rwa [pg_app ok.hb ok.hl, pg_app ok.hb ok.hl] at this
theorem step_fn_at {h : Heap} {b lb : Nat} {ns : List Nd} {fl : List Fl} {S : List Int} {l : List Sp} (ok : GmOk h b lb S l) (m : Sp) (fr to : List Int) (hfr : InF fr) (hto : InF to) (L : Heap) {f : FuncId} (hE : Enters Tryz.prog f) {caps : List AV} (hcap : avlts (h.length + L.length) caps) {chg : List Int → List Int} (hlen : ∀ T : List Int, T.length = 49 → (chg T).length = 49)
    (hC : ∀ (A : Option Blk) (T : List Int), T.length = 49 → T.drop 40 = S.drop 40 → ACalls Tryz.prog G f (.ptr (h.length + L.length + 1) 0 0 :: caps) (putG h b lb ns fl S l ++ (L ++ [A, some ⟨0, T.map AV.i⟩])) (fun r h' => r = .undef ∧ h' = putG h b lb ns fl S l ++ (L ++ [A, some ⟨0, (chg T).map AV.i⟩]))) :
    ACalls Tryz.prog G 82 [.ptr b 0 0, aMv m, aI fr, aI to, .fn f caps] (putG h b lb ns fl S l ++ L) (fun r h' => r = .undef ∧ h' = putG h b lb ns fl S (l ++ stF S m chg fr to) ++ L) := by
  have := step_fn (G := G) (ns := ns) (fl := fl) (ok.ext L) m fr to hfr hto hE (caps := caps) (by rw [List.length_append]; exact hcap) (chg := chg) hlen (by
    intro A T hT hd
    have := hC A T hT hd
    rw [pg_app ok.hb ok.hl, List.length_append, List.append_assoc, List.append_assoc]
    exact this)
  rwa [pg_app ok.hb ok.hl, pg_app ok.hb ok.hl] at this

theorem tfault_calls {h : Heap} {b lb : Nat} {ns : List Nd} {fl : List Fl} {S : List Int} {l : List Sp} (ok : GmOk h b lb S l) (i e : Int) :
    ACalls Tryz.prog G 112 [.ptr b 0 0, .i i, .i e] (putG h b lb ns fl S l) (fun r h' => r = .undef ∧ h' = putG h b lb ns fl S (l ++ [faultS S i e])) := by
  have hb := ok.hb
  have hl := ok.hl
  have hne := ok.ne
  have hS := ok.held.1
  have hmax : l.length + 1 ≤ maxCount := by have := ok.few; unfold maxCount; omega
  have gl := gmC_len (ns := ns) (fl := fl) (lb := lb) (n := l.length) hS
  have t49 := gmC_state (ns := ns) (fl := fl) (lb := lb) (n := l.length) hS
  have hzl : (zS.map AV.i).length = 49 := by rw [List.length_map]; rfl
  have hem : (zS.map AV.i).isEmpty = false := rfl
  have hso : over (zS.map AV.i) 0 (S.map AV.i) = S.map AV.i := over_full (n := 49) (by rw [List.length_map, hS]) _ hzl
  have hset := fun v => setI_c S 48 v
  have hS2 : (S.set 48 2).length = 49 := by rw [List.length_set, hS]
  have htl := over_tail hS2
  have htk : ((S.set 48 2).map AV.i).take 49 = (S.set 48 2).map AV.i := List.take_of_length_le (by rw [List.length_map, hS2]; exact Nat.le_refl _)
  have hx : (faultS S i e).to.length = 49 := hS2
  have hln : (cSp (faultS S i e)).length = 54 := cSp_len hx
  have heq : (AV.p (.int .i64 i) :: .p (.int .i64 0) :: .p (.int .i64 6) :: .p (.int .i64 i) :: .p (.int .i64 e) :: (S.set 48 2).map AV.i) = (cSp (faultS S i e)).map AV.i := rfl
  have hov2 := over_full (cs := (cSp (faultS S i e)).map AV.i) (n := 54) (by rw [List.length_map, hln])
  have hpv := pvs_is (cSp (faultS S i e))
  have hti : ((cSp (faultS S i e)).map (PV.int .i64)).take 54 = (cSp (faultS S i e)).map (PV.int .i64) := List.take_of_length_le (by rw [List.length_map, hln]; exact Nat.le_refl _)
  have hmm := mapmap (cSp (faultS S i e))
  have hsl := cSps_len ok.len
  have hrf := gmC_ref (ns := ns) (fl := fl) (lb := lb) (n := l.length) hS
  have hgs := gmC_set (ns := ns) (fl := fl) (lb := lb) (n := l.length) (m := l.length + 1) hS
  have hgb := pg_gb (ns := ns) (fl := fl) (S := S) (l := l) hb hne
  have hfn : ∀ L : Heap, ((putG h b lb ns fl S l ++ L).set lb (some ⟨l.length + 1, cSps l ++ (cSp (faultS S i e)).map AV.i⟩)).set b (some ⟨0, gmC ns fl S lb (l.length + 1)⟩) = putG h b lb ns fl S (l ++ [faultS S i e]) ++ L := fun L => by
    have := pg_fin (ns := ns) (fl := fl) (S := S) (l := l) (l' := l ++ [faultS S i e]) hb hl hne L
    simpa only [spB, gmB, List.length_append, List.length_cons, List.length_nil, Nat.zero_add, cSps_app] using this
  refine acalls_heap (rl := []) mixed Tryz.func112 rfl (rs := []) rfl Tryz.ntmps112 (by simp) ?_
  repeat' (first | ((first | refine aops_nil ?_ | refine aqops_nil ?_ | refine arun_nil ?_ | refine arunT_nil ?_); (try simp only [NB])) | ((repeat ((fail_if_success (refine hK _ ?_)); clear hK K)); refine hK _ ?_; clear hK K) | ((first | refine aops_k fun K1 hK1 => ?_ | refine aqops_k fun K1 hK1 => ?_ | refine arun_eff rfl rfl rfl fun K1 hK1 => ?_ | refine awp_cond_k fun A B hA hB => ?_); simp only [S1, simprocAttr, TTTmE, TSz, z49_ne, z49_map, zS_len, hem, hso, t49, hset, hS, hS2, htl, htk, heq, hln, hov2, hpv, hti, hmm, hsl, hrf, hgs, hgb, hfn, hmax, all_scalar, pg_b hb hne, pg_lb hl, pg_b0 hb hne, pg_lb0 hl, gmB, spB, gl, takeA_arr, takeA_st, List.length_map, List.length_take, List.length_drop, List.length_cons, List.length_nil, pg_len, pg_get0, pg_geti, pg_set0, pg_seti, Nat.mul_one, Nat.zero_add, Nat.add_zero, Int.toNat_natCast]; first | (refine hK1 _ ?_; clear hK1 K1) | ((first | refine hA ?_ | refine hB ?_); clear hA hB A B) | (((first | (refine ⟨fun hg => hA ?_, fun hg => hB ?_⟩ <;> clear hA hB A B) | refine ⟨fun hg => ?_, fun hg => ?_⟩) <;> (try simp only [BN2] at hg) <;> (try simp only [hg, cond_true, cond_false])) <;> (try (refine hK1 _ ?_; clear hK1 K1)) <;> (try simp only [BN3] at hg))) | ((first | refine arun_q (v := ?_) rfl rfl rfl rfl (by decide) (fun R1 K1 hK1 => ?_) ?_ | refine arun_f (v := ?_) rfl rfl rfl (by decide) (fun K1 hK1 => ?_) ?_ | refine arunT_f (v := ?_) rfl rfl rfl (by decide) (fun K1 hK1 => ?_) ?_); rotate_left; (focus (simp only [S1, simprocAttr, TTTmE, TSz, z49_ne, z49_map, zS_len, hem, hso, t49, hset, hS, hS2, htl, htk, heq, hln, hov2, hpv, hti, hmm, hsl, hrf, hgs, hgb, hfn, hmax, all_scalar, pg_b hb hne, pg_lb hl, pg_b0 hb hne, pg_lb0 hl, gmB, spB, gl, takeA_arr, takeA_st, List.length_map, List.length_take, List.length_drop, List.length_cons, List.length_nil, pg_len, pg_get0, pg_geti, pg_set0, pg_seti, Nat.mul_one, Nat.zero_add, Nat.add_zero, Int.toNat_natCast]; first | (exact hK1 _ _ _)))) | (refine arun_tail rfl rfl rfl ?_) | ((first | refine arun_allocj (z := ?_) 0 rfl rfl rfl rfl (by decide) rfl ?_ ?_ | refine arun_allocj (z := ?_) 1 rfl rfl rfl rfl (by decide) rfl ?_ ?_ | refine arun_allocj (z := ?_) 2 rfl rfl rfl rfl (by decide) rfl ?_ ?_); rotate_left; (focus (simp only [S1, simprocAttr, TTTmE, TSz, z49_ne, z49_map, zS_len, hem, hso, t49, hset, hS, hS2, htl, htk, heq, hln, hov2, hpv, hti, hmm, hsl, hrf, hgs, hgb, hfn, hmax, all_scalar, pg_b hb hne, pg_lb hl, pg_b0 hb hne, pg_lb0 hl, gmB, spB, gl, takeA_arr, takeA_st, List.length_map, List.length_take, List.length_drop, List.length_cons, List.length_nil, pg_len, pg_get0, pg_geti, pg_set0, pg_seti, Nat.mul_one, Nat.zero_add, Nat.add_zero, Int.toNat_natCast, zeroB]; rfl))) | (refine awp_seq_k fun K hK => ?_) | (refine awp_drawR (es := []) [0, 1, 2, 3, 4, 5, 6, 7, 8, 9, 10, 11, 12, 13, 14, 15, 16] 0 (fs := []) rfl (by kernel_rfl) (by kernel_rfl) ?_) | ((first | refine awp_region ?_ | refine awp_draw (by kernel_rfl) ?_ | refine awp_block ?_ | refine awp_exit ?_ | refine awp_skip ?_ | refine awp_ret ?_); (try simp only [NB, simprocAttr])))
  all_goals simp only [EndH, FinH, resA, resL, resA1, lastV, lastA, lastAs, pur, purs, pg_len, pg_take, pg_take0, List.length_append, List.length_cons, List.length_nil, S1, simprocAttr, Nat.le_add_right, Nat.le_refl] <;> first | exact pg_keep' hl | exact ⟨pg_keep' hl, rfl⟩ | exact ⟨pg_keep' hl, rfl, rfl⟩
theorem tfault_at {h : Heap} {b lb : Nat} {ns : List Nd} {fl : List Fl} {S : List Int} {l : List Sp} (ok : GmOk h b lb S l) (i e : Int) (L : Heap) :
    ACalls Tryz.prog G 112 [.ptr b 0 0, .i i, .i e] (putG h b lb ns fl S l ++ L) (fun r h' => r = .undef ∧ h' = putG h b lb ns fl S (l ++ [faultS S i e]) ++ L) := by
  have := tfault_calls (G := G) (ns := ns) (fl := fl) (ok.ext L) i e
  rwa [pg_app ok.hb ok.hl, pg_app ok.hb ok.hl] at this

theorem tcatch_calls {h : Heap} {b lb : Nat} {ns : List Nd} {fl : List Fl} {S : List Int} {l : List Sp} (ok : GmOk h b lb S l) (st : StOk S) (m : Sp) (c : Nat) {k : Nd} (hc : ns[c]? = some k) (ha : 0 ≤ k.a ∧ k.a ≤ 4) (fr : List Int) (hfr : InF fr) (to : List Int) (hto : InF to) (he : to = outsN fl c) :
    ACalls Tryz.prog G 115 [.ptr b 0 0, aMv m, .i c, aI fr, aI to] (putG h b lb ns fl S l) (fun r h' => r = .undef ∧ h' = putG h b lb ns fl S (l ++ catchG ns fl S m.node m.arg c fr)) := by
  have hb := ok.hb
  have hl := ok.hl
  have hne := ok.ne
  have hS := ok.held.1
  have gl := gmC_len (ns := ns) (fl := fl) (lb := lb) (n := l.length) hS
  have c0 : (0 : Int) ≤ (c : Int) := by omega
  have hc' := rowN hc
  have en : ndA ns c = k.a := by unfold ndA; rw [Int.toNat_natCast, hc]
  by_cases h4 : k.a = 4
  · have eg : catchG ns fl S m.node m.arg c fr = moveG S ⟨m.node, m.arg, 4, c, 0, S⟩ fr to := by unfold catchG; rw [en, if_neg (by omega), he]
    have es := stF_move hS (m := ⟨m.node, m.arg, 4, c, 0, S⟩) (Chg.id hS) hfr hto
    have e4 : (k.a == 4) = true := by simp [h4]
    rw [eg, ← es]
    refine acalls_heap (rl := []) mixed Tryz.func115 rfl (rs := []) rfl Tryz.ntmps115 (by simp) ?_
    repeat' (first | ((first | refine aops_nil ?_ | refine aqops_nil ?_); (try simp only [NB])) | ((repeat ((fail_if_success (refine hK _ ?_)); clear hK K)); refine hK _ ?_; clear hK K) | ((first | refine aops_k fun K1 hK1 => ?_ | refine aqops_k fun K1 hK1 => ?_ | refine awp_cond_k fun A B hA hB => ?_); simp only [S1, simprocAttr, TTTmE, c0, hc', takeA_sl0, e4, eN, takeA_arr, takeA_st, List.length_map, List.length_take, List.length_drop, pg_len, pg_get0, pg_geti, pg_set0, pg_seti, pg_b hb hne, pg_lb hl, pg_b0 hb hne, pg_lb0 hl, gmB, spB, gl, all_scalar, Nat.mul_one, Nat.zero_add, Nat.add_zero, Int.toNat_natCast, List.length_cons, List.length_nil]; first | (refine hK1 _ ?_; clear hK1 K1) | ((first | refine hA ?_ | refine hB ?_); clear hA hB A B) | ((first | apply call_a E82 | apply call_q E82); exact (step_nil_at ok ⟨m.node, m.arg, 4, c, 0, S⟩ fr to hfr hto _); (refine hK1 _ ?_; clear hK1 K1)) | (((first | (refine ⟨fun hg => hA ?_, fun hg => hB ?_⟩ <;> clear hA hB A B) | refine ⟨fun hg => ?_, fun hg => ?_⟩) <;> (try simp only [BN2] at hg) <;> (try simp only [hg, cond_true, cond_false])) <;> (try (refine hK1 _ ?_; clear hK1 K1)) <;> (try simp only [BN3] at hg))) | (refine awp_seq_k fun K hK => ?_) | ((first | refine awp_region ?_ | refine awp_draw (by kernel_rfl) ?_ | refine awp_block ?_ | refine awp_exit ?_ | refine awp_skip ?_ | refine awp_ret ?_); (try simp only [NB, simprocAttr])))
    all_goals simp only [EndH, FinH, resA, resL, resA1, lastV, lastA, lastAs, pur, purs, pg_len, pg_take, pg_take0, List.length_append, List.length_cons, List.length_nil, S1, simprocAttr, Nat.le_add_right, Nat.le_refl] <;> first | exact pg_keep' hl | exact ⟨pg_keep' hl, rfl⟩ | exact ⟨pg_keep' hl, rfl, rfl⟩
  · obtain ⟨a, hka⟩ := Int.eq_ofNat_of_zero_le ha.1
    have a4 : a < 4 := by omega
    have a0 : (0 : Int) ≤ (a : Int) := by omega
    have a4' : (a : Int) < 4 := by omega
    have e4 : ((a : Int) == 4) = false := by simp; omega
    obtain ⟨hq, q0, q3⟩ := st.q a4
    have gq := gmC_q (ns := ns) (fl := fl) (lb := lb) (n := l.length) hq
    have e2 : qAt S k.a = qAt S a := by rw [hka]
    generalize hqv : qAt S (a : Int) = q at *
    by_cases hz : q = 0
    · have eg : catchG ns fl S m.node m.arg c fr = [] := by unfold catchG; rw [en, if_pos (by omega), e2, if_pos hz]
      have hz' : decide (0 < q) = false := decide_eq_false (by omega)
      rw [eg, List.append_nil]
      refine acalls_heap (rl := []) mixed Tryz.func115 rfl (rs := []) rfl Tryz.ntmps115 (by simp) ?_
      repeat' (first | ((first | refine aops_nil ?_ | refine aqops_nil ?_); (try simp only [NB])) | ((repeat ((fail_if_success (refine hK _ ?_)); clear hK K)); refine hK _ ?_; clear hK K) | ((first | refine aops_k fun K1 hK1 => ?_ | refine aqops_k fun K1 hK1 => ?_ | refine awp_cond_k fun A B hA hB => ?_); simp only [S1, simprocAttr, TTTmE, TSz, z49_ne, c0, hc', takeA_sl0, hka, e4, a0, a4', gq, hz', eN, takeA_arr, takeA_st, List.length_map, List.length_take, List.length_drop, pg_len, pg_get0, pg_geti, pg_set0, pg_seti, pg_b hb hne, pg_lb hl, pg_b0 hb hne, pg_lb0 hl, gmB, spB, gl, all_scalar, Nat.mul_one, Nat.zero_add, Nat.add_zero, Int.toNat_natCast, List.length_cons, List.length_nil]; first | (refine hK1 _ ?_; clear hK1 K1) | ((first | refine hA ?_ | refine hB ?_); clear hA hB A B) | (((first | (refine ⟨fun hg => hA ?_, fun hg => hB ?_⟩ <;> clear hA hB A B) | refine ⟨fun hg => ?_, fun hg => ?_⟩) <;> (try simp only [BN2] at hg) <;> (try simp only [hg, cond_true, cond_false])) <;> (try (refine hK1 _ ?_; clear hK1 K1)) <;> (try simp only [BN3] at hg))) | (refine awp_seq_k fun K hK => ?_) | ((first | refine awp_region ?_ | refine awp_draw (by kernel_rfl) ?_ | refine awp_block ?_ | refine awp_exit ?_ | refine awp_skip ?_ | refine awp_ret ?_); (try simp only [NB, simprocAttr])))
      all_goals simp only [EndH, FinH, resA, resL, resA1, lastV, lastA, lastAs, pur, purs, pg_len, pg_take, pg_take0, List.length_append, List.length_cons, List.length_nil, S1, simprocAttr, Nat.le_add_right, Nat.le_refl] <;> first | exact pg_keep' hl | exact ⟨pg_keep' hl, rfl⟩ | exact ⟨pg_keep' hl, rfl, rfl⟩
    · have eg : catchG ns fl S m.node m.arg c fr = moveG S ⟨m.node, m.arg, 3, c, 0, S.set (44 + a) (q - 1)⟩ fr to := by
        unfold catchG; rw [en, if_pos (by omega), e2, if_neg hz, hka, Int.toNat_natCast, he]
      have hz' : decide (0 < q) = true := decide_eq_true (by omega)
      have es := stF_move hS (m := ⟨m.node, m.arg, 3, c, 0, S⟩) (Chg.set hS (k := 44 + a) (by omega) (q - 1)) hfr hto
      simp only at es
      rw [eg, ← es]
      have hCl : ∀ (X : Option Blk) (A : Option Blk) (T : List Int), T.length = 49 → T.drop 40 = S.drop 40 → ACalls Tryz.prog G 142 [.ptr (h.length + 2 + 1) 0 0, .ptr (h.length + 1) 0 0] (putG h b lb ns fl S l ++ ([X, some ⟨0, [.i a]⟩] ++ [A, some ⟨0, T.map AV.i⟩])) (fun r h' => r = .undef ∧ h' = putG h b lb ns fl S l ++ ([X, some ⟨0, [.i a]⟩] ++ [A, some ⟨0, (T.set (44 + a) (q - 1)).map AV.i⟩])) := by
        intro X A T hT hd
        have hqT : T[44 + a]? = some q := by
          have e : (T.drop 40)[4 + a]? = (S.drop 40)[4 + a]? := by rw [hd]
          rw [List.getElem?_drop, List.getElem?_drop, show 40 + (4 + a) = 44 + a by omega] at e
          rw [e, hq]
        have := less_calls (G := G) (H := putG h b lb ns fl S l ++ ([X, some ⟨0, [.i a]⟩] ++ [A, some ⟨0, T.map AV.i⟩])) (c := h.length + 2 + 1) (r := h.length + 1) (gc := 0) (gr := 0) (by rw [show h.length + 2 + 1 = h.length + 3 by omega, pg_geti]; rfl) hT a4 (by rw [pg_geti]; rfl) hqT ⟨q0, q3⟩
        rw [show h.length + 2 + 1 = h.length + 3 by omega] at this ⊢
        rw [pg_seti] at this
        exact this
      have hst := fun X => step_fn_at (G := G) (ns := ns) (fl := fl) ok ⟨m.node, m.arg, 3, c, 0, S⟩ fr to hfr hto [X, some ⟨0, [.i a]⟩] E142 (caps := [.ptr (h.length + 1) 0 0]) ⟨by simp [avlt], trivial⟩ (fun T hT => by rw [List.length_set, hT]) (hCl X)
      refine acalls_heap (rl := []) mixed Tryz.func115 rfl (rs := []) rfl Tryz.ntmps115 (by simp) ?_
      repeat' (first | ((first | refine aops_nil ?_ | refine aqops_nil ?_); (try simp only [NB])) | ((repeat ((fail_if_success (refine hK _ ?_)); clear hK K)); refine hK _ ?_; clear hK K) | ((first | refine aops_k fun K1 hK1 => ?_ | refine aqops_k fun K1 hK1 => ?_ | refine awp_cond_k fun A B hA hB => ?_); simp only [S1, simprocAttr, TTTmE, TSz, z49_ne, c0, hc', takeA_sl0, hka, e4, a0, a4', gq, hz', eN, takeA_arr, takeA_st, List.length_map, List.length_take, List.length_drop, pg_len, pg_get0, pg_geti, pg_set0, pg_seti, pg_b hb hne, pg_lb hl, pg_b0 hb hne, pg_lb0 hl, gmB, spB, gl, all_scalar, Nat.mul_one, Nat.zero_add, Nat.add_zero, Int.toNat_natCast, List.length_cons, List.length_nil]; first | (refine hK1 _ ?_; clear hK1 K1) | ((first | refine hA ?_ | refine hB ?_); clear hA hB A B) | ((first | apply call_a E82 | apply call_q E82); exact (hst _); (refine hK1 _ ?_; clear hK1 K1)) | (((first | (refine ⟨fun hg => hA ?_, fun hg => hB ?_⟩ <;> clear hA hB A B) | refine ⟨fun hg => ?_, fun hg => ?_⟩) <;> (try simp only [BN2] at hg) <;> (try simp only [hg, cond_true, cond_false])) <;> (try (refine hK1 _ ?_; clear hK1 K1)) <;> (try simp only [BN3] at hg))) | (refine awp_seq_k fun K hK => ?_) | ((first | refine awp_region ?_ | refine awp_draw (by kernel_rfl) ?_ | refine awp_block ?_ | refine awp_exit ?_ | refine awp_skip ?_ | refine awp_ret ?_); (try simp only [NB, simprocAttr])))
      all_goals simp only [EndH, FinH, resA, resL, resA1, lastV, lastA, lastAs, pur, purs, pg_len, pg_take, pg_take0, List.length_append, List.length_cons, List.length_nil, S1, simprocAttr, Nat.le_add_right, Nat.le_refl] <;> first | exact pg_keep' hl | exact ⟨pg_keep' hl, rfl⟩ | exact ⟨pg_keep' hl, rfl, rfl⟩
end Go.Proofs.YtbbmfemplmelhaaGreatDoor.AM
end

section
set_option linter.unusedVariables false
set_option linter.unusedSimpArgs false
set_option maxRecDepth 4000
set_option maxHeartbeats 4000000
namespace Go.Proofs.YtbbmfemplmelhaaGreatDoor.AM
open Go Go.Proofs
set_option linter.defProp false in
def TTTmG := And.intro T2 (And.intro T3 (And.intro T4 (And.intro T22 (And.intro T23 (And.intro T25 (And.intro T28 (And.intro T41 (And.intro T57 (And.intro T58 (And.intro T77 (And.intro T92 (And.intro T96 (And.intro T118 (And.intro T142 (And.intro T144 (And.intro T146 T147))))))))))))))))
attribute [local irreducible] awp aops aqops aeops arun arunT
variable {G : Nat → Option (List PV)}

theorem tTokens_calls (S : List Int) (hS : S.length = 49) (h : Heap) : ACalls Tryz.prog G 116 [aS S] h (fun r h' => r = .i (sumW (S.take 40)) ∧ h' = h) := by
  have hne := ne_is hS
  have t40 : ((S.map AV.i).take 40) = (S.take 40).map AV.i := by rw [List.map_take]
  have l40 : (S.take 40).length = 40 := by rw [List.length_take]; omega
  refine acalls_pure (rl := []) mixed Tryz.func116 rfl (rs := [.tmp 2]) rfl Tryz.ntmps116 (by simp) ?_
  repeat' (first | ((first | refine aops_nil ?_ | refine aqops_nil ?_); (try simp only [NB])) | ((repeat ((fail_if_success (refine hK _ ?_)); clear hK K)); refine hK _ ?_; clear hK K) | ((first | refine aops_k fun K1 hK1 => ?_ | refine aqops_k fun K1 hK1 => ?_ | refine awp_cond_k fun A B hA hB => ?_); simp only [S1, simprocAttr, TTTmG, TSz, z49_ne, z49_map, zS_len, List.length_map, hS, hne, t40, all_scalar, takeA_arr, takeA_st, List.drop_zero]; first | (refine hK1 _ ?_; clear hK1 K1) | ((first | refine hA ?_ | refine hB ?_); clear hA hB A B) | (((first | (refine ⟨fun hg => hA ?_, fun hg => hB ?_⟩ <;> clear hA hB A B) | refine ⟨fun hg => ?_, fun hg => ?_⟩) <;> (try simp only [BN2] at hg) <;> (try simp only [hg, cond_true, cond_false])) <;> (try (refine hK1 _ ?_; clear hK1 K1)) <;> (try simp only [BN3] at hg))) | (refine awp_seq_k fun K hK => ?_) | ((first | refine awp_region ?_ | refine awp_draw (by kernel_rfl) ?_ | refine awp_block ?_ | refine awp_exit ?_ | refine awp_skip ?_ | refine awp_ret ?_); (try simp only [NB, simprocAttr])))
  refine awp_for 40 16 (fun i => [(8, .i i), (7, .agg ((S.take 40).map AV.i)), (3, .i (sumW (S.take i)))]) (fun i => []) (fun i => True) ?_ trivial fun i hi hp K hK => ?_
  · refine ⟨rfl, ⟨[some ⟨0, S.map AV.i⟩], rfl⟩, ?_, trivial⟩
    simp only [List.take_zero, sumW, List.foldl_nil]
    simp only [keeps, avlt, avlts, blksLt, frL, upd_get, S1, simprocAttr, TTTmG, List.length_map, Int.natCast_zero, AV.p.injEq, PV.int.injEq, PV.bool.injEq, PV.sl.injEq] <;> (try and_intros) <;> (try assumption) <;> (try trivial) <;> (try omega)
    all_goals exact avlts_is _ _
  rcases Nat.lt_or_ge i 40 with hlt | hge
  · obtain ⟨x, hx⟩ : ∃ x, S[i]? = some x := ⟨_, List.getElem?_eq_getElem (by omega)⟩
    have i0 : (0 : Int) ≤ (i : Int) := by omega
    have i40 : (i : Int) < 40 := by omega
    have hst := sumW_step hx
    have hxt : (S.take 40)[i]? = some x := by rw [List.getElem?_take_of_lt hlt]; exact hx
    repeat' (first | ((first | refine aops_nil ?_ | refine aqops_nil ?_); (try simp only [NB])) | ((repeat ((fail_if_success (refine hK _ ?_)); clear hK K)); refine hK _ ?_; clear hK K) | ((first | refine aops_k fun K1 hK1 => ?_ | refine aqops_k fun K1 hK1 => ?_ | refine awp_cond_k fun A B hA hB => ?_); simp only [S1, simprocAttr, TTTmG, hit40 hlt rfl, next40 (n := 40) (by omega) hlt, i0, i40, dropI hxt, l40, List.length_map, Int.toNat_natCast, Nat.mul_one, Nat.zero_add]; first | (refine hK1 _ ?_; clear hK1 K1) | ((first | refine hA ?_ | refine hB ?_); clear hA hB A B) | (((first | (refine ⟨fun hg => hA ?_, fun hg => hB ?_⟩ <;> clear hA hB A B) | refine ⟨fun hg => ?_, fun hg => ?_⟩) <;> (try simp only [BN2] at hg) <;> (try simp only [hg, cond_true, cond_false])) <;> (try (refine hK1 _ ?_; clear hK1 K1)) <;> (try simp only [BN3] at hg))) | (refine awp_seq_k fun K hK => ?_) | ((first | refine awp_region ?_ | refine awp_draw (by kernel_rfl) ?_ | refine awp_block ?_ | refine awp_exit ?_ | refine awp_skip ?_ | refine awp_ret ?_); (try simp only [NB, simprocAttr])))
    all_goals refine ⟨hlt, trivial, ?_⟩
    all_goals simp only [hst]
    all_goals refine ⟨rfl, ⟨[], by simp only [List.append_nil]⟩, ?_, trivial⟩
    all_goals simp only [keeps, avlt, avlts, blksLt, frL, upd_get, S1, simprocAttr, TTTmG, List.length_map, Int.natCast_zero, AV.p.injEq, PV.int.injEq, PV.bool.injEq, PV.sl.injEq] <;> (try and_intros) <;> (try assumption) <;> (try trivial) <;> (try omega)
    all_goals exact avlts_is _ _
  · obtain rfl : i = 40 := by omega
    repeat' (first | ((first | refine aops_nil ?_ | refine aqops_nil ?_); (try simp only [NB])) | ((repeat ((fail_if_success (refine hK _ ?_)); clear hK K)); refine hK _ ?_; clear hK K) | ((first | refine aops_k fun K1 hK1 => ?_ | refine aqops_k fun K1 hK1 => ?_ | refine awp_cond_k fun A B hA hB => ?_); simp only [S1, simprocAttr, TTTmG]; first | (refine hK1 _ ?_; clear hK1 K1) | ((first | refine hA ?_ | refine hB ?_); clear hA hB A B) | (((first | (refine ⟨fun hg => hA ?_, fun hg => hB ?_⟩ <;> clear hA hB A B) | refine ⟨fun hg => ?_, fun hg => ?_⟩) <;> (try simp only [BN2] at hg) <;> (try simp only [hg, cond_true, cond_false])) <;> (try (refine hK1 _ ?_; clear hK1 K1)) <;> (try simp only [BN3] at hg))) | (refine awp_seq_k fun K hK => ?_) | ((first | refine awp_region ?_ | refine awp_draw (by kernel_rfl) ?_ | refine awp_block ?_ | refine awp_exit ?_ | refine awp_skip ?_ | refine awp_ret ?_); (try simp only [NB, simprocAttr])))
    all_goals simp only [EndP, FinP, resA, resL, resA1, lastV, lastA, lastAs, pur, purs, take_app, List.take_length, S1, simprocAttr, TTTmG, Nat.le_add_right, Nat.le_refl]

theorem await1_calls (k : Nd) (m : Int) (H : Heap) {r g : Nat} (hr : H[r]? = some (some ⟨g, [.i m]⟩)) : ACalls Tryz.prog G 119 [aNd k, .ptr r g 0] H (fun q h' => q = .b (k.kind == 8 && k.a == m) ∧ h' = H) := by
  have hrL := app_get1 hr
  cases e : (k.kind == 8) with
  | false =>
    refine acalls_pure (rl := []) mixed Tryz.func119 rfl (rs := [.tmp 3]) rfl Tryz.ntmps119 (by simp) ?_
    repeat' (first | ((first | refine aops_nil ?_ | refine aqops_nil ?_); (try simp only [NB])) | ((repeat ((fail_if_success (refine hK _ ?_)); clear hK K)); refine hK _ ?_; clear hK K) | ((first | refine aops_k fun K1 hK1 => ?_ | refine aqops_k fun K1 hK1 => ?_ | refine awp_cond_k fun A B hA hB => ?_); simp only [S1, simprocAttr, TTTmG, hr, hrL, e]; first | (refine hK1 _ ?_; clear hK1 K1) | ((first | refine hA ?_ | refine hB ?_); clear hA hB A B) | (refine join_x (v := ?_) (fun hg hk9 => ?_) ?_; rotate_left; (focus (try ((try simp only [BN] at hg); simp only [S1, simprocAttr, TTTmG, hr, hrL, e, hg] at hk9 ⊢)); first | exact hk9); (refine hK1 _ ?_; clear hK1 K1)) | (((first | (refine ⟨fun hg => hA ?_, fun hg => hB ?_⟩ <;> clear hA hB A B) | refine ⟨fun hg => ?_, fun hg => ?_⟩) <;> (try simp only [BN2] at hg) <;> (try simp only [hg, cond_true, cond_false])) <;> (try (refine hK1 _ ?_; clear hK1 K1)) <;> (try simp only [BN3] at hg))) | (refine awp_seq_k fun K hK => ?_) | ((first | refine awp_region ?_ | refine awp_draw (by kernel_rfl) ?_ | refine awp_block ?_ | refine awp_exit ?_ | refine awp_skip ?_ | refine awp_ret ?_); (try simp only [NB, simprocAttr])))
    all_goals simp only [EndP, FinP, resA, resL, resA1, lastV, lastA, lastAs, pur, purs, take_app, List.take_length, S1, simprocAttr, TTTmG, Nat.le_add_right, Nat.le_refl]
    all_goals rfl
  | true =>
    refine acalls_pure (rl := []) mixed Tryz.func119 rfl (rs := [.tmp 3]) rfl Tryz.ntmps119 (by simp) ?_
    repeat' (first | ((first | refine aops_nil ?_ | refine aqops_nil ?_); (try simp only [NB])) | ((repeat ((fail_if_success (refine hK _ ?_)); clear hK K)); refine hK _ ?_; clear hK K) | ((first | refine aops_k fun K1 hK1 => ?_ | refine aqops_k fun K1 hK1 => ?_ | refine awp_cond_k fun A B hA hB => ?_); simp only [S1, simprocAttr, TTTmG, hr, hrL, e]; first | (refine hK1 _ ?_; clear hK1 K1) | ((first | refine hA ?_ | refine hB ?_); clear hA hB A B) | (refine join_x (v := ?_) (fun hg hk9 => ?_) ?_; rotate_left; (focus (try ((try simp only [BN] at hg); simp only [S1, simprocAttr, TTTmG, hr, hrL, e, hg] at hk9 ⊢)); first | exact hk9); (refine hK1 _ ?_; clear hK1 K1)) | (((first | (refine ⟨fun hg => hA ?_, fun hg => hB ?_⟩ <;> clear hA hB A B) | refine ⟨fun hg => ?_, fun hg => ?_⟩) <;> (try simp only [BN2] at hg) <;> (try simp only [hg, cond_true, cond_false])) <;> (try (refine hK1 _ ?_; clear hK1 K1)) <;> (try simp only [BN3] at hg))) | (refine awp_seq_k fun K hK => ?_) | ((first | refine awp_region ?_ | refine awp_draw (by kernel_rfl) ?_ | refine awp_block ?_ | refine awp_exit ?_ | refine awp_skip ?_ | refine awp_ret ?_); (try simp only [NB, simprocAttr])))
    all_goals simp only [EndP, FinP, resA, resL, resA1, lastV, lastA, lastAs, pur, purs, take_app, List.take_length, S1, simprocAttr, TTTmG, Nat.le_add_right, Nat.le_refl]
    all_goals rfl

theorem findG_any {α : Type} (p : α → Bool) : ∀ (l : List α) (i : Nat), decide (0 ≤ findG p l i) = l.any p
  | [], i => rfl
  | k :: r, i => by
    unfold findG
    cases h : p k with
    | true => simp [h]
    | false => simp [h, findG_any p r (i + 1)]
theorem containsN_calls {f : FuncId} (hE : Enters Tryz.prog f) {caps : List AV} {p : Nd → Bool} (ks : List Nd) (hl : ks.length ≤ 100) (h : Heap) (hcap : avlts h.length caps)
    (hc : ∀ k ∈ ks, ACalls Tryz.prog G f (aNd k :: caps) h (fun r h' => r = .b (p k) ∧ h' = h)) :
    ACalls Tryz.prog G 118 [.p (.sl (ks.map eN)), .fn f caps] h (fun r h' => r = .b (ks.any p) ∧ h' = h) := by
  rw [← findG_any p ks 0]
  refine acalls_pure (rl := []) mixed Tryz.func118 rfl (rs := [.tmp 4]) rfl Tryz.ntmps118 (by simp) ?_
  repeat' (first | ((first | refine aops_nil ?_ | refine aqops_nil ?_); (try simp only [NB])) | ((repeat ((fail_if_success (refine hK _ ?_)); clear hK K)); refine hK _ ?_; clear hK K) | ((first | refine aops_k fun K1 hK1 => ?_ | refine aqops_k fun K1 hK1 => ?_ | refine awp_cond_k fun A B hA hB => ?_); simp only [S1, simprocAttr, TTTmG]; first | (refine hK1 _ ?_; clear hK1 K1) | ((first | refine hA ?_ | refine hB ?_); clear hA hB A B) | ((first | apply call_a E78 | apply call_q E78); exact (indexN_calls hE ks hl _ hcap hc); (refine hK1 _ ?_; clear hK1 K1)) | (((first | (refine ⟨fun hg => hA ?_, fun hg => hB ?_⟩ <;> clear hA hB A B) | refine ⟨fun hg => ?_, fun hg => ?_⟩) <;> (try simp only [BN2] at hg) <;> (try simp only [hg, cond_true, cond_false])) <;> (try (refine hK1 _ ?_; clear hK1 K1)) <;> (try simp only [BN3] at hg))) | (refine awp_seq_k fun K hK => ?_) | ((first | refine awp_region ?_ | refine awp_draw (by kernel_rfl) ?_ | refine awp_block ?_ | refine awp_exit ?_ | refine awp_skip ?_ | refine awp_ret ?_); (try simp only [NB, simprocAttr])))
  simp only [EndP, FinP, resA, resL, resA1, lastV, lastA, lastAs, pur, purs, take_app, List.take_length, S1, simprocAttr, TTTmG, Nat.le_add_right, Nat.le_refl]

theorem awaits_calls (ns : List Nd) (fl : List Fl) (hl : ns.length ≤ 100) (m : Nat) (hm : m < 4) (h : Heap) : ACalls Tryz.prog G 81 [aNet ns fl, .i m] h (fun r h' => r = .b (awaitsB ns m) ∧ h' = h) := by
  have m0 : decide ((0 : Int) ≤ (m : Int)) = true := by simp
  have m4 : decide ((m : Int) < 4) = true := by simp; omega
  have hA : ∀ A : Option Blk, ∀ k ∈ ns, ACalls Tryz.prog G 119 [aNd k, .ptr (h.length + 1) 0 0] (h ++ [A, some ⟨0, [.i m]⟩]) (fun q h' => q = .b (k.kind == 8 && k.a == m) ∧ h' = h ++ [A, some ⟨0, [.i m]⟩]) :=
    fun A k _ => await1_calls k m _ (by rw [get_app]; rfl)
  have hcn := fun A : Option Blk => containsN_calls (G := G) E119 (caps := [.ptr (h.length + 1) 0 0]) (p := fun k => k.kind == 8 && k.a == m) ns hl (h ++ [A, some ⟨0, [.i m]⟩]) ⟨by simp [avlt], trivial⟩ (hA A)
  have ea : (ns.any fun k => k.kind == 8 && k.a == m) = awaitsB ns m := rfl
  rw [← ea]
  refine acalls_pure (rl := []) mixed Tryz.func81 rfl (rs := [.tmp 4]) rfl Tryz.ntmps81 (by simp) ?_
  repeat' (first | ((first | refine aops_nil ?_ | refine aqops_nil ?_); (try simp only [NB])) | ((repeat ((fail_if_success (refine hK _ ?_)); clear hK K)); refine hK _ ?_; clear hK K) | ((first | refine aops_k fun K1 hK1 => ?_ | refine aqops_k fun K1 hK1 => ?_ | refine awp_cond_k fun A B hA hB => ?_); simp only [S1, simprocAttr, TTTmG, m0, m4, List.length_map]; first | (refine hK1 _ ?_; clear hK1 K1) | ((first | refine hA ?_ | refine hB ?_); clear hA hB A B) | ((first | apply call_a E118 | apply call_q E118); exact (hcn _); (refine hK1 _ ?_; clear hK1 K1)) | (refine join_x (v := ?_) (fun hg hk9 => ?_) ?_; rotate_left; (focus (try ((try simp only [BN] at hg); simp only [S1, simprocAttr, TTTmG, m0, m4, List.length_map, hg] at hk9 ⊢)); first | exact hk9 | ((first | apply call_a E118 | apply call_q E118); exact (hcn _); exact hk9)); (refine hK1 _ ?_; clear hK1 K1)) | (((first | (refine ⟨fun hg => hA ?_, fun hg => hB ?_⟩ <;> clear hA hB A B) | refine ⟨fun hg => ?_, fun hg => ?_⟩) <;> (try simp only [BN2] at hg) <;> (try simp only [hg, cond_true, cond_false])) <;> (try (refine hK1 _ ?_; clear hK1 K1)) <;> (try simp only [BN3] at hg))) | (refine awp_seq_k fun K hK => ?_) | ((first | refine awp_region ?_ | refine awp_draw (by kernel_rfl) ?_ | refine awp_block ?_ | refine awp_exit ?_ | refine awp_skip ?_ | refine awp_ret ?_); (try simp only [NB, simprocAttr])))
  all_goals simp only [EndP, FinP, resA, resL, resA1, lastV, lastA, lastAs, pur, purs, take_app, List.take_length, S1, simprocAttr, TTTmG, Nat.le_add_right, Nat.le_refl]
end Go.Proofs.YtbbmfemplmelhaaGreatDoor.AM
end

section
set_option linter.unusedVariables false
set_option linter.unusedSimpArgs false
set_option maxRecDepth 4000
set_option maxHeartbeats 4000000
namespace Go.Proofs.YtbbmfemplmelhaaGreatDoor.AM
open Go Go.Proofs
set_option linter.defProp false in
def TTTmF := And.intro T2 (And.intro T3 (And.intro T4 (And.intro T22 (And.intro T23 (And.intro T25 (And.intro T28 (And.intro T31 (And.intro T41 (And.intro T57 (And.intro T58 (And.intro T75 (And.intro T77 (And.intro T80 (And.intro T92 (And.intro T118 (And.intro T142 (And.intro T144 T147)))))))))))))))))
attribute [local irreducible] awp aops aqops aeops arun arunT

/-- A drawn region without blocks. -/
theorem awp_drawQ {P : Program} {G : Nat → Option (List PV)} {rl : List String} {h0 : Heap} {id : Nat} {ops : Array Oper} {Q : Exit → St → Prop} {fr : Nat → Option AV} {nt : Nat} {hp : Heap} (ord : List Nat) (hl : ord.length = ops.size) (hn : ops.toList.all (fun o => !allocB o) = true) (hr : (zsB P ops).length = 0) {fs : List Nat} (hB : lexR [] .any ops fs ord (Array.replicate ops.size false) = true)
    (h : arun P G rl [] ops fs hp.length 0 (Q .normal) ord ⟨fr, nt, hp ++ List.replicate 0 (some ⟨0, []⟩)⟩) : awp P G rl h0 (.region id ops true) Q ⟨fr, nt, hp⟩ := awp_drawR ord 0 hl hr hB h

/-- The last Else. -/
def lastE (fl : List Fl) (l : List Int) : Int := ((l.filter (elsAt fl)).getLast?).getD (-1)
theorem lastE_step {fl : List Fl} {l : List Int} {j : Nat} {f : Int} (h : l[j]? = some f) : lastE fl (l.take (j + 1)) = if elsAt fl f = true then f else lastE fl (l.take j) := by
  unfold lastE
  rw [List.take_add_one, h, List.filter_append]
  cases he : elsAt fl f with
  | true => simp [he]
  | false => simp [he]
theorem lastE_all {fl : List Fl} : ∀ {l : List Int}, l.countP (elsAt fl) = 1 → lastE fl l = chE fl l
  | [], h => by simp at h
  | f :: r, h => by
    unfold chE
    by_cases he : elsAt fl f = true
    · rw [if_pos he]
      have h0 : r.countP (elsAt fl) = 0 := by rw [List.countP_cons_of_pos he] at h; omega
      have h1 : r.filter (elsAt fl) = [] := by
        rw [← List.length_eq_zero_iff, ← List.countP_eq_length_filter]; exact h0
      unfold lastE
      rw [List.filter_cons_of_pos he, h1]; rfl
    · rw [if_neg he]
      rw [List.countP_cons_of_neg he] at h
      rw [← lastE_all h]
      unfold lastE
      rw [List.filter_cons_of_neg he]

theorem Right.els1 {ns : List Nd} {fl : List Fl} (h : Right ns fl) {i : Nat} {k : Nd} (hc : ns[i]? = some k) (h5 : k.kind = 5) (hn : (outsN fl i).length ≠ 1) : (outsN fl i).countP (elsAt fl) = 1 := by
  have hi := (List.getElem?_eq_some_iff.mp hc).1
  have := h.three hi
  unfold threeB at this
  simp only [kind_of hc, h5] at this
  simp only [Int.reduceEq, reduceIte, Bool.or_eq_true, Bool.and_eq_true, beq_iff_eq, decide_eq_true_eq] at this
  rcases this with h | h
  · have h2 := h.2
    unfold cntB at h2
    rwa [List.take_length] at h2
  · exact absurd h.2 hn

theorem takeA_sl1 {ns : List Nd} {fl : List Fl} {S : List Int} {lb n e bt : Nat} {z : Option (List PV)} : takeA ⟨.slice e, 1, bt, z⟩ ((gmC ns fl S lb n).drop 1) = some (.p (.sl (fl.map eF))) := rfl

theorem txor_calls {h : Heap} {b lb : Nat} {ns : List Nd} {fl : List Fl} (nk : NetOk ns fl) {S : List Int} {l : List Sp} (ok : GmOk h b lb S l) (st : StOk S) (few : l.length ≤ 900000) (i : Int) (ins outs : List Int) (hi : InF ins) (ho : InF outs) (hof : ∀ x ∈ outs, ∃ i : Nat, x = (i : Int) ∧ i < fl.length)
    (hz : outs.length ≠ 1 → tk S (ins.headD 0) ≠ 0) (hels : outs.length ≠ 1 → outs.countP (elsAt fl) = 1) :
    ACalls Tryz.prog gW 114 [.ptr b 0 0, .i i, aI ins, aI outs] (putG h b lb ns fl S l) (fun r h' => r = .undef ∧ h' = putG h b lb ns fl S (l ++ xorG fl S i ins outs)) := by
  have hb := ok.hb
  have hl := ok.hl
  have hne := ok.ne
  have hS := ok.held.1
  have gl := gmC_len (ns := ns) (fl := fl) (lb := lb) (n := l.length) hS
  have gv := gmC_vars (ns := ns) (fl := fl) (lb := lb) (n := l.length) hS
  obtain ⟨m2, hm2, ht2⟩ := nk.tf
  by_cases h1 : outs.length = 1
  · have h1' : ((outs.length : Int) == 1) = true := by simp [h1]
    let acc := fun j => (ins.take j).flatMap fun f => moveG S ⟨i, f, 0, 0, 0, S⟩ [f] outs
    have hal : ∀ j, (acc j).length ≤ j := by
      intro j
      induction j with
      | zero => simp [acc]
      | succ j ih =>
        rcases Nat.lt_or_ge j ins.length with hj | hj
        · have e : ins.take (j + 1) = ins.take j ++ [ins[j]] := by rw [List.take_add_one, List.getElem?_eq_getElem hj]; rfl
          simp only [acc] at ih ⊢
          rw [e, List.flatMap_append, List.length_append]
          have := moveG_len S ⟨i, ins[j], 0, 0, 0, S⟩ [ins[j]] outs
          simp only [List.flatMap_cons, List.flatMap_nil, List.append_nil]
          omega
        · have e : ins.take (j + 1) = ins.take j := by rw [List.take_of_length_le (by omega), List.take_of_length_le hj]
          simp only [acc] at ih ⊢
          rw [e]; omega
    have hto : ∀ j, ∀ y ∈ acc j, y.to.length = 49 := by
      intro j y hy
      obtain ⟨f, _, hy⟩ := List.mem_flatMap.mp hy
      exact moveG_to hS hS y hy
    have eg : xorG fl S i ins outs = acc ins.length := by unfold xorG; rw [if_pos h1]; simp only [acc, List.take_length]
    rw [eg]
    have hil := hi.1
    refine acalls_heap (rl := []) mixed Tryz.func114 rfl (rs := []) rfl Tryz.ntmps114 (by simp) ?_
    repeat' (first | ((first | refine aops_nil ?_ | refine aqops_nil ?_); (try simp only [NB])) | ((repeat ((fail_if_success (refine hK _ ?_)); clear hK K)); refine hK _ ?_; clear hK K) | ((first | refine aops_k fun K1 hK1 => ?_ | refine aqops_k fun K1 hK1 => ?_ | refine awp_cond_k fun A B hA hB => ?_); simp only [S1, simprocAttr, TTTmF, h1', TSz, z49_ne, z49_map, zS_len, takeA_arr, takeA_st, List.length_map, List.length_take, List.length_drop, pg_len, pg_get0, pg_geti, pg_set0, pg_seti, pg_b hb hne, pg_lb hl, pg_b0 hb hne, pg_lb0 hl, gmB, spB, gl, all_scalar, Nat.mul_one, Nat.zero_add, Nat.add_zero, Int.toNat_natCast]; first | (refine hK1 _ ?_; clear hK1 K1) | ((first | refine hA ?_ | refine hB ?_); clear hA hB A B) | (((first | (refine ⟨fun hg => hA ?_, fun hg => hB ?_⟩ <;> clear hA hB A B) | refine ⟨fun hg => ?_, fun hg => ?_⟩) <;> (try simp only [BN2] at hg) <;> (try simp only [hg, cond_true, cond_false])) <;> (try (refine hK1 _ ?_; clear hK1 K1)) <;> (try simp only [BN3] at hg))) | (refine awp_seq_k fun K hK => ?_) | ((first | refine awp_region ?_ | refine awp_draw (by kernel_rfl) ?_ | refine awp_block ?_ | refine awp_exit ?_ | refine awp_skip ?_ | refine awp_ret ?_); (try simp only [NB, simprocAttr])))
    refine awp_forH ins.length 84 (fun j => putG h b lb ns fl S (l ++ acc j)) (fun j => [(20, .i j), (19, .i ins.length), (18, aI ins), (3, aI outs), (1, .i i), (0, .ptr b 0 0)]) (fun j => []) (fun j => True) (fun j => ⟨by rw [pg_len, pg_len], pg_keep hl⟩) ?_ trivial fun j hj hp K hK => ?_
    · have e0 : acc 0 = [] := by simp [acc]
      simp only [e0, List.append_nil]
      refine ⟨rfl, ⟨[], by simp only [List.append_nil]⟩, ?_, trivial⟩
      simp only [keeps, avlt, avlts, blksLt, frL, upd_get, pg_len, S1, simprocAttr, List.length_map, List.length_cons, List.length_nil, Int.natCast_zero, AV.p.injEq, PV.int.injEq, PV.bool.injEq, PV.sl.injEq] <;> (try and_intros) <;> (try assumption) <;> (try trivial) <;> (try omega)
    have okj : GmOk h b lb S (l ++ acc j) := ok.app (hto j) (by have := hal j; omega)
    rcases Nat.lt_or_ge j ins.length with hlt | hge
    · obtain ⟨f, hfj⟩ : ∃ f, ins[j]? = some f := ⟨_, List.getElem?_eq_getElem hlt⟩
      have hf1 : InF [f] := ⟨by simp, fun g hg => by rw [List.mem_singleton.mp hg]; exact hi.2 f (List.mem_of_getElem? hfj)⟩
      have es := stF_move hS (m := ⟨i, f, 0, 0, 0, S⟩) (Chg.id hS) hf1 ho
      have ea : acc (j + 1) = acc j ++ moveG S ⟨i, f, 0, 0, 0, S⟩ [f] outs := by
        simp only [acc]
        rw [List.take_add_one, hfj, List.flatMap_append]; simp
      have ea' : l ++ acc (j + 1) = (l ++ acc j) ++ stF S ⟨i, f, 0, 0, 0, S⟩ (fun T => T) [f] outs := by rw [ea, List.append_assoc, es]
      generalize hlj : l ++ acc j = lj at ea' okj ⊢
      repeat' (first | ((first | refine aops_nil ?_ | refine aqops_nil ?_); (try simp only [NB])) | ((repeat ((fail_if_success (refine hK _ ?_)); clear hK K)); refine hK _ ?_; clear hK K) | ((first | refine aops_k fun K1 hK1 => ?_ | refine aqops_k fun K1 hK1 => ?_ | refine awp_cond_k fun A B hA hB => ?_); simp only [S1, simprocAttr, TTTmF, rowI hfj, hitI hlt, nextI (by omega) hlt, TSz, z49_ne, z49_map, zS_len, takeA_arr, takeA_st, List.length_map, List.length_take, List.length_drop, pg_len, pg_get0, pg_geti, pg_set0, pg_seti, pg_b hb hne, pg_lb hl, pg_b0 hb hne, pg_lb0 hl, gmB, spB, gl, all_scalar, Nat.mul_one, Nat.zero_add, Nat.add_zero, Int.toNat_natCast, List.length_cons, List.length_nil]; first | (refine hK1 _ ?_; clear hK1 K1) | ((first | refine hA ?_ | refine hB ?_); clear hA hB A B) | ((first | apply call_a E82 | apply call_q E82); exact (step_nil okj ⟨i, f, 0, 0, 0, S⟩ [f] outs hf1 ho); (refine hK1 _ ?_; clear hK1 K1)) | (((first | (refine ⟨fun hg => hA ?_, fun hg => hB ?_⟩ <;> clear hA hB A B) | refine ⟨fun hg => ?_, fun hg => ?_⟩) <;> (try simp only [BN2] at hg) <;> (try simp only [hg, cond_true, cond_false])) <;> (try (refine hK1 _ ?_; clear hK1 K1)) <;> (try simp only [BN3] at hg))) | (refine awp_seq_k fun K hK => ?_) | ((first | refine awp_region ?_ | refine awp_draw (by kernel_rfl) ?_ | refine awp_block ?_ | refine awp_exit ?_ | refine awp_skip ?_ | refine awp_ret ?_); (try simp only [NB, simprocAttr])))
      all_goals refine ⟨hlt, trivial, ?_⟩
      all_goals simp only [ea']
      all_goals refine ⟨rfl, ⟨[], by simp only [List.append_nil]⟩, ?_, trivial⟩
      all_goals simp only [keeps, avlt, avlts, blksLt, frL, upd_get, pg_len, S1, simprocAttr, List.length_map, List.length_cons, List.length_nil, Int.natCast_zero, AV.p.injEq, PV.int.injEq, PV.bool.injEq, PV.sl.injEq] <;> (try and_intros) <;> (try assumption) <;> (try trivial) <;> (try omega)
    · obtain rfl : j = ins.length := by omega
      repeat' (first | ((first | refine aops_nil ?_ | refine aqops_nil ?_); (try simp only [NB])) | ((repeat ((fail_if_success (refine hK _ ?_)); clear hK K)); refine hK _ ?_; clear hK K) | ((first | refine aops_k fun K1 hK1 => ?_ | refine aqops_k fun K1 hK1 => ?_ | refine awp_cond_k fun A B hA hB => ?_); simp only [S1, simprocAttr, TTTmF, endI]; first | (refine hK1 _ ?_; clear hK1 K1) | ((first | refine hA ?_ | refine hB ?_); clear hA hB A B) | (((first | (refine ⟨fun hg => hA ?_, fun hg => hB ?_⟩ <;> clear hA hB A B) | refine ⟨fun hg => ?_, fun hg => ?_⟩) <;> (try simp only [BN2] at hg) <;> (try simp only [hg, cond_true, cond_false])) <;> (try (refine hK1 _ ?_; clear hK1 K1)) <;> (try simp only [BN3] at hg))) | (refine awp_seq_k fun K hK => ?_) | ((first | refine awp_region ?_ | refine awp_draw (by kernel_rfl) ?_ | refine awp_block ?_ | refine awp_exit ?_ | refine awp_skip ?_ | refine awp_ret ?_); (try simp only [NB, simprocAttr])))
      all_goals simp only [EndH, FinH, resA, resL, resA1, lastV, lastA, lastAs, pur, purs, pg_len, pg_take, pg_take0, List.length_append, List.length_cons, List.length_nil, S1, simprocAttr, Nat.le_add_right, Nat.le_refl] <;> first | exact pg_keep' hl | exact ⟨pg_keep' hl, rfl⟩ | exact ⟨pg_keep' hl, rfl, rfl⟩
  have h1' : ((outs.length : Int) == 1) = false := by simp; omega
  have hol := ho.1
  have hels := hels h1
  have hz := hz h1
  refine acalls_heap (rl := []) mixed Tryz.func114 rfl (rs := []) rfl Tryz.ntmps114 (by simp) ?_
  repeat' (first | ((first | refine aops_nil ?_ | refine aqops_nil ?_); (try simp only [NB])) | ((repeat ((fail_if_success (refine hK _ ?_)); clear hK K)); refine hK _ ?_; clear hK K) | ((first | refine aops_k fun K1 hK1 => ?_ | refine aqops_k fun K1 hK1 => ?_ | refine awp_cond_k fun A B hA hB => ?_); simp only [S1, simprocAttr, TTTmF, h1', TSz, z49_ne, z49_map, zS_len, takeA_arr, takeA_st, List.length_map, List.length_take, List.length_drop, pg_len, pg_get0, pg_geti, pg_set0, pg_seti, pg_b hb hne, pg_lb hl, pg_b0 hb hne, pg_lb0 hl, gmB, spB, gl, all_scalar, Nat.mul_one, Nat.zero_add, Nat.add_zero, Int.toNat_natCast]; first | (refine hK1 _ ?_; clear hK1 K1) | ((first | refine hA ?_ | refine hB ?_); clear hA hB A B) | (((first | (refine ⟨fun hg => hA ?_, fun hg => hB ?_⟩ <;> clear hA hB A B) | refine ⟨fun hg => ?_, fun hg => ?_⟩) <;> (try simp only [BN2] at hg) <;> (try simp only [hg, cond_true, cond_false])) <;> (try (refine hK1 _ ?_; clear hK1 K1)) <;> (try simp only [BN3] at hg))) | (refine awp_seq_k fun K hK => ?_) | ((first | refine awp_region ?_ | refine awp_draw (by kernel_rfl) ?_ | refine awp_block ?_ | refine awp_exit ?_ | refine awp_skip ?_ | refine awp_ret ?_); (try simp only [NB, simprocAttr])))
  refine awp_for outs.length 84 (fun j => [(35, .i j), (34, .i outs.length), (33, aI outs), (10, .i (lastE fl (outs.take j))), (2, aI ins), (1, .i i), (0, .ptr b 0 0)]) (fun j => []) (fun j => chF fl (vS S) outs = chF fl (vS S) (outs.drop j)) ?_ rfl fun j hj hp K hK => ?_
  · refine ⟨rfl, ⟨[], by simp only [List.append_nil]⟩, ?_, trivial⟩
    have e0 : lastE fl (outs.take 0) = -1 := rfl
    simp only [e0]
    simp only [keeps, avlt, avlts, blksLt, frL, upd_get, pg_len, S1, simprocAttr, List.length_map, List.length_cons, List.length_nil, Int.natCast_zero, AV.p.injEq, PV.int.injEq, PV.bool.injEq, PV.sl.injEq] <;> (try and_intros) <;> (try assumption) <;> (try trivial) <;> (try omega)
  rcases Nat.lt_or_ge j outs.length with hlt | hge
  · obtain ⟨f, hf⟩ : ∃ f, outs[j]? = some f := ⟨_, List.getElem?_eq_getElem hlt⟩
    obtain ⟨q, rfl, hq⟩ := hof f (List.mem_of_getElem? hf)
    obtain ⟨x, hx⟩ : ∃ x, fl[q]? = some x := ⟨_, List.getElem?_eq_getElem hq⟩
    have hx' := rowF hx
    have q0 : (0 : Int) ≤ (q : Int) := by omega
    have ht := fun h => Truth_calls (ht2 x (List.mem_of_getElem? hx)) (vS S) vS_num h
    have hee : elsAt fl (q : Int) = x.els := by unfold elsAt; rw [Int.toNat_natCast, hx]
    have hls := lastE_step (fl := fl) hf
    rw [hee] at hls
    rw [chF_step hf, Int.toNat_natCast, hx] at hp
    simp only at hp
    cases he : x.els with
    | true =>
      rw [he, if_pos rfl] at hp hls
      repeat' (first | ((first | refine aops_nil ?_ | refine aqops_nil ?_); (try simp only [NB])) | ((repeat ((fail_if_success (refine hK _ ?_)); clear hK K)); refine hK _ ?_; clear hK K) | ((first | refine aops_k fun K1 hK1 => ?_ | refine aqops_k fun K1 hK1 => ?_ | refine awp_cond_k fun A B hA hB => ?_); simp only [S1, simprocAttr, TTTmF, rowI hf, hitI hlt, nextI (by omega) hlt, q0, hx', eF, he, takeA_sl1, gmC_1, TSz, z49_ne, z49_map, zS_len, takeA_arr, takeA_st, List.length_map, List.length_take, List.length_drop, pg_len, pg_get0, pg_geti, pg_set0, pg_seti, pg_b hb hne, pg_lb hl, pg_b0 hb hne, pg_lb0 hl, gmB, spB, gl, all_scalar, Nat.mul_one, Nat.zero_add, Nat.add_zero, Int.toNat_natCast]; first | (refine hK1 _ ?_; clear hK1 K1) | ((first | refine hA ?_ | refine hB ?_); clear hA hB A B) | (((first | (refine ⟨fun hg => hA ?_, fun hg => hB ?_⟩ <;> clear hA hB A B) | refine ⟨fun hg => ?_, fun hg => ?_⟩) <;> (try simp only [BN2] at hg) <;> (try simp only [hg, cond_true, cond_false])) <;> (try (refine hK1 _ ?_; clear hK1 K1)) <;> (try simp only [BN3] at hg))) | (refine awp_seq_k fun K hK => ?_) | ((first | refine awp_region ?_ | refine awp_draw (by kernel_rfl) ?_ | refine awp_block ?_ | refine awp_exit ?_ | refine awp_skip ?_ | refine awp_ret ?_); (try simp only [NB, simprocAttr])))
      all_goals refine ⟨hlt, hp, ?_⟩
      all_goals simp only [hls]
      all_goals refine ⟨rfl, ⟨[], by simp only [List.append_nil]⟩, ?_, trivial⟩
      all_goals simp only [keeps, avlt, avlts, blksLt, frL, upd_get, pg_len, S1, simprocAttr, List.length_map, List.length_cons, List.length_nil, Int.natCast_zero, AV.p.injEq, PV.int.injEq, PV.bool.injEq, PV.sl.injEq] <;> (try and_intros) <;> (try assumption) <;> (try trivial) <;> (try omega)
    | false =>
      rw [he, if_neg (by decide)] at hp hls
      by_cases h0 : (truR x.cond (vS S)).2 = 0
      · have h0' : ((truR x.cond (vS S)).2 != 0) = false := by simp [h0]
        rw [if_neg (by simpa using h0)] at hp
        cases hb2 : (truR x.cond (vS S)).1 with
        | true =>
          rw [hb2, if_pos rfl] at hp
          have ec : chooseG fl (vS S) outs = ((q : Int), 0) := by unfold chooseG; rw [hp]; rfl
          have hf1 : InF [(q : Int)] := ⟨by simp, fun g hg => by rw [List.mem_singleton.mp hg]; exact ho.2 _ (List.mem_of_getElem? hf)⟩
          have es := stF_move hS (m := ⟨i, q, 0, 0, 0, S⟩) (Chg.id hS) hi hf1
          have eg : xorG fl S i ins outs = stF S ⟨i, q, 0, 0, 0, S⟩ (fun T => T) ins [(q : Int)] := by
            unfold xorG; rw [if_neg h1, if_neg hz, ec, if_neg (by simp), es]
          repeat' (first | ((first | refine aops_nil ?_ | refine aqops_nil ?_); (try simp only [NB])) | ((repeat ((fail_if_success (refine hK _ ?_)); clear hK K)); refine hK _ ?_; clear hK K) | ((first | refine aops_k fun K1 hK1 => ?_ | refine aqops_k fun K1 hK1 => ?_ | refine awp_cond_k fun A B hA hB => ?_); simp only [S1, simprocAttr, TTTmF, rowI hf, hitI hlt, nextI (by omega) hlt, q0, hx', eF, he, h0', hb2, gv, takeA_sl1, gmC_1, TSz, z49_ne, z49_map, zS_len, takeA_arr, takeA_st, List.length_map, List.length_take, List.length_drop, pg_len, pg_get0, pg_geti, pg_set0, pg_seti, pg_b hb hne, pg_lb hl, pg_b0 hb hne, pg_lb0 hl, gmB, spB, gl, all_scalar, Nat.mul_one, Nat.zero_add, Nat.add_zero, Int.toNat_natCast, List.length_cons, List.length_nil]; first | (refine hK1 _ ?_; clear hK1 K1) | ((first | refine hA ?_ | refine hB ?_); clear hA hB A B) | ((first | apply call_a E141 | apply call_q E141); exact (ht _); (refine hK1 _ ?_; clear hK1 K1)) | ((first | apply call_a E82 | apply call_q E82); exact (step_nil ok ⟨i, q, 0, 0, 0, S⟩ ins [(q : Int)] hi hf1); (refine hK1 _ ?_; clear hK1 K1)) | (((first | (refine ⟨fun hg => hA ?_, fun hg => hB ?_⟩ <;> clear hA hB A B) | refine ⟨fun hg => ?_, fun hg => ?_⟩) <;> (try simp only [BN2] at hg) <;> (try simp only [hg, cond_true, cond_false])) <;> (try (refine hK1 _ ?_; clear hK1 K1)) <;> (try simp only [BN3] at hg))) | (refine awp_seq_k fun K hK => ?_) | ((first | refine awp_region ?_ | refine awp_draw (by kernel_rfl) ?_ | refine awp_block ?_ | refine awp_exit ?_ | refine awp_skip ?_ | refine awp_ret ?_); (try simp only [NB, simprocAttr])))
          all_goals rw [eg]
          all_goals simp only [EndH, FinH, resA, resL, resA1, lastV, lastA, lastAs, pur, purs, pg_len, pg_take, pg_take0, List.length_append, List.length_cons, List.length_nil, S1, simprocAttr, Nat.le_add_right, Nat.le_refl] <;> first | exact pg_keep' hl | exact ⟨pg_keep' hl, rfl⟩ | exact ⟨pg_keep' hl, rfl, rfl⟩
        | false =>
          rw [hb2, if_neg (by decide)] at hp
          repeat' (first | ((first | refine aops_nil ?_ | refine aqops_nil ?_); (try simp only [NB])) | ((repeat ((fail_if_success (refine hK _ ?_)); clear hK K)); refine hK _ ?_; clear hK K) | ((first | refine aops_k fun K1 hK1 => ?_ | refine aqops_k fun K1 hK1 => ?_ | refine awp_cond_k fun A B hA hB => ?_); simp only [S1, simprocAttr, TTTmF, rowI hf, hitI hlt, nextI (by omega) hlt, q0, hx', eF, he, h0', hb2, gv, takeA_sl1, gmC_1, TSz, z49_ne, z49_map, zS_len, takeA_arr, takeA_st, List.length_map, List.length_take, List.length_drop, pg_len, pg_get0, pg_geti, pg_set0, pg_seti, pg_b hb hne, pg_lb hl, pg_b0 hb hne, pg_lb0 hl, gmB, spB, gl, all_scalar, Nat.mul_one, Nat.zero_add, Nat.add_zero, Int.toNat_natCast]; first | (refine hK1 _ ?_; clear hK1 K1) | ((first | refine hA ?_ | refine hB ?_); clear hA hB A B) | ((first | apply call_a E141 | apply call_q E141); exact (ht _); (refine hK1 _ ?_; clear hK1 K1)) | (((first | (refine ⟨fun hg => hA ?_, fun hg => hB ?_⟩ <;> clear hA hB A B) | refine ⟨fun hg => ?_, fun hg => ?_⟩) <;> (try simp only [BN2] at hg) <;> (try simp only [hg, cond_true, cond_false])) <;> (try (refine hK1 _ ?_; clear hK1 K1)) <;> (try simp only [BN3] at hg))) | (refine awp_seq_k fun K hK => ?_) | ((first | refine awp_region ?_ | refine awp_draw (by kernel_rfl) ?_ | refine awp_block ?_ | refine awp_exit ?_ | refine awp_skip ?_ | refine awp_ret ?_); (try simp only [NB, simprocAttr])))
          all_goals refine ⟨hlt, hp, ?_⟩
          all_goals simp only [hls]
          all_goals refine ⟨rfl, ⟨[], by simp only [List.append_nil]⟩, ?_, trivial⟩
          all_goals simp only [keeps, avlt, avlts, blksLt, frL, upd_get, pg_len, S1, simprocAttr, List.length_map, List.length_cons, List.length_nil, Int.natCast_zero, AV.p.injEq, PV.int.injEq, PV.bool.injEq, PV.sl.injEq] <;> (try and_intros) <;> (try assumption) <;> (try trivial) <;> (try omega)
      · have h0' : ((truR x.cond (vS S)).2 != 0) = true := by simp [h0]
        rw [if_pos h0] at hp
        have ec : chooseG fl (vS S) outs = (0, (truR x.cond (vS S)).2) := by unfold chooseG; rw [hp]; rfl
        have eg : xorG fl S i ins outs = [faultS S i (truR x.cond (vS S)).2] := by
          unfold xorG; rw [if_neg h1, if_neg hz, ec, if_pos h0]
        repeat' (first | ((first | refine aops_nil ?_ | refine aqops_nil ?_); (try simp only [NB])) | ((repeat ((fail_if_success (refine hK _ ?_)); clear hK K)); refine hK _ ?_; clear hK K) | ((first | refine aops_k fun K1 hK1 => ?_ | refine aqops_k fun K1 hK1 => ?_ | refine awp_cond_k fun A B hA hB => ?_); simp only [S1, simprocAttr, TTTmF, rowI hf, hitI hlt, nextI (by omega) hlt, q0, hx', eF, he, h0', gv, takeA_sl1, gmC_1, TSz, z49_ne, z49_map, zS_len, takeA_arr, takeA_st, List.length_map, List.length_take, List.length_drop, pg_len, pg_get0, pg_geti, pg_set0, pg_seti, pg_b hb hne, pg_lb hl, pg_b0 hb hne, pg_lb0 hl, gmB, spB, gl, all_scalar, Nat.mul_one, Nat.zero_add, Nat.add_zero, Int.toNat_natCast, List.length_cons, List.length_nil]; first | (refine hK1 _ ?_; clear hK1 K1) | ((first | refine hA ?_ | refine hB ?_); clear hA hB A B) | ((first | apply call_a E141 | apply call_q E141); exact (ht _); (refine hK1 _ ?_; clear hK1 K1)) | ((first | apply call_a E112 | apply call_q E112); exact (tfault_calls ok i (truR x.cond (vS S)).2); (refine hK1 _ ?_; clear hK1 K1)) | (((first | (refine ⟨fun hg => hA ?_, fun hg => hB ?_⟩ <;> clear hA hB A B) | refine ⟨fun hg => ?_, fun hg => ?_⟩) <;> (try simp only [BN2] at hg) <;> (try simp only [hg, cond_true, cond_false])) <;> (try (refine hK1 _ ?_; clear hK1 K1)) <;> (try simp only [BN3] at hg))) | (refine awp_seq_k fun K hK => ?_) | ((first | refine awp_region ?_ | refine awp_draw (by kernel_rfl) ?_ | refine awp_block ?_ | refine awp_exit ?_ | refine awp_skip ?_ | refine awp_ret ?_); (try simp only [NB, simprocAttr])))
        all_goals rw [eg]
        all_goals simp only [EndH, FinH, resA, resL, resA1, lastV, lastA, lastAs, pur, purs, pg_len, pg_take, pg_take0, List.length_append, List.length_cons, List.length_nil, S1, simprocAttr, Nat.le_add_right, Nat.le_refl] <;> first | exact pg_keep' hl | exact ⟨pg_keep' hl, rfl⟩ | exact ⟨pg_keep' hl, rfl, rfl⟩
  obtain rfl : j = outs.length := by omega
  rw [List.drop_length] at hp
  have ec : chooseG fl (vS S) outs = (chE fl outs, 0) := by unfold chooseG; rw [hp]; rfl
  have ho1 : chE fl outs ∈ outs := chE_in (by
    obtain ⟨f, hf, he⟩ := List.countP_pos_iff.mp (by omega : 0 < outs.countP (elsAt fl))
    exact ⟨f, hf, he⟩)
  have hf1 : InF [chE fl outs] := ⟨by simp, fun g hg => by rw [List.mem_singleton.mp hg]; exact ho.2 _ ho1⟩
  have es := stF_move hS (m := ⟨i, chE fl outs, 0, 0, 0, S⟩) (Chg.id hS) hi hf1
  have eg : xorG fl S i ins outs = stF S ⟨i, chE fl outs, 0, 0, 0, S⟩ (fun T => T) ins [chE fl outs] := by
    unfold xorG; rw [if_neg h1, if_neg hz, ec, if_neg (by simp), es]
  have el := lastE_all hels
  rw [List.take_length]
  repeat' (first | ((first | refine aops_nil ?_ | refine aqops_nil ?_); (try simp only [NB])) | ((repeat ((fail_if_success (refine hK _ ?_)); clear hK K)); refine hK _ ?_; clear hK K) | ((first | refine aops_k fun K1 hK1 => ?_ | refine aqops_k fun K1 hK1 => ?_ | refine awp_cond_k fun A B hA hB => ?_); simp only [S1, simprocAttr, TTTmF, endI, el, TSz, z49_ne, z49_map, zS_len, takeA_arr, takeA_st, List.length_map, List.length_take, List.length_drop, pg_len, pg_get0, pg_geti, pg_set0, pg_seti, pg_b hb hne, pg_lb hl, pg_b0 hb hne, pg_lb0 hl, gmB, spB, gl, all_scalar, Nat.mul_one, Nat.zero_add, Nat.add_zero, Int.toNat_natCast, List.length_cons, List.length_nil]; first | (refine hK1 _ ?_; clear hK1 K1) | ((first | refine hA ?_ | refine hB ?_); clear hA hB A B) | ((first | apply call_a E82 | apply call_q E82); exact (step_nil ok ⟨i, chE fl outs, 0, 0, 0, S⟩ ins [chE fl outs] hi hf1); (refine hK1 _ ?_; clear hK1 K1)) | (((first | (refine ⟨fun hg => hA ?_, fun hg => hB ?_⟩ <;> clear hA hB A B) | refine ⟨fun hg => ?_, fun hg => ?_⟩) <;> (try simp only [BN2] at hg) <;> (try simp only [hg, cond_true, cond_false])) <;> (try (refine hK1 _ ?_; clear hK1 K1)) <;> (try simp only [BN3] at hg))) | (refine awp_seq_k fun K hK => ?_) | ((first | refine awp_region ?_ | refine awp_draw (by kernel_rfl) ?_ | refine awp_block ?_ | refine awp_exit ?_ | refine awp_skip ?_ | refine awp_ret ?_); (try simp only [NB, simprocAttr])))
  all_goals rw [eg]
  all_goals simp only [EndH, FinH, resA, resL, resA1, lastV, lastA, lastAs, pur, purs, pg_len, pg_take, pg_take0, List.length_append, List.length_cons, List.length_nil, S1, simprocAttr, Nat.le_add_right, Nat.le_refl] <;> first | exact pg_keep' hl | exact ⟨pg_keep' hl, rfl⟩ | exact ⟨pg_keep' hl, rfl, rfl⟩
end Go.Proofs.YtbbmfemplmelhaaGreatDoor.AM
end

section
set_option linter.unusedVariables false
set_option linter.unusedSimpArgs false
set_option maxRecDepth 4000
set_option maxHeartbeats 4000000
namespace Go.Proofs.YtbbmfemplmelhaaGreatDoor.AM
open Go Go.Proofs
set_option linter.defProp false in
def TTTmH := And.intro T2 (And.intro T3 (And.intro T4 (And.intro T22 (And.intro T23 (And.intro T25 (And.intro T28 (And.intro T31 (And.intro T41 (And.intro T57 (And.intro T58 (And.intro T75 (And.intro T77 (And.intro T80 (And.intro T92 (And.intro T118 (And.intro T121 (And.intro T142 (And.intro T144 (And.intro T146 T147)))))))))))))))))))
attribute [local irreducible] awp aops aqops aeops arun arunT

/-- A token is lacking: there is no step. -/
theorem runT_zero {S : List Int} {f : Int} (h : tk S f = 0) : runO stepT [f] S = none := by
  rw [runO_cons]
  unfold stepT
  rw [if_pos (by omega)]; rfl
theorem move_zero {S : List Int} {x : Sp} {m : Nat} (hm : m < 40) (hS : S.length = 49) (h : tk S (m : Int) = 0) (to : List Int) : moveG S x [(m : Int)] to = [] := by
  unfold moveG
  rw [runT_zero (by rw [joinS_tkI hS hm]; exact h)]
theorem node_zero {ns : List Nd} {fl : List Fl} {S : List Int} (hS : S.length = 49) {i : Nat} {k : Nd} {m : Nat} (hm : m < 40) (hi : insN fl i = [(m : Int)]) (h0 : tk S (m : Int) = 0) (hx : k.kind = 5 → (outsN fl i).length ≠ 1) : nodeG ns fl S i k = [] := by
  have mz := fun x to => move_zero (x := x) hm hS h0 to
  have cz : ∀ a b c, catchG ns fl S a b c [(m : Int)] = [] := by
    intro a b c
    unfold catchG
    repeat' split
    · rfl
    · exact mz _ _
    · exact mz _ _
  unfold nodeG
  rw [hi]
  split
  · unfold lastG
    split
    · exact mz _ _
    · exact mz _ _
  · split
    · unfold dataG; rw [List.headD_cons, if_pos h0]
    · split
      · rename_i h5
        unfold xorG; rw [if_neg (hx h5), List.headD_cons, if_pos h0]
      · split
        · exact mz _ _
        · split
          · rw [List.flatMap_eq_nil_iff]
            exact fun x _ => cz _ _ _
          · split
            · exact cz _ _ _
            · rfl

/-- What a node's box has. -/
abbrev xB (k : Nd) (a : Nat) : Option Blk := some ⟨0, [.i k.kind, .i a, .i k.term.op, .i k.term.n, .p (.sl (k.term.kids.map eT))]⟩

section
variable {h : Heap} {b lb : Nat} {ns : List Nd} {fl : List Fl} {S : List Int} {l : List Sp}

theorem setv1_at (k : Nd) {a : Nat} (ha : a < 4) (v : Int) (gr : Nat) (A : Option Blk) (T : List Int) (hT : T.length = 49) : ACalls Tryz.prog gW 110 [.ptr (h.length + 2 + 1) 0 0, .ptr (h.length + 1) gr 0, .ptr h.length 0 0] (putG h b lb ns fl S l ++ ([xB k a, some ⟨gr, [.i v]⟩] ++ [A, some ⟨0, T.map AV.i⟩]))
    (fun r h' => r = .undef ∧ h' = putG h b lb ns fl S l ++ ([xB k a, some ⟨gr, [.i v]⟩] ++ [A, some ⟨0, (T.set (40 + a) v).map AV.i⟩])) := by
  have := setv_1 (G := gW) (H := putG h b lb ns fl S l ++ ([xB k a, some ⟨gr, [.i v]⟩] ++ [A, some ⟨0, T.map AV.i⟩])) (c := h.length + 3) (r := h.length + 1) (x := h.length) (gc := 0) (gr := gr) (gx := 0) (by rw [pg_geti]; rfl) hT (by rw [pg_geti]; rfl) ha (by rw [pg_get0]; rfl)
  rw [pg_seti] at this
  exact this
theorem setv2_at (k : Nd) {a : Nat} (ha : a < 4) (v : Int) (gr : Nat) (A : Option Blk) (T : List Int) (hT : T.length = 49) : ACalls Tryz.prog gW 113 [.ptr (h.length + 2 + 1) 0 0, .ptr (h.length + 1) gr 0, .ptr h.length 0 0] (putG h b lb ns fl S l ++ ([xB k a, some ⟨gr, [.i v]⟩] ++ [A, some ⟨0, T.map AV.i⟩]))
    (fun r h' => r = .undef ∧ h' = putG h b lb ns fl S l ++ ([xB k a, some ⟨gr, [.i v]⟩] ++ [A, some ⟨0, (T.set (40 + a) v).map AV.i⟩])) := by
  have := setv_2 (G := gW) (H := putG h b lb ns fl S l ++ ([xB k a, some ⟨gr, [.i v]⟩] ++ [A, some ⟨0, T.map AV.i⟩])) (c := h.length + 3) (r := h.length + 1) (x := h.length) (gc := 0) (gr := gr) (gx := 0) (by rw [pg_geti]; rfl) hT (by rw [pg_geti]; rfl) ha (by rw [pg_get0]; rfl)
  rw [pg_seti] at this
  exact this

theorem tnode_none (nk : NetOk ns fl) (rt : Right ns fl) (ok : GmOk h b lb S l) (c : Nat) {k : Nd} (hc : ns[c]? = some k) (m : Nat) (hm : m < 40) (hi : insN fl c = [(m : Int)]) (h1 : k.kind ≠ 1) (h0 : tk S (m : Int) = 0) :
    ACalls Tryz.prog gW 80 [.ptr b 0 0, .i c] (putG h b lb ns fl S l) (fun r h' => r = .undef ∧ h' = putG h b lb ns fl S l) := by
  have hb := ok.hb
  have hl := ok.hl
  have hne := ok.ne
  have hS := ok.held.1
  have gl := gmC_len (ns := ns) (fl := fl) (lb := lb) (n := l.length) hS
  have c0 : (0 : Int) ≤ (c : Int) := by omega
  have hc' := rowN hc
  have hf' : fl.length ≤ 100 := by have := rt.f; omega
  obtain ⟨hv, v0, v3⟩ := ok.held.at hm
  have gk := gmC_at (ns := ns) (fl := fl) (lb := lb) (n := l.length) hv
  have f0 : (0 : Int) ≤ (m : Int) := by omega
  have f40 : (m : Int) < 40 := by omega
  have hz' : (tk S (m : Int) == 0) = true := by simp [h0]
  have e1 : (k.kind != 1) = true := by simp [h1]
  have hil : (((insN fl c).length : Int) == 1) = true := by rw [hi]; rfl
  have hi0 : (insN fl c)[0]? = some (m : Int) := by rw [hi]; rfl
  have hei : eI (m : Int) = [.int .i64 (m : Int)] := rfl
  have hin0 : (0 : Int) ≤ 0 := Int.le_refl 0
  refine acalls_heap (rl := []) mixed Tryz.func80 rfl (rs := []) rfl Tryz.ntmps80 (by simp) ?_
  repeat' (first | ((first | refine aops_nil ?_ | refine aqops_nil ?_ | refine arun_nil ?_ | refine arunT_nil ?_); (try simp only [NB])) | ((repeat ((fail_if_success (refine hK _ ?_)); clear hK K)); refine hK _ ?_; clear hK K) | ((first | refine aops_k fun K1 hK1 => ?_ | refine aqops_k fun K1 hK1 => ?_ | refine arun_eff rfl rfl rfl fun K1 hK1 => ?_ | refine awp_cond_k fun A B hA hB => ?_); simp only [S1, simprocAttr, TTTmH, e1, hil, hi0, hei, hin0, f0, f40, gk, hz', c0, hc', eN, takeA_sl0, gmC_net, TSz, z49_ne, z49_map, zS_len, takeA_arr, takeA_st, List.length_map, List.length_take, List.length_drop, pg_len, pg_get0, pg_geti, pg_set0, pg_seti, pg_b hb hne, pg_lb hl, pg_b0 hb hne, pg_lb0 hl, gmB, spB, gl, all_scalar, Nat.mul_one, Nat.zero_add, Nat.add_zero, Int.toNat_natCast, List.length_cons, List.length_nil]; first | (refine hK1 _ ?_; clear hK1 K1) | ((first | refine hA ?_ | refine hB ?_); clear hA hB A B) | ((first | apply call_a E109 | apply call_q E109); exact (ins_calls _ fl hf' _ _); (refine hK1 _ ?_; clear hK1 K1)) | ((first | apply call_a E57 | apply call_q E57); exact (outs_calls _ fl hf' _ _); (refine hK1 _ ?_; clear hK1 K1)) | (refine join_x (v := ?_) (fun hg hk9 => ?_) ?_; rotate_left; (focus (try ((try simp only [BN] at hg); simp only [S1, simprocAttr, TTTmH, e1, hil, hi0, hei, hin0, f0, f40, gk, hz', c0, hc', eN, takeA_sl0, gmC_net, TSz, z49_ne, z49_map, zS_len, takeA_arr, takeA_st, List.length_map, List.length_take, List.length_drop, pg_len, pg_get0, pg_geti, pg_set0, pg_seti, pg_b hb hne, pg_lb hl, pg_b0 hb hne, pg_lb0 hl, gmB, spB, gl, all_scalar, Nat.mul_one, Nat.zero_add, Nat.add_zero, Int.toNat_natCast, List.length_cons, List.length_nil, hg] at hk9 ⊢)); first | exact hk9 | ((first | apply call_a E109 | apply call_q E109); exact (ins_calls _ fl hf' _ _); exact hk9) | ((first | apply call_a E57 | apply call_q E57); exact (outs_calls _ fl hf' _ _); exact hk9)); (refine hK1 _ ?_; clear hK1 K1)) | (((first | (refine ⟨fun hg => hA ?_, fun hg => hB ?_⟩ <;> clear hA hB A B) | refine ⟨fun hg => ?_, fun hg => ?_⟩) <;> (try simp only [BN2] at hg) <;> (try simp only [hg, cond_true, cond_false])) <;> (try (refine hK1 _ ?_; clear hK1 K1)) <;> (try simp only [BN3] at hg))) | ((first | refine arun_q (v := ?_) rfl rfl rfl rfl (by decide) (fun R1 K1 hK1 => ?_) ?_ | refine arun_f (v := ?_) rfl rfl rfl (by decide) (fun K1 hK1 => ?_) ?_ | refine arunT_f (v := ?_) rfl rfl rfl (by decide) (fun K1 hK1 => ?_) ?_); rotate_left; (focus (simp only [S1, simprocAttr, TTTmH, e1, hil, hi0, hei, hin0, f0, f40, gk, hz', c0, hc', eN, takeA_sl0, gmC_net, TSz, z49_ne, z49_map, zS_len, takeA_arr, takeA_st, List.length_map, List.length_take, List.length_drop, pg_len, pg_get0, pg_geti, pg_set0, pg_seti, pg_b hb hne, pg_lb hl, pg_b0 hb hne, pg_lb0 hl, gmB, spB, gl, all_scalar, Nat.mul_one, Nat.zero_add, Nat.add_zero, Int.toNat_natCast, List.length_cons, List.length_nil]; first | (exact hK1 _ _ _) | ((first | apply call_a E109 | apply call_q E109); exact (ins_calls _ fl hf' _ _); exact hK1 _ _ _) | ((first | apply call_a E57 | apply call_q E57); exact (outs_calls _ fl hf' _ _); exact hK1 _ _ _)))) | (refine arun_tail rfl rfl rfl ?_) | ((first | refine arun_allocj (z := ?_) 0 rfl rfl rfl rfl (by decide) rfl ?_ ?_ | refine arun_allocj (z := ?_) 1 rfl rfl rfl rfl (by decide) rfl ?_ ?_ | refine arun_allocj (z := ?_) 2 rfl rfl rfl rfl (by decide) rfl ?_ ?_); rotate_left; (focus (simp only [S1, simprocAttr, TTTmH, e1, hil, hi0, hei, hin0, f0, f40, gk, hz', c0, hc', eN, takeA_sl0, gmC_net, TSz, z49_ne, z49_map, zS_len, takeA_arr, takeA_st, List.length_map, List.length_take, List.length_drop, pg_len, pg_get0, pg_geti, pg_set0, pg_seti, pg_b hb hne, pg_lb hl, pg_b0 hb hne, pg_lb0 hl, gmB, spB, gl, all_scalar, Nat.mul_one, Nat.zero_add, Nat.add_zero, Int.toNat_natCast, List.length_cons, List.length_nil, zeroB]; rfl))) | (refine awp_seq_k fun K hK => ?_) | (refine awp_drawR (es := []) [0, 1, 2, 3, 4, 5, 6, 7, 8, 9, 10, 11, 12, 13] 0 (fs := []) rfl (by kernel_rfl) (by kernel_rfl) ?_) | ((first | refine awp_region ?_ | refine awp_draw (by kernel_rfl) ?_ | refine awp_block ?_ | refine awp_exit ?_ | refine awp_skip ?_ | refine awp_ret ?_); (try simp only [NB, simprocAttr])))
  all_goals simp only [EndH, FinH, resA, resL, resA1, lastV, lastA, lastAs, pur, purs, pg_len, pg_take, pg_take0, List.length_append, List.length_cons, List.length_nil, S1, simprocAttr, Nat.le_add_right, Nat.le_refl] <;> first | exact pg_keep' hl | exact ⟨pg_keep' hl, rfl⟩ | exact ⟨pg_keep' hl, rfl, rfl⟩
end
end Go.Proofs.YtbbmfemplmelhaaGreatDoor.AM
end

section
set_option linter.unusedVariables false
set_option linter.unusedSimpArgs false
set_option maxRecDepth 4000
set_option maxHeartbeats 4000000
namespace Go.Proofs.YtbbmfemplmelhaaGreatDoor.AM
open Go Go.Proofs
set_option linter.defProp false in
def TTTmJ := And.intro T2 (And.intro T3 (And.intro T4 (And.intro T22 (And.intro T23 (And.intro T25 (And.intro T28 (And.intro T31 (And.intro T41 (And.intro T57 (And.intro T58 (And.intro T75 (And.intro T77 (And.intro T80 (And.intro T92 (And.intro T118 (And.intro T121 (And.intro T142 (And.intro T144 (And.intro T146 T147)))))))))))))))))))
attribute [local irreducible] awp aops aqops aeops arun arunT

section
variable {h : Heap} {b lb : Nat} {ns : List Nd} {fl : List Fl} {S : List Int} {l : List Sp}

theorem txor_at (nk : NetOk ns fl) (ok : GmOk h b lb S l) (st : StOk S) (few : l.length ≤ 900000) (i : Int) (ins outs : List Int) (hi : InF ins) (ho : InF outs) (hof : ∀ x ∈ outs, ∃ i : Nat, x = (i : Int) ∧ i < fl.length)
    (hz : outs.length ≠ 1 → tk S (ins.headD 0) ≠ 0) (hels : outs.length ≠ 1 → outs.countP (elsAt fl) = 1) (L : Heap) :
    ACalls Tryz.prog gW 114 [.ptr b 0 0, .i i, aI ins, aI outs] (putG h b lb ns fl S l ++ L) (fun r h' => r = .undef ∧ h' = putG h b lb ns fl S (l ++ xorG fl S i ins outs) ++ L) := by
  have := txor_calls nk (ok.ext L) st few i ins outs hi ho hof hz hels
  rwa [pg_app ok.hb ok.hl, pg_app ok.hb ok.hl] at this
theorem tcatch_at {G : Nat → Option (List PV)} (ok : GmOk h b lb S l) (st : StOk S) (m : Sp) (c : Nat) {k : Nd} (hc : ns[c]? = some k) (ha : 0 ≤ k.a ∧ k.a ≤ 4) (fr : List Int) (hfr : InF fr) (to : List Int) (hto : InF to) (he : to = outsN fl c) (L : Heap) :
    ACalls Tryz.prog G 115 [.ptr b 0 0, aMv m, .i c, aI fr, aI to] (putG h b lb ns fl S l ++ L) (fun r h' => r = .undef ∧ h' = putG h b lb ns fl S (l ++ catchG ns fl S m.node m.arg c fr) ++ L) := by
  have := tcatch_calls (G := G) (ok.ext L) st m c hc ha fr hfr to hto he
  rwa [pg_app ok.hb ok.hl, pg_app ok.hb ok.hl] at this
theorem step_nil_n (ok : GmOk h b lb S l) (m : Sp) (fr : List Int) (hfr : InF fr) (L : Heap) :
    ACalls Tryz.prog gW 82 [.ptr b 0 0, aMv m, aI fr, .p .nils, .p .nilf] (putG h b lb ns fl S l ++ L) (fun r h' => r = .undef ∧ h' = putG h b lb ns fl S (l ++ stF S m (fun T => T) fr []) ++ L) := by
  have := step_nil_at (G := gW) (ns := ns) (fl := fl) ok m fr [] hfr ⟨by simp, by simp⟩ L
  refine ACalls.nrm ?_
  have hk := nrmRows_eI fr
  simp only [nrmAs, nrmA, nrm, hk]
  exact this
theorem step_fn_n (ok : GmOk h b lb S l) (m : Sp) (fr : List Int) (hfr : InF fr) (L : Heap) {f : FuncId} (hE : Enters Tryz.prog f) {caps : List AV} (hcap : avlts (h.length + L.length) caps) {chg : List Int → List Int} (hlen : ∀ T : List Int, T.length = 49 → (chg T).length = 49)
    (hC : ∀ (A : Option Blk) (T : List Int), T.length = 49 → T.drop 40 = S.drop 40 → ACalls Tryz.prog gW f (.ptr (h.length + L.length + 1) 0 0 :: caps) (putG h b lb ns fl S l ++ (L ++ [A, some ⟨0, T.map AV.i⟩])) (fun r h' => r = .undef ∧ h' = putG h b lb ns fl S l ++ (L ++ [A, some ⟨0, (chg T).map AV.i⟩]))) :
    ACalls Tryz.prog gW 82 [.ptr b 0 0, aMv m, aI fr, .p .nils, .fn f caps] (putG h b lb ns fl S l ++ L) (fun r h' => r = .undef ∧ h' = putG h b lb ns fl S (l ++ stF S m chg fr []) ++ L) := by
  have := step_fn_at (G := gW) (ns := ns) (fl := fl) ok m fr [] hfr ⟨by simp, by simp⟩ L hE hcap hlen hC
  refine ACalls.nrm ?_
  have hk := nrmRows_eI fr
  simp only [nrmAs, nrmA, nrm, hk]
  exact this
theorem setm_at (X Y : Option Blk) (A : Option Blk) (T : List Int) (hT : T.length = 49) : ACalls Tryz.prog gW 117 [.ptr (h.length + 2 + 1) 0 0] (putG h b lb ns fl S l ++ ([X, Y] ++ [A, some ⟨0, T.map AV.i⟩]))
    (fun r h' => r = .undef ∧ h' = putG h b lb ns fl S l ++ ([X, Y] ++ [A, some ⟨0, (T.set 48 1).map AV.i⟩])) := by
  have := setm_calls (G := gW) (H := putG h b lb ns fl S l ++ ([X, Y] ++ [A, some ⟨0, T.map AV.i⟩])) (c := h.length + 3) (gc := 0) (by rw [pg_geti]; rfl) hT
  rw [pg_seti] at this
  exact this

theorem tnode_5a (nk : NetOk ns fl) (rt : Right ns fl) (ok : GmOk h b lb S l) (st : StOk S) (few : l.length ≤ 900000) (c : Nat) {k : Nd} (hc : ns[c]? = some k) (hk : k.kind = 5) (m : Nat) (hm : m < 40) (hin : insN fl c = [(m : Int)]) (h0 : tk S (m : Int) ≠ 0) :
    ACalls Tryz.prog gW 80 [.ptr b 0 0, .i c] (putG h b lb ns fl S l) (fun r h' => r = .undef ∧ h' = putG h b lb ns fl S (l ++ nodeG ns fl S c k)) := by
  have hb := ok.hb
  have hl := ok.hl
  have hne := ok.ne
  have hS := ok.held.1
  have gl := gmC_len (ns := ns) (fl := fl) (lb := lb) (n := l.length) hS
  have gv := gmC_vars (ns := ns) (fl := fl) (lb := lb) (n := l.length) hS
  have t49 := gmC_state (ns := ns) (fl := fl) (lb := lb) (n := l.length) hS
  have c0 : (0 : Int) ≤ (c : Int) := by omega
  have hc' := rowN hc
  have hf := rt.f
  have hf' : fl.length ≤ 100 := by omega
  have hkd := rt.kind hc
  have hi := InF_ins hf c
  have ho := InF_outs hf c
  obtain ⟨hv, v0, v3⟩ := ok.held.at hm
  have gk := gmC_at (ns := ns) (fl := fl) (lb := lb) (n := l.length) hv
  have f0 : (0 : Int) ≤ (m : Int) := by omega
  have f40 : (m : Int) < 40 := by omega
  have hz' : (tk S (m : Int) == 0) = false := by simp [h0]
  have hil : (((insN fl c).length : Int) == 1) = true := by rw [hin]; rfl
  have hi0 : (insN fl c)[0]? = some (m : Int) := by rw [hin]; rfl
  have hei : eI (m : Int) = [.int .i64 (m : Int)] := rfl
  have hin0 : (0 : Int) ≤ 0 := Int.le_refl 0
  have e2 : (k.kind == 2) = false := by simp [hk]
  have e3 : (k.kind == 3) = false := by simp [hk]
  have e4 : (k.kind == 4) = false := by simp [hk]
  have e5 : (k.kind == 5) = true := by simp [hk]
  have e6 : (k.kind == 6) = false := by simp [hk]
  have e7 : (k.kind == 7) = false := by simp [hk]
  have e8 : (k.kind == 8) = false := by simp [hk]
  have e1 : (k.kind != 1) = true := by simp [hk]
  have eg : nodeG ns fl S c k = xorG fl S c (insN fl c) (outsN fl c) := by unfold nodeG; rw [if_neg (by omega), if_neg (by omega), if_pos hk]
  rw [eg]
  have hz9 : (outsN fl c).length ≠ 1 → tk S ((insN fl c).headD 0) ≠ 0 := fun _ => by rw [hin]; exact h0
  refine acalls_heap (rl := []) mixed Tryz.func80 rfl (rs := []) rfl Tryz.ntmps80 (by simp) ?_
  repeat' (first | ((first | refine aops_nil ?_ | refine aqops_nil ?_ | refine arun_nil ?_ | refine arunT_nil ?_); (try simp only [NB])) | ((repeat ((fail_if_success (refine hK _ ?_)); clear hK K)); refine hK _ ?_; clear hK K) | ((first | refine aops_k fun K1 hK1 => ?_ | refine aqops_k fun K1 hK1 => ?_ | refine arun_eff rfl rfl rfl fun K1 hK1 => ?_ | refine awp_cond_k fun A B hA hB => ?_); simp only [S1, simprocAttr, TTTmJ, e1, e2, e3, e4, e5, e6, e7, e8, hil, hi0, hei, hin0, f0, f40, gk, hz', c0, hc', eN, takeA_sl0, gmC_net, TSz, z49_ne, z49_map, zS_len, takeA_arr, takeA_st, List.length_map, List.length_take, List.length_drop, pg_len, pg_get0, pg_geti, pg_set0, pg_seti, pg_b hb hne, pg_lb hl, pg_b0 hb hne, pg_lb0 hl, gmB, spB, gl, all_scalar, Nat.mul_one, Nat.zero_add, Nat.add_zero, Int.toNat_natCast, List.length_cons, List.length_nil]; first | (refine hK1 _ ?_; clear hK1 K1) | ((first | refine hA ?_ | refine hB ?_); clear hA hB A B) | ((first | apply call_a E109 | apply call_q E109); exact (ins_calls _ fl hf' _ _); (refine hK1 _ ?_; clear hK1 K1)) | ((first | apply call_a E57 | apply call_q E57); exact (outs_calls _ fl hf' _ _); (refine hK1 _ ?_; clear hK1 K1)) | ((first | apply call_a E114 | apply call_q E114); exact (txor_at nk ok st few c _ _ hi ho (outs_lt c) hz9 (rt.els1 hc hk) _); (refine hK1 _ ?_; clear hK1 K1)) | (refine join_x (v := ?_) (fun hg hk9 => ?_) ?_; rotate_left; (focus (try ((try simp only [BN] at hg); simp only [S1, simprocAttr, TTTmJ, e1, e2, e3, e4, e5, e6, e7, e8, hil, hi0, hei, hin0, f0, f40, gk, hz', c0, hc', eN, takeA_sl0, gmC_net, TSz, z49_ne, z49_map, zS_len, takeA_arr, takeA_st, List.length_map, List.length_take, List.length_drop, pg_len, pg_get0, pg_geti, pg_set0, pg_seti, pg_b hb hne, pg_lb hl, pg_b0 hb hne, pg_lb0 hl, gmB, spB, gl, all_scalar, Nat.mul_one, Nat.zero_add, Nat.add_zero, Int.toNat_natCast, List.length_cons, List.length_nil, hg] at hk9 ⊢)); first | exact hk9 | ((first | apply call_a E109 | apply call_q E109); exact (ins_calls _ fl hf' _ _); exact hk9) | ((first | apply call_a E57 | apply call_q E57); exact (outs_calls _ fl hf' _ _); exact hk9) | ((first | apply call_a E114 | apply call_q E114); exact (txor_at nk ok st few c _ _ hi ho (outs_lt c) hz9 (rt.els1 hc hk) _); exact hk9)); (refine hK1 _ ?_; clear hK1 K1)) | (((first | (refine ⟨fun hg => hA ?_, fun hg => hB ?_⟩ <;> clear hA hB A B) | refine ⟨fun hg => ?_, fun hg => ?_⟩) <;> (try simp only [BN2] at hg) <;> (try simp only [hg, cond_true, cond_false])) <;> (try (refine hK1 _ ?_; clear hK1 K1)) <;> (try simp only [BN3] at hg))) | ((first | refine arun_q (v := ?_) rfl rfl rfl rfl (by decide) (fun R1 K1 hK1 => ?_) ?_ | refine arun_f (v := ?_) rfl rfl rfl (by decide) (fun K1 hK1 => ?_) ?_ | refine arunT_f (v := ?_) rfl rfl rfl (by decide) (fun K1 hK1 => ?_) ?_); rotate_left; (focus (simp only [S1, simprocAttr, TTTmJ, e1, e2, e3, e4, e5, e6, e7, e8, hil, hi0, hei, hin0, f0, f40, gk, hz', c0, hc', eN, takeA_sl0, gmC_net, TSz, z49_ne, z49_map, zS_len, takeA_arr, takeA_st, List.length_map, List.length_take, List.length_drop, pg_len, pg_get0, pg_geti, pg_set0, pg_seti, pg_b hb hne, pg_lb hl, pg_b0 hb hne, pg_lb0 hl, gmB, spB, gl, all_scalar, Nat.mul_one, Nat.zero_add, Nat.add_zero, Int.toNat_natCast, List.length_cons, List.length_nil]; first | (exact hK1 _ _ _) | ((first | apply call_a E109 | apply call_q E109); exact (ins_calls _ fl hf' _ _); exact hK1 _ _ _) | ((first | apply call_a E57 | apply call_q E57); exact (outs_calls _ fl hf' _ _); exact hK1 _ _ _) | ((first | apply call_a E114 | apply call_q E114); exact (txor_at nk ok st few c _ _ hi ho (outs_lt c) hz9 (rt.els1 hc hk) _); exact hK1 _ _ _)))) | (refine arun_tail rfl rfl rfl ?_) | ((first | refine arun_allocj (z := ?_) 0 rfl rfl rfl rfl (by decide) rfl ?_ ?_ | refine arun_allocj (z := ?_) 1 rfl rfl rfl rfl (by decide) rfl ?_ ?_ | refine arun_allocj (z := ?_) 2 rfl rfl rfl rfl (by decide) rfl ?_ ?_); rotate_left; (focus (simp only [S1, simprocAttr, TTTmJ, e1, e2, e3, e4, e5, e6, e7, e8, hil, hi0, hei, hin0, f0, f40, gk, hz', c0, hc', eN, takeA_sl0, gmC_net, TSz, z49_ne, z49_map, zS_len, takeA_arr, takeA_st, List.length_map, List.length_take, List.length_drop, pg_len, pg_get0, pg_geti, pg_set0, pg_seti, pg_b hb hne, pg_lb hl, pg_b0 hb hne, pg_lb0 hl, gmB, spB, gl, all_scalar, Nat.mul_one, Nat.zero_add, Nat.add_zero, Int.toNat_natCast, List.length_cons, List.length_nil, zeroB]; rfl))) | (refine awp_seq_k fun K hK => ?_) | (refine awp_drawQ [0, 1, 2, 3, 4, 5, 6, 7, 8, 9, 10, 11, 12, 13] (fs := []) rfl rfl (by kernel_rfl) (by kernel_rfl) ?_) | ((first | refine awp_region ?_ | refine awp_draw (by kernel_rfl) ?_ | refine awp_block ?_ | refine awp_exit ?_ | refine awp_skip ?_ | refine awp_ret ?_); (try simp only [NB, simprocAttr])))
  all_goals simp only [EndH, FinH, resA, resL, resA1, lastV, lastA, lastAs, pur, purs, pg_len, pg_take, pg_take0, List.length_append, List.length_cons, List.length_nil, S1, simprocAttr, Nat.le_add_right, Nat.le_refl] <;> first | exact pg_keep' hl | exact ⟨pg_keep' hl, rfl⟩ | exact ⟨pg_keep' hl, rfl, rfl⟩

theorem tnode_5b (nk : NetOk ns fl) (rt : Right ns fl) (ok : GmOk h b lb S l) (st : StOk S) (few : l.length ≤ 900000) (c : Nat) {k : Nd} (hc : ns[c]? = some k) (hk : k.kind = 5) (hin : (insN fl c).length ≠ 1) :
    ACalls Tryz.prog gW 80 [.ptr b 0 0, .i c] (putG h b lb ns fl S l) (fun r h' => r = .undef ∧ h' = putG h b lb ns fl S (l ++ nodeG ns fl S c k)) := by
  have hb := ok.hb
  have hl := ok.hl
  have hne := ok.ne
  have hS := ok.held.1
  have gl := gmC_len (ns := ns) (fl := fl) (lb := lb) (n := l.length) hS
  have gv := gmC_vars (ns := ns) (fl := fl) (lb := lb) (n := l.length) hS
  have t49 := gmC_state (ns := ns) (fl := fl) (lb := lb) (n := l.length) hS
  have c0 : (0 : Int) ≤ (c : Int) := by omega
  have hc' := rowN hc
  have hf := rt.f
  have hf' : fl.length ≤ 100 := by omega
  have hkd := rt.kind hc
  have hi := InF_ins hf c
  have ho := InF_outs hf c
  have hil : (((insN fl c).length : Int) == 1) = false := by simp; omega
  have e2 : (k.kind == 2) = false := by simp [hk]
  have e3 : (k.kind == 3) = false := by simp [hk]
  have e4 : (k.kind == 4) = false := by simp [hk]
  have e5 : (k.kind == 5) = true := by simp [hk]
  have e6 : (k.kind == 6) = false := by simp [hk]
  have e7 : (k.kind == 7) = false := by simp [hk]
  have e8 : (k.kind == 8) = false := by simp [hk]
  have e1 : (k.kind != 1) = true := by simp [hk]
  have eg : nodeG ns fl S c k = xorG fl S c (insN fl c) (outsN fl c) := by unfold nodeG; rw [if_neg (by omega), if_neg (by omega), if_pos hk]
  rw [eg]
  have hz9 : (outsN fl c).length ≠ 1 → tk S ((insN fl c).headD 0) ≠ 0 := fun h => by have := rt.xor (List.getElem?_eq_some_iff.mp hc).1 (by rw [kind_of hc]; exact hk); omega
  refine acalls_heap (rl := []) mixed Tryz.func80 rfl (rs := []) rfl Tryz.ntmps80 (by simp) ?_
  repeat' (first | ((first | refine aops_nil ?_ | refine aqops_nil ?_ | refine arun_nil ?_ | refine arunT_nil ?_); (try simp only [NB])) | ((repeat ((fail_if_success (refine hK _ ?_)); clear hK K)); refine hK _ ?_; clear hK K) | ((first | refine aops_k fun K1 hK1 => ?_ | refine aqops_k fun K1 hK1 => ?_ | refine arun_eff rfl rfl rfl fun K1 hK1 => ?_ | refine awp_cond_k fun A B hA hB => ?_); simp only [S1, simprocAttr, TTTmJ, e1, e2, e3, e4, e5, e6, e7, e8, hil, c0, hc', eN, takeA_sl0, gmC_net, TSz, z49_ne, z49_map, zS_len, takeA_arr, takeA_st, List.length_map, List.length_take, List.length_drop, pg_len, pg_get0, pg_geti, pg_set0, pg_seti, pg_b hb hne, pg_lb hl, pg_b0 hb hne, pg_lb0 hl, gmB, spB, gl, all_scalar, Nat.mul_one, Nat.zero_add, Nat.add_zero, Int.toNat_natCast, List.length_cons, List.length_nil]; first | (refine hK1 _ ?_; clear hK1 K1) | ((first | refine hA ?_ | refine hB ?_); clear hA hB A B) | ((first | apply call_a E109 | apply call_q E109); exact (ins_calls _ fl hf' _ _); (refine hK1 _ ?_; clear hK1 K1)) | ((first | apply call_a E57 | apply call_q E57); exact (outs_calls _ fl hf' _ _); (refine hK1 _ ?_; clear hK1 K1)) | ((first | apply call_a E114 | apply call_q E114); exact (txor_at nk ok st few c _ _ hi ho (outs_lt c) hz9 (rt.els1 hc hk) _); (refine hK1 _ ?_; clear hK1 K1)) | (refine join_x (v := ?_) (fun hg hk9 => ?_) ?_; rotate_left; (focus (try ((try simp only [BN] at hg); simp only [S1, simprocAttr, TTTmJ, e1, e2, e3, e4, e5, e6, e7, e8, hil, c0, hc', eN, takeA_sl0, gmC_net, TSz, z49_ne, z49_map, zS_len, takeA_arr, takeA_st, List.length_map, List.length_take, List.length_drop, pg_len, pg_get0, pg_geti, pg_set0, pg_seti, pg_b hb hne, pg_lb hl, pg_b0 hb hne, pg_lb0 hl, gmB, spB, gl, all_scalar, Nat.mul_one, Nat.zero_add, Nat.add_zero, Int.toNat_natCast, List.length_cons, List.length_nil, hg] at hk9 ⊢)); first | exact hk9 | ((first | apply call_a E109 | apply call_q E109); exact (ins_calls _ fl hf' _ _); exact hk9) | ((first | apply call_a E57 | apply call_q E57); exact (outs_calls _ fl hf' _ _); exact hk9) | ((first | apply call_a E114 | apply call_q E114); exact (txor_at nk ok st few c _ _ hi ho (outs_lt c) hz9 (rt.els1 hc hk) _); exact hk9)); (refine hK1 _ ?_; clear hK1 K1)) | (((first | (refine ⟨fun hg => hA ?_, fun hg => hB ?_⟩ <;> clear hA hB A B) | refine ⟨fun hg => ?_, fun hg => ?_⟩) <;> (try simp only [BN2] at hg) <;> (try simp only [hg, cond_true, cond_false])) <;> (try (refine hK1 _ ?_; clear hK1 K1)) <;> (try simp only [BN3] at hg))) | ((first | refine arun_q (v := ?_) rfl rfl rfl rfl (by decide) (fun R1 K1 hK1 => ?_) ?_ | refine arun_f (v := ?_) rfl rfl rfl (by decide) (fun K1 hK1 => ?_) ?_ | refine arunT_f (v := ?_) rfl rfl rfl (by decide) (fun K1 hK1 => ?_) ?_); rotate_left; (focus (simp only [S1, simprocAttr, TTTmJ, e1, e2, e3, e4, e5, e6, e7, e8, hil, c0, hc', eN, takeA_sl0, gmC_net, TSz, z49_ne, z49_map, zS_len, takeA_arr, takeA_st, List.length_map, List.length_take, List.length_drop, pg_len, pg_get0, pg_geti, pg_set0, pg_seti, pg_b hb hne, pg_lb hl, pg_b0 hb hne, pg_lb0 hl, gmB, spB, gl, all_scalar, Nat.mul_one, Nat.zero_add, Nat.add_zero, Int.toNat_natCast, List.length_cons, List.length_nil]; first | (exact hK1 _ _ _) | ((first | apply call_a E109 | apply call_q E109); exact (ins_calls _ fl hf' _ _); exact hK1 _ _ _) | ((first | apply call_a E57 | apply call_q E57); exact (outs_calls _ fl hf' _ _); exact hK1 _ _ _) | ((first | apply call_a E114 | apply call_q E114); exact (txor_at nk ok st few c _ _ hi ho (outs_lt c) hz9 (rt.els1 hc hk) _); exact hK1 _ _ _)))) | (refine arun_tail rfl rfl rfl ?_) | ((first | refine arun_allocj (z := ?_) 0 rfl rfl rfl rfl (by decide) rfl ?_ ?_ | refine arun_allocj (z := ?_) 1 rfl rfl rfl rfl (by decide) rfl ?_ ?_ | refine arun_allocj (z := ?_) 2 rfl rfl rfl rfl (by decide) rfl ?_ ?_); rotate_left; (focus (simp only [S1, simprocAttr, TTTmJ, e1, e2, e3, e4, e5, e6, e7, e8, hil, c0, hc', eN, takeA_sl0, gmC_net, TSz, z49_ne, z49_map, zS_len, takeA_arr, takeA_st, List.length_map, List.length_take, List.length_drop, pg_len, pg_get0, pg_geti, pg_set0, pg_seti, pg_b hb hne, pg_lb hl, pg_b0 hb hne, pg_lb0 hl, gmB, spB, gl, all_scalar, Nat.mul_one, Nat.zero_add, Nat.add_zero, Int.toNat_natCast, List.length_cons, List.length_nil, zeroB]; rfl))) | (refine awp_seq_k fun K hK => ?_) | (refine awp_drawQ [0, 1, 2, 3, 4, 5, 6, 7, 8, 9, 10, 11, 12, 13] (fs := []) rfl rfl (by kernel_rfl) (by kernel_rfl) ?_) | ((first | refine awp_region ?_ | refine awp_draw (by kernel_rfl) ?_ | refine awp_block ?_ | refine awp_exit ?_ | refine awp_skip ?_ | refine awp_ret ?_); (try simp only [NB, simprocAttr])))
  all_goals simp only [EndH, FinH, resA, resL, resA1, lastV, lastA, lastAs, pur, purs, pg_len, pg_take, pg_take0, List.length_append, List.length_cons, List.length_nil, S1, simprocAttr, Nat.le_add_right, Nat.le_refl] <;> first | exact pg_keep' hl | exact ⟨pg_keep' hl, rfl⟩ | exact ⟨pg_keep' hl, rfl, rfl⟩

theorem tnode_6a (nk : NetOk ns fl) (rt : Right ns fl) (ok : GmOk h b lb S l) (st : StOk S) (few : l.length ≤ 900000) (c : Nat) {k : Nd} (hc : ns[c]? = some k) (hk : k.kind = 6) (m : Nat) (hm : m < 40) (hin : insN fl c = [(m : Int)]) (h0 : tk S (m : Int) ≠ 0) :
    ACalls Tryz.prog gW 80 [.ptr b 0 0, .i c] (putG h b lb ns fl S l) (fun r h' => r = .undef ∧ h' = putG h b lb ns fl S (l ++ nodeG ns fl S c k)) := by
  have hb := ok.hb
  have hl := ok.hl
  have hne := ok.ne
  have hS := ok.held.1
  have gl := gmC_len (ns := ns) (fl := fl) (lb := lb) (n := l.length) hS
  have gv := gmC_vars (ns := ns) (fl := fl) (lb := lb) (n := l.length) hS
  have t49 := gmC_state (ns := ns) (fl := fl) (lb := lb) (n := l.length) hS
  have c0 : (0 : Int) ≤ (c : Int) := by omega
  have hc' := rowN hc
  have hf := rt.f
  have hf' : fl.length ≤ 100 := by omega
  have hkd := rt.kind hc
  have hi := InF_ins hf c
  have ho := InF_outs hf c
  obtain ⟨hv, v0, v3⟩ := ok.held.at hm
  have gk := gmC_at (ns := ns) (fl := fl) (lb := lb) (n := l.length) hv
  have f0 : (0 : Int) ≤ (m : Int) := by omega
  have f40 : (m : Int) < 40 := by omega
  have hz' : (tk S (m : Int) == 0) = false := by simp [h0]
  have hil : (((insN fl c).length : Int) == 1) = true := by rw [hin]; rfl
  have hi0 : (insN fl c)[0]? = some (m : Int) := by rw [hin]; rfl
  have hei : eI (m : Int) = [.int .i64 (m : Int)] := rfl
  have hin0 : (0 : Int) ≤ 0 := Int.le_refl 0
  have e2 : (k.kind == 2) = false := by simp [hk]
  have e3 : (k.kind == 3) = false := by simp [hk]
  have e4 : (k.kind == 4) = false := by simp [hk]
  have e5 : (k.kind == 5) = false := by simp [hk]
  have e6 : (k.kind == 6) = true := by simp [hk]
  have e7 : (k.kind == 7) = false := by simp [hk]
  have e8 : (k.kind == 8) = false := by simp [hk]
  have e1 : (k.kind != 1) = true := by simp [hk]
  have eg : nodeG ns fl S c k = moveG S ⟨c, 0, 0, 0, 0, S⟩ (insN fl c) (outsN fl c) := by unfold nodeG; rw [if_neg (by omega), if_neg (by omega), if_neg (by omega), if_pos hk]
  have es := stF_move hS (m := ⟨c, 0, 0, 0, 0, S⟩) (Chg.id hS) hi ho
  simp only at es
  rw [eg, ← es]
  refine acalls_heap (rl := []) mixed Tryz.func80 rfl (rs := []) rfl Tryz.ntmps80 (by simp) ?_
  repeat' (first | ((first | refine aops_nil ?_ | refine aqops_nil ?_ | refine arun_nil ?_ | refine arunT_nil ?_); (try simp only [NB])) | ((repeat ((fail_if_success (refine hK _ ?_)); clear hK K)); refine hK _ ?_; clear hK K) | ((first | refine aops_k fun K1 hK1 => ?_ | refine aqops_k fun K1 hK1 => ?_ | refine arun_eff rfl rfl rfl fun K1 hK1 => ?_ | refine awp_cond_k fun A B hA hB => ?_); simp only [S1, simprocAttr, TTTmJ, e1, e2, e3, e4, e5, e6, e7, e8, hil, hi0, hei, hin0, f0, f40, gk, hz', c0, hc', eN, takeA_sl0, gmC_net, TSz, z49_ne, z49_map, zS_len, takeA_arr, takeA_st, List.length_map, List.length_take, List.length_drop, pg_len, pg_get0, pg_geti, pg_set0, pg_seti, pg_b hb hne, pg_lb hl, pg_b0 hb hne, pg_lb0 hl, gmB, spB, gl, all_scalar, Nat.mul_one, Nat.zero_add, Nat.add_zero, Int.toNat_natCast, List.length_cons, List.length_nil]; first | (refine hK1 _ ?_; clear hK1 K1) | ((first | refine hA ?_ | refine hB ?_); clear hA hB A B) | ((first | apply call_a E109 | apply call_q E109); exact (ins_calls _ fl hf' _ _); (refine hK1 _ ?_; clear hK1 K1)) | ((first | apply call_a E57 | apply call_q E57); exact (outs_calls _ fl hf' _ _); (refine hK1 _ ?_; clear hK1 K1)) | ((first | apply call_a E82 | apply call_q E82); exact (step_nil_at ok ⟨c, 0, 0, 0, 0, S⟩ _ _ hi ho _); (refine hK1 _ ?_; clear hK1 K1)) | (refine join_x (v := ?_) (fun hg hk9 => ?_) ?_; rotate_left; (focus (try ((try simp only [BN] at hg); simp only [S1, simprocAttr, TTTmJ, e1, e2, e3, e4, e5, e6, e7, e8, hil, hi0, hei, hin0, f0, f40, gk, hz', c0, hc', eN, takeA_sl0, gmC_net, TSz, z49_ne, z49_map, zS_len, takeA_arr, takeA_st, List.length_map, List.length_take, List.length_drop, pg_len, pg_get0, pg_geti, pg_set0, pg_seti, pg_b hb hne, pg_lb hl, pg_b0 hb hne, pg_lb0 hl, gmB, spB, gl, all_scalar, Nat.mul_one, Nat.zero_add, Nat.add_zero, Int.toNat_natCast, List.length_cons, List.length_nil, hg] at hk9 ⊢)); first | exact hk9 | ((first | apply call_a E109 | apply call_q E109); exact (ins_calls _ fl hf' _ _); exact hk9) | ((first | apply call_a E57 | apply call_q E57); exact (outs_calls _ fl hf' _ _); exact hk9) | ((first | apply call_a E82 | apply call_q E82); exact (step_nil_at ok ⟨c, 0, 0, 0, 0, S⟩ _ _ hi ho _); exact hk9)); (refine hK1 _ ?_; clear hK1 K1)) | (((first | (refine ⟨fun hg => hA ?_, fun hg => hB ?_⟩ <;> clear hA hB A B) | refine ⟨fun hg => ?_, fun hg => ?_⟩) <;> (try simp only [BN2] at hg) <;> (try simp only [hg, cond_true, cond_false])) <;> (try (refine hK1 _ ?_; clear hK1 K1)) <;> (try simp only [BN3] at hg))) | ((first | refine arun_q (v := ?_) rfl rfl rfl rfl (by decide) (fun R1 K1 hK1 => ?_) ?_ | refine arun_f (v := ?_) rfl rfl rfl (by decide) (fun K1 hK1 => ?_) ?_ | refine arunT_f (v := ?_) rfl rfl rfl (by decide) (fun K1 hK1 => ?_) ?_); rotate_left; (focus (simp only [S1, simprocAttr, TTTmJ, e1, e2, e3, e4, e5, e6, e7, e8, hil, hi0, hei, hin0, f0, f40, gk, hz', c0, hc', eN, takeA_sl0, gmC_net, TSz, z49_ne, z49_map, zS_len, takeA_arr, takeA_st, List.length_map, List.length_take, List.length_drop, pg_len, pg_get0, pg_geti, pg_set0, pg_seti, pg_b hb hne, pg_lb hl, pg_b0 hb hne, pg_lb0 hl, gmB, spB, gl, all_scalar, Nat.mul_one, Nat.zero_add, Nat.add_zero, Int.toNat_natCast, List.length_cons, List.length_nil]; first | (exact hK1 _ _ _) | ((first | apply call_a E109 | apply call_q E109); exact (ins_calls _ fl hf' _ _); exact hK1 _ _ _) | ((first | apply call_a E57 | apply call_q E57); exact (outs_calls _ fl hf' _ _); exact hK1 _ _ _) | ((first | apply call_a E82 | apply call_q E82); exact (step_nil_at ok ⟨c, 0, 0, 0, 0, S⟩ _ _ hi ho _); exact hK1 _ _ _)))) | (refine arun_tail rfl rfl rfl ?_) | ((first | refine arun_allocj (z := ?_) 0 rfl rfl rfl rfl (by decide) rfl ?_ ?_ | refine arun_allocj (z := ?_) 1 rfl rfl rfl rfl (by decide) rfl ?_ ?_ | refine arun_allocj (z := ?_) 2 rfl rfl rfl rfl (by decide) rfl ?_ ?_); rotate_left; (focus (simp only [S1, simprocAttr, TTTmJ, e1, e2, e3, e4, e5, e6, e7, e8, hil, hi0, hei, hin0, f0, f40, gk, hz', c0, hc', eN, takeA_sl0, gmC_net, TSz, z49_ne, z49_map, zS_len, takeA_arr, takeA_st, List.length_map, List.length_take, List.length_drop, pg_len, pg_get0, pg_geti, pg_set0, pg_seti, pg_b hb hne, pg_lb hl, pg_b0 hb hne, pg_lb0 hl, gmB, spB, gl, all_scalar, Nat.mul_one, Nat.zero_add, Nat.add_zero, Int.toNat_natCast, List.length_cons, List.length_nil, zeroB]; rfl))) | (refine awp_seq_k fun K hK => ?_) | (refine awp_drawQ [0, 1, 2, 3, 4, 5, 6, 7, 8, 9, 10, 11, 12, 13] (fs := []) rfl rfl (by kernel_rfl) (by kernel_rfl) ?_) | ((first | refine awp_region ?_ | refine awp_draw (by kernel_rfl) ?_ | refine awp_block ?_ | refine awp_exit ?_ | refine awp_skip ?_ | refine awp_ret ?_); (try simp only [NB, simprocAttr])))
  all_goals simp only [EndH, FinH, resA, resL, resA1, lastV, lastA, lastAs, pur, purs, pg_len, pg_take, pg_take0, List.length_append, List.length_cons, List.length_nil, S1, simprocAttr, Nat.le_add_right, Nat.le_refl] <;> first | exact pg_keep' hl | exact ⟨pg_keep' hl, rfl⟩ | exact ⟨pg_keep' hl, rfl, rfl⟩

theorem tnode_6b (nk : NetOk ns fl) (rt : Right ns fl) (ok : GmOk h b lb S l) (st : StOk S) (few : l.length ≤ 900000) (c : Nat) {k : Nd} (hc : ns[c]? = some k) (hk : k.kind = 6) (hin : (insN fl c).length ≠ 1) :
    ACalls Tryz.prog gW 80 [.ptr b 0 0, .i c] (putG h b lb ns fl S l) (fun r h' => r = .undef ∧ h' = putG h b lb ns fl S (l ++ nodeG ns fl S c k)) := by
  have hb := ok.hb
  have hl := ok.hl
  have hne := ok.ne
  have hS := ok.held.1
  have gl := gmC_len (ns := ns) (fl := fl) (lb := lb) (n := l.length) hS
  have gv := gmC_vars (ns := ns) (fl := fl) (lb := lb) (n := l.length) hS
  have t49 := gmC_state (ns := ns) (fl := fl) (lb := lb) (n := l.length) hS
  have c0 : (0 : Int) ≤ (c : Int) := by omega
  have hc' := rowN hc
  have hf := rt.f
  have hf' : fl.length ≤ 100 := by omega
  have hkd := rt.kind hc
  have hi := InF_ins hf c
  have ho := InF_outs hf c
  have hil : (((insN fl c).length : Int) == 1) = false := by simp; omega
  have e2 : (k.kind == 2) = false := by simp [hk]
  have e3 : (k.kind == 3) = false := by simp [hk]
  have e4 : (k.kind == 4) = false := by simp [hk]
  have e5 : (k.kind == 5) = false := by simp [hk]
  have e6 : (k.kind == 6) = true := by simp [hk]
  have e7 : (k.kind == 7) = false := by simp [hk]
  have e8 : (k.kind == 8) = false := by simp [hk]
  have e1 : (k.kind != 1) = true := by simp [hk]
  have eg : nodeG ns fl S c k = moveG S ⟨c, 0, 0, 0, 0, S⟩ (insN fl c) (outsN fl c) := by unfold nodeG; rw [if_neg (by omega), if_neg (by omega), if_neg (by omega), if_pos hk]
  have es := stF_move hS (m := ⟨c, 0, 0, 0, 0, S⟩) (Chg.id hS) hi ho
  simp only at es
  rw [eg, ← es]
  refine acalls_heap (rl := []) mixed Tryz.func80 rfl (rs := []) rfl Tryz.ntmps80 (by simp) ?_
  repeat' (first | ((first | refine aops_nil ?_ | refine aqops_nil ?_ | refine arun_nil ?_ | refine arunT_nil ?_); (try simp only [NB])) | ((repeat ((fail_if_success (refine hK _ ?_)); clear hK K)); refine hK _ ?_; clear hK K) | ((first | refine aops_k fun K1 hK1 => ?_ | refine aqops_k fun K1 hK1 => ?_ | refine arun_eff rfl rfl rfl fun K1 hK1 => ?_ | refine awp_cond_k fun A B hA hB => ?_); simp only [S1, simprocAttr, TTTmJ, e1, e2, e3, e4, e5, e6, e7, e8, hil, c0, hc', eN, takeA_sl0, gmC_net, TSz, z49_ne, z49_map, zS_len, takeA_arr, takeA_st, List.length_map, List.length_take, List.length_drop, pg_len, pg_get0, pg_geti, pg_set0, pg_seti, pg_b hb hne, pg_lb hl, pg_b0 hb hne, pg_lb0 hl, gmB, spB, gl, all_scalar, Nat.mul_one, Nat.zero_add, Nat.add_zero, Int.toNat_natCast, List.length_cons, List.length_nil]; first | (refine hK1 _ ?_; clear hK1 K1) | ((first | refine hA ?_ | refine hB ?_); clear hA hB A B) | ((first | apply call_a E109 | apply call_q E109); exact (ins_calls _ fl hf' _ _); (refine hK1 _ ?_; clear hK1 K1)) | ((first | apply call_a E57 | apply call_q E57); exact (outs_calls _ fl hf' _ _); (refine hK1 _ ?_; clear hK1 K1)) | ((first | apply call_a E82 | apply call_q E82); exact (step_nil_at ok ⟨c, 0, 0, 0, 0, S⟩ _ _ hi ho _); (refine hK1 _ ?_; clear hK1 K1)) | (refine join_x (v := ?_) (fun hg hk9 => ?_) ?_; rotate_left; (focus (try ((try simp only [BN] at hg); simp only [S1, simprocAttr, TTTmJ, e1, e2, e3, e4, e5, e6, e7, e8, hil, c0, hc', eN, takeA_sl0, gmC_net, TSz, z49_ne, z49_map, zS_len, takeA_arr, takeA_st, List.length_map, List.length_take, List.length_drop, pg_len, pg_get0, pg_geti, pg_set0, pg_seti, pg_b hb hne, pg_lb hl, pg_b0 hb hne, pg_lb0 hl, gmB, spB, gl, all_scalar, Nat.mul_one, Nat.zero_add, Nat.add_zero, Int.toNat_natCast, List.length_cons, List.length_nil, hg] at hk9 ⊢)); first | exact hk9 | ((first | apply call_a E109 | apply call_q E109); exact (ins_calls _ fl hf' _ _); exact hk9) | ((first | apply call_a E57 | apply call_q E57); exact (outs_calls _ fl hf' _ _); exact hk9) | ((first | apply call_a E82 | apply call_q E82); exact (step_nil_at ok ⟨c, 0, 0, 0, 0, S⟩ _ _ hi ho _); exact hk9)); (refine hK1 _ ?_; clear hK1 K1)) | (((first | (refine ⟨fun hg => hA ?_, fun hg => hB ?_⟩ <;> clear hA hB A B) | refine ⟨fun hg => ?_, fun hg => ?_⟩) <;> (try simp only [BN2] at hg) <;> (try simp only [hg, cond_true, cond_false])) <;> (try (refine hK1 _ ?_; clear hK1 K1)) <;> (try simp only [BN3] at hg))) | ((first | refine arun_q (v := ?_) rfl rfl rfl rfl (by decide) (fun R1 K1 hK1 => ?_) ?_ | refine arun_f (v := ?_) rfl rfl rfl (by decide) (fun K1 hK1 => ?_) ?_ | refine arunT_f (v := ?_) rfl rfl rfl (by decide) (fun K1 hK1 => ?_) ?_); rotate_left; (focus (simp only [S1, simprocAttr, TTTmJ, e1, e2, e3, e4, e5, e6, e7, e8, hil, c0, hc', eN, takeA_sl0, gmC_net, TSz, z49_ne, z49_map, zS_len, takeA_arr, takeA_st, List.length_map, List.length_take, List.length_drop, pg_len, pg_get0, pg_geti, pg_set0, pg_seti, pg_b hb hne, pg_lb hl, pg_b0 hb hne, pg_lb0 hl, gmB, spB, gl, all_scalar, Nat.mul_one, Nat.zero_add, Nat.add_zero, Int.toNat_natCast, List.length_cons, List.length_nil]; first | (exact hK1 _ _ _) | ((first | apply call_a E109 | apply call_q E109); exact (ins_calls _ fl hf' _ _); exact hK1 _ _ _) | ((first | apply call_a E57 | apply call_q E57); exact (outs_calls _ fl hf' _ _); exact hK1 _ _ _) | ((first | apply call_a E82 | apply call_q E82); exact (step_nil_at ok ⟨c, 0, 0, 0, 0, S⟩ _ _ hi ho _); exact hK1 _ _ _)))) | (refine arun_tail rfl rfl rfl ?_) | ((first | refine arun_allocj (z := ?_) 0 rfl rfl rfl rfl (by decide) rfl ?_ ?_ | refine arun_allocj (z := ?_) 1 rfl rfl rfl rfl (by decide) rfl ?_ ?_ | refine arun_allocj (z := ?_) 2 rfl rfl rfl rfl (by decide) rfl ?_ ?_); rotate_left; (focus (simp only [S1, simprocAttr, TTTmJ, e1, e2, e3, e4, e5, e6, e7, e8, hil, c0, hc', eN, takeA_sl0, gmC_net, TSz, z49_ne, z49_map, zS_len, takeA_arr, takeA_st, List.length_map, List.length_take, List.length_drop, pg_len, pg_get0, pg_geti, pg_set0, pg_seti, pg_b hb hne, pg_lb hl, pg_b0 hb hne, pg_lb0 hl, gmB, spB, gl, all_scalar, Nat.mul_one, Nat.zero_add, Nat.add_zero, Int.toNat_natCast, List.length_cons, List.length_nil, zeroB]; rfl))) | (refine awp_seq_k fun K hK => ?_) | (refine awp_drawQ [0, 1, 2, 3, 4, 5, 6, 7, 8, 9, 10, 11, 12, 13] (fs := []) rfl rfl (by kernel_rfl) (by kernel_rfl) ?_) | ((first | refine awp_region ?_ | refine awp_draw (by kernel_rfl) ?_ | refine awp_block ?_ | refine awp_exit ?_ | refine awp_skip ?_ | refine awp_ret ?_); (try simp only [NB, simprocAttr])))
  all_goals simp only [EndH, FinH, resA, resL, resA1, lastV, lastA, lastAs, pur, purs, pg_len, pg_take, pg_take0, List.length_append, List.length_cons, List.length_nil, S1, simprocAttr, Nat.le_add_right, Nat.le_refl] <;> first | exact pg_keep' hl | exact ⟨pg_keep' hl, rfl⟩ | exact ⟨pg_keep' hl, rfl, rfl⟩

theorem tnode_8 (nk : NetOk ns fl) (rt : Right ns fl) (ok : GmOk h b lb S l) (st : StOk S) (few : l.length ≤ 900000) (c : Nat) {k : Nd} (hc : ns[c]? = some k) (hk : k.kind = 8) (m : Nat) (hm : m < 40) (hin : insN fl c = [(m : Int)]) (h0 : tk S (m : Int) ≠ 0) :
    ACalls Tryz.prog gW 80 [.ptr b 0 0, .i c] (putG h b lb ns fl S l) (fun r h' => r = .undef ∧ h' = putG h b lb ns fl S (l ++ nodeG ns fl S c k)) := by
  have hb := ok.hb
  have hl := ok.hl
  have hne := ok.ne
  have hS := ok.held.1
  have gl := gmC_len (ns := ns) (fl := fl) (lb := lb) (n := l.length) hS
  have gv := gmC_vars (ns := ns) (fl := fl) (lb := lb) (n := l.length) hS
  have t49 := gmC_state (ns := ns) (fl := fl) (lb := lb) (n := l.length) hS
  have c0 : (0 : Int) ≤ (c : Int) := by omega
  have hc' := rowN hc
  have hf := rt.f
  have hf' : fl.length ≤ 100 := by omega
  have hkd := rt.kind hc
  have hi := InF_ins hf c
  have ho := InF_outs hf c
  obtain ⟨hv, v0, v3⟩ := ok.held.at hm
  have gk := gmC_at (ns := ns) (fl := fl) (lb := lb) (n := l.length) hv
  have f0 : (0 : Int) ≤ (m : Int) := by omega
  have f40 : (m : Int) < 40 := by omega
  have hz' : (tk S (m : Int) == 0) = false := by simp [h0]
  have hil : (((insN fl c).length : Int) == 1) = true := by rw [hin]; rfl
  have hi0 : (insN fl c)[0]? = some (m : Int) := by rw [hin]; rfl
  have hei : eI (m : Int) = [.int .i64 (m : Int)] := rfl
  have hin0 : (0 : Int) ≤ 0 := Int.le_refl 0
  have e2 : (k.kind == 2) = false := by simp [hk]
  have e3 : (k.kind == 3) = false := by simp [hk]
  have e4 : (k.kind == 4) = false := by simp [hk]
  have e5 : (k.kind == 5) = false := by simp [hk]
  have e6 : (k.kind == 6) = false := by simp [hk]
  have e7 : (k.kind == 7) = false := by simp [hk]
  have e8 : (k.kind == 8) = true := by simp [hk]
  have e1 : (k.kind != 1) = true := by simp [hk]
  have eg : nodeG ns fl S c k = catchG ns fl S c 0 c (insN fl c) := by unfold nodeG; rw [if_neg (by omega), if_neg (by omega), if_neg (by omega), if_neg (by omega), if_neg (by omega), if_pos hk]
  rw [eg]
  refine acalls_heap (rl := []) mixed Tryz.func80 rfl (rs := []) rfl Tryz.ntmps80 (by simp) ?_
  repeat' (first | ((first | refine aops_nil ?_ | refine aqops_nil ?_ | refine arun_nil ?_ | refine arunT_nil ?_); (try simp only [NB])) | ((repeat ((fail_if_success (refine hK _ ?_)); clear hK K)); refine hK _ ?_; clear hK K) | ((first | refine aops_k fun K1 hK1 => ?_ | refine aqops_k fun K1 hK1 => ?_ | refine arun_eff rfl rfl rfl fun K1 hK1 => ?_ | refine awp_cond_k fun A B hA hB => ?_); simp only [S1, simprocAttr, TTTmJ, e1, e2, e3, e4, e5, e6, e7, e8, hil, hi0, hei, hin0, f0, f40, gk, hz', c0, hc', eN, takeA_sl0, gmC_net, TSz, z49_ne, z49_map, zS_len, takeA_arr, takeA_st, List.length_map, List.length_take, List.length_drop, pg_len, pg_get0, pg_geti, pg_set0, pg_seti, pg_b hb hne, pg_lb hl, pg_b0 hb hne, pg_lb0 hl, gmB, spB, gl, all_scalar, Nat.mul_one, Nat.zero_add, Nat.add_zero, Int.toNat_natCast, List.length_cons, List.length_nil]; first | (refine hK1 _ ?_; clear hK1 K1) | ((first | refine hA ?_ | refine hB ?_); clear hA hB A B) | ((first | apply call_a E109 | apply call_q E109); exact (ins_calls _ fl hf' _ _); (refine hK1 _ ?_; clear hK1 K1)) | ((first | apply call_a E57 | apply call_q E57); exact (outs_calls _ fl hf' _ _); (refine hK1 _ ?_; clear hK1 K1)) | ((first | apply call_a E115 | apply call_q E115); exact (tcatch_at ok st ⟨c, 0, 0, 0, 0, S⟩ c hc ⟨hkd.2.1, hkd.2.2.2⟩ _ hi _ ho rfl _); (refine hK1 _ ?_; clear hK1 K1)) | (refine join_x (v := ?_) (fun hg hk9 => ?_) ?_; rotate_left; (focus (try ((try simp only [BN] at hg); simp only [S1, simprocAttr, TTTmJ, e1, e2, e3, e4, e5, e6, e7, e8, hil, hi0, hei, hin0, f0, f40, gk, hz', c0, hc', eN, takeA_sl0, gmC_net, TSz, z49_ne, z49_map, zS_len, takeA_arr, takeA_st, List.length_map, List.length_take, List.length_drop, pg_len, pg_get0, pg_geti, pg_set0, pg_seti, pg_b hb hne, pg_lb hl, pg_b0 hb hne, pg_lb0 hl, gmB, spB, gl, all_scalar, Nat.mul_one, Nat.zero_add, Nat.add_zero, Int.toNat_natCast, List.length_cons, List.length_nil, hg] at hk9 ⊢)); first | exact hk9 | ((first | apply call_a E109 | apply call_q E109); exact (ins_calls _ fl hf' _ _); exact hk9) | ((first | apply call_a E57 | apply call_q E57); exact (outs_calls _ fl hf' _ _); exact hk9) | ((first | apply call_a E115 | apply call_q E115); exact (tcatch_at ok st ⟨c, 0, 0, 0, 0, S⟩ c hc ⟨hkd.2.1, hkd.2.2.2⟩ _ hi _ ho rfl _); exact hk9)); (refine hK1 _ ?_; clear hK1 K1)) | (((first | (refine ⟨fun hg => hA ?_, fun hg => hB ?_⟩ <;> clear hA hB A B) | refine ⟨fun hg => ?_, fun hg => ?_⟩) <;> (try simp only [BN2] at hg) <;> (try simp only [hg, cond_true, cond_false])) <;> (try (refine hK1 _ ?_; clear hK1 K1)) <;> (try simp only [BN3] at hg))) | ((first | refine arun_q (v := ?_) rfl rfl rfl rfl (by decide) (fun R1 K1 hK1 => ?_) ?_ | refine arun_f (v := ?_) rfl rfl rfl (by decide) (fun K1 hK1 => ?_) ?_ | refine arunT_f (v := ?_) rfl rfl rfl (by decide) (fun K1 hK1 => ?_) ?_); rotate_left; (focus (simp only [S1, simprocAttr, TTTmJ, e1, e2, e3, e4, e5, e6, e7, e8, hil, hi0, hei, hin0, f0, f40, gk, hz', c0, hc', eN, takeA_sl0, gmC_net, TSz, z49_ne, z49_map, zS_len, takeA_arr, takeA_st, List.length_map, List.length_take, List.length_drop, pg_len, pg_get0, pg_geti, pg_set0, pg_seti, pg_b hb hne, pg_lb hl, pg_b0 hb hne, pg_lb0 hl, gmB, spB, gl, all_scalar, Nat.mul_one, Nat.zero_add, Nat.add_zero, Int.toNat_natCast, List.length_cons, List.length_nil]; first | (exact hK1 _ _ _) | ((first | apply call_a E109 | apply call_q E109); exact (ins_calls _ fl hf' _ _); exact hK1 _ _ _) | ((first | apply call_a E57 | apply call_q E57); exact (outs_calls _ fl hf' _ _); exact hK1 _ _ _) | ((first | apply call_a E115 | apply call_q E115); exact (tcatch_at ok st ⟨c, 0, 0, 0, 0, S⟩ c hc ⟨hkd.2.1, hkd.2.2.2⟩ _ hi _ ho rfl _); exact hK1 _ _ _)))) | (refine arun_tail rfl rfl rfl ?_) | ((first | refine arun_allocj (z := ?_) 0 rfl rfl rfl rfl (by decide) rfl ?_ ?_ | refine arun_allocj (z := ?_) 1 rfl rfl rfl rfl (by decide) rfl ?_ ?_ | refine arun_allocj (z := ?_) 2 rfl rfl rfl rfl (by decide) rfl ?_ ?_); rotate_left; (focus (simp only [S1, simprocAttr, TTTmJ, e1, e2, e3, e4, e5, e6, e7, e8, hil, hi0, hei, hin0, f0, f40, gk, hz', c0, hc', eN, takeA_sl0, gmC_net, TSz, z49_ne, z49_map, zS_len, takeA_arr, takeA_st, List.length_map, List.length_take, List.length_drop, pg_len, pg_get0, pg_geti, pg_set0, pg_seti, pg_b hb hne, pg_lb hl, pg_b0 hb hne, pg_lb0 hl, gmB, spB, gl, all_scalar, Nat.mul_one, Nat.zero_add, Nat.add_zero, Int.toNat_natCast, List.length_cons, List.length_nil, zeroB]; rfl))) | (refine awp_seq_k fun K hK => ?_) | (refine awp_drawQ [0, 1, 2, 3, 4, 5, 6, 7, 8, 9, 10, 11, 12, 13] (fs := []) rfl rfl (by kernel_rfl) (by kernel_rfl) ?_) | ((first | refine awp_region ?_ | refine awp_draw (by kernel_rfl) ?_ | refine awp_block ?_ | refine awp_exit ?_ | refine awp_skip ?_ | refine awp_ret ?_); (try simp only [NB, simprocAttr])))
  all_goals simp only [EndH, FinH, resA, resL, resA1, lastV, lastA, lastAs, pur, purs, pg_len, pg_take, pg_take0, List.length_append, List.length_cons, List.length_nil, S1, simprocAttr, Nat.le_add_right, Nat.le_refl] <;> first | exact pg_keep' hl | exact ⟨pg_keep' hl, rfl⟩ | exact ⟨pg_keep' hl, rfl, rfl⟩
end
end Go.Proofs.YtbbmfemplmelhaaGreatDoor.AM
end

section
set_option linter.unusedVariables false
set_option linter.unusedSimpArgs false
set_option maxRecDepth 4000
set_option maxHeartbeats 4000000
namespace Go.Proofs.YtbbmfemplmelhaaGreatDoor.AM
open Go Go.Proofs
set_option linter.defProp false in
def TTTmK := And.intro T2 (And.intro T3 (And.intro T4 (And.intro T22 (And.intro T23 (And.intro T25 (And.intro T28 (And.intro T31 (And.intro T41 (And.intro T57 (And.intro T58 (And.intro T75 (And.intro T77 (And.intro T80 (And.intro T92 (And.intro T118 (And.intro T121 (And.intro T142 (And.intro T144 (And.intro T146 T147)))))))))))))))))))
attribute [local irreducible] awp aops aqops aeops arun arunT

section
variable {h : Heap} {b lb : Nat} {ns : List Nd} {fl : List Fl} {S : List Int} {l : List Sp}

theorem tnode_2 (nk : NetOk ns fl) (rt : Right ns fl) (ok : GmOk h b lb S l) (st : StOk S) (few : l.length ≤ 900000) (c : Nat) {k : Nd} (hc : ns[c]? = some k) (hk : k.kind = 2) (m : Nat) (hm : m < 40) (hin : insN fl c = [(m : Int)]) (h0 : tk S (m : Int) ≠ 0) :
    ACalls Tryz.prog gW 80 [.ptr b 0 0, .i c] (putG h b lb ns fl S l) (fun r h' => r = .undef ∧ h' = putG h b lb ns fl S (l ++ nodeG ns fl S c k)) := by
  have hb := ok.hb
  have hl := ok.hl
  have hne := ok.ne
  have hS := ok.held.1
  have gl := gmC_len (ns := ns) (fl := fl) (lb := lb) (n := l.length) hS
  have gv := gmC_vars (ns := ns) (fl := fl) (lb := lb) (n := l.length) hS
  have t49 := gmC_state (ns := ns) (fl := fl) (lb := lb) (n := l.length) hS
  have c0 : (0 : Int) ≤ (c : Int) := by omega
  have hc' := rowN hc
  have hf := rt.f
  have hf' : fl.length ≤ 100 := by omega
  have hkd := rt.kind hc
  have hi := InF_ins hf c
  have ho := InF_outs hf c
  obtain ⟨hv, v0, v3⟩ := ok.held.at hm
  have gk := gmC_at (ns := ns) (fl := fl) (lb := lb) (n := l.length) hv
  have f0 : (0 : Int) ≤ (m : Int) := by omega
  have f40 : (m : Int) < 40 := by omega
  have hz' : (tk S (m : Int) == 0) = false := by simp [h0]
  have hil : (((insN fl c).length : Int) == 1) = true := by rw [hin]; rfl
  have hi0 : (insN fl c)[0]? = some (m : Int) := by rw [hin]; rfl
  have hei : eI (m : Int) = [.int .i64 (m : Int)] := rfl
  have hin0 : (0 : Int) ≤ 0 := Int.le_refl 0
  have e2 : (k.kind == 2) = true := by simp [hk]
  have e3 : (k.kind == 3) = false := by simp [hk]
  have e4 : (k.kind == 4) = false := by simp [hk]
  have e5 : (k.kind == 5) = false := by simp [hk]
  have e6 : (k.kind == 6) = false := by simp [hk]
  have e7 : (k.kind == 7) = false := by simp [hk]
  have e8 : (k.kind == 8) = false := by simp [hk]
  have e1 : (k.kind != 1) = true := by simp [hk]
  have hw9 := fun h => tTokens_calls (G := gW) S hS h
  by_cases hw : sumW (S.take 40) = 1
  · have eg : nodeG ns fl S c k = moveG S ⟨c, 0, 7, 0, 0, S.set 48 1⟩ (insN fl c) [] := by unfold nodeG lastG; rw [if_pos hk, if_pos hw]
    have hw' : (sumW (S.take 40) == 1) = true := by simp [hw]
    have es := stF_move hS (m := ⟨c, 0, 7, 0, 0, S⟩) (Chg.set hS (k := 48) (by omega) 1) hi (to := []) ⟨by simp, by simp⟩
    simp only at es
    rw [eg, ← es]
    have hst := fun X Y => step_fn_n (ns := ns) (fl := fl) ok ⟨c, 0, 7, 0, 0, S⟩ (insN fl c) hi [X, Y] E117 (caps := []) trivial (fun T hT => by rw [List.length_set, hT]) (fun A T hT _ => setm_at X Y A T hT)
    refine acalls_heap (rl := []) mixed Tryz.func80 rfl (rs := []) rfl Tryz.ntmps80 (by simp) ?_
    repeat' (first | ((first | refine aops_nil ?_ | refine aqops_nil ?_ | refine arun_nil ?_ | refine arunT_nil ?_); (try simp only [NB])) | ((repeat ((fail_if_success (refine hK _ ?_)); clear hK K)); refine hK _ ?_; clear hK K) | ((first | refine aops_k fun K1 hK1 => ?_ | refine aqops_k fun K1 hK1 => ?_ | refine arun_eff rfl rfl rfl fun K1 hK1 => ?_ | refine awp_cond_k fun A B hA hB => ?_); simp only [S1, simprocAttr, TTTmK, e1, e2, e3, e4, e5, e6, e7, e8, hil, hi0, hei, hin0, f0, f40, gk, hz', hw', t49, c0, hc', eN, takeA_sl0, gmC_net, TSz, z49_ne, z49_map, zS_len, takeA_arr, takeA_st, List.length_map, List.length_take, List.length_drop, pg_len, pg_get0, pg_geti, pg_set0, pg_seti, pg_b hb hne, pg_lb hl, pg_b0 hb hne, pg_lb0 hl, gmB, spB, gl, all_scalar, Nat.mul_one, Nat.zero_add, Nat.add_zero, Int.toNat_natCast, List.length_cons, List.length_nil]; first | (refine hK1 _ ?_; clear hK1 K1) | ((first | refine hA ?_ | refine hB ?_); clear hA hB A B) | ((first | apply call_a E109 | apply call_q E109); exact (ins_calls _ fl hf' _ _); (refine hK1 _ ?_; clear hK1 K1)) | ((first | apply call_a E57 | apply call_q E57); exact (outs_calls _ fl hf' _ _); (refine hK1 _ ?_; clear hK1 K1)) | ((first | apply call_a E116 | apply call_q E116); exact (hw9 _); (refine hK1 _ ?_; clear hK1 K1)) | ((first | apply call_a E82 | apply call_q E82); exact (hst _ _); (refine hK1 _ ?_; clear hK1 K1)) | (refine join_x (v := ?_) (fun hg hk9 => ?_) ?_; rotate_left; (focus (try ((try simp only [BN] at hg); simp only [S1, simprocAttr, TTTmK, e1, e2, e3, e4, e5, e6, e7, e8, hil, hi0, hei, hin0, f0, f40, gk, hz', hw', t49, c0, hc', eN, takeA_sl0, gmC_net, TSz, z49_ne, z49_map, zS_len, takeA_arr, takeA_st, List.length_map, List.length_take, List.length_drop, pg_len, pg_get0, pg_geti, pg_set0, pg_seti, pg_b hb hne, pg_lb hl, pg_b0 hb hne, pg_lb0 hl, gmB, spB, gl, all_scalar, Nat.mul_one, Nat.zero_add, Nat.add_zero, Int.toNat_natCast, List.length_cons, List.length_nil, hg] at hk9 ⊢)); first | exact hk9 | ((first | apply call_a E109 | apply call_q E109); exact (ins_calls _ fl hf' _ _); exact hk9) | ((first | apply call_a E57 | apply call_q E57); exact (outs_calls _ fl hf' _ _); exact hk9) | ((first | apply call_a E116 | apply call_q E116); exact (hw9 _); exact hk9) | ((first | apply call_a E82 | apply call_q E82); exact (hst _ _); exact hk9)); (refine hK1 _ ?_; clear hK1 K1)) | (((first | (refine ⟨fun hg => hA ?_, fun hg => hB ?_⟩ <;> clear hA hB A B) | refine ⟨fun hg => ?_, fun hg => ?_⟩) <;> (try simp only [BN2] at hg) <;> (try simp only [hg, cond_true, cond_false])) <;> (try (refine hK1 _ ?_; clear hK1 K1)) <;> (try simp only [BN3] at hg))) | ((first | refine arun_q (v := ?_) rfl rfl rfl rfl (by decide) (fun R1 K1 hK1 => ?_) ?_ | refine arun_f (v := ?_) rfl rfl rfl (by decide) (fun K1 hK1 => ?_) ?_ | refine arunT_f (v := ?_) rfl rfl rfl (by decide) (fun K1 hK1 => ?_) ?_); rotate_left; (focus (simp only [S1, simprocAttr, TTTmK, e1, e2, e3, e4, e5, e6, e7, e8, hil, hi0, hei, hin0, f0, f40, gk, hz', hw', t49, c0, hc', eN, takeA_sl0, gmC_net, TSz, z49_ne, z49_map, zS_len, takeA_arr, takeA_st, List.length_map, List.length_take, List.length_drop, pg_len, pg_get0, pg_geti, pg_set0, pg_seti, pg_b hb hne, pg_lb hl, pg_b0 hb hne, pg_lb0 hl, gmB, spB, gl, all_scalar, Nat.mul_one, Nat.zero_add, Nat.add_zero, Int.toNat_natCast, List.length_cons, List.length_nil]; first | (exact hK1 _ _ _) | ((first | apply call_a E109 | apply call_q E109); exact (ins_calls _ fl hf' _ _); exact hK1 _ _ _) | ((first | apply call_a E57 | apply call_q E57); exact (outs_calls _ fl hf' _ _); exact hK1 _ _ _) | ((first | apply call_a E116 | apply call_q E116); exact (hw9 _); exact hK1 _ _ _) | ((first | apply call_a E82 | apply call_q E82); exact (hst _ _); exact hK1 _ _ _)))) | (refine arun_tail rfl rfl rfl ?_) | ((first | refine arun_allocj (z := ?_) 0 rfl rfl rfl rfl (by decide) rfl ?_ ?_ | refine arun_allocj (z := ?_) 1 rfl rfl rfl rfl (by decide) rfl ?_ ?_ | refine arun_allocj (z := ?_) 2 rfl rfl rfl rfl (by decide) rfl ?_ ?_); rotate_left; (focus (simp only [S1, simprocAttr, TTTmK, e1, e2, e3, e4, e5, e6, e7, e8, hil, hi0, hei, hin0, f0, f40, gk, hz', hw', t49, c0, hc', eN, takeA_sl0, gmC_net, TSz, z49_ne, z49_map, zS_len, takeA_arr, takeA_st, List.length_map, List.length_take, List.length_drop, pg_len, pg_get0, pg_geti, pg_set0, pg_seti, pg_b hb hne, pg_lb hl, pg_b0 hb hne, pg_lb0 hl, gmB, spB, gl, all_scalar, Nat.mul_one, Nat.zero_add, Nat.add_zero, Int.toNat_natCast, List.length_cons, List.length_nil, zeroB]; rfl))) | (refine awp_seq_k fun K hK => ?_) | (refine awp_drawQ [0, 1, 2, 3, 4, 5, 6, 7, 8, 9, 10, 11, 12, 13] (fs := []) rfl rfl (by kernel_rfl) (by kernel_rfl) ?_) | ((first | refine awp_region ?_ | refine awp_draw (by kernel_rfl) ?_ | refine awp_block ?_ | refine awp_exit ?_ | refine awp_skip ?_ | refine awp_ret ?_); (try simp only [NB, simprocAttr])))
    all_goals simp only [EndH, FinH, resA, resL, resA1, lastV, lastA, lastAs, pur, purs, pg_len, pg_take, pg_take0, List.length_append, List.length_cons, List.length_nil, S1, simprocAttr, Nat.le_add_right, Nat.le_refl] <;> first | exact pg_keep' hl | exact ⟨pg_keep' hl, rfl⟩ | exact ⟨pg_keep' hl, rfl, rfl⟩
  · have eg : nodeG ns fl S c k = moveG S ⟨c, 0, 0, 0, 0, S⟩ (insN fl c) [] := by unfold nodeG lastG; rw [if_pos hk, if_neg hw]
    have hw' : (sumW (S.take 40) == 1) = false := by simp [hw]
    have es := stF_move hS (m := ⟨c, 0, 0, 0, 0, S⟩) (Chg.id hS) hi (to := []) ⟨by simp, by simp⟩
    simp only at es
    rw [eg, ← es]
    refine acalls_heap (rl := []) mixed Tryz.func80 rfl (rs := []) rfl Tryz.ntmps80 (by simp) ?_
    repeat' (first | ((first | refine aops_nil ?_ | refine aqops_nil ?_ | refine arun_nil ?_ | refine arunT_nil ?_); (try simp only [NB])) | ((repeat ((fail_if_success (refine hK _ ?_)); clear hK K)); refine hK _ ?_; clear hK K) | ((first | refine aops_k fun K1 hK1 => ?_ | refine aqops_k fun K1 hK1 => ?_ | refine arun_eff rfl rfl rfl fun K1 hK1 => ?_ | refine awp_cond_k fun A B hA hB => ?_); simp only [S1, simprocAttr, TTTmK, e1, e2, e3, e4, e5, e6, e7, e8, hil, hi0, hei, hin0, f0, f40, gk, hz', hw', t49, c0, hc', eN, takeA_sl0, gmC_net, TSz, z49_ne, z49_map, zS_len, takeA_arr, takeA_st, List.length_map, List.length_take, List.length_drop, pg_len, pg_get0, pg_geti, pg_set0, pg_seti, pg_b hb hne, pg_lb hl, pg_b0 hb hne, pg_lb0 hl, gmB, spB, gl, all_scalar, Nat.mul_one, Nat.zero_add, Nat.add_zero, Int.toNat_natCast, List.length_cons, List.length_nil]; first | (refine hK1 _ ?_; clear hK1 K1) | ((first | refine hA ?_ | refine hB ?_); clear hA hB A B) | ((first | apply call_a E109 | apply call_q E109); exact (ins_calls _ fl hf' _ _); (refine hK1 _ ?_; clear hK1 K1)) | ((first | apply call_a E57 | apply call_q E57); exact (outs_calls _ fl hf' _ _); (refine hK1 _ ?_; clear hK1 K1)) | ((first | apply call_a E116 | apply call_q E116); exact (hw9 _); (refine hK1 _ ?_; clear hK1 K1)) | ((first | apply call_a E82 | apply call_q E82); exact (step_nil_n ok ⟨c, 0, 0, 0, 0, S⟩ _ hi _); (refine hK1 _ ?_; clear hK1 K1)) | (refine join_x (v := ?_) (fun hg hk9 => ?_) ?_; rotate_left; (focus (try ((try simp only [BN] at hg); simp only [S1, simprocAttr, TTTmK, e1, e2, e3, e4, e5, e6, e7, e8, hil, hi0, hei, hin0, f0, f40, gk, hz', hw', t49, c0, hc', eN, takeA_sl0, gmC_net, TSz, z49_ne, z49_map, zS_len, takeA_arr, takeA_st, List.length_map, List.length_take, List.length_drop, pg_len, pg_get0, pg_geti, pg_set0, pg_seti, pg_b hb hne, pg_lb hl, pg_b0 hb hne, pg_lb0 hl, gmB, spB, gl, all_scalar, Nat.mul_one, Nat.zero_add, Nat.add_zero, Int.toNat_natCast, List.length_cons, List.length_nil, hg] at hk9 ⊢)); first | exact hk9 | ((first | apply call_a E109 | apply call_q E109); exact (ins_calls _ fl hf' _ _); exact hk9) | ((first | apply call_a E57 | apply call_q E57); exact (outs_calls _ fl hf' _ _); exact hk9) | ((first | apply call_a E116 | apply call_q E116); exact (hw9 _); exact hk9) | ((first | apply call_a E82 | apply call_q E82); exact (step_nil_n ok ⟨c, 0, 0, 0, 0, S⟩ _ hi _); exact hk9)); (refine hK1 _ ?_; clear hK1 K1)) | (((first | (refine ⟨fun hg => hA ?_, fun hg => hB ?_⟩ <;> clear hA hB A B) | refine ⟨fun hg => ?_, fun hg => ?_⟩) <;> (try simp only [BN2] at hg) <;> (try simp only [hg, cond_true, cond_false])) <;> (try (refine hK1 _ ?_; clear hK1 K1)) <;> (try simp only [BN3] at hg))) | ((first | refine arun_q (v := ?_) rfl rfl rfl rfl (by decide) (fun R1 K1 hK1 => ?_) ?_ | refine arun_f (v := ?_) rfl rfl rfl (by decide) (fun K1 hK1 => ?_) ?_ | refine arunT_f (v := ?_) rfl rfl rfl (by decide) (fun K1 hK1 => ?_) ?_); rotate_left; (focus (simp only [S1, simprocAttr, TTTmK, e1, e2, e3, e4, e5, e6, e7, e8, hil, hi0, hei, hin0, f0, f40, gk, hz', hw', t49, c0, hc', eN, takeA_sl0, gmC_net, TSz, z49_ne, z49_map, zS_len, takeA_arr, takeA_st, List.length_map, List.length_take, List.length_drop, pg_len, pg_get0, pg_geti, pg_set0, pg_seti, pg_b hb hne, pg_lb hl, pg_b0 hb hne, pg_lb0 hl, gmB, spB, gl, all_scalar, Nat.mul_one, Nat.zero_add, Nat.add_zero, Int.toNat_natCast, List.length_cons, List.length_nil]; first | (exact hK1 _ _ _) | ((first | apply call_a E109 | apply call_q E109); exact (ins_calls _ fl hf' _ _); exact hK1 _ _ _) | ((first | apply call_a E57 | apply call_q E57); exact (outs_calls _ fl hf' _ _); exact hK1 _ _ _) | ((first | apply call_a E116 | apply call_q E116); exact (hw9 _); exact hK1 _ _ _) | ((first | apply call_a E82 | apply call_q E82); exact (step_nil_n ok ⟨c, 0, 0, 0, 0, S⟩ _ hi _); exact hK1 _ _ _)))) | (refine arun_tail rfl rfl rfl ?_) | ((first | refine arun_allocj (z := ?_) 0 rfl rfl rfl rfl (by decide) rfl ?_ ?_ | refine arun_allocj (z := ?_) 1 rfl rfl rfl rfl (by decide) rfl ?_ ?_ | refine arun_allocj (z := ?_) 2 rfl rfl rfl rfl (by decide) rfl ?_ ?_); rotate_left; (focus (simp only [S1, simprocAttr, TTTmK, e1, e2, e3, e4, e5, e6, e7, e8, hil, hi0, hei, hin0, f0, f40, gk, hz', hw', t49, c0, hc', eN, takeA_sl0, gmC_net, TSz, z49_ne, z49_map, zS_len, takeA_arr, takeA_st, List.length_map, List.length_take, List.length_drop, pg_len, pg_get0, pg_geti, pg_set0, pg_seti, pg_b hb hne, pg_lb hl, pg_b0 hb hne, pg_lb0 hl, gmB, spB, gl, all_scalar, Nat.mul_one, Nat.zero_add, Nat.add_zero, Int.toNat_natCast, List.length_cons, List.length_nil, zeroB]; rfl))) | (refine awp_seq_k fun K hK => ?_) | (refine awp_drawQ [0, 1, 2, 3, 4, 5, 6, 7, 8, 9, 10, 11, 12, 13] (fs := []) rfl rfl (by kernel_rfl) (by kernel_rfl) ?_) | ((first | refine awp_region ?_ | refine awp_draw (by kernel_rfl) ?_ | refine awp_block ?_ | refine awp_exit ?_ | refine awp_skip ?_ | refine awp_ret ?_); (try simp only [NB, simprocAttr])))
    all_goals simp only [EndH, FinH, resA, resL, resA1, lastV, lastA, lastAs, pur, purs, pg_len, pg_take, pg_take0, List.length_append, List.length_cons, List.length_nil, S1, simprocAttr, Nat.le_add_right, Nat.le_refl] <;> first | exact pg_keep' hl | exact ⟨pg_keep' hl, rfl⟩ | exact ⟨pg_keep' hl, rfl, rfl⟩

theorem tnode_1 (nk : NetOk ns fl) (rt : Right ns fl) (ok : GmOk h b lb S l) (st : StOk S) (few : l.length ≤ 900000) (c : Nat) {k : Nd} (hc : ns[c]? = some k) (hk : k.kind = 1) :
    ACalls Tryz.prog gW 80 [.ptr b 0 0, .i c] (putG h b lb ns fl S l) (fun r h' => r = .undef ∧ h' = putG h b lb ns fl S (l ++ nodeG ns fl S c k)) := by
  have hb := ok.hb
  have hl := ok.hl
  have hne := ok.ne
  have hS := ok.held.1
  have gl := gmC_len (ns := ns) (fl := fl) (lb := lb) (n := l.length) hS
  have gv := gmC_vars (ns := ns) (fl := fl) (lb := lb) (n := l.length) hS
  have t49 := gmC_state (ns := ns) (fl := fl) (lb := lb) (n := l.length) hS
  have c0 : (0 : Int) ≤ (c : Int) := by omega
  have hc' := rowN hc
  have hf := rt.f
  have hf' : fl.length ≤ 100 := by omega
  have hkd := rt.kind hc
  have hi := InF_ins hf c
  have ho := InF_outs hf c
  have e2 : (k.kind == 2) = false := by simp [hk]
  have e3 : (k.kind == 3) = false := by simp [hk]
  have e4 : (k.kind == 4) = false := by simp [hk]
  have e5 : (k.kind == 5) = false := by simp [hk]
  have e6 : (k.kind == 6) = false := by simp [hk]
  have e7 : (k.kind == 7) = false := by simp [hk]
  have e8 : (k.kind == 8) = false := by simp [hk]
  have e1 : (k.kind != 1) = false := by simp [hk]
  have eg : nodeG ns fl S c k = [] := by unfold nodeG; rw [if_neg (by omega), if_neg (by omega), if_neg (by omega), if_neg (by omega), if_neg (by omega), if_neg (by omega)]
  rw [eg, List.append_nil]
  refine acalls_heap (rl := []) mixed Tryz.func80 rfl (rs := []) rfl Tryz.ntmps80 (by simp) ?_
  repeat' (first | ((first | refine aops_nil ?_ | refine aqops_nil ?_ | refine arun_nil ?_ | refine arunT_nil ?_); (try simp only [NB])) | ((repeat ((fail_if_success (refine hK _ ?_)); clear hK K)); refine hK _ ?_; clear hK K) | ((first | refine aops_k fun K1 hK1 => ?_ | refine aqops_k fun K1 hK1 => ?_ | refine arun_eff rfl rfl rfl fun K1 hK1 => ?_ | refine awp_cond_k fun A B hA hB => ?_); simp only [S1, simprocAttr, TTTmK, e1, e2, e3, e4, e5, e6, e7, e8, c0, hc', eN, takeA_sl0, gmC_net, TSz, z49_ne, z49_map, zS_len, takeA_arr, takeA_st, List.length_map, List.length_take, List.length_drop, pg_len, pg_get0, pg_geti, pg_set0, pg_seti, pg_b hb hne, pg_lb hl, pg_b0 hb hne, pg_lb0 hl, gmB, spB, gl, all_scalar, Nat.mul_one, Nat.zero_add, Nat.add_zero, Int.toNat_natCast, List.length_cons, List.length_nil]; first | (refine hK1 _ ?_; clear hK1 K1) | ((first | refine hA ?_ | refine hB ?_); clear hA hB A B) | ((first | apply call_a E109 | apply call_q E109); exact (ins_calls _ fl hf' _ _); (refine hK1 _ ?_; clear hK1 K1)) | ((first | apply call_a E57 | apply call_q E57); exact (outs_calls _ fl hf' _ _); (refine hK1 _ ?_; clear hK1 K1)) | (refine join_x (v := ?_) (fun hg hk9 => ?_) ?_; rotate_left; (focus (try ((try simp only [BN] at hg); simp only [S1, simprocAttr, TTTmK, e1, e2, e3, e4, e5, e6, e7, e8, c0, hc', eN, takeA_sl0, gmC_net, TSz, z49_ne, z49_map, zS_len, takeA_arr, takeA_st, List.length_map, List.length_take, List.length_drop, pg_len, pg_get0, pg_geti, pg_set0, pg_seti, pg_b hb hne, pg_lb hl, pg_b0 hb hne, pg_lb0 hl, gmB, spB, gl, all_scalar, Nat.mul_one, Nat.zero_add, Nat.add_zero, Int.toNat_natCast, List.length_cons, List.length_nil, hg] at hk9 ⊢)); first | exact hk9 | ((first | apply call_a E109 | apply call_q E109); exact (ins_calls _ fl hf' _ _); exact hk9) | ((first | apply call_a E57 | apply call_q E57); exact (outs_calls _ fl hf' _ _); exact hk9)); (refine hK1 _ ?_; clear hK1 K1)) | (((first | (refine ⟨fun hg => hA ?_, fun hg => hB ?_⟩ <;> clear hA hB A B) | refine ⟨fun hg => ?_, fun hg => ?_⟩) <;> (try simp only [BN2] at hg) <;> (try simp only [hg, cond_true, cond_false])) <;> (try (refine hK1 _ ?_; clear hK1 K1)) <;> (try simp only [BN3] at hg))) | ((first | refine arun_q (v := ?_) rfl rfl rfl rfl (by decide) (fun R1 K1 hK1 => ?_) ?_ | refine arun_f (v := ?_) rfl rfl rfl (by decide) (fun K1 hK1 => ?_) ?_ | refine arunT_f (v := ?_) rfl rfl rfl (by decide) (fun K1 hK1 => ?_) ?_); rotate_left; (focus (simp only [S1, simprocAttr, TTTmK, e1, e2, e3, e4, e5, e6, e7, e8, c0, hc', eN, takeA_sl0, gmC_net, TSz, z49_ne, z49_map, zS_len, takeA_arr, takeA_st, List.length_map, List.length_take, List.length_drop, pg_len, pg_get0, pg_geti, pg_set0, pg_seti, pg_b hb hne, pg_lb hl, pg_b0 hb hne, pg_lb0 hl, gmB, spB, gl, all_scalar, Nat.mul_one, Nat.zero_add, Nat.add_zero, Int.toNat_natCast, List.length_cons, List.length_nil]; first | (exact hK1 _ _ _) | ((first | apply call_a E109 | apply call_q E109); exact (ins_calls _ fl hf' _ _); exact hK1 _ _ _) | ((first | apply call_a E57 | apply call_q E57); exact (outs_calls _ fl hf' _ _); exact hK1 _ _ _)))) | (refine arun_tail rfl rfl rfl ?_) | ((first | refine arun_allocj (z := ?_) 0 rfl rfl rfl rfl (by decide) rfl ?_ ?_ | refine arun_allocj (z := ?_) 1 rfl rfl rfl rfl (by decide) rfl ?_ ?_ | refine arun_allocj (z := ?_) 2 rfl rfl rfl rfl (by decide) rfl ?_ ?_); rotate_left; (focus (simp only [S1, simprocAttr, TTTmK, e1, e2, e3, e4, e5, e6, e7, e8, c0, hc', eN, takeA_sl0, gmC_net, TSz, z49_ne, z49_map, zS_len, takeA_arr, takeA_st, List.length_map, List.length_take, List.length_drop, pg_len, pg_get0, pg_geti, pg_set0, pg_seti, pg_b hb hne, pg_lb hl, pg_b0 hb hne, pg_lb0 hl, gmB, spB, gl, all_scalar, Nat.mul_one, Nat.zero_add, Nat.add_zero, Int.toNat_natCast, List.length_cons, List.length_nil, zeroB]; rfl))) | (refine awp_seq_k fun K hK => ?_) | (refine awp_drawQ [0, 1, 2, 3, 4, 5, 6, 7, 8, 9, 10, 11, 12, 13] (fs := []) rfl rfl (by kernel_rfl) (by kernel_rfl) ?_) | ((first | refine awp_region ?_ | refine awp_draw (by kernel_rfl) ?_ | refine awp_block ?_ | refine awp_exit ?_ | refine awp_skip ?_ | refine awp_ret ?_); (try simp only [NB, simprocAttr])))
  all_goals simp only [EndH, FinH, resA, resL, resA1, lastV, lastA, lastAs, pur, purs, pg_len, pg_take, pg_take0, List.length_append, List.length_cons, List.length_nil, S1, simprocAttr, Nat.le_add_right, Nat.le_refl] <;> first | exact pg_keep' hl | exact ⟨pg_keep' hl, rfl⟩ | exact ⟨pg_keep' hl, rfl, rfl⟩

theorem tnode_7 (nk : NetOk ns fl) (rt : Right ns fl) (ok : GmOk h b lb S l) (st : StOk S) (few : l.length ≤ 900000) (c : Nat) {k : Nd} (hc : ns[c]? = some k) (hk : k.kind = 7) (m : Nat) (hm : m < 40) (hin : insN fl c = [(m : Int)]) (h0 : tk S (m : Int) ≠ 0) :
    ACalls Tryz.prog gW 80 [.ptr b 0 0, .i c] (putG h b lb ns fl S l) (fun r h' => r = .undef ∧ h' = putG h b lb ns fl S (l ++ nodeG ns fl S c k)) := by
  have hb := ok.hb
  have hl := ok.hl
  have hne := ok.ne
  have hS := ok.held.1
  have gl := gmC_len (ns := ns) (fl := fl) (lb := lb) (n := l.length) hS
  have gv := gmC_vars (ns := ns) (fl := fl) (lb := lb) (n := l.length) hS
  have t49 := gmC_state (ns := ns) (fl := fl) (lb := lb) (n := l.length) hS
  have c0 : (0 : Int) ≤ (c : Int) := by omega
  have hc' := rowN hc
  have hf := rt.f
  have hf' : fl.length ≤ 100 := by omega
  have hkd := rt.kind hc
  have hi := InF_ins hf c
  have ho := InF_outs hf c
  obtain ⟨hv, v0, v3⟩ := ok.held.at hm
  have gk := gmC_at (ns := ns) (fl := fl) (lb := lb) (n := l.length) hv
  have f0 : (0 : Int) ≤ (m : Int) := by omega
  have f40 : (m : Int) < 40 := by omega
  have hz' : (tk S (m : Int) == 0) = false := by simp [h0]
  have hil : (((insN fl c).length : Int) == 1) = true := by rw [hin]; rfl
  have hi0 : (insN fl c)[0]? = some (m : Int) := by rw [hin]; rfl
  have hei : eI (m : Int) = [.int .i64 (m : Int)] := rfl
  have hin0 : (0 : Int) ≤ 0 := Int.le_refl 0
  have e2 : (k.kind == 2) = false := by simp [hk]
  have e3 : (k.kind == 3) = false := by simp [hk]
  have e4 : (k.kind == 4) = false := by simp [hk]
  have e5 : (k.kind == 5) = false := by simp [hk]
  have e6 : (k.kind == 6) = false := by simp [hk]
  have e7 : (k.kind == 7) = true := by simp [hk]
  have e8 : (k.kind == 8) = false := by simp [hk]
  have e1 : (k.kind != 1) = true := by simp [hk]
  have eg : nodeG ns fl S c k = (outsN fl c).flatMap fun f => catchG ns fl S c f (dstAt fl f) (insN fl c) := by unfold nodeG; rw [if_neg (by omega), if_neg (by omega), if_neg (by omega), if_neg (by omega), if_pos hk]
  let acc := fun j => ((outsN fl c).take j).flatMap fun f => catchG ns fl S c f (dstAt fl f) (insN fl c)
  have hcl : ∀ f d, (catchG ns fl S c f d (insN fl c)).length ≤ 1 := by
    intro f d
    unfold catchG
    split
    · split
      · simp
      · exact moveG_len _ _ _ _
    · exact moveG_len _ _ _ _
  have hal : ∀ j, (acc j).length ≤ j := by
    intro j
    induction j with
    | zero => simp [acc]
    | succ j ih =>
      rcases Nat.lt_or_ge j (outsN fl c).length with hj | hj
      · have e : (outsN fl c).take (j + 1) = (outsN fl c).take j ++ [(outsN fl c)[j]] := by rw [List.take_add_one, List.getElem?_eq_getElem hj]; rfl
        simp only [acc] at ih ⊢
        rw [e, List.flatMap_append, List.length_append]
        have := hcl (outsN fl c)[j] (dstAt fl (outsN fl c)[j])
        simp only [List.flatMap_cons, List.flatMap_nil, List.append_nil]
        omega
      · have e : (outsN fl c).take (j + 1) = (outsN fl c).take j := by rw [List.take_of_length_le (by omega), List.take_of_length_le hj]
        simp only [acc] at ih ⊢
        rw [e]; omega
  have hto : ∀ j, ∀ y ∈ acc j, y.to.length = 49 := by
    intro j y hy
    obtain ⟨f, _, hy⟩ := List.mem_flatMap.mp hy
    unfold catchG at hy
    split at hy
    · split at hy
      · cases hy
      · exact moveG_to hS (by rw [List.length_set, hS]) y hy
    · exact moveG_to hS hS y hy
  have eg2 : nodeG ns fl S c k = acc (outsN fl c).length := by rw [eg]; simp only [acc, List.take_length]
  rw [eg2]
  have hol := ho.1
  refine acalls_heap (rl := []) mixed Tryz.func80 rfl (rs := []) rfl Tryz.ntmps80 (by simp) ?_
  repeat' (first | ((first | refine aops_nil ?_ | refine aqops_nil ?_ | refine arun_nil ?_ | refine arunT_nil ?_); (try simp only [NB])) | ((repeat ((fail_if_success (refine hK _ ?_)); clear hK K)); refine hK _ ?_; clear hK K) | ((first | refine aops_k fun K1 hK1 => ?_ | refine aqops_k fun K1 hK1 => ?_ | refine arun_eff rfl rfl rfl fun K1 hK1 => ?_ | refine awp_cond_k fun A B hA hB => ?_); simp only [S1, simprocAttr, TTTmK, e1, e2, e3, e4, e5, e6, e7, e8, hil, hi0, hei, hin0, f0, f40, gk, hz', c0, hc', eN, takeA_sl0, gmC_net, TSz, z49_ne, z49_map, zS_len, takeA_arr, takeA_st, List.length_map, List.length_take, List.length_drop, pg_len, pg_get0, pg_geti, pg_set0, pg_seti, pg_b hb hne, pg_lb hl, pg_b0 hb hne, pg_lb0 hl, gmB, spB, gl, all_scalar, Nat.mul_one, Nat.zero_add, Nat.add_zero, Int.toNat_natCast, List.length_cons, List.length_nil]; first | (refine hK1 _ ?_; clear hK1 K1) | ((first | refine hA ?_ | refine hB ?_); clear hA hB A B) | ((first | apply call_a E109 | apply call_q E109); exact (ins_calls _ fl hf' _ _); (refine hK1 _ ?_; clear hK1 K1)) | ((first | apply call_a E57 | apply call_q E57); exact (outs_calls _ fl hf' _ _); (refine hK1 _ ?_; clear hK1 K1)) | (refine join_x (v := ?_) (fun hg hk9 => ?_) ?_; rotate_left; (focus (try ((try simp only [BN] at hg); simp only [S1, simprocAttr, TTTmK, e1, e2, e3, e4, e5, e6, e7, e8, hil, hi0, hei, hin0, f0, f40, gk, hz', c0, hc', eN, takeA_sl0, gmC_net, TSz, z49_ne, z49_map, zS_len, takeA_arr, takeA_st, List.length_map, List.length_take, List.length_drop, pg_len, pg_get0, pg_geti, pg_set0, pg_seti, pg_b hb hne, pg_lb hl, pg_b0 hb hne, pg_lb0 hl, gmB, spB, gl, all_scalar, Nat.mul_one, Nat.zero_add, Nat.add_zero, Int.toNat_natCast, List.length_cons, List.length_nil, hg] at hk9 ⊢)); first | exact hk9 | ((first | apply call_a E109 | apply call_q E109); exact (ins_calls _ fl hf' _ _); exact hk9) | ((first | apply call_a E57 | apply call_q E57); exact (outs_calls _ fl hf' _ _); exact hk9)); (refine hK1 _ ?_; clear hK1 K1)) | (((first | (refine ⟨fun hg => hA ?_, fun hg => hB ?_⟩ <;> clear hA hB A B) | refine ⟨fun hg => ?_, fun hg => ?_⟩) <;> (try simp only [BN2] at hg) <;> (try simp only [hg, cond_true, cond_false])) <;> (try (refine hK1 _ ?_; clear hK1 K1)) <;> (try simp only [BN3] at hg))) | ((first | refine arun_q (v := ?_) rfl rfl rfl rfl (by decide) (fun R1 K1 hK1 => ?_) ?_ | refine arun_f (v := ?_) rfl rfl rfl (by decide) (fun K1 hK1 => ?_) ?_ | refine arunT_f (v := ?_) rfl rfl rfl (by decide) (fun K1 hK1 => ?_) ?_); rotate_left; (focus (simp only [S1, simprocAttr, TTTmK, e1, e2, e3, e4, e5, e6, e7, e8, hil, hi0, hei, hin0, f0, f40, gk, hz', c0, hc', eN, takeA_sl0, gmC_net, TSz, z49_ne, z49_map, zS_len, takeA_arr, takeA_st, List.length_map, List.length_take, List.length_drop, pg_len, pg_get0, pg_geti, pg_set0, pg_seti, pg_b hb hne, pg_lb hl, pg_b0 hb hne, pg_lb0 hl, gmB, spB, gl, all_scalar, Nat.mul_one, Nat.zero_add, Nat.add_zero, Int.toNat_natCast, List.length_cons, List.length_nil]; first | (exact hK1 _ _ _) | ((first | apply call_a E109 | apply call_q E109); exact (ins_calls _ fl hf' _ _); exact hK1 _ _ _) | ((first | apply call_a E57 | apply call_q E57); exact (outs_calls _ fl hf' _ _); exact hK1 _ _ _)))) | (refine arun_tail rfl rfl rfl ?_) | ((first | refine arun_allocj (z := ?_) 0 rfl rfl rfl rfl (by decide) rfl ?_ ?_ | refine arun_allocj (z := ?_) 1 rfl rfl rfl rfl (by decide) rfl ?_ ?_ | refine arun_allocj (z := ?_) 2 rfl rfl rfl rfl (by decide) rfl ?_ ?_); rotate_left; (focus (simp only [S1, simprocAttr, TTTmK, e1, e2, e3, e4, e5, e6, e7, e8, hil, hi0, hei, hin0, f0, f40, gk, hz', c0, hc', eN, takeA_sl0, gmC_net, TSz, z49_ne, z49_map, zS_len, takeA_arr, takeA_st, List.length_map, List.length_take, List.length_drop, pg_len, pg_get0, pg_geti, pg_set0, pg_seti, pg_b hb hne, pg_lb hl, pg_b0 hb hne, pg_lb0 hl, gmB, spB, gl, all_scalar, Nat.mul_one, Nat.zero_add, Nat.add_zero, Int.toNat_natCast, List.length_cons, List.length_nil, zeroB]; rfl))) | (refine awp_seq_k fun K hK => ?_) | (refine awp_drawQ [0, 1, 2, 3, 4, 5, 6, 7, 8, 9, 10, 11, 12, 13] (fs := []) rfl rfl (by kernel_rfl) (by kernel_rfl) ?_) | ((first | refine awp_region ?_ | refine awp_draw (by kernel_rfl) ?_ | refine awp_block ?_ | refine awp_exit ?_ | refine awp_skip ?_ | refine awp_ret ?_); (try simp only [NB, simprocAttr])))
  refine awp_forH (outsN fl c).length 174 (fun j => putG h b lb ns fl S (l ++ acc j)) (fun j => [(121, .i j), (120, .i (outsN fl c).length), (119, aI (outsN fl c)), (5, aI (insN fl c)), (1, .i c), (0, .ptr b 0 0)]) (fun j => []) (fun j => True) (fun j => ⟨by rw [pg_len, pg_len], pg_keep hl⟩) ?_ trivial fun j hj hp K hK => ?_
  · have e0 : acc 0 = [] := by simp [acc]
    simp only [e0, List.append_nil]
    refine ⟨rfl, ⟨_, rfl⟩, ?_, trivial⟩
    simp only [keeps, avlt, avlts, blksLt, frL, upd_get, pg_len, S1, simprocAttr, List.length_map, List.length_cons, List.length_nil, Int.natCast_zero, AV.p.injEq, PV.int.injEq, PV.bool.injEq, PV.sl.injEq] <;> (try and_intros) <;> (try assumption) <;> (try trivial) <;> (try omega)
  have okj : GmOk h b lb S (l ++ acc j) := ok.app (hto j) (by have := hal j; omega)
  rcases Nat.lt_or_ge j (outsN fl c).length with hlt | hge
  · obtain ⟨f, hfj⟩ : ∃ f, (outsN fl c)[j]? = some f := ⟨_, List.getElem?_eq_getElem hlt⟩
    obtain ⟨q, hfq, hq⟩ := outs_lt c f (List.mem_of_getElem? hfj)
    subst hfq
    obtain ⟨x, hx⟩ : ∃ x, fl[q]? = some x := ⟨_, List.getElem?_eq_getElem hq⟩
    obtain ⟨⟨s0, s1⟩, d0, d1⟩ := rt.isIn x (List.mem_of_getElem? hx)
    obtain ⟨d, hd⟩ := Int.eq_ofNat_of_zero_le d0
    obtain ⟨k2, hk2⟩ : ∃ k2, ns[d]? = some k2 := ⟨_, List.getElem?_eq_getElem (by omega)⟩
    have hkd2 := rt.kind hk2
    have hx' := rowF hx
    have q0 : (0 : Int) ≤ (q : Int) := by omega
    have eds : dstAt fl (q : Int) = (d : Int) := by unfold dstAt; rw [Int.toNat_natCast, hx]; exact hd
    have ea' : l ++ acc (j + 1) = (l ++ acc j) ++ catchG ns fl S c q d (insN fl c) := by
      simp only [acc]
      rw [List.take_add_one, hfj, List.flatMap_append, List.append_assoc]
      simp [eds]
    generalize hlj : l ++ acc j = lj at ea' okj ⊢
    repeat' (first | ((first | refine aops_nil ?_ | refine aqops_nil ?_); (try simp only [NB])) | ((repeat ((fail_if_success (refine hK _ ?_)); clear hK K)); refine hK _ ?_; clear hK K) | ((first | refine aops_k fun K1 hK1 => ?_ | refine aqops_k fun K1 hK1 => ?_ | refine awp_cond_k fun A B hA hB => ?_); simp only [S1, simprocAttr, TTTmK, rowI hfj, hitI hlt, nextI (by omega) hlt, q0, hx', eF, hd, takeA_sl1, gmC_1, gmC_net, TSz, z49_ne, z49_map, zS_len, takeA_arr, takeA_st, List.length_map, List.length_take, List.length_drop, pg_len, pg_get0, pg_geti, pg_set0, pg_seti, pg_b hb hne, pg_lb hl, pg_b0 hb hne, pg_lb0 hl, gmB, spB, gl, all_scalar, Nat.mul_one, Nat.zero_add, Nat.add_zero, Int.toNat_natCast, List.length_cons, List.length_nil]; first | (refine hK1 _ ?_; clear hK1 K1) | ((first | refine hA ?_ | refine hB ?_); clear hA hB A B) | ((first | apply call_a E57 | apply call_q E57); exact (outs_calls _ fl hf' _ _); (refine hK1 _ ?_; clear hK1 K1)) | ((first | apply call_a E115 | apply call_q E115); exact (tcatch_calls okj st ⟨c, q, 0, 0, 0, S⟩ d hk2 ⟨hkd2.2.1, hkd2.2.2.2⟩ _ hi _ (InF_outs hf d) rfl); (refine hK1 _ ?_; clear hK1 K1)) | (refine join_x (v := ?_) (fun hg hk9 => ?_) ?_; rotate_left; (focus (try ((try simp only [BN] at hg); simp only [S1, simprocAttr, TTTmK, rowI hfj, hitI hlt, nextI (by omega) hlt, q0, hx', eF, hd, takeA_sl1, gmC_1, gmC_net, TSz, z49_ne, z49_map, zS_len, takeA_arr, takeA_st, List.length_map, List.length_take, List.length_drop, pg_len, pg_get0, pg_geti, pg_set0, pg_seti, pg_b hb hne, pg_lb hl, pg_b0 hb hne, pg_lb0 hl, gmB, spB, gl, all_scalar, Nat.mul_one, Nat.zero_add, Nat.add_zero, Int.toNat_natCast, List.length_cons, List.length_nil, hg] at hk9 ⊢)); first | exact hk9 | ((first | apply call_a E57 | apply call_q E57); exact (outs_calls _ fl hf' _ _); exact hk9) | ((first | apply call_a E115 | apply call_q E115); exact (tcatch_calls okj st ⟨c, q, 0, 0, 0, S⟩ d hk2 ⟨hkd2.2.1, hkd2.2.2.2⟩ _ hi _ (InF_outs hf d) rfl); exact hk9)); (refine hK1 _ ?_; clear hK1 K1)) | (((first | (refine ⟨fun hg => hA ?_, fun hg => hB ?_⟩ <;> clear hA hB A B) | refine ⟨fun hg => ?_, fun hg => ?_⟩) <;> (try simp only [BN2] at hg) <;> (try simp only [hg, cond_true, cond_false])) <;> (try (refine hK1 _ ?_; clear hK1 K1)) <;> (try simp only [BN3] at hg))) | (refine awp_seq_k fun K hK => ?_) | ((first | refine awp_region ?_ | refine awp_draw (by kernel_rfl) ?_ | refine awp_block ?_ | refine awp_exit ?_ | refine awp_skip ?_ | refine awp_ret ?_); (try simp only [NB, simprocAttr])))
    all_goals refine ⟨hlt, trivial, ?_⟩
    all_goals simp only [ea']
    all_goals refine ⟨rfl, ⟨[], by simp only [List.append_nil]⟩, ?_, trivial⟩
    all_goals simp only [keeps, avlt, avlts, blksLt, frL, upd_get, pg_len, S1, simprocAttr, List.length_map, List.length_cons, List.length_nil, Int.natCast_zero, AV.p.injEq, PV.int.injEq, PV.bool.injEq, PV.sl.injEq] <;> (try and_intros) <;> (try assumption) <;> (try trivial) <;> (try omega)
  · obtain rfl : j = (outsN fl c).length := by omega
    repeat' (first | ((first | refine aops_nil ?_ | refine aqops_nil ?_); (try simp only [NB])) | ((repeat ((fail_if_success (refine hK _ ?_)); clear hK K)); refine hK _ ?_; clear hK K) | ((first | refine aops_k fun K1 hK1 => ?_ | refine aqops_k fun K1 hK1 => ?_ | refine awp_cond_k fun A B hA hB => ?_); simp only [S1, simprocAttr, TTTmK, endI]; first | (refine hK1 _ ?_; clear hK1 K1) | ((first | refine hA ?_ | refine hB ?_); clear hA hB A B) | (refine join_x (v := ?_) (fun hg hk9 => ?_) ?_; rotate_left; (focus (try ((try simp only [BN] at hg); simp only [S1, simprocAttr, TTTmK, endI, hg] at hk9 ⊢)); first | exact hk9); (refine hK1 _ ?_; clear hK1 K1)) | (((first | (refine ⟨fun hg => hA ?_, fun hg => hB ?_⟩ <;> clear hA hB A B) | refine ⟨fun hg => ?_, fun hg => ?_⟩) <;> (try simp only [BN2] at hg) <;> (try simp only [hg, cond_true, cond_false])) <;> (try (refine hK1 _ ?_; clear hK1 K1)) <;> (try simp only [BN3] at hg))) | (refine awp_seq_k fun K hK => ?_) | ((first | refine awp_region ?_ | refine awp_draw (by kernel_rfl) ?_ | refine awp_block ?_ | refine awp_exit ?_ | refine awp_skip ?_ | refine awp_ret ?_); (try simp only [NB, simprocAttr])))
    all_goals simp only [EndH, FinH, resA, resL, resA1, lastV, lastA, lastAs, pur, purs, pg_len, pg_take, pg_take0, List.length_append, List.length_cons, List.length_nil, S1, simprocAttr, Nat.le_add_right, Nat.le_refl] <;> first | exact pg_keep' hl | exact ⟨pg_keep' hl, rfl⟩ | exact ⟨pg_keep' hl, rfl, rfl⟩
end
end Go.Proofs.YtbbmfemplmelhaaGreatDoor.AM
end

section
set_option linter.unusedVariables false
set_option linter.unusedSimpArgs false
set_option maxRecDepth 4000
set_option maxHeartbeats 4000000
namespace Go.Proofs.YtbbmfemplmelhaaGreatDoor.AM
open Go Go.Proofs
set_option linter.defProp false in
def TTTmI := And.intro T2 (And.intro T3 (And.intro T4 (And.intro T22 (And.intro T23 (And.intro T25 (And.intro T28 (And.intro T31 (And.intro T41 (And.intro T57 (And.intro T58 (And.intro T75 (And.intro T77 (And.intro T80 (And.intro T92 (And.intro T118 (And.intro T121 (And.intro T142 (And.intro T144 (And.intro T146 T147)))))))))))))))))))
attribute [local irreducible] awp aops aqops aeops arun arunT

section
variable {h : Heap} {b lb : Nat} {ns : List Nd} {fl : List Fl} {S : List Int} {l : List Sp}

theorem tnode_3 (nk : NetOk ns fl) (rt : Right ns fl) (ok : GmOk h b lb S l) (st : StOk S) (few : l.length ≤ 900000) (c : Nat) {k : Nd} (hc : ns[c]? = some k) (hk : k.kind = 3) (m : Nat) (hm : m < 40) (hin : insN fl c = [(m : Int)]) (h0 : tk S (m : Int) ≠ 0) :
    ACalls Tryz.prog gW 80 [.ptr b 0 0, .i c] (putG h b lb ns fl S l) (fun r h' => r = .undef ∧ h' = putG h b lb ns fl S (l ++ nodeG ns fl S c k)) := by
  have hb := ok.hb
  have hl := ok.hl
  have hne := ok.ne
  have hS := ok.held.1
  have gl := gmC_len (ns := ns) (fl := fl) (lb := lb) (n := l.length) hS
  have gv := gmC_vars (ns := ns) (fl := fl) (lb := lb) (n := l.length) hS
  have t49 := gmC_state (ns := ns) (fl := fl) (lb := lb) (n := l.length) hS
  have c0 : (0 : Int) ≤ (c : Int) := by omega
  have hc' := rowN hc
  have hf := rt.f
  have hf' : fl.length ≤ 100 := by omega
  have hkd := rt.kind hc
  have hi := InF_ins hf c
  have ho := InF_outs hf c
  obtain ⟨hv, v0, v3⟩ := ok.held.at hm
  have gk := gmC_at (ns := ns) (fl := fl) (lb := lb) (n := l.length) hv
  have f0 : (0 : Int) ≤ (m : Int) := by omega
  have f40 : (m : Int) < 40 := by omega
  have hz' : (tk S (m : Int) == 0) = false := by simp [h0]
  have hil : (((insN fl c).length : Int) == 1) = true := by rw [hin]; rfl
  have hi0 : (insN fl c)[0]? = some (m : Int) := by rw [hin]; rfl
  have hei : eI (m : Int) = [.int .i64 (m : Int)] := rfl
  have hin0 : (0 : Int) ≤ 0 := Int.le_refl 0
  have e2 : (k.kind == 2) = false := by simp [hk]
  have e3 : (k.kind == 3) = true := by simp [hk]
  have e4 : (k.kind == 4) = false := by simp [hk]
  have e5 : (k.kind == 5) = false := by simp [hk]
  have e6 : (k.kind == 6) = false := by simp [hk]
  have e7 : (k.kind == 7) = false := by simp [hk]
  have e8 : (k.kind == 8) = false := by simp [hk]
  have e1 : (k.kind != 1) = true := by simp [hk]
  obtain ⟨a, hka⟩ := Int.eq_ofNat_of_zero_le hkd.2.1
  have a4 : a < 4 := by have := hkd.2.2.1 (by omega); omega
  have hS2 : ∀ v, (S.set (40 + a) v).length = 49 := fun v => by rw [List.length_set, hS]
  have eg : nodeG ns fl S c k = moveG S ⟨c, 0, 1, c, 0, S.set (40 + a) 0⟩ (insN fl c) (outsN fl c) ++ moveG S ⟨c, 1, 1, c, 1, S.set (40 + a) 1⟩ (insN fl c) (outsN fl c) := by
    unfold nodeG; rw [if_neg (by omega), if_pos (.inl hk)]
    unfold dataG; rw [hin, List.headD_cons, if_neg h0, if_pos hk, hka, Int.toNat_natCast]
  rw [eg]
  let acc : Nat → List Sp := fun j => (if j = 0 then [] else moveG S ⟨c, 0, 1, c, 0, S.set (40 + a) 0⟩ (insN fl c) (outsN fl c)) ++ (if j ≤ 1 then [] else moveG S ⟨c, 1, 1, c, 1, S.set (40 + a) 1⟩ (insN fl c) (outsN fl c))
  have hto : ∀ j, ∀ y ∈ acc j, y.to.length = 49 := by
    intro j y hy
    simp only [acc] at hy
    rcases List.mem_append.mp hy with hy | hy
    · split at hy
      · cases hy
      · exact moveG_to hS (hS2 _) y hy
    · split at hy
      · cases hy
      · exact moveG_to hS (hS2 _) y hy
  have hal : ∀ j, (acc j).length ≤ 2 := by
    intro j
    simp only [acc, List.length_append]
    have h1 := moveG_len S ⟨c, 0, 1, c, 0, S.set (40 + a) 0⟩ (insN fl c) (outsN fl c)
    have h2 := moveG_len S ⟨c, 1, 1, c, 1, S.set (40 + a) 1⟩ (insN fl c) (outsN fl c)
    split <;> split <;> simp <;> omega
  have e22 : acc 2 = moveG S ⟨c, 0, 1, c, 0, S.set (40 + a) 0⟩ (insN fl c) (outsN fl c) ++ moveG S ⟨c, 1, 1, c, 1, S.set (40 + a) 1⟩ (insN fl c) (outsN fl c) := by simp only [acc]; rfl
  rw [← e22]
  refine acalls_heap (rl := []) mixed Tryz.func80 rfl (rs := []) rfl Tryz.ntmps80 (by simp) ?_
  repeat' (first | ((first | refine aops_nil ?_ | refine aqops_nil ?_ | refine arun_nil ?_ | refine arunT_nil ?_); (try simp only [NB])) | ((repeat ((fail_if_success (refine hK _ ?_)); clear hK K)); refine hK _ ?_; clear hK K) | ((first | refine aops_k fun K1 hK1 => ?_ | refine aqops_k fun K1 hK1 => ?_ | refine arun_eff rfl rfl rfl fun K1 hK1 => ?_ | refine awp_cond_k fun A B hA hB => ?_); simp only [S1, simprocAttr, TTTmI, e1, e2, e3, e4, e5, e6, e7, e8, hil, hi0, hei, hin0, f0, f40, gk, hz', hka, c0, hc', eN, takeA_sl0, gmC_net, TSz, z49_ne, z49_map, zS_len, takeA_arr, takeA_st, List.length_map, List.length_take, List.length_drop, pg_len, pg_get0, pg_geti, pg_set0, pg_seti, pg_b hb hne, pg_lb hl, pg_b0 hb hne, pg_lb0 hl, gmB, spB, gl, all_scalar, Nat.mul_one, Nat.zero_add, Nat.add_zero, Int.toNat_natCast, List.length_cons, List.length_nil]; first | (refine hK1 _ ?_; clear hK1 K1) | ((first | refine hA ?_ | refine hB ?_); clear hA hB A B) | ((first | apply call_a E109 | apply call_q E109); exact (ins_calls _ fl hf' _ _); (refine hK1 _ ?_; clear hK1 K1)) | ((first | apply call_a E57 | apply call_q E57); exact (outs_calls _ fl hf' _ _); (refine hK1 _ ?_; clear hK1 K1)) | (refine join_x (v := ?_) (fun hg hk9 => ?_) ?_; rotate_left; (focus (try ((try simp only [BN] at hg); simp only [S1, simprocAttr, TTTmI, e1, e2, e3, e4, e5, e6, e7, e8, hil, hi0, hei, hin0, f0, f40, gk, hz', hka, c0, hc', eN, takeA_sl0, gmC_net, TSz, z49_ne, z49_map, zS_len, takeA_arr, takeA_st, List.length_map, List.length_take, List.length_drop, pg_len, pg_get0, pg_geti, pg_set0, pg_seti, pg_b hb hne, pg_lb hl, pg_b0 hb hne, pg_lb0 hl, gmB, spB, gl, all_scalar, Nat.mul_one, Nat.zero_add, Nat.add_zero, Int.toNat_natCast, List.length_cons, List.length_nil, hg] at hk9 ⊢)); first | exact hk9 | ((first | apply call_a E109 | apply call_q E109); exact (ins_calls _ fl hf' _ _); exact hk9) | ((first | apply call_a E57 | apply call_q E57); exact (outs_calls _ fl hf' _ _); exact hk9)); (refine hK1 _ ?_; clear hK1 K1)) | (((first | (refine ⟨fun hg => hA ?_, fun hg => hB ?_⟩ <;> clear hA hB A B) | refine ⟨fun hg => ?_, fun hg => ?_⟩) <;> (try simp only [BN2] at hg) <;> (try simp only [hg, cond_true, cond_false])) <;> (try (refine hK1 _ ?_; clear hK1 K1)) <;> (try simp only [BN3] at hg))) | ((first | refine arun_q (v := ?_) rfl rfl rfl rfl (by decide) (fun R1 K1 hK1 => ?_) ?_ | refine arun_f (v := ?_) rfl rfl rfl (by decide) (fun K1 hK1 => ?_) ?_ | refine arunT_f (v := ?_) rfl rfl rfl (by decide) (fun K1 hK1 => ?_) ?_); rotate_left; (focus (simp only [S1, simprocAttr, TTTmI, e1, e2, e3, e4, e5, e6, e7, e8, hil, hi0, hei, hin0, f0, f40, gk, hz', hka, c0, hc', eN, takeA_sl0, gmC_net, TSz, z49_ne, z49_map, zS_len, takeA_arr, takeA_st, List.length_map, List.length_take, List.length_drop, pg_len, pg_get0, pg_geti, pg_set0, pg_seti, pg_b hb hne, pg_lb hl, pg_b0 hb hne, pg_lb0 hl, gmB, spB, gl, all_scalar, Nat.mul_one, Nat.zero_add, Nat.add_zero, Int.toNat_natCast, List.length_cons, List.length_nil]; first | (exact hK1 _ _ _) | ((first | apply call_a E109 | apply call_q E109); exact (ins_calls _ fl hf' _ _); exact hK1 _ _ _) | ((first | apply call_a E57 | apply call_q E57); exact (outs_calls _ fl hf' _ _); exact hK1 _ _ _)))) | (refine arun_tail rfl rfl rfl ?_) | ((first | refine arun_allocj (z := ?_) 0 rfl rfl rfl rfl (by decide) rfl ?_ ?_ | refine arun_allocj (z := ?_) 1 rfl rfl rfl rfl (by decide) rfl ?_ ?_ | refine arun_allocj (z := ?_) 2 rfl rfl rfl rfl (by decide) rfl ?_ ?_); rotate_left; (focus (simp only [S1, simprocAttr, TTTmI, e1, e2, e3, e4, e5, e6, e7, e8, hil, hi0, hei, hin0, f0, f40, gk, hz', hka, c0, hc', eN, takeA_sl0, gmC_net, TSz, z49_ne, z49_map, zS_len, takeA_arr, takeA_st, List.length_map, List.length_take, List.length_drop, pg_len, pg_get0, pg_geti, pg_set0, pg_seti, pg_b hb hne, pg_lb hl, pg_b0 hb hne, pg_lb0 hl, gmB, spB, gl, all_scalar, Nat.mul_one, Nat.zero_add, Nat.add_zero, Int.toNat_natCast, List.length_cons, List.length_nil, zeroB]; rfl))) | (refine awp_seq_k fun K hK => ?_) | (refine awp_drawQ [0, 1, 2, 3, 4, 5, 6, 7, 8, 9, 10, 11, 12, 13] (fs := []) rfl rfl (by kernel_rfl) (by kernel_rfl) ?_) | ((first | refine awp_region ?_ | refine awp_draw (by kernel_rfl) ?_ | refine awp_block ?_ | refine awp_exit ?_ | refine awp_skip ?_ | refine awp_ret ?_); (try simp only [NB, simprocAttr])))
  refine awp_forH 2 174 (fun j => putG h b lb ns fl S (l ++ acc j)) (fun j => [(59, .i j), (6, aI (outsN fl c)), (5, aI (insN fl c)), (4, .ptr h.length 0 0), (1, .i c), (0, .ptr b 0 0)]) (fun j => [xB k a]) (fun j => True) (fun j => ⟨by rw [pg_len, pg_len], pg_keep hl⟩) ?_ trivial fun j hj hp K hK => ?_
  · have e0 : acc 0 = [] := by simp [acc]
    simp only [e0, List.append_nil]
    refine ⟨rfl, ⟨[], by simp only [List.append_nil]⟩, ?_, ?_⟩
    · simp only [keeps, avlt, avlts, blksLt, frL, upd_get, pg_len, S1, simprocAttr, List.length_map, List.length_cons, List.length_nil, Int.natCast_zero, AV.p.injEq, PV.int.injEq, PV.bool.injEq, PV.sl.injEq] <;> (try and_intros) <;> (try assumption) <;> (try trivial) <;> (try omega)
    · exact ⟨⟨trivial, trivial, trivial, trivial, trivial, trivial⟩, trivial⟩
  have okj : GmOk h b lb S (l ++ acc j) := ok.app (hto j) (by have := hal j; omega)
  rcases Nat.lt_or_ge j 2 with hlt | hge
  · have hlt' : decide ((j : Int) < 2) = true := decide_eq_true (by omega)
    have hnx : IntKind.i64.wrap ((j : Int) + 1) = ((j + 1 : Nat) : Int) := by rw [IntWalk.i64_in _ (by omega)]; omega
    have es := stF_move hS (m := ⟨c, j, 1, c, j, S⟩) (Chg.set hS (k := 40 + a) (by omega) (j : Int)) hi ho
    have ea' : l ++ acc (j + 1) = (l ++ acc j) ++ stF S ⟨c, j, 1, c, j, S⟩ (fun T => T.set (40 + a) (j : Int)) (insN fl c) (outsN fl c) := by
      rw [es, List.append_assoc]
      congr 1
      match j, hlt with
      | 0, _ => simp [acc]
      | 1, _ => simp [acc]
    generalize hlj : l ++ acc j = lj at ea' okj ⊢
    have hst := step_fn_at (G := gW) (ns := ns) (fl := fl) okj ⟨c, j, 1, c, j, S⟩ (insN fl c) (outsN fl c) hi ho [xB k a, some ⟨0, [.i j]⟩] E110 (caps := [.ptr (h.length + 1) 0 0, .ptr h.length 0 0]) ⟨by simp [avlt], by simp [avlt], trivial⟩ (fun T hT => by rw [List.length_set, hT]) (fun A T hT _ => setv1_at k a4 j 0 A T hT)
    repeat' (first | ((first | refine aops_nil ?_ | refine aqops_nil ?_); (try simp only [NB])) | ((repeat ((fail_if_success (refine hK _ ?_)); clear hK K)); refine hK _ ?_; clear hK K) | ((first | refine aops_k fun K1 hK1 => ?_ | refine aqops_k fun K1 hK1 => ?_ | refine awp_cond_k fun A B hA hB => ?_); simp only [S1, simprocAttr, TTTmI, hlt', hnx, TSz, z49_ne, z49_map, zS_len, takeA_arr, takeA_st, List.length_map, List.length_take, List.length_drop, pg_len, pg_get0, pg_geti, pg_set0, pg_seti, pg_b hb hne, pg_lb hl, pg_b0 hb hne, pg_lb0 hl, gmB, spB, gl, all_scalar, Nat.mul_one, Nat.zero_add, Nat.add_zero, Int.toNat_natCast, List.length_cons, List.length_nil]; first | (refine hK1 _ ?_; clear hK1 K1) | ((first | refine hA ?_ | refine hB ?_); clear hA hB A B) | ((first | apply call_a E82 | apply call_q E82); exact hst; (refine hK1 _ ?_; clear hK1 K1)) | (refine join_x (v := ?_) (fun hg hk9 => ?_) ?_; rotate_left; (focus (try ((try simp only [BN] at hg); simp only [S1, simprocAttr, TTTmI, hlt', hnx, TSz, z49_ne, z49_map, zS_len, takeA_arr, takeA_st, List.length_map, List.length_take, List.length_drop, pg_len, pg_get0, pg_geti, pg_set0, pg_seti, pg_b hb hne, pg_lb hl, pg_b0 hb hne, pg_lb0 hl, gmB, spB, gl, all_scalar, Nat.mul_one, Nat.zero_add, Nat.add_zero, Int.toNat_natCast, List.length_cons, List.length_nil, hg] at hk9 ⊢)); first | exact hk9 | ((first | apply call_a E82 | apply call_q E82); exact hst; exact hk9)); (refine hK1 _ ?_; clear hK1 K1)) | (((first | (refine ⟨fun hg => hA ?_, fun hg => hB ?_⟩ <;> clear hA hB A B) | refine ⟨fun hg => ?_, fun hg => ?_⟩) <;> (try simp only [BN2] at hg) <;> (try simp only [hg, cond_true, cond_false])) <;> (try (refine hK1 _ ?_; clear hK1 K1)) <;> (try simp only [BN3] at hg))) | (refine awp_seq_k fun K hK => ?_) | ((first | refine awp_region ?_ | refine awp_draw (by kernel_rfl) ?_ | refine awp_block ?_ | refine awp_exit ?_ | refine awp_skip ?_ | refine awp_ret ?_); (try simp only [NB, simprocAttr])))
    all_goals refine ⟨hlt, trivial, ?_⟩
    all_goals simp only [ea']
    all_goals refine ⟨rfl, ⟨_, rfl⟩, ?_, ?_⟩
    · simp only [keeps, avlt, avlts, blksLt, frL, upd_get, pg_len, S1, simprocAttr, List.length_map, List.length_cons, List.length_nil, Int.natCast_zero, AV.p.injEq, PV.int.injEq, PV.bool.injEq, PV.sl.injEq] <;> (try and_intros) <;> (try assumption) <;> (try trivial) <;> (try omega)
    · exact ⟨⟨trivial, trivial, trivial, trivial, trivial, trivial⟩, trivial⟩
  · obtain rfl : j = 2 := by omega
    repeat' (first | ((first | refine aops_nil ?_ | refine aqops_nil ?_); (try simp only [NB])) | ((repeat ((fail_if_success (refine hK _ ?_)); clear hK K)); refine hK _ ?_; clear hK K) | ((first | refine aops_k fun K1 hK1 => ?_ | refine aqops_k fun K1 hK1 => ?_ | refine awp_cond_k fun A B hA hB => ?_); simp only [S1, simprocAttr, TTTmI, (show decide (((2 : Nat) : Int) < 2) = false by decide)]; first | (refine hK1 _ ?_; clear hK1 K1) | ((first | refine hA ?_ | refine hB ?_); clear hA hB A B) | (refine join_x (v := ?_) (fun hg hk9 => ?_) ?_; rotate_left; (focus (try ((try simp only [BN] at hg); simp only [S1, simprocAttr, TTTmI, (show decide (((2 : Nat) : Int) < 2) = false by decide), hg] at hk9 ⊢)); first | exact hk9); (refine hK1 _ ?_; clear hK1 K1)) | (((first | (refine ⟨fun hg => hA ?_, fun hg => hB ?_⟩ <;> clear hA hB A B) | refine ⟨fun hg => ?_, fun hg => ?_⟩) <;> (try simp only [BN2] at hg) <;> (try simp only [hg, cond_true, cond_false])) <;> (try (refine hK1 _ ?_; clear hK1 K1)) <;> (try simp only [BN3] at hg))) | (refine awp_seq_k fun K hK => ?_) | ((first | refine awp_region ?_ | refine awp_draw (by kernel_rfl) ?_ | refine awp_block ?_ | refine awp_exit ?_ | refine awp_skip ?_ | refine awp_ret ?_); (try simp only [NB, simprocAttr])))
    all_goals simp only [EndH, FinH, resA, resL, resA1, lastV, lastA, lastAs, pur, purs, pg_len, pg_take, pg_take0, List.length_append, List.length_cons, List.length_nil, S1, simprocAttr, Nat.le_add_right, Nat.le_refl] <;> first | exact pg_keep' hl | exact ⟨pg_keep' hl, rfl⟩ | exact ⟨pg_keep' hl, rfl, rfl⟩

theorem tnode_4 (nk : NetOk ns fl) (rt : Right ns fl) (ok : GmOk h b lb S l) (st : StOk S) (few : l.length ≤ 900000) (c : Nat) {k : Nd} (hc : ns[c]? = some k) (hk : k.kind = 4) (m : Nat) (hm : m < 40) (hin : insN fl c = [(m : Int)]) (h0 : tk S (m : Int) ≠ 0) :
    ACalls Tryz.prog gW 80 [.ptr b 0 0, .i c] (putG h b lb ns fl S l) (fun r h' => r = .undef ∧ h' = putG h b lb ns fl S (l ++ nodeG ns fl S c k)) := by
  have hb := ok.hb
  have hl := ok.hl
  have hne := ok.ne
  have hS := ok.held.1
  have gl := gmC_len (ns := ns) (fl := fl) (lb := lb) (n := l.length) hS
  have gv := gmC_vars (ns := ns) (fl := fl) (lb := lb) (n := l.length) hS
  have t49 := gmC_state (ns := ns) (fl := fl) (lb := lb) (n := l.length) hS
  have c0 : (0 : Int) ≤ (c : Int) := by omega
  have hc' := rowN hc
  have hf := rt.f
  have hf' : fl.length ≤ 100 := by omega
  have hkd := rt.kind hc
  have hi := InF_ins hf c
  have ho := InF_outs hf c
  obtain ⟨hv, v0, v3⟩ := ok.held.at hm
  have gk := gmC_at (ns := ns) (fl := fl) (lb := lb) (n := l.length) hv
  have f0 : (0 : Int) ≤ (m : Int) := by omega
  have f40 : (m : Int) < 40 := by omega
  have hz' : (tk S (m : Int) == 0) = false := by simp [h0]
  have hil : (((insN fl c).length : Int) == 1) = true := by rw [hin]; rfl
  have hi0 : (insN fl c)[0]? = some (m : Int) := by rw [hin]; rfl
  have hei : eI (m : Int) = [.int .i64 (m : Int)] := rfl
  have hin0 : (0 : Int) ≤ 0 := Int.le_refl 0
  have e2 : (k.kind == 2) = false := by simp [hk]
  have e3 : (k.kind == 3) = false := by simp [hk]
  have e4 : (k.kind == 4) = true := by simp [hk]
  have e5 : (k.kind == 5) = false := by simp [hk]
  have e6 : (k.kind == 6) = false := by simp [hk]
  have e7 : (k.kind == 7) = false := by simp [hk]
  have e8 : (k.kind == 8) = false := by simp [hk]
  have e1 : (k.kind != 1) = true := by simp [hk]
  obtain ⟨a, hka⟩ := Int.eq_ofNat_of_zero_le hkd.2.1
  have a4 : a < 4 := by have := hkd.2.2.1 (by omega); omega
  have hS2 : ∀ v, (S.set (40 + a) v).length = 49 := fun v => by rw [List.length_set, hS]
  obtain ⟨mm, hmm, ht⟩ := nk.tn
  have ch := fun h => Number_calls (ht k (List.mem_of_getElem? hc)) (vS S) vS_num h
  by_cases h2 : (numR k.term (vS S)).2 = 0
  · have h2' : ((numR k.term (vS S)).2 != 0) = false := by simp [h2]
    have eg : nodeG ns fl S c k = moveG S ⟨c, 0, 2, c, 0, S.set (40 + a) (numR k.term (vS S)).1⟩ (insN fl c) (outsN fl c) := by
      unfold nodeG; rw [if_neg (by omega), if_pos (.inr hk)]
      unfold dataG; rw [hin, List.headD_cons, if_neg h0, if_neg (by omega), if_neg (by simpa using h2), hka, Int.toNat_natCast]
    generalize (numR k.term (vS S)).1 = w at *
    have es := stF_move hS (m := ⟨c, 0, 2, c, 0, S⟩) (Chg.set hS (k := 40 + a) (by omega) w) hi ho
    simp only at es
    rw [eg, ← es]
    have hst := step_fn_at (G := gW) (ns := ns) (fl := fl) ok ⟨c, 0, 2, c, 0, S⟩ (insN fl c) (outsN fl c) hi ho [xB k a, some ⟨1, [.i w]⟩] E113 (caps := [.ptr (h.length + 1) 1 0, .ptr h.length 0 0]) ⟨by simp [avlt], by simp [avlt], trivial⟩ (fun T hT => by rw [List.length_set, hT]) (fun A T hT _ => setv2_at k a4 w 1 A T hT)
    refine acalls_heap (rl := []) mixed Tryz.func80 rfl (rs := []) rfl Tryz.ntmps80 (by simp) ?_
    repeat' (first | ((first | refine aops_nil ?_ | refine aqops_nil ?_ | refine arun_nil ?_ | refine arunT_nil ?_); (try simp only [NB])) | ((repeat ((fail_if_success (refine hK _ ?_)); clear hK K)); refine hK _ ?_; clear hK K) | ((first | refine aops_k fun K1 hK1 => ?_ | refine aqops_k fun K1 hK1 => ?_ | refine arun_eff rfl rfl rfl fun K1 hK1 => ?_ | refine awp_cond_k fun A B hA hB => ?_); simp only [S1, simprocAttr, TTTmI, e1, e2, e3, e4, e5, e6, e7, e8, hil, hi0, hei, hin0, f0, f40, gk, hz', hka, h2', gv, c0, hc', eN, takeA_sl0, gmC_net, TSz, z49_ne, z49_map, zS_len, takeA_arr, takeA_st, List.length_map, List.length_take, List.length_drop, pg_len, pg_get0, pg_geti, pg_set0, pg_seti, pg_b hb hne, pg_lb hl, pg_b0 hb hne, pg_lb0 hl, gmB, spB, gl, all_scalar, Nat.mul_one, Nat.zero_add, Nat.add_zero, Int.toNat_natCast, List.length_cons, List.length_nil]; first | (refine hK1 _ ?_; clear hK1 K1) | ((first | refine hA ?_ | refine hB ?_); clear hA hB A B) | ((first | apply call_a E109 | apply call_q E109); exact (ins_calls _ fl hf' _ _); (refine hK1 _ ?_; clear hK1 K1)) | ((first | apply call_a E57 | apply call_q E57); exact (outs_calls _ fl hf' _ _); (refine hK1 _ ?_; clear hK1 K1)) | ((first | apply call_a E111 | apply call_q E111); exact (ch _); (refine hK1 _ ?_; clear hK1 K1)) | ((first | apply call_a E82 | apply call_q E82); exact hst; (refine hK1 _ ?_; clear hK1 K1)) | (refine join_x (v := ?_) (fun hg hk9 => ?_) ?_; rotate_left; (focus (try ((try simp only [BN] at hg); simp only [S1, simprocAttr, TTTmI, e1, e2, e3, e4, e5, e6, e7, e8, hil, hi0, hei, hin0, f0, f40, gk, hz', hka, h2', gv, c0, hc', eN, takeA_sl0, gmC_net, TSz, z49_ne, z49_map, zS_len, takeA_arr, takeA_st, List.length_map, List.length_take, List.length_drop, pg_len, pg_get0, pg_geti, pg_set0, pg_seti, pg_b hb hne, pg_lb hl, pg_b0 hb hne, pg_lb0 hl, gmB, spB, gl, all_scalar, Nat.mul_one, Nat.zero_add, Nat.add_zero, Int.toNat_natCast, List.length_cons, List.length_nil, hg] at hk9 ⊢)); first | exact hk9 | ((first | apply call_a E109 | apply call_q E109); exact (ins_calls _ fl hf' _ _); exact hk9) | ((first | apply call_a E57 | apply call_q E57); exact (outs_calls _ fl hf' _ _); exact hk9) | ((first | apply call_a E111 | apply call_q E111); exact (ch _); exact hk9) | ((first | apply call_a E82 | apply call_q E82); exact hst; exact hk9)); (refine hK1 _ ?_; clear hK1 K1)) | (((first | (refine ⟨fun hg => hA ?_, fun hg => hB ?_⟩ <;> clear hA hB A B) | refine ⟨fun hg => ?_, fun hg => ?_⟩) <;> (try simp only [BN2] at hg) <;> (try simp only [hg, cond_true, cond_false])) <;> (try (refine hK1 _ ?_; clear hK1 K1)) <;> (try simp only [BN3] at hg))) | ((first | refine arun_q (v := ?_) rfl rfl rfl rfl (by decide) (fun R1 K1 hK1 => ?_) ?_ | refine arun_f (v := ?_) rfl rfl rfl (by decide) (fun K1 hK1 => ?_) ?_ | refine arunT_f (v := ?_) rfl rfl rfl (by decide) (fun K1 hK1 => ?_) ?_); rotate_left; (focus (simp only [S1, simprocAttr, TTTmI, e1, e2, e3, e4, e5, e6, e7, e8, hil, hi0, hei, hin0, f0, f40, gk, hz', hka, h2', gv, c0, hc', eN, takeA_sl0, gmC_net, TSz, z49_ne, z49_map, zS_len, takeA_arr, takeA_st, List.length_map, List.length_take, List.length_drop, pg_len, pg_get0, pg_geti, pg_set0, pg_seti, pg_b hb hne, pg_lb hl, pg_b0 hb hne, pg_lb0 hl, gmB, spB, gl, all_scalar, Nat.mul_one, Nat.zero_add, Nat.add_zero, Int.toNat_natCast, List.length_cons, List.length_nil]; first | (exact hK1 _ _ _) | ((first | apply call_a E109 | apply call_q E109); exact (ins_calls _ fl hf' _ _); exact hK1 _ _ _) | ((first | apply call_a E57 | apply call_q E57); exact (outs_calls _ fl hf' _ _); exact hK1 _ _ _) | ((first | apply call_a E111 | apply call_q E111); exact (ch _); exact hK1 _ _ _) | ((first | apply call_a E82 | apply call_q E82); exact hst; exact hK1 _ _ _)))) | (refine arun_tail rfl rfl rfl ?_) | ((first | refine arun_allocj (z := ?_) 0 rfl rfl rfl rfl (by decide) rfl ?_ ?_ | refine arun_allocj (z := ?_) 1 rfl rfl rfl rfl (by decide) rfl ?_ ?_ | refine arun_allocj (z := ?_) 2 rfl rfl rfl rfl (by decide) rfl ?_ ?_); rotate_left; (focus (simp only [S1, simprocAttr, TTTmI, e1, e2, e3, e4, e5, e6, e7, e8, hil, hi0, hei, hin0, f0, f40, gk, hz', hka, h2', gv, c0, hc', eN, takeA_sl0, gmC_net, TSz, z49_ne, z49_map, zS_len, takeA_arr, takeA_st, List.length_map, List.length_take, List.length_drop, pg_len, pg_get0, pg_geti, pg_set0, pg_seti, pg_b hb hne, pg_lb hl, pg_b0 hb hne, pg_lb0 hl, gmB, spB, gl, all_scalar, Nat.mul_one, Nat.zero_add, Nat.add_zero, Int.toNat_natCast, List.length_cons, List.length_nil, zeroB]; rfl))) | (refine awp_seq_k fun K hK => ?_) | (refine awp_drawQ [0, 1, 2, 3, 4, 5, 6, 7, 8, 9, 10, 11, 12, 13] (fs := []) rfl rfl (by kernel_rfl) (by kernel_rfl) ?_) | (refine awp_drawR (es := []) [0, 1, 2, 3, 4, 5, 6, 7, 8, 9, 10, 11, 12, 13] 1 (fs := []) rfl (by kernel_rfl) (by kernel_rfl) ?_) | ((first | refine awp_region ?_ | refine awp_draw (by kernel_rfl) ?_ | refine awp_block ?_ | refine awp_exit ?_ | refine awp_skip ?_ | refine awp_ret ?_); (try simp only [NB, simprocAttr])))
    all_goals simp only [EndH, FinH, resA, resL, resA1, lastV, lastA, lastAs, pur, purs, pg_len, pg_take, pg_take0, List.length_append, List.length_cons, List.length_nil, S1, simprocAttr, Nat.le_add_right, Nat.le_refl] <;> first | exact pg_keep' hl | exact ⟨pg_keep' hl, rfl⟩ | exact ⟨pg_keep' hl, rfl, rfl⟩
  · have h2' : ((numR k.term (vS S)).2 != 0) = true := by simp [h2]
    have eg : nodeG ns fl S c k = [faultS S c (numR k.term (vS S)).2] := by
      unfold nodeG; rw [if_neg (by omega), if_pos (.inr hk)]
      unfold dataG; rw [hin, List.headD_cons, if_neg h0, if_neg (by omega), if_pos h2]
    rw [eg]
    refine acalls_heap (rl := []) mixed Tryz.func80 rfl (rs := []) rfl Tryz.ntmps80 (by simp) ?_
    repeat' (first | ((first | refine aops_nil ?_ | refine aqops_nil ?_ | refine arun_nil ?_ | refine arunT_nil ?_); (try simp only [NB])) | ((repeat ((fail_if_success (refine hK _ ?_)); clear hK K)); refine hK _ ?_; clear hK K) | ((first | refine aops_k fun K1 hK1 => ?_ | refine aqops_k fun K1 hK1 => ?_ | refine arun_eff rfl rfl rfl fun K1 hK1 => ?_ | refine awp_cond_k fun A B hA hB => ?_); simp only [S1, simprocAttr, TTTmI, e1, e2, e3, e4, e5, e6, e7, e8, hil, hi0, hei, hin0, f0, f40, gk, hz', hka, h2', gv, c0, hc', eN, takeA_sl0, gmC_net, TSz, z49_ne, z49_map, zS_len, takeA_arr, takeA_st, List.length_map, List.length_take, List.length_drop, pg_len, pg_get0, pg_geti, pg_set0, pg_seti, pg_b hb hne, pg_lb hl, pg_b0 hb hne, pg_lb0 hl, gmB, spB, gl, all_scalar, Nat.mul_one, Nat.zero_add, Nat.add_zero, Int.toNat_natCast, List.length_cons, List.length_nil]; first | (refine hK1 _ ?_; clear hK1 K1) | ((first | refine hA ?_ | refine hB ?_); clear hA hB A B) | ((first | apply call_a E109 | apply call_q E109); exact (ins_calls _ fl hf' _ _); (refine hK1 _ ?_; clear hK1 K1)) | ((first | apply call_a E57 | apply call_q E57); exact (outs_calls _ fl hf' _ _); (refine hK1 _ ?_; clear hK1 K1)) | ((first | apply call_a E111 | apply call_q E111); exact (ch _); (refine hK1 _ ?_; clear hK1 K1)) | ((first | apply call_a E112 | apply call_q E112); exact (tfault_at ok c (numR k.term (vS S)).2 _); (refine hK1 _ ?_; clear hK1 K1)) | (refine join_x (v := ?_) (fun hg hk9 => ?_) ?_; rotate_left; (focus (try ((try simp only [BN] at hg); simp only [S1, simprocAttr, TTTmI, e1, e2, e3, e4, e5, e6, e7, e8, hil, hi0, hei, hin0, f0, f40, gk, hz', hka, h2', gv, c0, hc', eN, takeA_sl0, gmC_net, TSz, z49_ne, z49_map, zS_len, takeA_arr, takeA_st, List.length_map, List.length_take, List.length_drop, pg_len, pg_get0, pg_geti, pg_set0, pg_seti, pg_b hb hne, pg_lb hl, pg_b0 hb hne, pg_lb0 hl, gmB, spB, gl, all_scalar, Nat.mul_one, Nat.zero_add, Nat.add_zero, Int.toNat_natCast, List.length_cons, List.length_nil, hg] at hk9 ⊢)); first | exact hk9 | ((first | apply call_a E109 | apply call_q E109); exact (ins_calls _ fl hf' _ _); exact hk9) | ((first | apply call_a E57 | apply call_q E57); exact (outs_calls _ fl hf' _ _); exact hk9) | ((first | apply call_a E111 | apply call_q E111); exact (ch _); exact hk9) | ((first | apply call_a E112 | apply call_q E112); exact (tfault_at ok c (numR k.term (vS S)).2 _); exact hk9)); (refine hK1 _ ?_; clear hK1 K1)) | (((first | (refine ⟨fun hg => hA ?_, fun hg => hB ?_⟩ <;> clear hA hB A B) | refine ⟨fun hg => ?_, fun hg => ?_⟩) <;> (try simp only [BN2] at hg) <;> (try simp only [hg, cond_true, cond_false])) <;> (try (refine hK1 _ ?_; clear hK1 K1)) <;> (try simp only [BN3] at hg))) | ((first | refine arun_q (v := ?_) rfl rfl rfl rfl (by decide) (fun R1 K1 hK1 => ?_) ?_ | refine arun_f (v := ?_) rfl rfl rfl (by decide) (fun K1 hK1 => ?_) ?_ | refine arunT_f (v := ?_) rfl rfl rfl (by decide) (fun K1 hK1 => ?_) ?_); rotate_left; (focus (simp only [S1, simprocAttr, TTTmI, e1, e2, e3, e4, e5, e6, e7, e8, hil, hi0, hei, hin0, f0, f40, gk, hz', hka, h2', gv, c0, hc', eN, takeA_sl0, gmC_net, TSz, z49_ne, z49_map, zS_len, takeA_arr, takeA_st, List.length_map, List.length_take, List.length_drop, pg_len, pg_get0, pg_geti, pg_set0, pg_seti, pg_b hb hne, pg_lb hl, pg_b0 hb hne, pg_lb0 hl, gmB, spB, gl, all_scalar, Nat.mul_one, Nat.zero_add, Nat.add_zero, Int.toNat_natCast, List.length_cons, List.length_nil]; first | (exact hK1 _ _ _) | ((first | apply call_a E109 | apply call_q E109); exact (ins_calls _ fl hf' _ _); exact hK1 _ _ _) | ((first | apply call_a E57 | apply call_q E57); exact (outs_calls _ fl hf' _ _); exact hK1 _ _ _) | ((first | apply call_a E111 | apply call_q E111); exact (ch _); exact hK1 _ _ _) | ((first | apply call_a E112 | apply call_q E112); exact (tfault_at ok c (numR k.term (vS S)).2 _); exact hK1 _ _ _)))) | (refine arun_tail rfl rfl rfl ?_) | ((first | refine arun_allocj (z := ?_) 0 rfl rfl rfl rfl (by decide) rfl ?_ ?_ | refine arun_allocj (z := ?_) 1 rfl rfl rfl rfl (by decide) rfl ?_ ?_ | refine arun_allocj (z := ?_) 2 rfl rfl rfl rfl (by decide) rfl ?_ ?_); rotate_left; (focus (simp only [S1, simprocAttr, TTTmI, e1, e2, e3, e4, e5, e6, e7, e8, hil, hi0, hei, hin0, f0, f40, gk, hz', hka, h2', gv, c0, hc', eN, takeA_sl0, gmC_net, TSz, z49_ne, z49_map, zS_len, takeA_arr, takeA_st, List.length_map, List.length_take, List.length_drop, pg_len, pg_get0, pg_geti, pg_set0, pg_seti, pg_b hb hne, pg_lb hl, pg_b0 hb hne, pg_lb0 hl, gmB, spB, gl, all_scalar, Nat.mul_one, Nat.zero_add, Nat.add_zero, Int.toNat_natCast, List.length_cons, List.length_nil, zeroB]; rfl))) | (refine awp_seq_k fun K hK => ?_) | (refine awp_drawQ [0, 1, 2, 3, 4, 5, 6, 7, 8, 9, 10, 11, 12, 13] (fs := []) rfl rfl (by kernel_rfl) (by kernel_rfl) ?_) | (refine awp_drawR (es := []) [0, 1, 2, 3, 4, 5, 6, 7, 8, 9, 10, 11, 12, 13] 1 (fs := []) rfl (by kernel_rfl) (by kernel_rfl) ?_) | ((first | refine awp_region ?_ | refine awp_draw (by kernel_rfl) ?_ | refine awp_block ?_ | refine awp_exit ?_ | refine awp_skip ?_ | refine awp_ret ?_); (try simp only [NB, simprocAttr])))
    all_goals simp only [EndH, FinH, resA, resL, resA1, lastV, lastA, lastAs, pur, purs, pg_len, pg_take, pg_take0, List.length_append, List.length_cons, List.length_nil, S1, simprocAttr, Nat.le_add_right, Nat.le_refl] <;> first | exact pg_keep' hl | exact ⟨pg_keep' hl, rfl⟩ | exact ⟨pg_keep' hl, rfl, rfl⟩
end
end Go.Proofs.YtbbmfemplmelhaaGreatDoor.AM
end

section
set_option linter.unusedVariables false
set_option linter.unusedSimpArgs false
set_option maxRecDepth 4000
set_option maxHeartbeats 4000000
namespace Go.Proofs.YtbbmfemplmelhaaGreatDoor.AM
open Go Go.Proofs
set_option linter.defProp false in
attribute [local irreducible] awp aops aqops aeops arun arunT

section
variable {h : Heap} {b lb : Nat} {ns : List Nd} {fl : List Fl} {S : List Int} {l : List Sp}

theorem tnode_calls (nk : NetOk ns fl) (rt : Right ns fl) (ok : GmOk h b lb S l) (st : StOk S) (few : l.length ≤ 900000) (c : Nat) {k : Nd} (hc : ns[c]? = some k) :
    ACalls Tryz.prog gW 80 [.ptr b 0 0, .i c] (putG h b lb ns fl S l) (fun r h' => r = .undef ∧ h' = putG h b lb ns fl S (l ++ nodeG ns fl S c k)) := by
  have hkd := rt.kind hc
  have hS := ok.held.1
  by_cases h1 : k.kind = 1
  · exact tnode_1 nk rt ok st few c hc h1
  have hne := rt.ins hc h1
  by_cases hl1 : (insN fl c).length = 1
  · obtain ⟨m0, hm0⟩ : ∃ m0, insN fl c = [m0] := by
      match hq : insN fl c, hl1 with
      | [a], _ => exact ⟨a, rfl⟩
    obtain ⟨f0, f40⟩ := (InF_ins rt.f c).2 m0 (by rw [hm0]; simp)
    obtain ⟨m, rfl⟩ := Int.eq_ofNat_of_zero_le f0
    have m40 : m < 40 := by omega
    by_cases h0 : tk S (m : Int) = 0
    · have := tnode_none (ns := ns) (fl := fl) nk rt ok c hc m m40 hm0 h1 h0
      have hz := node_zero (ns := ns) hS m40 hm0 h0 (k := k) fun h5 hx => by
        have := rt.xor (List.getElem?_eq_some_iff.mp hc).1 (by rw [kind_of hc]; exact h5)
        omega
      rw [hz, List.append_nil]
      exact this
    · by_cases h2 : k.kind = 2
      · exact tnode_2 nk rt ok st few c hc h2 m m40 hm0 h0
      by_cases h3 : k.kind = 3
      · exact tnode_3 nk rt ok st few c hc h3 m m40 hm0 h0
      by_cases h4 : k.kind = 4
      · exact tnode_4 nk rt ok st few c hc h4 m m40 hm0 h0
      by_cases h5 : k.kind = 5
      · exact tnode_5a nk rt ok st few c hc h5 m m40 hm0 h0
      by_cases h6 : k.kind = 6
      · exact tnode_6a nk rt ok st few c hc h6 m m40 hm0 h0
      by_cases h7 : k.kind = 7
      · exact tnode_7 nk rt ok st few c hc h7 m m40 hm0 h0
      · exact tnode_8 nk rt ok st few c hc (by omega) m m40 hm0 h0
  · by_cases h5 : k.kind = 5
    · exact tnode_5b nk rt ok st few c hc h5 hl1
    by_cases h6 : k.kind = 6
    · exact tnode_6b nk rt ok st few c hc h6 hl1
    exfalso
    by_cases h2 : k.kind = 2
    · exact hl1 (rt.ar2 hc h2)
    by_cases h7 : k.kind = 7
    · exact hl1 (rt.ar7 hc h7).1
    exact hl1 (rt.ar11 hc (by omega)).1
end
end Go.Proofs.YtbbmfemplmelhaaGreatDoor.AM
end

section
set_option linter.unusedVariables false
set_option linter.unusedSimpArgs false
set_option maxRecDepth 4000
set_option maxHeartbeats 4000000
namespace Go.Proofs.YtbbmfemplmelhaaGreatDoor.AM
open Go Go.Proofs
set_option linter.defProp false in
def TTTmM := And.intro T2 (And.intro T3 (And.intro T4 (And.intro T22 (And.intro T25 (And.intro T28 (And.intro T31 (And.intro T41 (And.intro T57 (And.intro T58 (And.intro T77 (And.intro T92 (And.intro T118 (And.intro T121 (And.intro T142 (And.intro T144 (And.intro T146 T147))))))))))))))))
attribute [local irreducible] awp aops aqops aeops arun arunT

theorem step_fn_nn {h : Heap} {b lb : Nat} {ns : List Nd} {fl : List Fl} {S : List Int} {l : List Sp} (ok : GmOk h b lb S l) (m : Sp) (L : Heap) {f : FuncId} (hE : Enters Tryz.prog f) {caps : List AV} (hcap : avlts (h.length + L.length) caps) {chg : List Int → List Int} (hlen : ∀ T : List Int, T.length = 49 → (chg T).length = 49)
    (hC : ∀ (A : Option Blk) (T : List Int), T.length = 49 → T.drop 40 = S.drop 40 → ACalls Tryz.prog gW f (.ptr (h.length + L.length + 1) 0 0 :: caps) (putG h b lb ns fl S l ++ (L ++ [A, some ⟨0, T.map AV.i⟩])) (fun r h' => r = .undef ∧ h' = putG h b lb ns fl S l ++ (L ++ [A, some ⟨0, (chg T).map AV.i⟩]))) :
    ACalls Tryz.prog gW 82 [.ptr b 0 0, aMv m, .p .nils, .p .nils, .fn f caps] (putG h b lb ns fl S l ++ L) (fun r h' => r = .undef ∧ h' = putG h b lb ns fl S (l ++ stF S m chg [] []) ++ L) := by
  have := step_fn_at (G := gW) (ns := ns) (fl := fl) ok m [] [] ⟨by simp, by simp⟩ ⟨by simp, by simp⟩ L hE hcap hlen hC
  refine ACalls.nrm ?_
  simp only [nrmAs, nrmA, nrm]
  exact this

theorem more_at {h : Heap} {b lb : Nat} {ns : List Nd} {fl : List Fl} {S : List Int} {l : List Sp} {a : Nat} (ha : a < 4) {q : Int} (hq : S[44 + a]? = some q) (hq0 : 0 ≤ q ∧ q ≤ 3) (A : Option Blk) (T : List Int) (hT : T.length = 49) (hd : T.drop 40 = S.drop 40) :
    ACalls Tryz.prog gW 83 [.ptr (h.length + 1 + 1) 0 0, .ptr h.length 0 0] (putG h b lb ns fl S l ++ ([some ⟨0, [.i a]⟩] ++ [A, some ⟨0, T.map AV.i⟩]))
    (fun r h' => r = .undef ∧ h' = putG h b lb ns fl S l ++ ([some ⟨0, [.i a]⟩] ++ [A, some ⟨0, (T.set (44 + a) (q + 1)).map AV.i⟩])) := by
  have hqT : T[44 + a]? = some q := by
    have e : (T.drop 40)[4 + a]? = (S.drop 40)[4 + a]? := by rw [hd]
    rw [List.getElem?_drop, List.getElem?_drop, show 40 + (4 + a) = 44 + a by omega] at e
    rw [e, hq]
  have := more_calls (G := gW) (H := putG h b lb ns fl S l ++ ([some ⟨0, [.i a]⟩] ++ [A, some ⟨0, T.map AV.i⟩])) (c := h.length + 2) (r := h.length) (gc := 0) (gr := 0) (by rw [pg_geti]; rfl) hT ha (by rw [pg_get0]; rfl) hqT hq0
  rw [pg_seti] at this
  exact this

theorem tSteps_calls {ns : List Nd} {fl : List Fl} (nk : NetOk ns fl) {S : List Int} (hS : S.length = 49) (h : Heap) :
    ACalls Tryz.prog gW 59 [aNet ns fl, aS S] h (fun r h' => r = aSps (stepsG ns fl S) ∧ h' = h) := by
  have hne := ne_is hS
  have hck := fun h => tChk_calls nk hS h
  have dm := dropI (at_get hS (k := 48) (by omega))
  have emd : S.getD 48 0 = mdS S := rfl
  rw [emd] at dm
  have t49 : ((S.map AV.i).drop 0).take 49 = S.map AV.i := by rw [List.drop_zero]; exact List.take_of_length_le (by rw [List.length_map, hS]; exact Nat.le_refl _)
  have t49' : (S.map AV.i).take 49 = S.map AV.i := by rwa [List.drop_zero] at t49
  by_cases h0 : stC ns fl S = 0
  case neg =>
    have e : stepsG ns fl S = [] := by unfold stepsG; rw [if_pos (.inl h0)]
    have f0 : (stC ns fl S != 0) = true := by simp [h0]
    rw [e]
    refine acalls_pure (rl := []) mixed Tryz.func59 rfl (rs := [.tmp 4]) rfl Tryz.ntmps59 (by simp) ?_
    repeat' (first | ((first | refine aops_nil ?_ | refine aqops_nil ?_); (try simp only [NB])) | ((repeat ((fail_if_success (refine hK _ ?_)); clear hK K)); refine hK _ ?_; clear hK K) | ((first | refine aops_k fun K1 hK1 => ?_ | refine aqops_k fun K1 hK1 => ?_ | refine awp_cond_k fun A B hA hB => ?_); simp only [S1, simprocAttr, TTTmM, TSz, z49_ne, z49_map, zS_len, f0, hne, hS, all_scalar, t49', dm, takeA_arr, takeA_st, List.length_map]; first | (refine hK1 _ ?_; clear hK1 K1) | ((first | refine hA ?_ | refine hB ?_); clear hA hB A B) | ((first | apply call_a E51 | apply call_q E51); exact (hck _); (refine hK1 _ ?_; clear hK1 K1)) | (refine join_x (v := ?_) (fun hg hk9 => ?_) ?_; rotate_left; (focus (try ((try simp only [BN] at hg); simp only [S1, simprocAttr, TTTmM, TSz, z49_ne, z49_map, zS_len, f0, hne, hS, all_scalar, t49', dm, takeA_arr, takeA_st, List.length_map, hg] at hk9 ⊢)); first | exact hk9 | ((first | apply call_a E51 | apply call_q E51); exact (hck _); exact hk9)); (refine hK1 _ ?_; clear hK1 K1)) | (((first | (refine ⟨fun hg => hA ?_, fun hg => hB ?_⟩ <;> clear hA hB A B) | refine ⟨fun hg => ?_, fun hg => ?_⟩) <;> (try simp only [BN2] at hg) <;> (try simp only [hg, cond_true, cond_false])) <;> (try (refine hK1 _ ?_; clear hK1 K1)) <;> (try simp only [BN3] at hg))) | (refine awp_seq_k fun K hK => ?_) | ((first | refine awp_region ?_ | refine awp_draw (by kernel_rfl) ?_ | refine awp_block ?_ | refine awp_exit ?_ | refine awp_skip ?_ | refine awp_ret ?_); (try simp only [NB, simprocAttr])))
    all_goals simp only [EndP, FinP, resA, resL, resA1, lastV, lastA, lastAs, pur, purs, take_app, List.take_length, S1, simprocAttr, TTTmM, Nat.le_add_right, Nat.le_refl]
    all_goals rfl
  have f0 : (stC ns fl S != 0) = false := by simp [h0]
  by_cases h1 : mdS S = 0
  case neg =>
    have e : stepsG ns fl S = [] := by unfold stepsG; rw [if_pos (.inr h1)]
    have f1 : (mdS S != 0) = true := by simp [h1]
    rw [e]
    refine acalls_pure (rl := []) mixed Tryz.func59 rfl (rs := [.tmp 4]) rfl Tryz.ntmps59 (by simp) ?_
    repeat' (first | ((first | refine aops_nil ?_ | refine aqops_nil ?_); (try simp only [NB])) | ((repeat ((fail_if_success (refine hK _ ?_)); clear hK K)); refine hK _ ?_; clear hK K) | ((first | refine aops_k fun K1 hK1 => ?_ | refine aqops_k fun K1 hK1 => ?_ | refine awp_cond_k fun A B hA hB => ?_); simp only [S1, simprocAttr, TTTmM, TSz, z49_ne, z49_map, zS_len, f0, f1, hne, hS, all_scalar, t49', dm, takeA_arr, takeA_st, List.length_map]; first | (refine hK1 _ ?_; clear hK1 K1) | ((first | refine hA ?_ | refine hB ?_); clear hA hB A B) | ((first | apply call_a E51 | apply call_q E51); exact (hck _); (refine hK1 _ ?_; clear hK1 K1)) | (refine join_x (v := ?_) (fun hg hk9 => ?_) ?_; rotate_left; (focus (try ((try simp only [BN] at hg); simp only [S1, simprocAttr, TTTmM, TSz, z49_ne, z49_map, zS_len, f0, f1, hne, hS, all_scalar, t49', dm, takeA_arr, takeA_st, List.length_map, hg] at hk9 ⊢)); first | exact hk9 | ((first | apply call_a E51 | apply call_q E51); exact (hck _); exact hk9)); (refine hK1 _ ?_; clear hK1 K1)) | (((first | (refine ⟨fun hg => hA ?_, fun hg => hB ?_⟩ <;> clear hA hB A B) | refine ⟨fun hg => ?_, fun hg => ?_⟩) <;> (try simp only [BN2] at hg) <;> (try simp only [hg, cond_true, cond_false])) <;> (try (refine hK1 _ ?_; clear hK1 K1)) <;> (try simp only [BN3] at hg))) | (refine awp_seq_k fun K hK => ?_) | ((first | refine awp_region ?_ | refine awp_draw (by kernel_rfl) ?_ | refine awp_block ?_ | refine awp_exit ?_ | refine awp_skip ?_ | refine awp_ret ?_); (try simp only [NB, simprocAttr])))
    all_goals simp only [EndP, FinP, resA, resL, resA1, lastV, lastA, lastAs, pur, purs, take_app, List.take_length, S1, simprocAttr, TTTmM, Nat.le_add_right, Nat.le_refl]
    all_goals rfl
  have f1 : (mdS S != 0) = false := by simp [h1]
  have e : stepsG ns fl S = nodesG ns fl S ns.length ++ sendsG ns S 4 := by unfold stepsG; rw [if_neg (by simp [h0, h1])]
  rw [e]
  refine acalls_pure (rl := []) mixed Tryz.func59 rfl (rs := [.tmp 4]) rfl Tryz.ntmps59 (by simp) ?_
  have ov2 := over_two hS
  repeat' (first | ((first | refine aops_nil ?_ | refine aqops_nil ?_); (try simp only [NB])) | ((repeat ((fail_if_success (refine hK _ ?_)); clear hK K)); refine hK _ ?_; clear hK K) | ((first | refine aops_k fun K1 hK1 => ?_ | refine aqops_k fun K1 hK1 => ?_ | refine awp_cond_k fun A B hA hB => ?_); simp only [S1, simprocAttr, TTTmM, TSz, z49_ne, z49_map, zS_len, f0, f1, hne, hS, ov2, all_scalar, t49', dm, takeA_arr, takeA_st, List.length_map, List.length_cons, List.length_nil, List.drop_succ_cons, List.drop_zero, List.all_append, List.length_append]; first | (refine hK1 _ ?_; clear hK1 K1) | ((first | refine hA ?_ | refine hB ?_); clear hA hB A B) | ((first | apply call_a E51 | apply call_q E51); exact (hck _); (refine hK1 _ ?_; clear hK1 K1)) | (refine join_x (v := ?_) (fun hg hk9 => ?_) ?_; rotate_left; (focus (try ((try simp only [BN] at hg); simp only [S1, simprocAttr, TTTmM, TSz, z49_ne, z49_map, zS_len, f0, f1, hne, hS, ov2, all_scalar, t49', dm, takeA_arr, takeA_st, List.length_map, List.length_cons, List.length_nil, List.drop_succ_cons, List.drop_zero, List.all_append, List.length_append, hg] at hk9 ⊢)); first | exact hk9 | ((first | apply call_a E51 | apply call_q E51); exact (hck _); exact hk9)); (refine hK1 _ ?_; clear hK1 K1)) | (((first | (refine ⟨fun hg => hA ?_, fun hg => hB ?_⟩ <;> clear hA hB A B) | refine ⟨fun hg => ?_, fun hg => ?_⟩) <;> (try simp only [BN2] at hg) <;> (try simp only [hg, cond_true, cond_false])) <;> (try (refine hK1 _ ?_; clear hK1 K1)) <;> (try simp only [BN3] at hg))) | (refine awp_seq_k fun K hK => ?_) | ((first | refine awp_region ?_ | refine awp_draw (by kernel_rfl) ?_ | refine awp_block ?_ | refine awp_exit ?_ | refine awp_skip ?_ | refine awp_ret ?_); (try simp only [NB, simprocAttr])))
  obtain ⟨hn0, hok⟩ := stC_zero h0
  have rt := Right.of hn0
  have st := okS_st hS hok
  have hn := rt.n
  have hf := rt.f
  have hnl : ∀ j, j ≤ ns.length → (nodesG ns fl S j).length ≤ 2400 := fun j hj => Nat.le_trans (nodesG_len ns fl S hf j) (by omega)
  have gok : ∀ l : List Sp, (∀ y ∈ l, y.to.length = 49) → l.length ≤ 3000 → GmOk (h ++ [some ⟨0, cNet ns fl⟩, some ⟨0, S.map AV.i⟩, none, none]) (h.length + 2) (h.length + 3) S l :=
    fun l h1 h2 => ⟨by simp, by simp, by omega, st.held, h1, by omega⟩
  have hnode : ∀ (l : List Sp), (∀ y ∈ l, y.to.length = 49) → l.length ≤ 3000 → ∀ (c : Nat) (k : Nd), ns[c]? = some k → ACalls Tryz.prog gW 80 [.ptr (h.length + 2) 0 0, .i c] (h ++ [some ⟨0, cNet ns fl⟩, some ⟨0, S.map AV.i⟩, gmB ns fl S (h.length + 3) l, spB l])
      (fun r h' => r = .undef ∧ h' = h ++ [some ⟨0, cNet ns fl⟩, some ⟨0, S.map AV.i⟩, gmB ns fl S (h.length + 3) (l ++ nodeG ns fl S c k), spB (l ++ nodeG ns fl S c k)]) := by
    intro l h1 h2 c k hc
    have := tnode_calls nk rt (gok l h1 h2) st (by omega) c hc
    have e1 := pg_tail h (some ⟨0, cNet ns fl⟩) (some ⟨0, S.map AV.i⟩) none none [] ns fl S l
    have e2 := pg_tail h (some ⟨0, cNet ns fl⟩) (some ⟨0, S.map AV.i⟩) none none [] ns fl S (l ++ nodeG ns fl S c k)
    rw [List.append_nil] at e1 e2
    rwa [e1, e2] at this
  refine awp_forG ns.length 57 (fun j => [(25, .i j), (24, .i ns.length), (5, .ptr (h.length + 2) 0 0), (3, .ptr (h.length + 1) 0 0), (2, .ptr h.length 0 0)])
    (fun j => [some ⟨0, cNet ns fl⟩, some ⟨0, S.map AV.i⟩, gmB ns fl S (h.length + 3) (nodesG ns fl S j), spB (nodesG ns fl S j)]) (fun j => True) ?_ trivial fun j hj hp K hK => ?_
  · refine (Ghost.game hS rfl).trans (Sub.ghost ⟨rfl, ⟨[], by simp only [List.append_nil]; rfl⟩, ?_, ⟨trivial, trivial, trivial⟩, avlts_is _ _, pg_avl2 (by simp), avlts_is _ _, trivial⟩)
    simp only [keeps, avlt, avlts, blksLt, frL, upd_get, S1, simprocAttr, List.length_map, Int.natCast_zero, AV.p.injEq, PV.int.injEq, PV.bool.injEq, PV.sl.injEq] <;> (try and_intros) <;> (try assumption) <;> (try trivial) <;> (try omega)
  rcases Nat.lt_or_ge j ns.length with hlt | hge
  · obtain ⟨k, hx⟩ : ∃ k, ns[j]? = some k := ⟨_, List.getElem?_eq_getElem hlt⟩
    have ej : nodesG ns fl S (j + 1) = nodesG ns fl S j ++ nodeG ns fl S j k := by rw [nodesG, hx]
    have hnd := hnode (nodesG ns fl S j) (nodesG_to hS j) (by have := hnl j hj; omega) j k hx
    repeat' (first | ((first | refine aops_nil ?_ | refine aqops_nil ?_); (try simp only [NB])) | ((repeat ((fail_if_success (refine hK _ ?_)); clear hK K)); refine hK _ ?_; clear hK K) | ((first | refine aops_k fun K1 hK1 => ?_ | refine aqops_k fun K1 hK1 => ?_ | refine awp_cond_k fun A B hA hB => ?_); simp only [S1, simprocAttr, TTTmM, hitN hlt, nextN nk.n hlt]; first | (refine hK1 _ ?_; clear hK1 K1) | ((first | refine hA ?_ | refine hB ?_); clear hA hB A B) | ((first | apply call_a E80 | apply call_q E80); exact hnd; (refine hK1 _ ?_; clear hK1 K1)) | (refine join_x (v := ?_) (fun hg hk9 => ?_) ?_; rotate_left; (focus (try ((try simp only [BN] at hg); simp only [S1, simprocAttr, TTTmM, hitN hlt, nextN nk.n hlt, hg] at hk9 ⊢)); first | exact hk9 | ((first | apply call_a E80 | apply call_q E80); exact hnd; exact hk9)); (refine hK1 _ ?_; clear hK1 K1)) | (((first | (refine ⟨fun hg => hA ?_, fun hg => hB ?_⟩ <;> clear hA hB A B) | refine ⟨fun hg => ?_, fun hg => ?_⟩) <;> (try simp only [BN2] at hg) <;> (try simp only [hg, cond_true, cond_false])) <;> (try (refine hK1 _ ?_; clear hK1 K1)) <;> (try simp only [BN3] at hg))) | (refine awp_seq_k fun K hK => ?_) | ((first | refine awp_region ?_ | refine awp_draw (by kernel_rfl) ?_ | refine awp_block ?_ | refine awp_exit ?_ | refine awp_skip ?_ | refine awp_ret ?_); (try simp only [NB, simprocAttr])))
    all_goals refine ⟨hlt, trivial, ?_⟩
    all_goals simp only [ej]
    all_goals refine ⟨rfl, ⟨_, rfl⟩, ?_, ⟨trivial, trivial, trivial⟩, avlts_is _ _, pg_avl2 (by simp), avlts_is _ _, trivial⟩
    all_goals simp only [keeps, avlt, avlts, blksLt, frL, upd_get, S1, simprocAttr, List.length_map, Int.natCast_zero, AV.p.injEq, PV.int.injEq, PV.bool.injEq, PV.sl.injEq] <;> (try and_intros) <;> (try assumption) <;> (try trivial) <;> (try omega)
  obtain rfl : j = ns.length := by omega
  have ar44 : ((S.map AV.i).drop 44).take 4 = ((S.drop 44).take 4).map AV.i := by rw [List.map_take, List.map_drop]
  have l4 : ((S.drop 44).take 4).length = 4 := by simp [hS]
  repeat' (first | ((first | refine aops_nil ?_ | refine aqops_nil ?_); (try simp only [NB])) | ((repeat ((fail_if_success (refine hK _ ?_)); clear hK K)); refine hK _ ?_; clear hK K) | ((first | refine aops_k fun K1 hK1 => ?_ | refine aqops_k fun K1 hK1 => ?_ | refine awp_cond_k fun A B hA hB => ?_); simp only [S1, simprocAttr, TTTmM, TSz, z49_ne, endN, ar44, hS, takeA_arr, takeA_st, List.length_map, List.length_drop, List.length_take]; first | (refine hK1 _ ?_; clear hK1 K1) | ((first | refine hA ?_ | refine hB ?_); clear hA hB A B) | (refine join_x (v := ?_) (fun hg hk9 => ?_) ?_; rotate_left; (focus (try ((try simp only [BN] at hg); simp only [S1, simprocAttr, TTTmM, TSz, z49_ne, endN, ar44, hS, takeA_arr, takeA_st, List.length_map, List.length_drop, List.length_take, hg] at hk9 ⊢)); first | exact hk9); (refine hK1 _ ?_; clear hK1 K1)) | (((first | (refine ⟨fun hg => hA ?_, fun hg => hB ?_⟩ <;> clear hA hB A B) | refine ⟨fun hg => ?_, fun hg => ?_⟩) <;> (try simp only [BN2] at hg) <;> (try simp only [hg, cond_true, cond_false])) <;> (try (refine hK1 _ ?_; clear hK1 K1)) <;> (try simp only [BN3] at hg))) | (refine awp_seq_k fun K hK => ?_) | ((first | refine awp_region ?_ | refine awp_draw (by kernel_rfl) ?_ | refine awp_block ?_ | refine awp_exit ?_ | refine awp_skip ?_ | refine awp_ret ?_); (try simp only [NB, simprocAttr])))
  have hl0 : ∀ y ∈ nodesG ns fl S ns.length, y.to.length = 49 := nodesG_to hS ns.length
  have hl1 : (nodesG ns fl S ns.length).length ≤ 2400 := hnl _ (Nat.le_refl _)
  generalize nodesG ns fl S ns.length = l0 at *
  have hlm : ∀ m, m ≤ 4 → (l0 ++ sendsG ns S m).length ≤ 2500 := fun m hm => by
    rw [List.length_append]; have := sendsG_len ns S m; omega
  have htm : ∀ m, ∀ y ∈ l0 ++ sendsG ns S m, y.to.length = 49 := fun m y hy => (List.mem_append.mp hy).elim (hl0 y) (sendsG_to hS m y)
  refine awp_for 4 57 (fun m => [(34, .i m), (33, .agg (((S.drop 44).take 4).map AV.i)), (5, .ptr (h.length + 2) 0 0), (3, .ptr (h.length + 1) 0 0), (2, .ptr h.length 0 0)])
    (fun m => [some ⟨0, cNet ns fl⟩, some ⟨0, S.map AV.i⟩, gmB ns fl S (h.length + 3) (l0 ++ sendsG ns S m), spB (l0 ++ sendsG ns S m)]) (fun m => True) ?_ trivial fun m hm hp K hK => ?_
  · have s0 : sendsG ns S 0 = [] := rfl
    simp only [s0, List.append_nil]
    refine ⟨rfl, ⟨[], by simp only [List.append_nil]⟩, ?_, ⟨trivial, trivial, trivial⟩, avlts_is _ _, pg_avl2 (by simp), avlts_is _ _, trivial⟩
    simp only [keeps, avlt, avlts, blksLt, frL, upd_get, S1, simprocAttr, List.length_map, Int.natCast_zero, AV.p.injEq, PV.int.injEq, PV.bool.injEq, PV.sl.injEq] <;> (try and_intros) <;> (try assumption) <;> (try trivial) <;> (try omega)
    all_goals exact avlts_is _ _
  rcases Nat.lt_or_ge m 4 with hlt | hge
  · have m0 : (0 : Int) ≤ (m : Int) := by omega
    have m4 : (m : Int) < 4 := by omega
    obtain ⟨hq, q0, q3⟩ := st.q hlt
    have hq4 : ((S.drop 44).take 4)[m]? = some (qAt S m) := by rw [List.getElem?_take_of_lt hlt, List.getElem?_drop]; exact hq
    have hdq := dropI hq4
    have hw9 := fun h => awaits_calls (G := gW) ns fl nk.n m hlt h
    have es : sendsG ns S (m + 1) = sendsG ns S m ++ sendG ns S m := rfl
    cases ew : awaitsB ns m with
    | false =>
      rw [ew] at hw9
      have hs : sendG ns S m = [] := by unfold sendG; rw [if_neg (by simp [ew])]
      repeat' (first | ((first | refine aops_nil ?_ | refine aqops_nil ?_); (try simp only [NB])) | ((repeat ((fail_if_success (refine hK _ ?_)); clear hK K)); refine hK _ ?_; clear hK K) | ((first | refine aops_k fun K1 hK1 => ?_ | refine aqops_k fun K1 hK1 => ?_ | refine awp_cond_k fun A B hA hB => ?_); simp only [S1, simprocAttr, TTTmM, m0, m4, next40 (n := 4) (by omega) hlt, hdq, l4, List.length_map, Int.toNat_natCast, Nat.mul_one, Nat.zero_add]; first | (refine hK1 _ ?_; clear hK1 K1) | ((first | refine hA ?_ | refine hB ?_); clear hA hB A B) | ((first | apply call_a E81 | apply call_q E81); exact (hw9 _); (refine hK1 _ ?_; clear hK1 K1)) | (refine join_x (v := ?_) (fun hg hk9 => ?_) ?_; rotate_left; (focus (try ((try simp only [BN] at hg); simp only [S1, simprocAttr, TTTmM, m0, m4, next40 (n := 4) (by omega) hlt, hdq, l4, List.length_map, Int.toNat_natCast, Nat.mul_one, Nat.zero_add, hg] at hk9 ⊢)); first | exact hk9 | ((first | apply call_a E81 | apply call_q E81); exact (hw9 _); exact hk9)); (refine hK1 _ ?_; clear hK1 K1)) | (((first | (refine ⟨fun hg => hA ?_, fun hg => hB ?_⟩ <;> clear hA hB A B) | refine ⟨fun hg => ?_, fun hg => ?_⟩) <;> (try simp only [BN2] at hg) <;> (try simp only [hg, cond_true, cond_false])) <;> (try (refine hK1 _ ?_; clear hK1 K1)) <;> (try simp only [BN3] at hg))) | (refine awp_seq_k fun K hK => ?_) | ((first | refine awp_region ?_ | refine awp_draw (by kernel_rfl) ?_ | refine awp_block ?_ | refine awp_exit ?_ | refine awp_skip ?_ | refine awp_ret ?_); (try simp only [NB, simprocAttr])))
      all_goals refine ⟨hlt, trivial, ?_⟩
      all_goals simp only [es, hs, List.append_nil]
      all_goals refine ⟨rfl, ⟨_, rfl⟩, ?_, ⟨trivial, trivial, trivial⟩, avlts_is _ _, pg_avl2 (by simp), avlts_is _ _, trivial⟩
      all_goals simp only [keeps, avlt, avlts, blksLt, frL, upd_get, S1, simprocAttr, List.length_map, Int.natCast_zero, AV.p.injEq, PV.int.injEq, PV.bool.injEq, PV.sl.injEq] <;> (try and_intros) <;> (try assumption) <;> (try trivial) <;> (try omega)
      all_goals exact avlts_is _ _
    | true =>
      rw [ew] at hw9
      by_cases h3 : qAt S (m : Int) < 3
      · have h3' : decide (qAt S (m : Int) < 3) = true := decide_eq_true h3
        have hs : sendG ns S m = moveG S ⟨-1, m, 5, 0, m, S.set (44 + m) (qAt S m + 1)⟩ [] [] := by unfold sendG; rw [if_pos ⟨ew, h3⟩]
        generalize qAt S (m : Int) = q at *
        have em := stF_move hS (m := ⟨-1, m, 5, 0, m, S⟩) (Chg.set hS (k := 44 + m) (by omega) (q + 1)) (fr := []) (to := []) ⟨by simp, by simp⟩ ⟨by simp, by simp⟩
        simp only at em
        have hadd : ACalls Tryz.prog gW 82 [.ptr (h.length + 2) 0 0, aMv ⟨-1, m, 5, 0, m, S⟩, .p .nils, .p .nils, .fn 83 [.ptr (h.length + 4) 0 0]] (h ++ (some ⟨0, cNet ns fl⟩ :: some ⟨0, S.map AV.i⟩ :: gmB ns fl S (h.length + 3) (l0 ++ sendsG ns S m) :: spB (l0 ++ sendsG ns S m) :: [some ⟨0, [.i m]⟩]))
            (fun r h' => r = .undef ∧ h' = h ++ (some ⟨0, cNet ns fl⟩ :: some ⟨0, S.map AV.i⟩ :: gmB ns fl S (h.length + 3) (l0 ++ sendsG ns S m ++ sendG ns S m) :: spB (l0 ++ sendsG ns S m ++ sendG ns S m) :: [some ⟨0, [.i m]⟩])) := by
          have := step_fn_nn (ns := ns) (fl := fl) (gok _ (htm m) (by have := hlm m (by omega); omega)) ⟨-1, m, 5, 0, m, S⟩ [some ⟨0, [.i m]⟩] E83 (caps := [.ptr (h.length + 4) 0 0]) ⟨by simp [avlt], trivial⟩ (chg := fun T => T.set (44 + m) (q + 1)) (fun T hT => by rw [List.length_set, hT])
            (fun A T hT hd => by
              have := more_at (h := h ++ [some ⟨0, cNet ns fl⟩, some ⟨0, S.map AV.i⟩, none, none]) (b := h.length + 2) (lb := h.length + 3) (ns := ns) (fl := fl) (S := S) (l := l0 ++ sendsG ns S m) hlt hq ⟨q0, q3⟩ A T hT hd
              simpa using this)
          rw [em, ← hs] at this
          rwa [pg_tail, pg_tail] at this
        repeat' (first | ((first | refine aops_nil ?_ | refine aqops_nil ?_); (try simp only [NB])) | ((repeat ((fail_if_success (refine hK _ ?_)); clear hK K)); refine hK _ ?_; clear hK K) | ((first | refine aops_k fun K1 hK1 => ?_ | refine aqops_k fun K1 hK1 => ?_ | refine awp_cond_k fun A B hA hB => ?_); simp only [S1, simprocAttr, TTTmM, m0, m4, next40 (n := 4) (by omega) hlt, hdq, l4, h3', List.length_map, List.length_cons, List.length_nil, Int.toNat_natCast, Nat.mul_one, Nat.zero_add]; first | (refine hK1 _ ?_; clear hK1 K1) | ((first | refine hA ?_ | refine hB ?_); clear hA hB A B) | ((first | apply call_a E81 | apply call_q E81); exact (hw9 _); (refine hK1 _ ?_; clear hK1 K1)) | ((first | apply call_a E82 | apply call_q E82); exact hadd; (refine hK1 _ ?_; clear hK1 K1)) | (refine join_x (v := ?_) (fun hg hk9 => ?_) ?_; rotate_left; (focus (try ((try simp only [BN] at hg); simp only [S1, simprocAttr, TTTmM, m0, m4, next40 (n := 4) (by omega) hlt, hdq, l4, h3', List.length_map, List.length_cons, List.length_nil, Int.toNat_natCast, Nat.mul_one, Nat.zero_add, hg] at hk9 ⊢)); first | exact hk9 | ((first | apply call_a E81 | apply call_q E81); exact (hw9 _); exact hk9) | ((first | apply call_a E82 | apply call_q E82); exact hadd; exact hk9)); (refine hK1 _ ?_; clear hK1 K1)) | (((first | (refine ⟨fun hg => hA ?_, fun hg => hB ?_⟩ <;> clear hA hB A B) | refine ⟨fun hg => ?_, fun hg => ?_⟩) <;> (try simp only [BN2] at hg) <;> (try simp only [hg, cond_true, cond_false])) <;> (try (refine hK1 _ ?_; clear hK1 K1)) <;> (try simp only [BN3] at hg))) | (refine awp_seq_k fun K hK => ?_) | ((first | refine awp_region ?_ | refine awp_draw (by kernel_rfl) ?_ | refine awp_block ?_ | refine awp_exit ?_ | refine awp_skip ?_ | refine awp_ret ?_); (try simp only [NB, simprocAttr])))
        all_goals refine ⟨hlt, trivial, ?_⟩
        all_goals simp only [es, ← List.append_assoc]
        all_goals refine ⟨rfl, ⟨_, by simp only [List.append_assoc, List.cons_append, List.nil_append]; rfl⟩, ?_, ⟨trivial, trivial, trivial⟩, avlts_is _ _, pg_avl2 (by simp), avlts_is _ _, trivial⟩
        all_goals simp only [keeps, avlt, avlts, blksLt, frL, upd_get, S1, simprocAttr, List.length_map, Int.natCast_zero, AV.p.injEq, PV.int.injEq, PV.bool.injEq, PV.sl.injEq] <;> (try and_intros) <;> (try assumption) <;> (try trivial) <;> (try omega)
        all_goals exact avlts_is _ _
      · have h3' : decide (qAt S (m : Int) < 3) = false := decide_eq_false h3
        have hs : sendG ns S m = [] := by unfold sendG; rw [if_neg (by simp [h3])]
        repeat' (first | ((first | refine aops_nil ?_ | refine aqops_nil ?_); (try simp only [NB])) | ((repeat ((fail_if_success (refine hK _ ?_)); clear hK K)); refine hK _ ?_; clear hK K) | ((first | refine aops_k fun K1 hK1 => ?_ | refine aqops_k fun K1 hK1 => ?_ | refine awp_cond_k fun A B hA hB => ?_); simp only [S1, simprocAttr, TTTmM, m0, m4, next40 (n := 4) (by omega) hlt, hdq, l4, h3', List.length_map, Int.toNat_natCast, Nat.mul_one, Nat.zero_add]; first | (refine hK1 _ ?_; clear hK1 K1) | ((first | refine hA ?_ | refine hB ?_); clear hA hB A B) | ((first | apply call_a E81 | apply call_q E81); exact (hw9 _); (refine hK1 _ ?_; clear hK1 K1)) | (refine join_x (v := ?_) (fun hg hk9 => ?_) ?_; rotate_left; (focus (try ((try simp only [BN] at hg); simp only [S1, simprocAttr, TTTmM, m0, m4, next40 (n := 4) (by omega) hlt, hdq, l4, h3', List.length_map, Int.toNat_natCast, Nat.mul_one, Nat.zero_add, hg] at hk9 ⊢)); first | exact hk9 | ((first | apply call_a E81 | apply call_q E81); exact (hw9 _); exact hk9)); (refine hK1 _ ?_; clear hK1 K1)) | (((first | (refine ⟨fun hg => hA ?_, fun hg => hB ?_⟩ <;> clear hA hB A B) | refine ⟨fun hg => ?_, fun hg => ?_⟩) <;> (try simp only [BN2] at hg) <;> (try simp only [hg, cond_true, cond_false])) <;> (try (refine hK1 _ ?_; clear hK1 K1)) <;> (try simp only [BN3] at hg))) | (refine awp_seq_k fun K hK => ?_) | ((first | refine awp_region ?_ | refine awp_draw (by kernel_rfl) ?_ | refine awp_block ?_ | refine awp_exit ?_ | refine awp_skip ?_ | refine awp_ret ?_); (try simp only [NB, simprocAttr])))
        all_goals refine ⟨hlt, trivial, ?_⟩
        all_goals simp only [es, hs, List.append_nil]
        all_goals refine ⟨rfl, ⟨_, rfl⟩, ?_, ⟨trivial, trivial, trivial⟩, avlts_is _ _, pg_avl2 (by simp), avlts_is _ _, trivial⟩
        all_goals simp only [keeps, avlt, avlts, blksLt, frL, upd_get, S1, simprocAttr, List.length_map, Int.natCast_zero, AV.p.injEq, PV.int.injEq, PV.bool.injEq, PV.sl.injEq] <;> (try and_intros) <;> (try assumption) <;> (try trivial) <;> (try omega)
        all_goals exact avlts_is _ _
  obtain rfl : m = 4 := by omega
  have hz := htm 4
  have hrf := gmC_ref (ns := ns) (fl := fl) (lb := h.length + 3) (n := (l0 ++ sendsG ns S 4).length) hS
  rw [List.length_append] at hrf
  repeat' (first | ((first | refine aops_nil ?_ | refine aqops_nil ?_); (try simp only [NB])) | ((repeat ((fail_if_success (refine hK _ ?_)); clear hK K)); refine hK _ ?_; clear hK K) | ((first | refine aops_k fun K1 hK1 => ?_ | refine aqops_k fun K1 hK1 => ?_ | refine awp_cond_k fun A B hA hB => ?_); simp only [S1, simprocAttr, TTTmM, gmB, hrf]; first | (refine hK1 _ ?_; clear hK1 K1) | ((first | refine hA ?_ | refine hB ?_); clear hA hB A B) | (refine join_x (v := ?_) (fun hg hk9 => ?_) ?_; rotate_left; (focus (try ((try simp only [BN] at hg); simp only [S1, simprocAttr, TTTmM, gmB, hrf, hg] at hk9 ⊢)); first | exact hk9); (refine hK1 _ ?_; clear hK1 K1)) | (((first | (refine ⟨fun hg => hA ?_, fun hg => hB ?_⟩ <;> clear hA hB A B) | refine ⟨fun hg => ?_, fun hg => ?_⟩) <;> (try simp only [BN2] at hg) <;> (try simp only [hg, cond_true, cond_false])) <;> (try (refine hK1 _ ?_; clear hK1 K1)) <;> (try simp only [BN3] at hg))) | (refine awp_seq_k fun K hK => ?_) | ((first | refine awp_region ?_ | refine awp_draw (by kernel_rfl) ?_ | refine awp_block ?_ | refine awp_exit ?_ | refine awp_skip ?_ | refine awp_ret ?_); (try simp only [NB, simprocAttr])))
  rw [show aSps (l0 ++ sendsG ns S 4) = .p (.sl ((l0 ++ sendsG ns S 4).map eSp')) from congrArg (fun x => AV.p (.sl x)) (eSp'_map hz).symm]
  exact EndP_rows eSp'_len eSp'_ok (.inr rfl) (l := l0 ++ sendsG ns S 4) (List.length_append).symm rfl (by simp only [spB, cSps_e hz, blkAt, get_app, List.getElem?_cons_succ, List.getElem?_cons_zero, List.length_append, if_true]) (by omega) (by simp) (by simp) rfl
end Go.Proofs.YtbbmfemplmelhaaGreatDoor.AM
end
