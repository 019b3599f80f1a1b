/- Proved here, in parts, for one law: Contracts: the first state. Contract of the bound of what is gone through, in the token laws: a term is not larger. Contract of the bound of what is gone through, in the token laws: a process is not larger. The small case of the token laws, run by the kernel; states and lists of numbers as arguments. The law TokenStates. The law TokenOne. The law TokenGoes. Conditions: none. -/
import Derived.Test.YtjpphhcimpclpaaDoorZTokenStatesE

section
set_option linter.unusedVariables false
set_option linter.unusedSimpArgs false
set_option maxRecDepth 4000
set_option maxHeartbeats 4000000
namespace Go.Proofs.YtjpphhcimpclpaaDoor.AM
open Go Go.Proofs
set_option linter.defProp false in
def TTTmO := And.intro T2 (And.intro T3 (And.intro T4 (And.intro T22 (And.intro T25 (And.intro T26 (And.intro T27 (And.intro T31 (And.intro T40 T60))))))))
attribute [local irreducible] awp aops aqops aeops arun arunT

theorem findG_at {α : Type} {p : α → Bool} : ∀ {l : List α} {i : Nat}, 0 ≤ findG p l i → ∃ (j : Nat) (k : α), findG p l i = ((i + j : Nat) : Int) ∧ l[j]? = some k ∧ p k = true
  | [], i, h => by simp [findG] at h
  | k :: r, i, h => by
    unfold findG at h ⊢
    cases hp : p k with
    | true => exact ⟨0, k, by simp, rfl, hp⟩
    | false =>
      rw [hp] at h
      simp only [Bool.false_eq_true, if_false] at h ⊢
      obtain ⟨j, k', h1, h2, h3⟩ := findG_at (l := r) (i := i + 1) h
      exact ⟨j + 1, k', by rw [h1]; congr 1; omega, h2, h3⟩

/-- Where a right process begins. -/
theorem Right.begin {ns : List Nd} {fl : List Fl} (h : Right ns fl) : ∃ (s f : Nat), firstN ns 1 = (s : Int) ∧ outsN fl (s : Int) = [(f : Int)] ∧ f < fl.length := by
  obtain ⟨⟨h0, h1⟩, _⟩ := ends_in h.ends
  obtain ⟨s, k, e, hk, hp⟩ := findG_at (p := fun x : Nd => x.kind == 1) (l := ns) (i := 0) h0
  have hk1 : k.kind = 1 := by simpa using hp
  have ar := (h.ar1 hk hk1).2
  have e' : firstN ns 1 = (s : Int) := by unfold firstN; rw [e]; simp
  obtain ⟨a, ha⟩ := len_one ar
  obtain ⟨f, hf, hlt, _⟩ := InFl_outs h (s : Int) a (by rw [ha]; simp)
  exact ⟨s, f, e', by rw [ha, hf], hlt⟩

noncomputable def startG (ns : List Nd) (fl : List Fl) : List Int × Int := if (netN ns fl).1 ≠ 0 then (zS, 4) else (zS.set ((outsN fl (firstN ns 1)).headD 0).toNat 1, 0)

theorem tStart_calls {ns : List Nd} {fl : List Fl} (nk : NetOk ns fl) (h : Heap) :
    ACalls Tryd.prog gW 18 [aNet ns fl] h (fun r h' => r = .tup [aS (startG ns fl).1, .i (startG ns fl).2] ∧ h' = h) := by
  have hnet := fun h => Check_calls ns fl nk h
  have hzl : (zS.map AV.i).length = 49 := by rw [List.length_map]; rfl
  have hem : (zS.map AV.i).isEmpty = false := rfl
  have hzz : over (zS.map AV.i) 0 (zS.map AV.i) = zS.map AV.i := over_full (n := 49) (by rw [List.length_map]; rfl) _ hzl
  have hzt : (zS.map AV.i).take 49 = zS.map AV.i := List.take_of_length_le (by rw [hzl]; exact Nat.le_refl _)
  by_cases h0 : (netN ns fl).1 = 0
  case neg =>
    have f0 : ((netN ns fl).1 != 0) = true := by simp [h0]
    have e : startG ns fl = (zS, 4) := by unfold startG; rw [if_pos h0]
    rw [e]
    refine acalls_pure (rl := []) mixed Tryd.func18 rfl (rs := [.cell 2 29, .tmp 3]) rfl Tryd.ntmps18 (by simp) ?_
    repeat' (first | ((first | refine aops_nil ?_ | refine aqops_nil ?_); (try simp only [NB])) | ((repeat ((fail_if_success (refine hK _ ?_)); clear hK K)); refine hK _ ?_; clear hK K) | ((first | refine aops_k fun K1 hK1 => ?_ | refine aqops_k fun K1 hK1 => ?_ | refine awp_cond_k fun A B hA hB => ?_); simp only [S1, simprocAttr, TTTmO, f0, TSz, z49_ne, z49_map, zS_len, hem, hzz, hzt, all_scalar, takeA_arr, takeA_st, List.length_map]; first | (refine hK1 _ ?_; clear hK1 K1) | ((first | refine hA ?_ | refine hB ?_); clear hA hB A B) | ((first | apply call_a E21 | apply call_q E21); exact (hnet _); (refine hK1 _ ?_; clear hK1 K1)) | (((first | (refine ⟨fun hg => hA ?_, fun hg => hB ?_⟩ <;> clear hA hB A B) | refine ⟨fun hg => ?_, fun hg => ?_⟩) <;> (try simp only [BN2] at hg) <;> (try simp only [hg, cond_true, cond_false])) <;> (try (refine hK1 _ ?_; clear hK1 K1)) <;> (try simp only [BN3] at hg))) | (refine awp_seq_k fun K hK => ?_) | ((first | refine awp_region ?_ | refine awp_draw (by kernel_rfl) ?_ | refine awp_block ?_ | refine awp_exit ?_ | refine awp_skip ?_ | refine awp_ret ?_); (try simp only [NB, simprocAttr])))
    all_goals simp only [EndP, FinP, resA, resL, resA1, lastV, lastA, lastAs, pur, purs, take_app, List.take_length, S1, simprocAttr, TTTmO, Nat.le_add_right, Nat.le_refl, hzt, hzl, List.length_map, zS_len, TSz, takeA_st, purs_is, mapmap]
  have f0 : ((netN ns fl).1 != 0) = false := by simp [h0]
  have rt := Right.of h0
  obtain ⟨s, f, e1, e2, e3⟩ := rt.begin
  have hf := rt.f
  have e : startG ns fl = (zS.set f 1, 0) := by unfold startG; rw [if_neg (by simpa using h0), e1, e2]; rfl
  rw [e]
  have hs := fun h => start_calls (G := gW) ns nk.n (fl.map eF) h
  have ho := fun h => outs_calls (G := gW) (ns.map eN) fl nk.f (s : Int) h
  rw [e1] at hs
  rw [e2] at ho
  have f40 : (f : Int) < 40 := by omega
  have f0' : (0 : Int) ≤ (f : Int) := by omega
  have f49 : f + 1 ≤ 49 := by omega
  have hset := setI_c zS f 1
  have hzs : (zS.set f 1).length = 49 := by rw [List.length_set]; rfl
  have hzt2 : ((zS.set f 1).map AV.i).take 49 = (zS.set f 1).map AV.i := List.take_of_length_le (by rw [List.length_map, hzs]; exact Nat.le_refl _)
  have hzz2 : over (zS.map AV.i) 0 ((zS.set f 1).map AV.i) = (zS.set f 1).map AV.i := over_full (n := 49) (by rw [List.length_map, hzs]) _ hzl
  have hei : eI (f : Int) = [.int .i64 (f : Int)] := rfl
  have hi0 : (0 : Int) ≤ 0 := Int.le_refl 0
  refine acalls_pure (rl := []) mixed Tryd.func18 rfl (rs := [.cell 2 29, .tmp 3]) rfl Tryd.ntmps18 (by simp) ?_
  repeat' (first | ((first | refine aops_nil ?_ | refine aqops_nil ?_ | refine arun_nil ?_ | refine arunT_nil ?_); (try simp only [NB])) | ((repeat ((fail_if_success (refine hK _ ?_)); clear hK K)); refine hK _ ?_; clear hK K) | ((first | refine aops_k fun K1 hK1 => ?_ | refine aqops_k fun K1 hK1 => ?_ | refine arun_eff rfl rfl rfl fun K1 hK1 => ?_ | refine awp_cond_k fun A B hA hB => ?_); simp only [S1, simprocAttr, TTTmO, f0, f40, f0', f49, hset, hzs, hzt2, hzz2, hei, hi0, TSz, z49_ne, z49_map, zS_len, hem, hzz, hzt, all_scalar, takeA_arr, takeA_st, List.length_map, List.map_cons, List.map_nil, List.length_cons, List.length_nil, List.getElem?_cons_zero, Nat.mul_one, Nat.zero_add, Nat.add_zero, Int.toNat_natCast]; first | (refine hK1 _ ?_; clear hK1 K1) | ((first | refine hA ?_ | refine hB ?_); clear hA hB A B) | ((first | apply call_a E21 | apply call_q E21); exact (hnet _); (refine hK1 _ ?_; clear hK1 K1)) | ((first | apply call_a E35 | apply call_q E35); exact (hs _); (refine hK1 _ ?_; clear hK1 K1)) | ((first | apply call_a E26 | apply call_q E26); exact (ho _); (refine hK1 _ ?_; clear hK1 K1)) | (((first | (refine ⟨fun hg => hA ?_, fun hg => hB ?_⟩ <;> clear hA hB A B) | refine ⟨fun hg => ?_, fun hg => ?_⟩) <;> (try simp only [BN2] at hg) <;> (try simp only [hg, cond_true, cond_false])) <;> (try (refine hK1 _ ?_; clear hK1 K1)) <;> (try simp only [BN3] at hg))) | ((first | refine arun_q (v := ?_) rfl rfl rfl rfl (by decide) (fun R1 K1 hK1 => ?_) ?_ | refine arun_f (v := ?_) rfl rfl rfl (by decide) (fun K1 hK1 => ?_) ?_ | refine arunT_f (v := ?_) rfl rfl rfl (by decide) (fun K1 hK1 => ?_) ?_); rotate_left; (focus (simp only [S1, simprocAttr, TTTmO, f0, f40, f0', f49, hset, hzs, hzt2, hzz2, hei, hi0, TSz, z49_ne, z49_map, zS_len, hem, hzz, hzt, all_scalar, takeA_arr, takeA_st, List.length_map, List.map_cons, List.map_nil, List.length_cons, List.length_nil, List.getElem?_cons_zero, Nat.mul_one, Nat.zero_add, Nat.add_zero, Int.toNat_natCast]; first | (exact hK1 _ _ _) | ((first | apply call_a E21 | apply call_q E21); exact (hnet _); exact hK1 _ _ _) | ((first | apply call_a E35 | apply call_q E35); exact (hs _); exact hK1 _ _ _) | ((first | apply call_a E26 | apply call_q E26); exact (ho _); exact hK1 _ _ _)))) | (refine arun_tail rfl rfl rfl ?_) | ((first | refine arun_allocj (z := ?_) 0 rfl rfl rfl rfl (by decide) rfl ?_ ?_ | refine arun_allocj (z := ?_) 1 rfl rfl rfl rfl (by decide) rfl ?_ ?_ | refine arun_allocj (z := ?_) 2 rfl rfl rfl rfl (by decide) rfl ?_ ?_); rotate_left; (focus (simp only [S1, simprocAttr, TTTmO, f0, f40, f0', f49, hset, hzs, hzt2, hzz2, hei, hi0, TSz, z49_ne, z49_map, zS_len, hem, hzz, hzt, all_scalar, takeA_arr, takeA_st, List.length_map, List.map_cons, List.map_nil, List.length_cons, List.length_nil, List.getElem?_cons_zero, Nat.mul_one, Nat.zero_add, Nat.add_zero, Int.toNat_natCast, zeroB]; rfl))) | (refine awp_seq_k fun K hK => ?_) | (refine awp_drawR [0, 1, 2, 3, 4, 5, 6, 7, 8] 0 (fs := []) rfl (by kernel_rfl) (by kernel_rfl) ?_) | ((first | refine awp_region ?_ | refine awp_draw (by kernel_rfl) ?_ | refine awp_block ?_ | refine awp_exit ?_ | refine awp_skip ?_ | refine awp_ret ?_); (try simp only [NB, simprocAttr])))
  all_goals simp only [EndP, FinP, resA, resL, resA1, lastV, lastA, lastAs, pur, purs, take_app, List.take_length, S1, simprocAttr, TTTmO, Nat.le_add_right, Nat.le_refl, hzt2, hzs, List.length_map, zS_len, TSz, takeA_st, purs_is, mapmap]

/-- The first state has one token, and is one. -/
theorem start_ok {ns : List Nd} {fl : List Fl} (h0 : (startG ns fl).2 = 0) : OneOk ns fl (startG ns fl).1 ∧ mdS (startG ns fl).1 = 0 := by
  unfold startG at h0 ⊢
  split at h0
  · cases h0
  rename_i hn
  rw [if_neg hn]
  have hn : (netN ns fl).1 = 0 := by simpa using hn
  have rt := Right.of hn
  obtain ⟨s, f, e1, e2, e3⟩ := rt.begin
  have hf := rt.f
  rw [e1, e2, List.headD_cons, Int.toNat_natCast]
  have zt : TokOk fl.length zS := by
    have e : ∀ k : Nat, tk zS k = 0 := fun k => by
      unfold tk zS
      rw [List.getD_eq_getElem?_getD, List.getElem?_replicate]; split <;> rfl
    exact ⟨rfl, fun k _ => by rw [e]; decide, fun k _ _ => e k⟩
  have zr : RestOk zS := ⟨fun k hk => by
      have : qAt zS (k : Int) = 0 := by unfold qAt zS; rw [List.getD_eq_getElem?_getD, List.getElem?_replicate]; split <;> rfl
      rw [this]; decide,
    fun k hk => by
      have : zS.getD (40 + k) 0 = 0 := by unfold zS; rw [List.getD_eq_getElem?_getD, List.getElem?_replicate]; split <;> rfl
      rw [this]; exact ⟨by decide, by decide⟩, by decide⟩
  have ht := zt.set e3 (by omega) (v := 1) (by omega) (by omega)
  have hd : (zS.set f 1).drop 40 = zS.drop 40 := drop_set40 (by omega) 1
  have hm : mdS (zS.set f 1) = 0 := by rw [mdS_drop hd]; rfl
  refine ⟨⟨ht.len, ?_, ?_⟩, hm⟩
  · unfold stC
    rw [if_neg (by simp [hn]), if_pos (okS_of ht (zr.drop hd))]
  · rw [hm, if_neg (by decide), sumT_set (by rfl) (by omega)]
    have : tk zS f = 0 := by
      unfold tk zS
      rw [List.getD_eq_getElem?_getD, List.getElem?_replicate]; split <;> rfl
    rw [this]
    have : sumT zS = 0 := by unfold sumT zS; rfl
    rw [this]; rfl
end Go.Proofs.YtjpphhcimpclpaaDoor.AM
end

section
set_option linter.unusedVariables false
set_option linter.unusedSimpArgs false
set_option maxRecDepth 4000
set_option maxHeartbeats 4000000
namespace Go.Proofs.YtjpphhcimpclpaaDoor.AM
open Go Go.Proofs
set_option linter.defProp false in
def TTTlX := And.intro T2 (And.intro T3 (And.intro T4 (And.intro T56 (And.intro T58 (And.intro T92 T93)))))
attribute [local irreducible] awp aops aqops
variable {G : Nat → Option (List PV)}

theorem deepM_calls (t : Tm) : ∀ (d n : Int) (b g : Nat) (h : Heap), 0 ≤ n → n ≤ 3000 → 1 ≤ d → d ≤ 41 → h[b]? = some (rB g n) →
    ACalls Tryd.prog G 33 [aT t, .ptr b g 0, .i d] h (fun r h' => r = .b (lgT t d n).1 ∧ h' = withB h b (rB g (lgT t d n).2)) := by
  refine Tm.ind (p := fun t => ∀ (d n : Int) (b g : Nat) (h : Heap), 0 ≤ n → n ≤ 3000 → 1 ≤ d → d ≤ 41 → h[b]? = some (rB g n) →
    ACalls Tryd.prog G 33 [aT t, .ptr b g 0, .i d] h (fun r h' => r = .b (lgT t d n).1 ∧ h' = withB h b (rB g (lgT t d n).2))) (fun t ih => ?_) t
  intro d n b g h hn hn2 hd hd2 hb
  have hlt : b < h.length := (List.getElem?_eq_some_iff.mp hb).1
  have hself := wb_self hb
  have hw : IntKind.i64.wrap (n - 1) = n - 1 := IntWalk.i64_in _ (by omega)
  rw [lgT_eq]
  refine acalls_heap (rl := []) mixed Tryd.func33 rfl (rs := [.tmp 6]) rfl Tryd.ntmps33 (by simp) ?_
  rw [← hself]
  by_cases hbig : n - 1 < 0 ∨ 40 < d ∨ 50 < (t.kids.length : Int)
  · rw [if_pos hbig]
    have f1 : ((decide (n - 1 < 0) || decide (40 < d)) || decide (50 < (t.kids.length : Int))) = true := by
      simp; omega
    repeat' (first | ((first | refine aops_nil ?_ | refine aqops_nil ?_); (try simp only [NB])) | ((repeat ((fail_if_success (refine hK _ ?_)); clear hK K)); refine hK _ ?_; clear hK K) | ((first | refine aops_k fun K1 hK1 => ?_ | refine aqops_k fun K1 hK1 => ?_ | refine awp_cond_k fun A B hA hB => ?_); simp only [S1, simprocAttr, TTTlX, f1, hw, List.length_map, wb_get hlt, wb_at hlt, wb_put, wb_set hlt, wb_get0, wb_geti, wb_len]; first | (refine hK1 _ ?_; clear hK1 K1) | ((first | refine hA ?_ | refine hB ?_); clear hA hB A B) | (refine join_x (v := ?_) (fun hg hk9 => ?_) ?_; rotate_left; (focus (try ((try simp only [BN] at hg); simp only [S1, simprocAttr, TTTlX, f1, hw, List.length_map, wb_get hlt, wb_at hlt, wb_put, wb_set hlt, wb_get0, wb_geti, wb_len, hg] at hk9 ⊢)); first | exact hk9); (refine hK1 _ ?_; clear hK1 K1)) | (((first | (refine ⟨fun hg => hA ?_, fun hg => hB ?_⟩ <;> clear hA hB A B) | refine ⟨fun hg => ?_, fun hg => ?_⟩) <;> (try simp only [BN2] at hg) <;> (try simp only [hg, cond_true, cond_false])) <;> (try (refine hK1 _ ?_; clear hK1 K1)) <;> (try simp only [BN3] at hg))) | (refine awp_seq_k fun K hK => ?_) | ((first | refine awp_region ?_ | refine awp_draw (by kernel_rfl) ?_ | refine awp_block ?_ | refine awp_exit ?_ | refine awp_skip ?_ | refine awp_ret ?_); (try simp only [NB, simprocAttr])))
    all_goals simp only [EndH, FinH, resA, resL, resA1, lastV, lastA, lastAs, pur, purs, wb_len, wb_take, wb_take0, wb_wb, S1, simprocAttr, TTTlX, Nat.le_add_right, Nat.le_refl]
    all_goals first | exact wb_keep' | exact ⟨wb_keep', rfl⟩ | exact ⟨wb_keep', rfl, rfl⟩
  · rw [if_neg hbig]
    have f1 : ((decide (n - 1 < 0) || decide (40 < d)) || decide (50 < (t.kids.length : Int))) = false := by
      simp; omega
    have hkl : t.kids.length ≤ 100 := by omega
    have hm0 : 0 ≤ n - 1 := by omega
    have hd3 : IntKind.i64.wrap (d + 1) = d + 1 := IntWalk.i64_in _ (by omega)
    let m := fun i => (lgS (t.kids.take i) (d + 1) (n - 1)).2
    refine awp_seq_k fun K hK => ?_
    repeat' (first | ((first | refine aops_nil ?_ | refine aqops_nil ?_); (try simp only [NB])) | ((repeat ((fail_if_success (refine hK _ ?_)); clear hK K)); refine hK _ ?_; clear hK K) | ((first | refine aops_k fun K1 hK1 => ?_ | refine aqops_k fun K1 hK1 => ?_ | refine awp_cond_k fun A B hA hB => ?_); simp only [S1, simprocAttr, TTTlX, f1, hw, List.length_map, wb_get hlt, wb_at hlt, wb_put, wb_set hlt, wb_get0, wb_geti, wb_len]; first | (refine hK1 _ ?_; clear hK1 K1) | ((first | refine hA ?_ | refine hB ?_); clear hA hB A B) | (refine join_x (v := ?_) (fun hg hk9 => ?_) ?_; rotate_left; (focus (try ((try simp only [BN] at hg); simp only [S1, simprocAttr, TTTlX, f1, hw, List.length_map, wb_get hlt, wb_at hlt, wb_put, wb_set hlt, wb_get0, wb_geti, wb_len, hg] at hk9 ⊢)); first | exact hk9); (refine hK1 _ ?_; clear hK1 K1)) | (((first | (refine ⟨fun hg => hA ?_, fun hg => hB ?_⟩ <;> clear hA hB A B) | refine ⟨fun hg => ?_, fun hg => ?_⟩) <;> (try simp only [BN2] at hg) <;> (try simp only [hg, cond_true, cond_false])) <;> (try (refine hK1 _ ?_; clear hK1 K1)) <;> (try simp only [BN3] at hg))) | (refine awp_seq_k fun K hK => ?_) | ((first | refine awp_region ?_ | refine awp_draw (by kernel_rfl) ?_ | refine awp_block ?_ | refine awp_exit ?_ | refine awp_skip ?_ | refine awp_ret ?_); (try simp only [NB, simprocAttr])))
    refine awp_forH t.kids.length 45 (fun i => withB h b (rB g (m i))) (fun i => [(35, .i i), (34, .i t.kids.length), (33, .p (.sl (t.kids.map eT))), (1, .ptr b g 0), (2, .i d)]) (fun i => []) (fun i => (lgS (t.kids.take i) (d + 1) (n - 1)).1 = false)
      (fun i => ⟨by rw [wb_len, wb_len], wb_keep⟩) ?_ (by simp [lgS]) fun i hi hp K hK => ?_
    · have e0 : m 0 = n - 1 := by simp [m, lgS]
      simp only [e0]
      refine ⟨rfl, ⟨_, rfl⟩, ?_, ?_⟩
      · simp [keeps, avlt, upd_get, wb_len]; omega
      · simp [blksLt]
    rcases Nat.lt_or_ge i t.kids.length with hlti | hge
    · obtain ⟨k, hx⟩ : ∃ k, t.kids[i]? = some k := ⟨_, List.getElem?_eq_getElem hlti⟩
      have hmem := List.mem_of_getElem? hx
      have hmi : 0 ≤ m i ∧ m i ≤ n - 1 := by
        have := lgS_room (l := t.kids.take i) (d := d + 1) hm0
        exact ⟨this.2.2 hp, this.2.1⟩
      have hr : ∀ L : Heap, ACalls Tryd.prog G 33 [aT k, .ptr b g 0, .i (d + 1)] (withB h b (rB g (m i)) ++ L) (fun r h' => r = .b (lgT k (d + 1) (m i)).1 ∧ h' = withB h b (rB g (lgT k (d + 1) (m i)).2) ++ L) := fun L => by
        have := ih k hmem (d + 1) (m i) b g (withB h b (rB g (m i)) ++ L) hmi.1 (by omega) (by omega) (by omega) (wb_get hlt L)
        rwa [wb_app L hlt] at this
      cases hb1 : (lgT k (d + 1) (m i)).1 with
      | false =>
        rw [hb1] at hr
        have hs := lgS_take hx hp
        repeat' (first | ((first | refine aops_nil ?_ | refine aqops_nil ?_); (try simp only [NB])) | ((repeat ((fail_if_success (refine hK _ ?_)); clear hK K)); refine hK _ ?_; clear hK K) | ((first | refine aops_k fun K1 hK1 => ?_ | refine aqops_k fun K1 hK1 => ?_ | refine awp_cond_k fun A B hA hB => ?_); simp only [S1, simprocAttr, TTTlX, row_of hx, idx_hit hlti, idx_next hkl hlti, eT_eq, hd3, List.length_map, wb_get hlt, wb_at hlt, wb_put, wb_set hlt, wb_get0, wb_geti, wb_len, wb_set0, wb_seti]; first | (refine hK1 _ ?_; clear hK1 K1) | ((first | refine hA ?_ | refine hB ?_); clear hA hB A B) | ((first | apply call_a E33 | apply call_q E33); exact (hr _); (refine hK1 _ ?_; clear hK1 K1)) | (refine join_x (v := ?_) (fun hg hk9 => ?_) ?_; rotate_left; (focus (try ((try simp only [BN] at hg); simp only [S1, simprocAttr, TTTlX, row_of hx, idx_hit hlti, idx_next hkl hlti, eT_eq, hd3, List.length_map, wb_get hlt, wb_at hlt, wb_put, wb_set hlt, wb_get0, wb_geti, wb_len, wb_set0, wb_seti, hg] at hk9 ⊢)); first | exact hk9 | ((first | apply call_a E33 | apply call_q E33); exact (hr _); exact hk9)); (refine hK1 _ ?_; clear hK1 K1)) | (((first | (refine ⟨fun hg => hA ?_, fun hg => hB ?_⟩ <;> clear hA hB A B) | refine ⟨fun hg => ?_, fun hg => ?_⟩) <;> (try simp only [BN2] at hg) <;> (try simp only [hg, cond_true, cond_false])) <;> (try (refine hK1 _ ?_; clear hK1 K1)) <;> (try simp only [BN3] at hg))) | (refine awp_seq_k fun K hK => ?_) | ((first | refine awp_region ?_ | refine awp_draw (by kernel_rfl) ?_ | refine awp_block ?_ | refine awp_exit ?_ | refine awp_skip ?_ | refine awp_ret ?_); (try simp only [NB, simprocAttr])))
        refine ⟨hlti, by rw [hs]; exact hb1, ?_⟩
        have em : m (i + 1) = (lgT k (d + 1) (m i)).2 := by simp only [m, hs]
        rw [em]
        refine ⟨rfl, ⟨_, rfl⟩, ?_, ?_⟩
        · simp [keeps, avlt, upd_get, frL, wb_len]; omega
        · simp [blksLt]
      | true =>
        rw [hb1] at hr
        have hs := lgS_stop hx hp hb1
        repeat' (first | ((first | refine aops_nil ?_ | refine aqops_nil ?_); (try simp only [NB])) | ((repeat ((fail_if_success (refine hK _ ?_)); clear hK K)); refine hK _ ?_; clear hK K) | ((first | refine aops_k fun K1 hK1 => ?_ | refine aqops_k fun K1 hK1 => ?_ | refine awp_cond_k fun A B hA hB => ?_); simp only [S1, simprocAttr, TTTlX, row_of hx, idx_hit hlti, idx_next hkl hlti, eT_eq, hd3, List.length_map, wb_get hlt, wb_at hlt, wb_put, wb_set hlt, wb_get0, wb_geti, wb_len, wb_set0, wb_seti]; first | (refine hK1 _ ?_; clear hK1 K1) | ((first | refine hA ?_ | refine hB ?_); clear hA hB A B) | ((first | apply call_a E33 | apply call_q E33); exact (hr _); (refine hK1 _ ?_; clear hK1 K1)) | (refine join_x (v := ?_) (fun hg hk9 => ?_) ?_; rotate_left; (focus (try ((try simp only [BN] at hg); simp only [S1, simprocAttr, TTTlX, row_of hx, idx_hit hlti, idx_next hkl hlti, eT_eq, hd3, List.length_map, wb_get hlt, wb_at hlt, wb_put, wb_set hlt, wb_get0, wb_geti, wb_len, wb_set0, wb_seti, hg] at hk9 ⊢)); first | exact hk9 | ((first | apply call_a E33 | apply call_q E33); exact (hr _); exact hk9)); (refine hK1 _ ?_; clear hK1 K1)) | (((first | (refine ⟨fun hg => hA ?_, fun hg => hB ?_⟩ <;> clear hA hB A B) | refine ⟨fun hg => ?_, fun hg => ?_⟩) <;> (try simp only [BN2] at hg) <;> (try simp only [hg, cond_true, cond_false])) <;> (try (refine hK1 _ ?_; clear hK1 K1)) <;> (try simp only [BN3] at hg))) | (refine awp_seq_k fun K hK => ?_) | ((first | refine awp_region ?_ | refine awp_draw (by kernel_rfl) ?_ | refine awp_block ?_ | refine awp_exit ?_ | refine awp_skip ?_ | refine awp_ret ?_); (try simp only [NB, simprocAttr])))
        rw [hs, hb1]
        simp only [EndH, FinH, resA, resL, resA1, lastV, lastA, lastAs, pur, purs, wb_len, wb_take, wb_take0, wb_wb, S1, simprocAttr, TTTlX, Nat.le_add_right, Nat.le_refl]
        first | exact wb_keep' | exact ⟨wb_keep', rfl⟩ | exact ⟨wb_keep', rfl, rfl⟩
    · obtain rfl : i = t.kids.length := by omega
      repeat' (first | ((first | refine aops_nil ?_ | refine aqops_nil ?_); (try simp only [NB])) | ((repeat ((fail_if_success (refine hK _ ?_)); clear hK K)); refine hK _ ?_; clear hK K) | ((first | refine aops_k fun K1 hK1 => ?_ | refine aqops_k fun K1 hK1 => ?_ | refine awp_cond_k fun A B hA hB => ?_); simp only [S1, simprocAttr, TTTlX, idx_end]; first | (refine hK1 _ ?_; clear hK1 K1) | ((first | refine hA ?_ | refine hB ?_); clear hA hB A B) | (refine join_x (v := ?_) (fun hg hk9 => ?_) ?_; rotate_left; (focus (try ((try simp only [BN] at hg); simp only [S1, simprocAttr, TTTlX, idx_end, hg] at hk9 ⊢)); first | exact hk9); (refine hK1 _ ?_; clear hK1 K1)) | (((first | (refine ⟨fun hg => hA ?_, fun hg => hB ?_⟩ <;> clear hA hB A B) | refine ⟨fun hg => ?_, fun hg => ?_⟩) <;> (try simp only [BN2] at hg) <;> (try simp only [hg, cond_true, cond_false])) <;> (try (refine hK1 _ ?_; clear hK1 K1)) <;> (try simp only [BN3] at hg))) | (refine awp_seq_k fun K hK => ?_) | ((first | refine awp_region ?_ | refine awp_draw (by kernel_rfl) ?_ | refine awp_block ?_ | refine awp_exit ?_ | refine awp_skip ?_ | refine awp_ret ?_); (try simp only [NB, simprocAttr])))
      have e : t.kids.take t.kids.length = t.kids := List.take_length
      rw [e] at hp
      have em : m t.kids.length = (lgS t.kids (d + 1) (n - 1)).2 := by simp only [m, e]
      rw [em, hp]
      simp only [EndH, FinH, resA, resL, resA1, lastV, lastA, lastAs, pur, purs, wb_len, wb_take, wb_take0, wb_wb, S1, simprocAttr, TTTlX, Nat.le_add_right, Nat.le_refl]
      first | exact wb_keep' | exact ⟨wb_keep', rfl⟩ | exact ⟨wb_keep', rfl, rfl⟩
end Go.Proofs.YtjpphhcimpclpaaDoor.AM
end

section
set_option linter.unusedVariables false
set_option linter.unusedSimpArgs false
set_option maxRecDepth 4000
set_option maxHeartbeats 4000000
namespace Go.Proofs.YtjpphhcimpclpaaDoor.AM
open Go Go.Proofs
set_option linter.defProp false in
def TTTlY := And.intro T2 (And.intro T3 (And.intro T4 (And.intro T22 (And.intro T23 (And.intro T25 (And.intro T56 (And.intro T58 (And.intro T60 (And.intro T71 (And.intro T92 T93))))))))))
attribute [local irreducible] awp aops aqops aeops arun arunT
variable {G : Nat → Option (List PV)}

def largeM (ns : List Nd) (fl : List Fl) : Bool := (decide (30 < (ns.length : Int)) || decide (50 < (fl.length : Int))) || (lgS (termsN ns fl) 1 2000).1

theorem largeM_ok {ns : List Nd} {fl : List Fl} (h : largeM ns fl = false) : NetOk ns fl := by
  unfold largeM at h
  simp only [Bool.or_eq_false_iff, decide_eq_false_iff_not] at h
  obtain ⟨⟨h1, h2⟩, h3⟩ := h
  have ha := lgS_all (by omega) h3
  refine ⟨by omega, by omega, ⟨40, by omega, fun k hk => ha _ ?_⟩, ⟨40, by omega, fun k hk => ha _ ?_⟩⟩
  · unfold termsN; exact List.mem_append_left _ (List.mem_map.mpr ⟨k, hk, rfl⟩)
  · unfold termsN; exact List.mem_append_right _ (List.mem_map.mpr ⟨k, hk, rfl⟩)

theorem deepM_at (k : Tm) (n : Int) (hn : 0 ≤ n) (hn2 : n ≤ 3000) (h : Heap) (A : Option Blk) (L : Heap) :
    ACalls Tryd.prog G 33 [aT k, .ptr (h.length + 1) 0 0, .i 1] (h ++ (A :: some ⟨0, [.i n]⟩ :: L)) (fun r h' => r = .b (lgT k 1 n).1 ∧ h' = h ++ (A :: some ⟨0, [.i (lgT k 1 n).2]⟩ :: L)) := by
  have := deepM_calls (G := G) k 1 n (h.length + 1) 0 (h ++ (A :: some ⟨0, [.i n]⟩ :: L)) hn hn2 (by omega) (by omega) (by simp [get_app])
  simpa only [withB, set_app, List.set_cons_succ, List.set_cons_zero] using this

theorem largeM_calls (ns : List Nd) (fl : List Fl) (h : Heap) : ACalls Tryd.prog G 14 [aNet ns fl] h (fun r h' => r = .b (largeM ns fl) ∧ h' = h) := by
  cases hsz : (decide (30 < (ns.length : Int)) || decide (50 < (fl.length : Int))) with
  | true =>
    have e : largeM ns fl = true := by unfold largeM; rw [hsz]; rfl
    rw [e]
    refine acalls_pure (rl := []) mixed Tryd.func14 rfl (rs := [.tmp 2]) rfl Tryd.ntmps14 (by simp) ?_
    repeat' (first | ((first | refine aops_nil ?_ | refine aqops_nil ?_); (try simp only [NB])) | ((repeat ((fail_if_success (refine hK _ ?_)); clear hK K)); refine hK _ ?_; clear hK K) | ((first | refine aops_k fun K1 hK1 => ?_ | refine aqops_k fun K1 hK1 => ?_ | refine awp_cond_k fun A B hA hB => ?_); simp only [S1, simprocAttr, TTTlY, List.length_map, hsz]; first | (refine hK1 _ ?_; clear hK1 K1) | ((first | refine hA ?_ | refine hB ?_); clear hA hB A B) | (refine join_x (v := ?_) (fun hg hk9 => ?_) ?_; rotate_left; (focus (try ((try simp only [BN] at hg); simp only [S1, simprocAttr, TTTlY, List.length_map, hsz, hg] at hk9 ⊢)); first | exact hk9); (refine hK1 _ ?_; clear hK1 K1)) | (((first | (refine ⟨fun hg => hA ?_, fun hg => hB ?_⟩ <;> clear hA hB A B) | refine ⟨fun hg => ?_, fun hg => ?_⟩) <;> (try simp only [BN2] at hg) <;> (try simp only [hg, cond_true, cond_false])) <;> (try (refine hK1 _ ?_; clear hK1 K1)) <;> (try simp only [BN3] at hg))) | (refine awp_seq_k fun K hK => ?_) | ((first | refine awp_region ?_ | refine awp_draw (by kernel_rfl) ?_ | refine awp_block ?_ | refine awp_exit ?_ | refine awp_skip ?_ | refine awp_ret ?_); (try simp only [NB, simprocAttr])))
    all_goals simp only [EndP, FinP, resA, resL, resA1, lastV, lastA, lastAs, pur, purs, take_app, List.take_length, S1, simprocAttr, TTTlY, Nat.le_add_right, Nat.le_refl]
  | false =>
    have e : largeM ns fl = (lgS (termsN ns fl) 1 2000).1 := by unfold largeM; rw [hsz]; rfl
    have hn : ns.length ≤ 100 := by simp at hsz; omega
    have hl : fl.length ≤ 100 := by simp at hsz; omega
    rw [e]
    let m := fun j => (lgS ((ns.map (·.term)).take j) 1 2000)
    let m2 := fun j => (lgS (ns.map (·.term) ++ (fl.map (·.cond)).take j) 1 2000)
    refine acalls_pure (rl := []) mixed Tryd.func14 rfl (rs := [.tmp 2]) rfl Tryd.ntmps14 (by simp) ?_
    repeat' (first | ((first | refine aops_nil ?_ | refine aqops_nil ?_); (try simp only [NB])) | ((repeat ((fail_if_success (refine hK _ ?_)); clear hK K)); refine hK _ ?_; clear hK K) | ((first | refine aops_k fun K1 hK1 => ?_ | refine aqops_k fun K1 hK1 => ?_ | refine awp_cond_k fun A B hA hB => ?_); simp only [S1, simprocAttr, TTTlY, List.length_map, hsz]; first | (refine hK1 _ ?_; clear hK1 K1) | ((first | refine hA ?_ | refine hB ?_); clear hA hB A B) | (refine join_x (v := ?_) (fun hg hk9 => ?_) ?_; rotate_left; (focus (try ((try simp only [BN] at hg); simp only [S1, simprocAttr, TTTlY, List.length_map, hsz, hg] at hk9 ⊢)); first | exact hk9); (refine hK1 _ ?_; clear hK1 K1)) | (((first | (refine ⟨fun hg => hA ?_, fun hg => hB ?_⟩ <;> clear hA hB A B) | refine ⟨fun hg => ?_, fun hg => ?_⟩) <;> (try simp only [BN2] at hg) <;> (try simp only [hg, cond_true, cond_false])) <;> (try (refine hK1 _ ?_; clear hK1 K1)) <;> (try simp only [BN3] at hg))) | (refine awp_seq_k fun K hK => ?_) | ((first | refine awp_region ?_ | refine awp_draw (by kernel_rfl) ?_ | refine awp_block ?_ | refine awp_exit ?_ | refine awp_skip ?_ | refine awp_ret ?_); (try simp only [NB, simprocAttr])))
    refine awp_for ns.length 44 (fun j => [(23, .i j), (22, .i ns.length), (21, .p (.sl (ns.map eN))), (3, .ptr (h.length + 1) 0 0), (1, .ptr h.length 0 0)])
      (fun j => [some ⟨0, cNet ns fl⟩, some ⟨0, [.i (m j).2]⟩]) (fun j => (m j).1 = false) ?_ (by simp [m, lgS]) fun j hj hp K hK => ?_
    · have e0 : (m 0).2 = 2000 := by simp [m, lgS]
      simp only [e0]
      (refine ⟨rfl, (by first | exact ⟨_, rfl⟩ | exact ⟨[], by simp⟩), ?_, ?_⟩ <;> simp only [keeps, avlt, avlts, blksLt, frL, upd_get, S1, simprocAttr, List.length_map, Int.natCast_zero, AV.p.injEq, PV.int.injEq, PV.bool.injEq, PV.sl.injEq] <;> (try and_intros) <;> (try assumption) <;> (try trivial) <;> (try omega))
    rcases Nat.lt_or_ge j ns.length with hlt | hge
    · obtain ⟨k, hx⟩ : ∃ k, ns[j]? = some k := ⟨_, List.getElem?_eq_getElem hlt⟩
      have hx2 : (ns.map (·.term))[j]? = some k.term := by simp [hx]
      have hr := lgS_room (l := (ns.map (·.term)).take j) (d := 1) (n := 2000) (by omega)
      have hd := fun A L => deepM_at (G := G) k.term (m j).2 (hr.2.2 hp) (by have := hr.2.1; show (lgS _ _ _).2 ≤ 3000; omega) h A L
      cases hq : (lgT k.term 1 (m j).2).1 with
      | false =>
        have hs := lgS_take hx2 hp
        rw [hq] at hd
        repeat' (first | ((first | refine aops_nil ?_ | refine aqops_nil ?_); (try simp only [NB])) | ((repeat ((fail_if_success (refine hK _ ?_)); clear hK K)); refine hK _ ?_; clear hK K) | ((first | refine aops_k fun K1 hK1 => ?_ | refine aqops_k fun K1 hK1 => ?_ | refine awp_cond_k fun A B hA hB => ?_); simp only [S1, simprocAttr, TTTlY, rowN hx, hitN hlt, nextN hn hlt, eN, List.length_map]; first | (refine hK1 _ ?_; clear hK1 K1) | ((first | refine hA ?_ | refine hB ?_); clear hA hB A B) | ((first | apply call_a E33 | apply call_q E33); exact (hd _ _); (refine hK1 _ ?_; clear hK1 K1)) | (refine join_x (v := ?_) (fun hg hk9 => ?_) ?_; rotate_left; (focus (try ((try simp only [BN] at hg); simp only [S1, simprocAttr, TTTlY, rowN hx, hitN hlt, nextN hn hlt, eN, List.length_map, hg] at hk9 ⊢)); first | exact hk9 | ((first | apply call_a E33 | apply call_q E33); exact (hd _ _); exact hk9)); (refine hK1 _ ?_; clear hK1 K1)) | (((first | (refine ⟨fun hg => hA ?_, fun hg => hB ?_⟩ <;> clear hA hB A B) | refine ⟨fun hg => ?_, fun hg => ?_⟩) <;> (try simp only [BN2] at hg) <;> (try simp only [hg, cond_true, cond_false])) <;> (try (refine hK1 _ ?_; clear hK1 K1)) <;> (try simp only [BN3] at hg))) | (refine awp_seq_k fun K hK => ?_) | ((first | refine awp_region ?_ | refine awp_draw (by kernel_rfl) ?_ | refine awp_block ?_ | refine awp_exit ?_ | refine awp_skip ?_ | refine awp_ret ?_); (try simp only [NB, simprocAttr])))
        refine ⟨hlt, by show (lgS _ _ _).1 = false; rw [hs]; exact hq, ?_⟩
        have em : m (j + 1) = lgT k.term 1 (m j).2 := hs
        rw [em]
        (refine ⟨rfl, (by first | exact ⟨_, rfl⟩ | exact ⟨[], by simp⟩), ?_, ?_⟩ <;> simp only [keeps, avlt, avlts, blksLt, frL, upd_get, S1, simprocAttr, List.length_map, Int.natCast_zero, AV.p.injEq, PV.int.injEq, PV.bool.injEq, PV.sl.injEq] <;> (try and_intros) <;> (try assumption) <;> (try trivial) <;> (try omega))
      | true =>
        have hs : (lgS (termsN ns fl) 1 2000).1 = true := by
          unfold termsN
          rw [lgS_app, lgS_stop hx2 hp hq, if_pos hq]; exact hq
        rw [hq] at hd
        repeat' (first | ((first | refine aops_nil ?_ | refine aqops_nil ?_); (try simp only [NB])) | ((repeat ((fail_if_success (refine hK _ ?_)); clear hK K)); refine hK _ ?_; clear hK K) | ((first | refine aops_k fun K1 hK1 => ?_ | refine aqops_k fun K1 hK1 => ?_ | refine awp_cond_k fun A B hA hB => ?_); simp only [S1, simprocAttr, TTTlY, rowN hx, hitN hlt, nextN hn hlt, eN, List.length_map]; first | (refine hK1 _ ?_; clear hK1 K1) | ((first | refine hA ?_ | refine hB ?_); clear hA hB A B) | ((first | apply call_a E33 | apply call_q E33); exact (hd _ _); (refine hK1 _ ?_; clear hK1 K1)) | (refine join_x (v := ?_) (fun hg hk9 => ?_) ?_; rotate_left; (focus (try ((try simp only [BN] at hg); simp only [S1, simprocAttr, TTTlY, rowN hx, hitN hlt, nextN hn hlt, eN, List.length_map, hg] at hk9 ⊢)); first | exact hk9 | ((first | apply call_a E33 | apply call_q E33); exact (hd _ _); exact hk9)); (refine hK1 _ ?_; clear hK1 K1)) | (((first | (refine ⟨fun hg => hA ?_, fun hg => hB ?_⟩ <;> clear hA hB A B) | refine ⟨fun hg => ?_, fun hg => ?_⟩) <;> (try simp only [BN2] at hg) <;> (try simp only [hg, cond_true, cond_false])) <;> (try (refine hK1 _ ?_; clear hK1 K1)) <;> (try simp only [BN3] at hg))) | (refine awp_seq_k fun K hK => ?_) | ((first | refine awp_region ?_ | refine awp_draw (by kernel_rfl) ?_ | refine awp_block ?_ | refine awp_exit ?_ | refine awp_skip ?_ | refine awp_ret ?_); (try simp only [NB, simprocAttr])))
        all_goals simp only [EndP, FinP, resA, resL, resA1, lastV, lastA, lastAs, pur, purs, take_app, List.take_length, S1, simprocAttr, TTTlY, Nat.le_add_right, Nat.le_refl]
        all_goals rw [hs]
    obtain rfl : j = ns.length := by omega
    have ef : (ns.map (·.term)).take ns.length = ns.map (·.term) := List.take_of_length_le (by simp)
    have hp0 : (lgS (ns.map (·.term)) 1 2000).1 = false := by have := hp; simp only [m, ef] at this; exact this
    have m0 : m2 0 = m ns.length := by simp only [m, m2, ef, List.take_zero, List.append_nil]
    repeat' (first | ((first | refine aops_nil ?_ | refine aqops_nil ?_); (try simp only [NB])) | ((repeat ((fail_if_success (refine hK _ ?_)); clear hK K)); refine hK _ ?_; clear hK K) | ((first | refine aops_k fun K1 hK1 => ?_ | refine aqops_k fun K1 hK1 => ?_ | refine awp_cond_k fun A B hA hB => ?_); simp only [S1, simprocAttr, TTTlY, endN, List.length_map]; first | (refine hK1 _ ?_; clear hK1 K1) | ((first | refine hA ?_ | refine hB ?_); clear hA hB A B) | (refine join_x (v := ?_) (fun hg hk9 => ?_) ?_; rotate_left; (focus (try ((try simp only [BN] at hg); simp only [S1, simprocAttr, TTTlY, endN, List.length_map, hg] at hk9 ⊢)); first | exact hk9); (refine hK1 _ ?_; clear hK1 K1)) | (((first | (refine ⟨fun hg => hA ?_, fun hg => hB ?_⟩ <;> clear hA hB A B) | refine ⟨fun hg => ?_, fun hg => ?_⟩) <;> (try simp only [BN2] at hg) <;> (try simp only [hg, cond_true, cond_false])) <;> (try (refine hK1 _ ?_; clear hK1 K1)) <;> (try simp only [BN3] at hg))) | (refine awp_seq_k fun K hK => ?_) | ((first | refine awp_region ?_ | refine awp_draw (by kernel_rfl) ?_ | refine awp_block ?_ | refine awp_exit ?_ | refine awp_skip ?_ | refine awp_ret ?_); (try simp only [NB, simprocAttr])))
    refine awp_for fl.length 44 (fun j => [(35, .i j), (34, .i fl.length), (33, .p (.sl (fl.map eF))), (3, .ptr (h.length + 1) 0 0), (1, .ptr h.length 0 0)])
      (fun j => [some ⟨0, cNet ns fl⟩, some ⟨0, [.i (m2 j).2]⟩]) (fun j => (m2 j).1 = false) ?_ (by rw [m0]; exact hp) fun j hj hp K hK => ?_
    · simp only [m0]
      (refine ⟨rfl, (by first | exact ⟨_, rfl⟩ | exact ⟨[], by simp⟩), ?_, ?_⟩ <;> simp only [keeps, avlt, avlts, blksLt, frL, upd_get, S1, simprocAttr, List.length_map, Int.natCast_zero, AV.p.injEq, PV.int.injEq, PV.bool.injEq, PV.sl.injEq] <;> (try and_intros) <;> (try assumption) <;> (try trivial) <;> (try omega))
    rcases Nat.lt_or_ge j fl.length with hlt | hge
    · obtain ⟨k, hx⟩ : ∃ k, fl[j]? = some k := ⟨_, List.getElem?_eq_getElem hlt⟩
      have hx2 : (termsN ns fl)[ns.length + j]? = some k.cond := by
        unfold termsN
        rw [List.getElem?_append_right (by simp)]
        simp [hx]
      have et : ∀ i, i ≤ fl.length → (termsN ns fl).take (ns.length + i) = ns.map (·.term) ++ (fl.map (·.cond)).take i := by
        intro i hi
        unfold termsN
        have : ns.length = (ns.map (·.term)).length := by simp
        rw [this, List.take_length_add_append]
      have hp' : (lgS ((termsN ns fl).take (ns.length + j)) 1 2000).1 = false := by rw [et j hj]; exact hp
      have em2 : (lgS ((termsN ns fl).take (ns.length + j)) 1 2000) = m2 j := by rw [et j hj]
      have hr := lgS_room (l := ns.map (·.term) ++ (fl.map (·.cond)).take j) (d := 1) (n := 2000) (by omega)
      have hd := fun A L => deepM_at (G := G) k.cond (m2 j).2 (hr.2.2 hp) (by have := hr.2.1; show (lgS _ _ _).2 ≤ 3000; omega) h A L
      cases hq : (lgT k.cond 1 (m2 j).2).1 with
      | false =>
        have hs := lgS_take hx2 hp'
        rw [em2] at hs
        have em : m2 (j + 1) = lgT k.cond 1 (m2 j).2 := by
          rw [← hs, Nat.add_assoc, et (j + 1) hlt]
        rw [hq] at hd
        repeat' (first | ((first | refine aops_nil ?_ | refine aqops_nil ?_); (try simp only [NB])) | ((repeat ((fail_if_success (refine hK _ ?_)); clear hK K)); refine hK _ ?_; clear hK K) | ((first | refine aops_k fun K1 hK1 => ?_ | refine aqops_k fun K1 hK1 => ?_ | refine awp_cond_k fun A B hA hB => ?_); simp only [S1, simprocAttr, TTTlY, rowF hx, hitF hlt, nextF hl hlt, eF, List.length_map]; first | (refine hK1 _ ?_; clear hK1 K1) | ((first | refine hA ?_ | refine hB ?_); clear hA hB A B) | ((first | apply call_a E33 | apply call_q E33); exact (hd _ _); (refine hK1 _ ?_; clear hK1 K1)) | (refine join_x (v := ?_) (fun hg hk9 => ?_) ?_; rotate_left; (focus (try ((try simp only [BN] at hg); simp only [S1, simprocAttr, TTTlY, rowF hx, hitF hlt, nextF hl hlt, eF, List.length_map, hg] at hk9 ⊢)); first | exact hk9 | ((first | apply call_a E33 | apply call_q E33); exact (hd _ _); exact hk9)); (refine hK1 _ ?_; clear hK1 K1)) | (((first | (refine ⟨fun hg => hA ?_, fun hg => hB ?_⟩ <;> clear hA hB A B) | refine ⟨fun hg => ?_, fun hg => ?_⟩) <;> (try simp only [BN2] at hg) <;> (try simp only [hg, cond_true, cond_false])) <;> (try (refine hK1 _ ?_; clear hK1 K1)) <;> (try simp only [BN3] at hg))) | (refine awp_seq_k fun K hK => ?_) | ((first | refine awp_region ?_ | refine awp_draw (by kernel_rfl) ?_ | refine awp_block ?_ | refine awp_exit ?_ | refine awp_skip ?_ | refine awp_ret ?_); (try simp only [NB, simprocAttr])))
        refine ⟨hlt, by rw [em]; exact hq, ?_⟩
        rw [em]
        (refine ⟨rfl, (by first | exact ⟨_, rfl⟩ | exact ⟨[], by simp⟩), ?_, ?_⟩ <;> simp only [keeps, avlt, avlts, blksLt, frL, upd_get, S1, simprocAttr, List.length_map, Int.natCast_zero, AV.p.injEq, PV.int.injEq, PV.bool.injEq, PV.sl.injEq] <;> (try and_intros) <;> (try assumption) <;> (try trivial) <;> (try omega))
      | true =>
        have hs : (lgS (termsN ns fl) 1 2000).1 = true := by
          rw [lgS_stop hx2 hp' (by rw [em2]; exact hq), em2]; exact hq
        rw [hq] at hd
        repeat' (first | ((first | refine aops_nil ?_ | refine aqops_nil ?_); (try simp only [NB])) | ((repeat ((fail_if_success (refine hK _ ?_)); clear hK K)); refine hK _ ?_; clear hK K) | ((first | refine aops_k fun K1 hK1 => ?_ | refine aqops_k fun K1 hK1 => ?_ | refine awp_cond_k fun A B hA hB => ?_); simp only [S1, simprocAttr, TTTlY, rowF hx, hitF hlt, nextF hl hlt, eF, List.length_map]; first | (refine hK1 _ ?_; clear hK1 K1) | ((first | refine hA ?_ | refine hB ?_); clear hA hB A B) | ((first | apply call_a E33 | apply call_q E33); exact (hd _ _); (refine hK1 _ ?_; clear hK1 K1)) | (refine join_x (v := ?_) (fun hg hk9 => ?_) ?_; rotate_left; (focus (try ((try simp only [BN] at hg); simp only [S1, simprocAttr, TTTlY, rowF hx, hitF hlt, nextF hl hlt, eF, List.length_map, hg] at hk9 ⊢)); first | exact hk9 | ((first | apply call_a E33 | apply call_q E33); exact (hd _ _); exact hk9)); (refine hK1 _ ?_; clear hK1 K1)) | (((first | (refine ⟨fun hg => hA ?_, fun hg => hB ?_⟩ <;> clear hA hB A B) | refine ⟨fun hg => ?_, fun hg => ?_⟩) <;> (try simp only [BN2] at hg) <;> (try simp only [hg, cond_true, cond_false])) <;> (try (refine hK1 _ ?_; clear hK1 K1)) <;> (try simp only [BN3] at hg))) | (refine awp_seq_k fun K hK => ?_) | ((first | refine awp_region ?_ | refine awp_draw (by kernel_rfl) ?_ | refine awp_block ?_ | refine awp_exit ?_ | refine awp_skip ?_ | refine awp_ret ?_); (try simp only [NB, simprocAttr])))
        all_goals simp only [EndP, FinP, resA, resL, resA1, lastV, lastA, lastAs, pur, purs, take_app, List.take_length, S1, simprocAttr, TTTlY, Nat.le_add_right, Nat.le_refl]
        all_goals rw [hs]
    obtain rfl : j = fl.length := by omega
    have ef2 : (fl.map (·.cond)).take fl.length = fl.map (·.cond) := List.take_of_length_le (by simp)
    have hs : (lgS (termsN ns fl) 1 2000).1 = false := by have := hp; simp only [m2, ef2] at this; exact this
    repeat' (first | ((first | refine aops_nil ?_ | refine aqops_nil ?_); (try simp only [NB])) | ((repeat ((fail_if_success (refine hK _ ?_)); clear hK K)); refine hK _ ?_; clear hK K) | ((first | refine aops_k fun K1 hK1 => ?_ | refine aqops_k fun K1 hK1 => ?_ | refine awp_cond_k fun A B hA hB => ?_); simp only [S1, simprocAttr, TTTlY, endF]; first | (refine hK1 _ ?_; clear hK1 K1) | ((first | refine hA ?_ | refine hB ?_); clear hA hB A B) | (refine join_x (v := ?_) (fun hg hk9 => ?_) ?_; rotate_left; (focus (try ((try simp only [BN] at hg); simp only [S1, simprocAttr, TTTlY, endF, hg] at hk9 ⊢)); first | exact hk9); (refine hK1 _ ?_; clear hK1 K1)) | (((first | (refine ⟨fun hg => hA ?_, fun hg => hB ?_⟩ <;> clear hA hB A B) | refine ⟨fun hg => ?_, fun hg => ?_⟩) <;> (try simp only [BN2] at hg) <;> (try simp only [hg, cond_true, cond_false])) <;> (try (refine hK1 _ ?_; clear hK1 K1)) <;> (try simp only [BN3] at hg))) | (refine awp_seq_k fun K hK => ?_) | ((first | refine awp_region ?_ | refine awp_draw (by kernel_rfl) ?_ | refine awp_block ?_ | refine awp_exit ?_ | refine awp_skip ?_ | refine awp_ret ?_); (try simp only [NB, simprocAttr])))
    all_goals simp only [EndP, FinP, resA, resL, resA1, lastV, lastA, lastAs, pur, purs, take_app, List.take_length, S1, simprocAttr, TTTlY, Nat.le_add_right, Nat.le_refl]
    all_goals rw [hs]
end Go.Proofs.YtjpphhcimpclpaaDoor.AM
end

section
set_option linter.unusedVariables false
namespace Go.Proofs.YtjpphhcimpclpaaDoor.AM
open Go Go.Proofs
set_option linter.defProp false in
theorem line7_run : rCall Tryd.prog gW ["net.go:137"] 60 30 15 [] [] = some (.b true, []) := by kernel_rfl

theorem line7_calls (h : Heap) : ACalls Tryd.prog gW 15 [] h (fun r h' => r = .b true ∧ h' = h) :=
  ACalls.bool_lift (rCall_good (rl := ["net.go:137"]) mixed 60 30 _ _ _ _ _ line7_run).2 h

theorem arg_state {fuel : Nat} {xs : List PV} (h : Ty Tryd.prog fuel 29 xs) : ∃ S : List Int, S.length = 49 ∧ argA Tryd.prog 29 xs = aS S := by
  obtain ⟨m, rows, e, hl, rfl, hf⟩ := ty_struct T29 h
  match rows, hl with
  | [r0, r1, r2, r3], _ =>
    have h0 : Ty Tryd.prog m 26 r0 := hf 0 _ r0 rfl rfl
    have h1 : Ty Tryd.prog m 27 r1 := hf 1 _ r1 rfl rfl
    have h2 : Ty Tryd.prog m 27 r2 := hf 2 _ r2 rfl rfl
    have h3 : Ty Tryd.prog m 3 r3 := hf 3 _ r3 rfl rfl
    obtain ⟨l0, hl0, _, rfl⟩ := ty_intarr T26 T3 h0
    obtain ⟨l1, hl1, _, rfl⟩ := ty_intarr T27 T3 h1
    obtain ⟨l2, hl2, _, rfl⟩ := ty_intarr T27 T3 h2
    obtain ⟨o, _, rfl⟩ := ty_int T3 h3
    refine ⟨l0 ++ (l1 ++ (l2 ++ [o])), by simp only [List.length_append, List.length_cons, List.length_nil]; omega, ?_⟩
    rw [argA_at T29]
    have e2 : (([l0.map (PV.int .i64), l1.map (PV.int .i64), l2.map (PV.int .i64), [.int .i64 o]] : List (List PV)).flatMap id).map AV.p = (l0 ++ (l1 ++ (l2 ++ [o]))).map AV.i := by
      simp only [List.flatMap_cons, List.flatMap_nil, List.append_nil, id_eq, List.map_append, List.map_map, List.map_cons, List.map_nil]; rfl
    rw [e2]; rfl
theorem arg_ints {fuel : Nat} {xs : List PV} (h : Ty Tryd.prog fuel 40 xs) : ∃ l : List Int, argA Tryd.prog 40 xs = aI l := by
  obtain ⟨m, rows, _, rfl, hr⟩ := ty_slice T40 h
  obtain ⟨l, _, _, hl⟩ := ty_ints T3 rows hr
  exact ⟨l, by rw [argA_at T40, hl]; simp [TI.isAgg, eI]⟩
end Go.Proofs.YtjpphhcimpclpaaDoor.AM
end

section
set_option linter.unusedVariables false
set_option linter.unusedSimpArgs false
set_option maxRecDepth 4000
set_option maxHeartbeats 4000000
namespace Go.Proofs.YtjpphhcimpclpaaDoor.AM
open Go Go.Proofs
set_option linter.defProp false in
def TTTmQ := And.intro T2 (And.intro T3 (And.intro T4 (And.intro T25 (And.intro T26 (And.intro T27 (And.intro T31 (And.intro T40 (And.intro T46 (And.intro T50 T53)))))))))
attribute [local irreducible] awp aops aqops aeops arun arunT

theorem states_calls (ns : List Nd) (fl : List Fl) {S : List Int} (hS : S.length = 49) (h : Heap) : ACalls Tryd.prog gW 4 [aNet ns fl, aS S] h (fun r h' => r = .b true ∧ h' = h) := by
  have hne := ne_is hS
  have hline := fun h => line7_calls h
  have hlg := fun h => largeM_calls (G := gW) ns fl h
  have dm := dropI (at_get hS (k := 48) (by omega))
  have emd : S.getD 48 0 = mdS S := rfl
  rw [emd] at dm
  have t49' : (S.map AV.i).take 49 = S.map AV.i := List.take_of_length_le (by rw [List.length_map, hS]; exact Nat.le_refl _)
  cases hl : largeM ns fl with
  | true =>
    rw [hl] at hlg
    refine acalls_pure (rl := []) mixed Tryd.func4 rfl (rs := [.tmp 4]) rfl Tryd.ntmps4 (by simp) ?_
    repeat' (first | ((first | refine aops_nil ?_ | refine aqops_nil ?_); (try simp only [NB])) | ((repeat ((fail_if_success (refine hK _ ?_)); clear hK K)); refine hK _ ?_; clear hK K) | ((first | refine aops_k fun K1 hK1 => ?_ | refine aqops_k fun K1 hK1 => ?_ | refine awp_cond_k fun A B hA hB => ?_); simp only [S1, simprocAttr, TTTmQ, TSz, z49_ne, hne, hS, all_scalar, t49', takeA_arr, takeA_st, List.length_map]; first | (refine hK1 _ ?_; clear hK1 K1) | ((first | refine hA ?_ | refine hB ?_); clear hA hB A B) | ((first | apply call_a E14 | apply call_q E14); exact (hlg _); (refine hK1 _ ?_; clear hK1 K1)) | ((first | apply call_a E15 | apply call_q E15); exact (hline _); (refine hK1 _ ?_; clear hK1 K1)) | (refine join_x (v := ?_) (fun hg hk9 => ?_) ?_; rotate_left; (focus (try ((try simp only [BN] at hg); simp only [S1, simprocAttr, TTTmQ, TSz, z49_ne, hne, hS, all_scalar, t49', takeA_arr, takeA_st, List.length_map, hg] at hk9 ⊢)); first | exact hk9 | ((first | apply call_a E14 | apply call_q E14); exact (hlg _); exact hk9) | ((first | apply call_a E15 | apply call_q E15); exact (hline _); exact hk9)); (refine hK1 _ ?_; clear hK1 K1)) | (((first | (refine ⟨fun hg => hA ?_, fun hg => hB ?_⟩ <;> clear hA hB A B) | refine ⟨fun hg => ?_, fun hg => ?_⟩) <;> (try simp only [BN2] at hg) <;> (try simp only [hg, cond_true, cond_false])) <;> (try (refine hK1 _ ?_; clear hK1 K1)) <;> (try simp only [BN3] at hg))) | (refine awp_seq_k fun K hK => ?_) | ((first | refine awp_region ?_ | refine awp_draw (by kernel_rfl) ?_ | refine awp_block ?_ | refine awp_exit ?_ | refine awp_skip ?_ | refine awp_ret ?_); (try simp only [NB, simprocAttr])))
    all_goals simp only [EndP, FinP, resA, resL, resA1, lastV, lastA, lastAs, pur, purs, take_app, List.take_length, S1, simprocAttr, TTTmQ, Nat.le_add_right, Nat.le_refl]
  | false =>
  rw [hl] at hlg
  have nk := largeM_ok hl
  have hck := fun h => tChk_calls nk hS h
  have hmv := fun h => moves_calls nk hS h
  by_cases h0 : stC ns fl S = 0
  case neg =>
    have e : stepsG ns fl S = [] := by unfold stepsG; rw [if_pos (.inl h0)]
    have f0 : (stC ns fl S != 0) = true := by simp [h0]
    rw [e] at hmv
    refine acalls_pure (rl := []) mixed Tryd.func4 rfl (rs := [.tmp 4]) rfl Tryd.ntmps4 (by simp) ?_
    repeat' (first | ((first | refine aops_nil ?_ | refine aqops_nil ?_); (try simp only [NB])) | ((repeat ((fail_if_success (refine hK _ ?_)); clear hK K)); refine hK _ ?_; clear hK K) | ((first | refine aops_k fun K1 hK1 => ?_ | refine aqops_k fun K1 hK1 => ?_ | refine awp_cond_k fun A B hA hB => ?_); simp only [S1, simprocAttr, TTTmQ, f0, TSz, z49_ne, hne, hS, all_scalar, t49', dm, takeA_arr, takeA_st, List.length_map, List.map_nil, List.length_nil]; first | (refine hK1 _ ?_; clear hK1 K1) | ((first | refine hA ?_ | refine hB ?_); clear hA hB A B) | ((first | apply call_a E14 | apply call_q E14); exact (hlg _); (refine hK1 _ ?_; clear hK1 K1)) | ((first | apply call_a E16 | apply call_q E16); exact (hmv _); (refine hK1 _ ?_; clear hK1 K1)) | ((first | apply call_a E9 | apply call_q E9); exact (hck _); (refine hK1 _ ?_; clear hK1 K1)) | ((first | apply call_a E15 | apply call_q E15); exact (hline _); (refine hK1 _ ?_; clear hK1 K1)) | (refine join_x (v := ?_) (fun hg hk9 => ?_) ?_; rotate_left; (focus (try ((try simp only [BN] at hg); simp only [S1, simprocAttr, TTTmQ, f0, TSz, z49_ne, hne, hS, all_scalar, t49', dm, takeA_arr, takeA_st, List.length_map, List.map_nil, List.length_nil, hg] at hk9 ⊢)); first | exact hk9 | ((first | apply call_a E14 | apply call_q E14); exact (hlg _); exact hk9) | ((first | apply call_a E16 | apply call_q E16); exact (hmv _); exact hk9) | ((first | apply call_a E9 | apply call_q E9); exact (hck _); exact hk9) | ((first | apply call_a E15 | apply call_q E15); exact (hline _); exact hk9)); (refine hK1 _ ?_; clear hK1 K1)) | (((first | (refine ⟨fun hg => hA ?_, fun hg => hB ?_⟩ <;> clear hA hB A B) | refine ⟨fun hg => ?_, fun hg => ?_⟩) <;> (try simp only [BN2] at hg) <;> (try simp only [hg, cond_true, cond_false])) <;> (try (refine hK1 _ ?_; clear hK1 K1)) <;> (try simp only [BN3] at hg))) | (refine awp_seq_k fun K hK => ?_) | ((first | refine awp_region ?_ | refine awp_draw (by kernel_rfl) ?_ | refine awp_block ?_ | refine awp_exit ?_ | refine awp_skip ?_ | refine awp_ret ?_); (try simp only [NB, simprocAttr])))
    all_goals simp only [EndP, FinP, resA, resL, resA1, lastV, lastA, lastAs, pur, purs, take_app, List.take_length, S1, simprocAttr, TTTmQ, Nat.le_add_right, Nat.le_refl]
  have f0 : (stC ns fl S != 0) = false := by simp [h0]
  by_cases h1 : mdS S = 0
  case neg =>
    have e : stepsG ns fl S = [] := by unfold stepsG; rw [if_pos (.inr h1)]
    have f1 : (mdS S != 0) = true := by simp [h1]
    rw [e] at hmv
    refine acalls_pure (rl := []) mixed Tryd.func4 rfl (rs := [.tmp 4]) rfl Tryd.ntmps4 (by simp) ?_
    repeat' (first | ((first | refine aops_nil ?_ | refine aqops_nil ?_); (try simp only [NB])) | ((repeat ((fail_if_success (refine hK _ ?_)); clear hK K)); refine hK _ ?_; clear hK K) | ((first | refine aops_k fun K1 hK1 => ?_ | refine aqops_k fun K1 hK1 => ?_ | refine awp_cond_k fun A B hA hB => ?_); simp only [S1, simprocAttr, TTTmQ, f0, f1, TSz, z49_ne, hne, hS, all_scalar, t49', dm, takeA_arr, takeA_st, List.length_map, List.map_nil, List.length_nil]; first | (refine hK1 _ ?_; clear hK1 K1) | ((first | refine hA ?_ | refine hB ?_); clear hA hB A B) | ((first | apply call_a E14 | apply call_q E14); exact (hlg _); (refine hK1 _ ?_; clear hK1 K1)) | ((first | apply call_a E16 | apply call_q E16); exact (hmv _); (refine hK1 _ ?_; clear hK1 K1)) | ((first | apply call_a E9 | apply call_q E9); exact (hck _); (refine hK1 _ ?_; clear hK1 K1)) | ((first | apply call_a E15 | apply call_q E15); exact (hline _); (refine hK1 _ ?_; clear hK1 K1)) | (refine join_x (v := ?_) (fun hg hk9 => ?_) ?_; rotate_left; (focus (try ((try simp only [BN] at hg); simp only [S1, simprocAttr, TTTmQ, f0, f1, TSz, z49_ne, hne, hS, all_scalar, t49', dm, takeA_arr, takeA_st, List.length_map, List.map_nil, List.length_nil, hg] at hk9 ⊢)); first | exact hk9 | ((first | apply call_a E14 | apply call_q E14); exact (hlg _); exact hk9) | ((first | apply call_a E16 | apply call_q E16); exact (hmv _); exact hk9) | ((first | apply call_a E9 | apply call_q E9); exact (hck _); exact hk9) | ((first | apply call_a E15 | apply call_q E15); exact (hline _); exact hk9)); (refine hK1 _ ?_; clear hK1 K1)) | (((first | (refine ⟨fun hg => hA ?_, fun hg => hB ?_⟩ <;> clear hA hB A B) | refine ⟨fun hg => ?_, fun hg => ?_⟩) <;> (try simp only [BN2] at hg) <;> (try simp only [hg, cond_true, cond_false])) <;> (try (refine hK1 _ ?_; clear hK1 K1)) <;> (try simp only [BN3] at hg))) | (refine awp_seq_k fun K hK => ?_) | ((first | refine awp_region ?_ | refine awp_draw (by kernel_rfl) ?_ | refine awp_block ?_ | refine awp_exit ?_ | refine awp_skip ?_ | refine awp_ret ?_); (try simp only [NB, simprocAttr])))
    all_goals simp only [EndP, FinP, resA, resL, resA1, lastV, lastA, lastAs, pur, purs, take_app, List.take_length, S1, simprocAttr, TTTmQ, Nat.le_add_right, Nat.le_refl]
  have f1 : (mdS S != 0) = false := by simp [h1]
  have hto := stepsG_to (ns := ns) (fl := fl) hS
  have hok : ∀ y ∈ stepsG ns fl S, stC ns fl y.to = 0 ∧ (mdS y.to == 1) = (y.lk == 7) ∧ (mdS y.to == 2) = (y.lk == 6) := fun y hy => steps_state hS h0 hy
  have hdo : ∀ (j : Nat) (y : Sp), (stepsG ns fl S)[j]? = some y → ∀ h, ACalls Tryd.prog gW 17 [aNet ns fl, aS S, .i j] h (fun r h' => r = .tup [aS y.to, aLb y, .i 0] ∧ h' = h) := by
    intro j y hy h
    have := do_calls nk hS (j : Int) h
    have e : doG ns fl S (j : Int) = (y, 0) := by unfold doG; rw [if_neg (by simpa using h0), if_neg (by omega), Int.toNat_natCast, hy]
    rw [e] at this
    exact this
  have hln := stepsG_len (ns := ns) (fl := fl) (S := S)
  refine acalls_pure (rl := []) mixed Tryd.func4 rfl (rs := [.tmp 4]) rfl Tryd.ntmps4 (by simp) ?_
  repeat' (first | ((first | refine aops_nil ?_ | refine aqops_nil ?_); (try simp only [NB])) | ((repeat ((fail_if_success (refine hK _ ?_)); clear hK K)); refine hK _ ?_; clear hK K) | ((first | refine aops_k fun K1 hK1 => ?_ | refine aqops_k fun K1 hK1 => ?_ | refine awp_cond_k fun A B hA hB => ?_); simp only [S1, simprocAttr, TTTmQ, f0, f1, TSz, z49_ne, hne, hS, all_scalar, t49', dm, takeA_arr, takeA_st, List.length_map]; first | (refine hK1 _ ?_; clear hK1 K1) | ((first | refine hA ?_ | refine hB ?_); clear hA hB A B) | ((first | apply call_a E14 | apply call_q E14); exact (hlg _); (refine hK1 _ ?_; clear hK1 K1)) | ((first | apply call_a E16 | apply call_q E16); exact (hmv _); (refine hK1 _ ?_; clear hK1 K1)) | ((first | apply call_a E9 | apply call_q E9); exact (hck _); (refine hK1 _ ?_; clear hK1 K1)) | (refine join_x (v := ?_) (fun hg hk9 => ?_) ?_; rotate_left; (focus (try ((try simp only [BN] at hg); simp only [S1, simprocAttr, TTTmQ, f0, f1, TSz, z49_ne, hne, hS, all_scalar, t49', dm, takeA_arr, takeA_st, List.length_map, hg] at hk9 ⊢)); first | exact hk9 | ((first | apply call_a E14 | apply call_q E14); exact (hlg _); exact hk9) | ((first | apply call_a E16 | apply call_q E16); exact (hmv _); exact hk9) | ((first | apply call_a E9 | apply call_q E9); exact (hck _); exact hk9)); (refine hK1 _ ?_; clear hK1 K1)) | (((first | (refine ⟨fun hg => hA ?_, fun hg => hB ?_⟩ <;> clear hA hB A B) | refine ⟨fun hg => ?_, fun hg => ?_⟩) <;> (try simp only [BN2] at hg) <;> (try simp only [hg, cond_true, cond_false])) <;> (try (refine hK1 _ ?_; clear hK1 K1)) <;> (try simp only [BN3] at hg))) | (refine awp_seq_k fun K hK => ?_) | ((first | refine awp_region ?_ | refine awp_draw (by kernel_rfl) ?_ | refine awp_block ?_ | refine awp_exit ?_ | refine awp_skip ?_ | refine awp_ret ?_); (try simp only [NB, simprocAttr])))
  clear hmv
  generalize stepsG ns fl S = sl at *
  refine awp_for sl.length 81 (fun j => [(34, .i j), (33, .i sl.length), (32, aMvs sl), (3, .ptr (h.length + 1) 0 0), (2, .ptr h.length 0 0)])
    (fun j => [some ⟨0, cNet ns fl⟩, some ⟨0, S.map AV.i⟩]) (fun j => True) ?_ trivial fun j hj hp K hK => ?_
  · refine ⟨rfl, ⟨[], by simp only [List.append_nil]⟩, ?_, ⟨trivial, trivial, trivial⟩, avlts_is _ _, trivial⟩
    simp only [keeps, avlt, avlts, blksLt, frL, upd_get, S1, simprocAttr, List.length_map, Int.natCast_zero, AV.p.injEq, PV.int.injEq, PV.bool.injEq, PV.sl.injEq] <;> (try and_intros) <;> (try assumption) <;> (try trivial) <;> (try omega)
  rcases Nat.lt_or_ge j sl.length with hlt | hge
  · obtain ⟨y, hy⟩ : ∃ y, sl[j]? = some y := ⟨_, List.getElem?_eq_getElem hlt⟩
    have hm := List.mem_of_getElem? hy
    have hxy : (sl.map eMv)[j]? = some [.int .i64 y.node, .int .i64 y.arg, .int .i64 y.lk, .int .i64 y.ln, .int .i64 y.la] := by rw [List.getElem?_map, hy]; rfl
    have hyl := hto y hm
    obtain ⟨o1, o2, o3⟩ := hok y hm
    have hd := hdo j y hy
    have hc2 := fun h => tChk_calls nk hyl h
    rw [o1] at hc2
    have jl : (j : Int) < (sl.length : Int) := by omega
    have j0 : (0 : Int) ≤ (j : Int) := by omega
    have hnx : IntKind.i64.wrap ((j : Int) + 1) = ((j + 1 : Nat) : Int) := by rw [IntWalk.i64_in _ (by omega)]; omega
    have yt49 : (y.to.map AV.i).take 49 = y.to.map AV.i := List.take_of_length_le (by rw [List.length_map, hyl]; exact Nat.le_refl _)
    have hyz : over (zS.map AV.i) 0 (y.to.map AV.i) = y.to.map AV.i := over_full (n := 49) (by rw [List.length_map, hyl]) _ (by rw [List.length_map]; rfl)
    have dy := dropI (at_get hyl (k := 48) (by omega))
    have eyd : y.to.getD 48 0 = mdS y.to := rfl
    rw [eyd] at dy
    have hem : (zS.map AV.i).isEmpty = false := rfl
    have hey : (y.to.map AV.i).isEmpty = false := ne_is hyl
    have heq : eqCells true [.p (.int .i64 y.lk), .p (.int .i64 y.ln), .p (.int .i64 y.la)] [.p (.int .i64 y.lk), .p (.int .i64 y.ln), .p (.int .i64 y.la)] = some true := by simp [eqCells]
    have bb : ∀ b : Bool, (b == b) = true := by decide
    repeat' (first | ((first | refine aops_nil ?_ | refine aqops_nil ?_); (try simp only [NB])) | ((repeat ((fail_if_success (refine hK _ ?_)); clear hK K)); refine hK _ ?_; clear hK K) | ((first | refine aops_k fun K1 hK1 => ?_ | refine aqops_k fun K1 hK1 => ?_ | refine awp_cond_k fun A B hA hB => ?_); simp only [S1, simprocAttr, TTTmQ, jl, j0, hxy, hnx, hyl, yt49, hyz, dy, hem, hey, o2, o3, bb, heq, eqA, W46, and_self, TSz, z49_ne, z49_map, zS_len, all_scalar, takeA_arr, takeA_st, List.length_map, List.length_cons, List.length_nil, Nat.mul_one, Nat.zero_add, Nat.add_zero, Int.toNat_natCast, hS, t49']; first | (refine hK1 _ ?_; clear hK1 K1) | ((first | refine hA ?_ | refine hB ?_); clear hA hB A B) | ((first | apply call_a E17 | apply call_q E17); exact (hd _); (refine hK1 _ ?_; clear hK1 K1)) | ((first | apply call_a E9 | apply call_q E9); exact (hc2 _); (refine hK1 _ ?_; clear hK1 K1)) | (refine join_x (v := ?_) (fun hg hk9 => ?_) ?_; rotate_left; (focus (try ((try simp only [BN] at hg); simp only [S1, simprocAttr, TTTmQ, jl, j0, hxy, hnx, hyl, yt49, hyz, dy, hem, hey, o2, o3, bb, heq, eqA, W46, and_self, TSz, z49_ne, z49_map, zS_len, all_scalar, takeA_arr, takeA_st, List.length_map, List.length_cons, List.length_nil, Nat.mul_one, Nat.zero_add, Nat.add_zero, Int.toNat_natCast, hS, t49', hg] at hk9 ⊢)); first | exact hk9 | ((first | apply call_a E17 | apply call_q E17); exact (hd _); exact hk9) | ((first | apply call_a E9 | apply call_q E9); exact (hc2 _); exact hk9)); (refine hK1 _ ?_; clear hK1 K1)) | (((first | (refine ⟨fun hg => hA ?_, fun hg => hB ?_⟩ <;> clear hA hB A B) | refine ⟨fun hg => ?_, fun hg => ?_⟩) <;> (try simp only [BN2] at hg) <;> (try simp only [hg, cond_true, cond_false])) <;> (try (refine hK1 _ ?_; clear hK1 K1)) <;> (try simp only [BN3] at hg))) | (refine awp_seq_k fun K hK => ?_) | ((first | refine awp_region ?_ | refine awp_draw (by kernel_rfl) ?_ | refine awp_block ?_ | refine awp_exit ?_ | refine awp_skip ?_ | refine awp_ret ?_); (try simp only [NB, simprocAttr])))
    all_goals refine ⟨hlt, trivial, ?_⟩
    all_goals refine ⟨rfl, ⟨_, rfl⟩, ?_, ⟨trivial, trivial, trivial⟩, avlts_is _ _, trivial⟩
    all_goals simp only [keeps, avlt, avlts, blksLt, frL, upd_get, S1, simprocAttr, List.length_map, Int.natCast_zero, AV.p.injEq, PV.int.injEq, PV.bool.injEq, PV.sl.injEq] <;> (try and_intros) <;> (try assumption) <;> (try trivial) <;> (try omega)
  · obtain rfl : j = sl.length := by omega
    repeat' (first | ((first | refine aops_nil ?_ | refine aqops_nil ?_); (try simp only [NB])) | ((repeat ((fail_if_success (refine hK _ ?_)); clear hK K)); refine hK _ ?_; clear hK K) | ((first | refine aops_k fun K1 hK1 => ?_ | refine aqops_k fun K1 hK1 => ?_ | refine awp_cond_k fun A B hA hB => ?_); simp only [S1, simprocAttr, TTTmQ, Int.lt_irrefl]; first | (refine hK1 _ ?_; clear hK1 K1) | ((first | refine hA ?_ | refine hB ?_); clear hA hB A B) | ((first | apply call_a E15 | apply call_q E15); exact (hline _); (refine hK1 _ ?_; clear hK1 K1)) | (refine join_x (v := ?_) (fun hg hk9 => ?_) ?_; rotate_left; (focus (try ((try simp only [BN] at hg); simp only [S1, simprocAttr, TTTmQ, Int.lt_irrefl, hg] at hk9 ⊢)); first | exact hk9 | ((first | apply call_a E15 | apply call_q E15); exact (hline _); exact hk9)); (refine hK1 _ ?_; clear hK1 K1)) | (((first | (refine ⟨fun hg => hA ?_, fun hg => hB ?_⟩ <;> clear hA hB A B) | refine ⟨fun hg => ?_, fun hg => ?_⟩) <;> (try simp only [BN2] at hg) <;> (try simp only [hg, cond_true, cond_false])) <;> (try (refine hK1 _ ?_; clear hK1 K1)) <;> (try simp only [BN3] at hg))) | (refine awp_seq_k fun K hK => ?_) | ((first | refine awp_region ?_ | refine awp_draw (by kernel_rfl) ?_ | refine awp_block ?_ | refine awp_exit ?_ | refine awp_skip ?_ | refine awp_ret ?_); (try simp only [NB, simprocAttr])))
    all_goals simp only [EndP, FinP, resA, resL, resA1, lastV, lastA, lastAs, pur, purs, take_app, List.take_length, S1, simprocAttr, TTTmQ, Nat.le_add_right, Nat.le_refl]

theorem states_given (xss : List (List PV)) (hl : xss.length = [25, 29].length) (ht : ∀ (j : Nat) t xs, [25, 29][j]? = some t → xss[j]? = some xs → ∃ fuel, Ty Tryd.prog fuel t xs) :
    ACalls Tryd.prog gW 4 (List.zipWith (argA Tryd.prog) [25, 29] xss) [] fun r h' => r = .b true ∧ h' = [] := by
  match xss, hl, ht with
  | [x0, x1], _, ht =>
    obtain ⟨_, h0⟩ := ht 0 25 x0 rfl rfl
    obtain ⟨_, h1⟩ := ht 1 29 x1 rfl rfl
    obtain ⟨ns, fl, e0⟩ := arg_net h0
    obtain ⟨S, hS, e1⟩ := arg_state h1
    simp only [List.zipWith_cons_cons, List.zipWith_nil_left, e0, e1]
    exact states_calls ns fl hS []
end Go.Proofs.YtjpphhcimpclpaaDoor.AM
end

section
set_option linter.unusedVariables false
set_option linter.unusedSimpArgs false
set_option maxRecDepth 4000
set_option maxHeartbeats 4000000
namespace Go.Proofs.YtjpphhcimpclpaaDoor.AM
open Go Go.Proofs
set_option linter.defProp false in
def TTTmR := And.intro T2 (And.intro T3 (And.intro T4 (And.intro T22 (And.intro T25 (And.intro T26 (And.intro T27 (And.intro T31 (And.intro T40 (And.intro T46 (And.intro T50 (And.intro T53 T60)))))))))))
attribute [local irreducible] awp aops aqops aeops arun arunT

structure Qone where
  j : Nat
  S : List Int

theorem tone_calls (ns : List Nd) (fl : List Fl) (picks : List Int) (h : Heap) : ACalls Tryd.prog gW 5 [aNet ns fl, aI picks] h (fun r h' => r = .b true ∧ h' = h) := by
  have hline := fun h => line7_calls h
  have hlg := fun h => largeM_calls (G := gW) ns fl h
  cases hl : largeM ns fl with
  | true =>
    rw [hl] at hlg
    refine acalls_pure (rl := []) mixed Tryd.func5 rfl (rs := [.tmp 4]) rfl Tryd.ntmps5 (by simp) ?_
    repeat' (first | ((first | refine aops_nil ?_ | refine aqops_nil ?_); (try simp only [NB])) | ((repeat ((fail_if_success (refine hK _ ?_)); clear hK K)); refine hK _ ?_; clear hK K) | ((first | refine aops_k fun K1 hK1 => ?_ | refine aqops_k fun K1 hK1 => ?_ | refine awp_cond_k fun A B hA hB => ?_); simp only [S1, simprocAttr, TTTmR, List.length_map]; first | (refine hK1 _ ?_; clear hK1 K1) | ((first | refine hA ?_ | refine hB ?_); clear hA hB A B) | ((first | apply call_a E14 | apply call_q E14); exact (hlg _); (refine hK1 _ ?_; clear hK1 K1)) | ((first | apply call_a E15 | apply call_q E15); exact (hline _); (refine hK1 _ ?_; clear hK1 K1)) | (refine join_x (v := ?_) (fun hg hk9 => ?_) ?_; rotate_left; (focus (try ((try simp only [BN] at hg); simp only [S1, simprocAttr, TTTmR, List.length_map, hg] at hk9 ⊢)); first | exact hk9 | ((first | apply call_a E14 | apply call_q E14); exact (hlg _); exact hk9) | ((first | apply call_a E15 | apply call_q E15); exact (hline _); exact hk9)); (refine hK1 _ ?_; clear hK1 K1)) | (((first | (refine ⟨fun hg => hA ?_, fun hg => hB ?_⟩ <;> clear hA hB A B) | refine ⟨fun hg => ?_, fun hg => ?_⟩) <;> (try simp only [BN2] at hg) <;> (try simp only [hg, cond_true, cond_false])) <;> (try (refine hK1 _ ?_; clear hK1 K1)) <;> (try simp only [BN3] at hg))) | (refine awp_seq_k fun K hK => ?_) | ((first | refine awp_region ?_ | refine awp_draw (by kernel_rfl) ?_ | refine awp_block ?_ | refine awp_exit ?_ | refine awp_skip ?_ | refine awp_ret ?_); (try simp only [NB, simprocAttr])))
    all_goals simp only [EndP, FinP, resA, resL, resA1, lastV, lastA, lastAs, pur, purs, take_app, List.take_length, S1, simprocAttr, TTTmR, Nat.le_add_right, Nat.le_refl]
  | false =>
  rw [hl] at hlg
  have nk := largeM_ok hl
  by_cases hp60 : picks.length ≤ 60
  case neg =>
    have f60 : decide (60 < (picks.length : Int)) = true := decide_eq_true (by omega)
    refine acalls_pure (rl := []) mixed Tryd.func5 rfl (rs := [.tmp 4]) rfl Tryd.ntmps5 (by simp) ?_
    repeat' (first | ((first | refine aops_nil ?_ | refine aqops_nil ?_); (try simp only [NB])) | ((repeat ((fail_if_success (refine hK _ ?_)); clear hK K)); refine hK _ ?_; clear hK K) | ((first | refine aops_k fun K1 hK1 => ?_ | refine aqops_k fun K1 hK1 => ?_ | refine awp_cond_k fun A B hA hB => ?_); simp only [S1, simprocAttr, TTTmR, f60, List.length_map]; first | (refine hK1 _ ?_; clear hK1 K1) | ((first | refine hA ?_ | refine hB ?_); clear hA hB A B) | ((first | apply call_a E14 | apply call_q E14); exact (hlg _); (refine hK1 _ ?_; clear hK1 K1)) | ((first | apply call_a E15 | apply call_q E15); exact (hline _); (refine hK1 _ ?_; clear hK1 K1)) | (refine join_x (v := ?_) (fun hg hk9 => ?_) ?_; rotate_left; (focus (try ((try simp only [BN] at hg); simp only [S1, simprocAttr, TTTmR, f60, List.length_map, hg] at hk9 ⊢)); first | exact hk9 | ((first | apply call_a E14 | apply call_q E14); exact (hlg _); exact hk9) | ((first | apply call_a E15 | apply call_q E15); exact (hline _); exact hk9)); (refine hK1 _ ?_; clear hK1 K1)) | (((first | (refine ⟨fun hg => hA ?_, fun hg => hB ?_⟩ <;> clear hA hB A B) | refine ⟨fun hg => ?_, fun hg => ?_⟩) <;> (try simp only [BN2] at hg) <;> (try simp only [hg, cond_true, cond_false])) <;> (try (refine hK1 _ ?_; clear hK1 K1)) <;> (try simp only [BN3] at hg))) | (refine awp_seq_k fun K hK => ?_) | ((first | refine awp_region ?_ | refine awp_draw (by kernel_rfl) ?_ | refine awp_block ?_ | refine awp_exit ?_ | refine awp_skip ?_ | refine awp_ret ?_); (try simp only [NB, simprocAttr])))
    all_goals simp only [EndP, FinP, resA, resL, resA1, lastV, lastA, lastAs, pur, purs, take_app, List.take_length, S1, simprocAttr, TTTmR, Nat.le_add_right, Nat.le_refl]
  have f60 : decide (60 < (picks.length : Int)) = false := decide_eq_false (by omega)
  have hst := fun h => tStart_calls nk h
  have hzl : (zS.map AV.i).length = 49 := by rw [List.length_map]; rfl
  have hem : (zS.map AV.i).isEmpty = false := rfl
  refine acalls_pure (rl := []) mixed Tryd.func5 rfl (rs := [.tmp 4]) rfl Tryd.ntmps5 (by simp) ?_
  repeat' (first | ((first | refine aops_nil ?_ | refine aqops_nil ?_); (try simp only [NB])) | ((repeat ((fail_if_success (refine hK _ ?_)); clear hK K)); refine hK _ ?_; clear hK K) | ((first | refine aops_k fun K1 hK1 => ?_ | refine aqops_k fun K1 hK1 => ?_ | refine awp_cond_k fun A B hA hB => ?_); simp only [S1, simprocAttr, TTTmR, f60, List.length_map]; first | (refine hK1 _ ?_; clear hK1 K1) | ((first | refine hA ?_ | refine hB ?_); clear hA hB A B) | ((first | apply call_a E14 | apply call_q E14); exact (hlg _); (refine hK1 _ ?_; clear hK1 K1)) | (refine join_x (v := ?_) (fun hg hk9 => ?_) ?_; rotate_left; (focus (try ((try simp only [BN] at hg); simp only [S1, simprocAttr, TTTmR, f60, List.length_map, hg] at hk9 ⊢)); first | exact hk9 | ((first | apply call_a E14 | apply call_q E14); exact (hlg _); exact hk9)); (refine hK1 _ ?_; clear hK1 K1)) | (((first | (refine ⟨fun hg => hA ?_, fun hg => hB ?_⟩ <;> clear hA hB A B) | refine ⟨fun hg => ?_, fun hg => ?_⟩) <;> (try simp only [BN2] at hg) <;> (try simp only [hg, cond_true, cond_false])) <;> (try (refine hK1 _ ?_; clear hK1 K1)) <;> (try simp only [BN3] at hg))) | (refine awp_seq_k fun K hK => ?_) | ((first | refine awp_region ?_ | refine awp_draw (by kernel_rfl) ?_ | refine awp_block ?_ | refine awp_exit ?_ | refine awp_skip ?_ | refine awp_ret ?_); (try simp only [NB, simprocAttr])))
  refine awp_for ns.length 94 (fun j => [(27, .i j), (26, .i ns.length), (25, .p (.sl (ns.map eN))), (2, .ptr h.length 0 0), (1, aI picks)])
    (fun j => [some ⟨0, cNet ns fl⟩]) (fun j => ∀ i k, i < j → ns[i]? = some k → k.kind ≠ 6) ?_ (fun i k hi => absurd hi (Nat.not_lt_zero _)) fun j hj hp K hK => ?_
  · refine ⟨rfl, ⟨[], by simp only [List.append_nil]⟩, ?_, ⟨trivial, trivial, trivial⟩, trivial⟩
    simp only [keeps, avlt, avlts, blksLt, frL, upd_get, S1, simprocAttr, List.length_map, Int.natCast_zero, AV.p.injEq, PV.int.injEq, PV.bool.injEq, PV.sl.injEq] <;> (try and_intros) <;> (try assumption) <;> (try trivial) <;> (try omega)
  rcases Nat.lt_or_ge j ns.length with hlt | hge
  · obtain ⟨k, hx⟩ : ∃ k, ns[j]? = some k := ⟨_, List.getElem?_eq_getElem hlt⟩
    by_cases h6 : k.kind = 6
    · have e6 : (k.kind == 6) = true := by simp [h6]
      repeat' (first | ((first | refine aops_nil ?_ | refine aqops_nil ?_); (try simp only [NB])) | ((repeat ((fail_if_success (refine hK _ ?_)); clear hK K)); refine hK _ ?_; clear hK K) | ((first | refine aops_k fun K1 hK1 => ?_ | refine aqops_k fun K1 hK1 => ?_ | refine awp_cond_k fun A B hA hB => ?_); simp only [S1, simprocAttr, TTTmR, rowN hx, hitN hlt, nextN nk.n hlt, eN, e6, List.length_map]; first | (refine hK1 _ ?_; clear hK1 K1) | ((first | refine hA ?_ | refine hB ?_); clear hA hB A B) | ((first | apply call_a E15 | apply call_q E15); exact (hline _); (refine hK1 _ ?_; clear hK1 K1)) | (refine join_x (v := ?_) (fun hg hk9 => ?_) ?_; rotate_left; (focus (try ((try simp only [BN] at hg); simp only [S1, simprocAttr, TTTmR, rowN hx, hitN hlt, nextN nk.n hlt, eN, e6, List.length_map, hg] at hk9 ⊢)); first | exact hk9 | ((first | apply call_a E15 | apply call_q E15); exact (hline _); exact hk9)); (refine hK1 _ ?_; clear hK1 K1)) | (((first | (refine ⟨fun hg => hA ?_, fun hg => hB ?_⟩ <;> clear hA hB A B) | refine ⟨fun hg => ?_, fun hg => ?_⟩) <;> (try simp only [BN2] at hg) <;> (try simp only [hg, cond_true, cond_false])) <;> (try (refine hK1 _ ?_; clear hK1 K1)) <;> (try simp only [BN3] at hg))) | (refine awp_seq_k fun K hK => ?_) | ((first | refine awp_region ?_ | refine awp_draw (by kernel_rfl) ?_ | refine awp_block ?_ | refine awp_exit ?_ | refine awp_skip ?_ | refine awp_ret ?_); (try simp only [NB, simprocAttr])))
      all_goals simp only [EndP, FinP, resA, resL, resA1, lastV, lastA, lastAs, pur, purs, take_app, List.take_length, S1, simprocAttr, TTTmR, Nat.le_add_right, Nat.le_refl]
    · have e6 : (k.kind == 6) = false := by simp [h6]
      repeat' (first | ((first | refine aops_nil ?_ | refine aqops_nil ?_); (try simp only [NB])) | ((repeat ((fail_if_success (refine hK _ ?_)); clear hK K)); refine hK _ ?_; clear hK K) | ((first | refine aops_k fun K1 hK1 => ?_ | refine aqops_k fun K1 hK1 => ?_ | refine awp_cond_k fun A B hA hB => ?_); simp only [S1, simprocAttr, TTTmR, rowN hx, hitN hlt, nextN nk.n hlt, eN, e6, List.length_map]; first | (refine hK1 _ ?_; clear hK1 K1) | ((first | refine hA ?_ | refine hB ?_); clear hA hB A B) | (refine join_x (v := ?_) (fun hg hk9 => ?_) ?_; rotate_left; (focus (try ((try simp only [BN] at hg); simp only [S1, simprocAttr, TTTmR, rowN hx, hitN hlt, nextN nk.n hlt, eN, e6, List.length_map, hg] at hk9 ⊢)); first | exact hk9); (refine hK1 _ ?_; clear hK1 K1)) | (((first | (refine ⟨fun hg => hA ?_, fun hg => hB ?_⟩ <;> clear hA hB A B) | refine ⟨fun hg => ?_, fun hg => ?_⟩) <;> (try simp only [BN2] at hg) <;> (try simp only [hg, cond_true, cond_false])) <;> (try (refine hK1 _ ?_; clear hK1 K1)) <;> (try simp only [BN3] at hg))) | (refine awp_seq_k fun K hK => ?_) | ((first | refine awp_region ?_ | refine awp_draw (by kernel_rfl) ?_ | refine awp_block ?_ | refine awp_exit ?_ | refine awp_skip ?_ | refine awp_ret ?_); (try simp only [NB, simprocAttr])))
      all_goals refine ⟨hlt, ?_, ?_⟩
      · intro i k' hi hk'
        rcases Nat.lt_or_ge i j with h1 | h1
        · exact hp i k' h1 hk'
        · obtain rfl : i = j := by omega
          rw [hx] at hk'; cases hk'; exact h6
      · (refine ⟨rfl, (by first | exact ⟨_, rfl⟩ | exact ⟨[], by simp⟩), ?_, ?_⟩ <;> simp only [keeps, avlt, avlts, blksLt, frL, upd_get, S1, simprocAttr, List.length_map, Int.natCast_zero, AV.p.injEq, PV.int.injEq, PV.bool.injEq, PV.sl.injEq] <;> (try and_intros) <;> (try assumption) <;> (try trivial) <;> (try omega))
  obtain rfl : j = ns.length := by omega
  have ha : ∀ k ∈ ns, k.kind ≠ 6 := by
    intro k hk
    obtain ⟨i, hi⟩ := List.getElem?_of_mem hk
    exact hp i k (List.getElem?_eq_some_iff.mp hi).1 hi
  have hsl : (startG ns fl).1.length = 49 := by
    unfold startG
    split
    · rfl
    · rw [List.length_set]; rfl
  have hso : over (zS.map AV.i) 0 ((startG ns fl).1.map AV.i) = (startG ns fl).1.map AV.i := over_full (n := 49) (by rw [List.length_map, hsl]) _ hzl
  by_cases h0 : (startG ns fl).2 = 0
  case neg =>
    have f0 : ((startG ns fl).2 != 0) = true := by simp [h0]
    repeat' (first | ((first | refine aops_nil ?_ | refine aqops_nil ?_); (try simp only [NB])) | ((repeat ((fail_if_success (refine hK _ ?_)); clear hK K)); refine hK _ ?_; clear hK K) | ((first | refine aops_k fun K1 hK1 => ?_ | refine aqops_k fun K1 hK1 => ?_ | refine awp_cond_k fun A B hA hB => ?_); simp only [S1, simprocAttr, TTTmR, endN, f0, hso, hsl, hem, TSz, z49_ne, z49_map, zS_len, all_scalar, takeA_arr, takeA_st, List.length_map]; first | (refine hK1 _ ?_; clear hK1 K1) | ((first | refine hA ?_ | refine hB ?_); clear hA hB A B) | ((first | apply call_a E18 | apply call_q E18); exact (hst _); (refine hK1 _ ?_; clear hK1 K1)) | ((first | apply call_a E15 | apply call_q E15); exact (hline _); (refine hK1 _ ?_; clear hK1 K1)) | (refine join_x (v := ?_) (fun hg hk9 => ?_) ?_; rotate_left; (focus (try ((try simp only [BN] at hg); simp only [S1, simprocAttr, TTTmR, endN, f0, hso, hsl, hem, TSz, z49_ne, z49_map, zS_len, all_scalar, takeA_arr, takeA_st, List.length_map, hg] at hk9 ⊢)); first | exact hk9 | ((first | apply call_a E18 | apply call_q E18); exact (hst _); exact hk9) | ((first | apply call_a E15 | apply call_q E15); exact (hline _); exact hk9)); (refine hK1 _ ?_; clear hK1 K1)) | (((first | (refine ⟨fun hg => hA ?_, fun hg => hB ?_⟩ <;> clear hA hB A B) | refine ⟨fun hg => ?_, fun hg => ?_⟩) <;> (try simp only [BN2] at hg) <;> (try simp only [hg, cond_true, cond_false])) <;> (try (refine hK1 _ ?_; clear hK1 K1)) <;> (try simp only [BN3] at hg))) | (refine awp_seq_k fun K hK => ?_) | ((first | refine awp_region ?_ | refine awp_draw (by kernel_rfl) ?_ | refine awp_block ?_ | refine awp_exit ?_ | refine awp_skip ?_ | refine awp_ret ?_); (try simp only [NB, simprocAttr])))
    all_goals simp only [EndP, FinP, resA, resL, resA1, lastV, lastA, lastAs, pur, purs, take_app, List.take_length, S1, simprocAttr, TTTmR, Nat.le_add_right, Nat.le_refl]
  have f0 : ((startG ns fl).2 != 0) = false := by simp [h0]
  obtain ⟨s1, s2⟩ := start_ok h0
  repeat' (first | ((first | refine aops_nil ?_ | refine aqops_nil ?_); (try simp only [NB])) | ((repeat ((fail_if_success (refine hK _ ?_)); clear hK K)); refine hK _ ?_; clear hK K) | ((first | refine aops_k fun K1 hK1 => ?_ | refine aqops_k fun K1 hK1 => ?_ | refine awp_cond_k fun A B hA hB => ?_); simp only [S1, simprocAttr, TTTmR, endN, f0, hso, hsl, hem, TSz, z49_ne, z49_map, zS_len, all_scalar, takeA_arr, takeA_st, List.length_map]; first | (refine hK1 _ ?_; clear hK1 K1) | ((first | refine hA ?_ | refine hB ?_); clear hA hB A B) | ((first | apply call_a E18 | apply call_q E18); exact (hst _); (refine hK1 _ ?_; clear hK1 K1)) | (refine join_x (v := ?_) (fun hg hk9 => ?_) ?_; rotate_left; (focus (try ((try simp only [BN] at hg); simp only [S1, simprocAttr, TTTmR, endN, f0, hso, hsl, hem, TSz, z49_ne, z49_map, zS_len, all_scalar, takeA_arr, takeA_st, List.length_map, hg] at hk9 ⊢)); first | exact hk9 | ((first | apply call_a E18 | apply call_q E18); exact (hst _); exact hk9)); (refine hK1 _ ?_; clear hK1 K1)) | (((first | (refine ⟨fun hg => hA ?_, fun hg => hB ?_⟩ <;> clear hA hB A B) | refine ⟨fun hg => ?_, fun hg => ?_⟩) <;> (try simp only [BN2] at hg) <;> (try simp only [hg, cond_true, cond_false])) <;> (try (refine hK1 _ ?_; clear hK1 K1)) <;> (try simp only [BN3] at hg))) | (refine awp_seq_k fun K hK => ?_) | ((first | refine awp_region ?_ | refine awp_draw (by kernel_rfl) ?_ | refine awp_block ?_ | refine awp_exit ?_ | refine awp_skip ?_ | refine awp_ret ?_); (try simp only [NB, simprocAttr])))
  refine awp_while (σ := Qone) (fun q => picks.length - q.j) 94 (fun q => [(46, .i q.j), (45, .i picks.length), (44, aI picks), (7, .ptr (h.length + 1) 0 0), (2, .ptr h.length 0 0)])
    (fun q => [some ⟨0, cNet ns fl⟩, some ⟨0, q.S.map AV.i⟩]) (fun q => q.j ≤ picks.length ∧ OneOk ns fl q.S) ⟨0, (startG ns fl).1⟩ ?_ ⟨Nat.zero_le _, s1⟩ fun q hq K hK => ?_
  · refine ⟨rfl, ⟨[], by simp only [List.append_nil]⟩, ?_, ⟨trivial, trivial, trivial⟩, avlts_is _ _, trivial⟩
    simp only [keeps, avlt, avlts, blksLt, frL, upd_get, S1, simprocAttr, List.length_map, Int.natCast_zero, AV.p.injEq, PV.int.injEq, PV.bool.injEq, PV.sl.injEq] <;> (try and_intros) <;> (try assumption) <;> (try trivial) <;> (try omega)
  obtain ⟨j, S⟩ := q
  obtain ⟨hj, hS1⟩ := hq
  simp only at hj hS1
  have hS := hS1.1
  have t49' : (S.map AV.i).take 49 = S.map AV.i := List.take_of_length_le (by rw [List.length_map, hS]; exact Nat.le_refl _)
  rcases Nat.lt_or_ge j picks.length with hlt | hge
  · obtain ⟨p, hpj⟩ : ∃ p, picks[j]? = some p := ⟨_, List.getElem?_eq_getElem hlt⟩
    have hmv := fun h => moves_calls nk hS h
    have hln := stepsG_len (ns := ns) (fl := fl) (S := S)
    have hto := stepsG_to (ns := ns) (fl := fl) hS
    have hon : ∀ y ∈ stepsG ns fl S, OneOk ns fl y.to := fun y hy => one_step ha hS1 hy
    have hdo : ∀ (j : Nat) (y : Sp), (stepsG ns fl S)[j]? = some y → ∀ h, ACalls Tryd.prog gW 17 [aNet ns fl, aS S, .i j] h (fun r h' => r = .tup [aS y.to, aLb y, .i 0] ∧ h' = h) := by
      intro j y hy h
      have := do_calls nk hS (j : Int) h
      have e : doG ns fl S (j : Int) = (y, 0) := by unfold doG; rw [if_neg (by simpa using hS1.2.1), if_neg (by omega), Int.toNat_natCast, hy]
      rw [e] at this
      exact this
    generalize stepsG ns fl S = sl at *
    have hnx := nextI (l := picks) (by omega) hlt
    by_cases hskip : p < 0 ∨ sl = []
    · by_cases hp0 : p < 0
      · have fp : decide (p < 0) = true := decide_eq_true hp0
        repeat' (first | ((first | refine aops_nil ?_ | refine aqops_nil ?_); (try simp only [NB])) | ((repeat ((fail_if_success (refine hK _ ?_)); clear hK K)); refine hK _ ?_; clear hK K) | ((first | refine aops_k fun K1 hK1 => ?_ | refine aqops_k fun K1 hK1 => ?_ | refine awp_cond_k fun A B hA hB => ?_); simp only [S1, simprocAttr, TTTmR, rowI hpj, hitI hlt, hnx, fp, hS, t49', TSz, z49_ne, z49_map, zS_len, all_scalar, takeA_arr, takeA_st, List.length_map]; first | (refine hK1 _ ?_; clear hK1 K1) | ((first | refine hA ?_ | refine hB ?_); clear hA hB A B) | ((first | apply call_a E16 | apply call_q E16); exact (hmv _); (refine hK1 _ ?_; clear hK1 K1)) | (refine join_x (v := ?_) (fun hg hk9 => ?_) ?_; rotate_left; (focus (try ((try simp only [BN] at hg); simp only [S1, simprocAttr, TTTmR, rowI hpj, hitI hlt, hnx, fp, hS, t49', TSz, z49_ne, z49_map, zS_len, all_scalar, takeA_arr, takeA_st, List.length_map, hg] at hk9 ⊢)); first | exact hk9 | ((first | apply call_a E16 | apply call_q E16); exact (hmv _); exact hk9)); (refine hK1 _ ?_; clear hK1 K1)) | (((first | (refine ⟨fun hg => hA ?_, fun hg => hB ?_⟩ <;> clear hA hB A B) | refine ⟨fun hg => ?_, fun hg => ?_⟩) <;> (try simp only [BN2] at hg) <;> (try simp only [hg, cond_true, cond_false])) <;> (try (refine hK1 _ ?_; clear hK1 K1)) <;> (try simp only [BN3] at hg))) | (refine awp_seq_k fun K hK => ?_) | ((first | refine awp_region ?_ | refine awp_draw (by kernel_rfl) ?_ | refine awp_block ?_ | refine awp_exit ?_ | refine awp_skip ?_ | refine awp_ret ?_); (try simp only [NB, simprocAttr])))
        all_goals refine ⟨⟨j + 1, S⟩, by simp only; omega, ⟨hlt, hS1⟩, ?_⟩
        all_goals refine ⟨rfl, ⟨_, rfl⟩, ?_, ⟨trivial, trivial, trivial⟩, avlts_is _ _, trivial⟩
        all_goals simp only [keeps, avlt, avlts, blksLt, frL, upd_get, S1, simprocAttr, List.length_map, Int.natCast_zero, AV.p.injEq, PV.int.injEq, PV.bool.injEq, PV.sl.injEq] <;> (try and_intros) <;> (try assumption) <;> (try trivial) <;> (try omega)
      · have fp : decide (p < 0) = false := decide_eq_false hp0
        obtain rfl : sl = [] := hskip.resolve_left hp0
        repeat' (first | ((first | refine aops_nil ?_ | refine aqops_nil ?_); (try simp only [NB])) | ((repeat ((fail_if_success (refine hK _ ?_)); clear hK K)); refine hK _ ?_; clear hK K) | ((first | refine aops_k fun K1 hK1 => ?_ | refine aqops_k fun K1 hK1 => ?_ | refine awp_cond_k fun A B hA hB => ?_); simp only [S1, simprocAttr, TTTmR, rowI hpj, hitI hlt, hnx, fp, hS, t49', TSz, z49_ne, z49_map, zS_len, all_scalar, takeA_arr, takeA_st, List.length_map, List.map_nil, List.length_nil]; first | (refine hK1 _ ?_; clear hK1 K1) | ((first | refine hA ?_ | refine hB ?_); clear hA hB A B) | ((first | apply call_a E16 | apply call_q E16); exact (hmv _); (refine hK1 _ ?_; clear hK1 K1)) | (refine join_x (v := ?_) (fun hg hk9 => ?_) ?_; rotate_left; (focus (try ((try simp only [BN] at hg); simp only [S1, simprocAttr, TTTmR, rowI hpj, hitI hlt, hnx, fp, hS, t49', TSz, z49_ne, z49_map, zS_len, all_scalar, takeA_arr, takeA_st, List.length_map, List.map_nil, List.length_nil, hg] at hk9 ⊢)); first | exact hk9 | ((first | apply call_a E16 | apply call_q E16); exact (hmv _); exact hk9)); (refine hK1 _ ?_; clear hK1 K1)) | (((first | (refine ⟨fun hg => hA ?_, fun hg => hB ?_⟩ <;> clear hA hB A B) | refine ⟨fun hg => ?_, fun hg => ?_⟩) <;> (try simp only [BN2] at hg) <;> (try simp only [hg, cond_true, cond_false])) <;> (try (refine hK1 _ ?_; clear hK1 K1)) <;> (try simp only [BN3] at hg))) | (refine awp_seq_k fun K hK => ?_) | ((first | refine awp_region ?_ | refine awp_draw (by kernel_rfl) ?_ | refine awp_block ?_ | refine awp_exit ?_ | refine awp_skip ?_ | refine awp_ret ?_); (try simp only [NB, simprocAttr])))
        all_goals refine ⟨⟨j + 1, S⟩, by simp only; omega, ⟨hlt, hS1⟩, ?_⟩
        all_goals refine ⟨rfl, ⟨_, rfl⟩, ?_, ⟨trivial, trivial, trivial⟩, avlts_is _ _, trivial⟩
        all_goals simp only [keeps, avlt, avlts, blksLt, frL, upd_get, S1, simprocAttr, List.length_map, Int.natCast_zero, AV.p.injEq, PV.int.injEq, PV.bool.injEq, PV.sl.injEq] <;> (try and_intros) <;> (try assumption) <;> (try trivial) <;> (try omega)
    rw [not_or] at hskip
    obtain ⟨hp0, hne⟩ := hskip
    have fp : decide (p < 0) = false := decide_eq_false hp0
    have hpos : 0 < sl.length := List.length_pos_iff.mpr hne
    have fl0 : ((sl.length : Int) == 0) = false := by simp; omega
    have fl0' : ((sl.length : Int) = 0) = False := by simp; omega
    obtain ⟨n, rfl⟩ := Int.eq_ofNat_of_zero_le (by omega : 0 ≤ p)
    obtain ⟨r, hmlt, hmod⟩ : ∃ r : Nat, r < sl.length ∧ Int.tmod (n : Int) (sl.length : Int) = (r : Int) := ⟨n % sl.length, Nat.mod_lt _ hpos, rfl⟩
    have hinr : inR .i64 (r : Int) = true := by
      unfold inR
      simp only [Bool.and_eq_true, decide_eq_true_eq]
      refine ⟨?_, ?_⟩
      · show (-9223372036854775808 : Int) ≤ _; omega
      · show _ ≤ (9223372036854775807 : Int); omega
    obtain ⟨y, hy⟩ : ∃ y, sl[r]? = some y := ⟨_, List.getElem?_eq_getElem hmlt⟩
    have hm := List.mem_of_getElem? hy
    have hd := hdo _ y hy
    have hyl := hto y hm
    have hyo := hon y hm
    have yt49 : (y.to.map AV.i).take 49 = y.to.map AV.i := List.take_of_length_le (by rw [List.length_map, hyl]; exact Nat.le_refl _)
    have hyz : over (zS.map AV.i) 0 (y.to.map AV.i) = y.to.map AV.i := over_full (n := 49) (by rw [List.length_map, hyl]) _ hzl
    have hys : over (S.map AV.i) 0 (y.to.map AV.i) = y.to.map AV.i := over_full (n := 49) (by rw [List.length_map, hyl]) _ (by rw [List.length_map, hS])
    have dy := dropI (at_get hyl (k := 48) (by omega))
    have eyd : y.to.getD 48 0 = mdS y.to := rfl
    rw [eyd] at dy
    have hey : (y.to.map AV.i).isEmpty = false := ne_is hyl
    have htk := fun h => tTokens_calls (G := gW) y.to hyl h
    have hsw : sumW (y.to.take 40) = if mdS y.to = 1 then 0 else 1 := by rw [sumW_eq (okS_to hyl (stC_zero hyo.2.1).2).1]; exact hyo.2.2
    by_cases h1 : mdS y.to = 1
    · have m1 : (mdS y.to == 1) = true := by simp [h1]
      have m2 : (mdS y.to != 1) = false := by simp [h1]
      rw [if_pos h1] at hsw
      rw [hsw] at htk
      repeat' (first | ((first | refine aops_nil ?_ | refine aqops_nil ?_ | refine arun_nil ?_ | refine arunT_nil ?_); (try simp only [NB])) | ((repeat ((fail_if_success (refine hK _ ?_)); clear hK K)); refine hK _ ?_; clear hK K) | ((first | refine aops_k fun K1 hK1 => ?_ | refine aqops_k fun K1 hK1 => ?_ | refine arun_eff rfl rfl rfl fun K1 hK1 => ?_ | refine awp_cond_k fun A B hA hB => ?_); simp only [S1, simprocAttr, TTTmR, rowI hpj, hitI hlt, hnx, fp, fl0, fl0', hmod, hinr, (show h.length + 2 + 1 = h.length + 3 from rfl), m1, m2, hS, t49', hyl, yt49, hyz, hys, dy, hem, hey, TSz, z49_ne, z49_map, zS_len, all_scalar, takeA_arr, takeA_st, List.length_map]; first | (refine hK1 _ ?_; clear hK1 K1) | ((first | refine hA ?_ | refine hB ?_); clear hA hB A B) | ((first | apply call_a E16 | apply call_q E16); exact (hmv _); (refine hK1 _ ?_; clear hK1 K1)) | ((first | apply call_a E17 | apply call_q E17); exact (hd _); (refine hK1 _ ?_; clear hK1 K1)) | ((first | apply call_a E19 | apply call_q E19); exact (htk _); (refine hK1 _ ?_; clear hK1 K1)) | (refine join_x (v := ?_) (fun hg hk9 => ?_) ?_; rotate_left; (focus (try ((try simp only [BN] at hg); simp only [S1, simprocAttr, TTTmR, rowI hpj, hitI hlt, hnx, fp, fl0, fl0', hmod, hinr, (show h.length + 2 + 1 = h.length + 3 from rfl), m1, m2, hS, t49', hyl, yt49, hyz, hys, dy, hem, hey, TSz, z49_ne, z49_map, zS_len, all_scalar, takeA_arr, takeA_st, List.length_map, hg] at hk9 ⊢)); first | exact hk9 | ((first | apply call_a E16 | apply call_q E16); exact (hmv _); exact hk9) | ((first | apply call_a E17 | apply call_q E17); exact (hd _); exact hk9) | ((first | apply call_a E19 | apply call_q E19); exact (htk _); exact hk9)); (refine hK1 _ ?_; clear hK1 K1)) | (((first | (refine ⟨fun hg => hA ?_, fun hg => hB ?_⟩ <;> clear hA hB A B) | refine ⟨fun hg => ?_, fun hg => ?_⟩) <;> (try simp only [BN2] at hg) <;> (try simp only [hg, cond_true, cond_false])) <;> (try (refine hK1 _ ?_; clear hK1 K1)) <;> (try simp only [BN3] at hg))) | ((first | refine arun_q (v := ?_) rfl rfl rfl rfl (by decide) (fun R1 K1 hK1 => ?_) ?_ | refine arun_f (v := ?_) rfl rfl rfl (by decide) (fun K1 hK1 => ?_) ?_ | refine arunT_f (v := ?_) rfl rfl rfl (by decide) (fun K1 hK1 => ?_) ?_); rotate_left; (focus (simp only [S1, simprocAttr, TTTmR, rowI hpj, hitI hlt, hnx, fp, fl0, fl0', hmod, hinr, (show h.length + 2 + 1 = h.length + 3 from rfl), m1, m2, hS, t49', hyl, yt49, hyz, hys, dy, hem, hey, TSz, z49_ne, z49_map, zS_len, all_scalar, takeA_arr, takeA_st, List.length_map]; first | (exact hK1 _ _ _) | ((first | apply call_a E16 | apply call_q E16); exact (hmv _); exact hK1 _ _ _) | ((first | apply call_a E17 | apply call_q E17); exact (hd _); exact hK1 _ _ _) | ((first | apply call_a E19 | apply call_q E19); exact (htk _); exact hK1 _ _ _)))) | (refine arun_tail rfl rfl rfl ?_) | ((first | refine arun_allocj (z := ?_) 0 rfl rfl rfl rfl (by decide) rfl ?_ ?_ | refine arun_allocj (z := ?_) 1 rfl rfl rfl rfl (by decide) rfl ?_ ?_ | refine arun_allocj (z := ?_) 2 rfl rfl rfl rfl (by decide) rfl ?_ ?_); rotate_left; (focus (simp only [S1, simprocAttr, TTTmR, rowI hpj, hitI hlt, hnx, fp, fl0, fl0', hmod, hinr, (show h.length + 2 + 1 = h.length + 3 from rfl), m1, m2, hS, t49', hyl, yt49, hyz, hys, dy, hem, hey, TSz, z49_ne, z49_map, zS_len, all_scalar, takeA_arr, takeA_st, List.length_map, zeroB]; rfl))) | (refine awp_seq_k fun K hK => ?_) | (refine awp_drawR [0, 1, 2, 3, 4, 5, 6, 7, 8, 9, 10, 11, 12, 13, 14, 15] 2 (fs := []) rfl (by kernel_rfl) (by kernel_rfl) ?_) | ((first | refine awp_region ?_ | refine awp_draw (by kernel_rfl) ?_ | refine awp_block ?_ | refine awp_exit ?_ | refine awp_skip ?_ | refine awp_ret ?_); (try simp only [NB, simprocAttr])))
      all_goals refine ⟨⟨j + 1, y.to⟩, by simp only; omega, ⟨hlt, hyo⟩, ?_⟩
      all_goals refine ⟨rfl, ⟨_, rfl⟩, ?_, ⟨trivial, trivial, trivial⟩, avlts_is _ _, trivial⟩
      all_goals simp only [keeps, avlt, avlts, blksLt, frL, upd_get, S1, simprocAttr, List.length_map, Int.natCast_zero, AV.p.injEq, PV.int.injEq, PV.bool.injEq, PV.sl.injEq] <;> (try and_intros) <;> (try assumption) <;> (try trivial) <;> (try omega)
    · have m1 : (mdS y.to == 1) = false := by simp [h1]
      have m2 : (mdS y.to != 1) = true := by simp [h1]
      rw [if_neg h1] at hsw
      rw [hsw] at htk
      repeat' (first | ((first | refine aops_nil ?_ | refine aqops_nil ?_ | refine arun_nil ?_ | refine arunT_nil ?_); (try simp only [NB])) | ((repeat ((fail_if_success (refine hK _ ?_)); clear hK K)); refine hK _ ?_; clear hK K) | ((first | refine aops_k fun K1 hK1 => ?_ | refine aqops_k fun K1 hK1 => ?_ | refine arun_eff rfl rfl rfl fun K1 hK1 => ?_ | refine awp_cond_k fun A B hA hB => ?_); simp only [S1, simprocAttr, TTTmR, rowI hpj, hitI hlt, hnx, fp, fl0, fl0', hmod, hinr, (show h.length + 2 + 1 = h.length + 3 from rfl), m1, m2, hS, t49', hyl, yt49, hyz, hys, dy, hem, hey, TSz, z49_ne, z49_map, zS_len, all_scalar, takeA_arr, takeA_st, List.length_map]; first | (refine hK1 _ ?_; clear hK1 K1) | ((first | refine hA ?_ | refine hB ?_); clear hA hB A B) | ((first | apply call_a E16 | apply call_q E16); exact (hmv _); (refine hK1 _ ?_; clear hK1 K1)) | ((first | apply call_a E17 | apply call_q E17); exact (hd _); (refine hK1 _ ?_; clear hK1 K1)) | ((first | apply call_a E19 | apply call_q E19); exact (htk _); (refine hK1 _ ?_; clear hK1 K1)) | (refine join_x (v := ?_) (fun hg hk9 => ?_) ?_; rotate_left; (focus (try ((try simp only [BN] at hg); simp only [S1, simprocAttr, TTTmR, rowI hpj, hitI hlt, hnx, fp, fl0, fl0', hmod, hinr, (show h.length + 2 + 1 = h.length + 3 from rfl), m1, m2, hS, t49', hyl, yt49, hyz, hys, dy, hem, hey, TSz, z49_ne, z49_map, zS_len, all_scalar, takeA_arr, takeA_st, List.length_map, hg] at hk9 ⊢)); first | exact hk9 | ((first | apply call_a E16 | apply call_q E16); exact (hmv _); exact hk9) | ((first | apply call_a E17 | apply call_q E17); exact (hd _); exact hk9) | ((first | apply call_a E19 | apply call_q E19); exact (htk _); exact hk9)); (refine hK1 _ ?_; clear hK1 K1)) | (((first | (refine ⟨fun hg => hA ?_, fun hg => hB ?_⟩ <;> clear hA hB A B) | refine ⟨fun hg => ?_, fun hg => ?_⟩) <;> (try simp only [BN2] at hg) <;> (try simp only [hg, cond_true, cond_false])) <;> (try (refine hK1 _ ?_; clear hK1 K1)) <;> (try simp only [BN3] at hg))) | ((first | refine arun_q (v := ?_) rfl rfl rfl rfl (by decide) (fun R1 K1 hK1 => ?_) ?_ | refine arun_f (v := ?_) rfl rfl rfl (by decide) (fun K1 hK1 => ?_) ?_ | refine arunT_f (v := ?_) rfl rfl rfl (by decide) (fun K1 hK1 => ?_) ?_); rotate_left; (focus (simp only [S1, simprocAttr, TTTmR, rowI hpj, hitI hlt, hnx, fp, fl0, fl0', hmod, hinr, (show h.length + 2 + 1 = h.length + 3 from rfl), m1, m2, hS, t49', hyl, yt49, hyz, hys, dy, hem, hey, TSz, z49_ne, z49_map, zS_len, all_scalar, takeA_arr, takeA_st, List.length_map]; first | (exact hK1 _ _ _) | ((first | apply call_a E16 | apply call_q E16); exact (hmv _); exact hK1 _ _ _) | ((first | apply call_a E17 | apply call_q E17); exact (hd _); exact hK1 _ _ _) | ((first | apply call_a E19 | apply call_q E19); exact (htk _); exact hK1 _ _ _)))) | (refine arun_tail rfl rfl rfl ?_) | ((first | refine arun_allocj (z := ?_) 0 rfl rfl rfl rfl (by decide) rfl ?_ ?_ | refine arun_allocj (z := ?_) 1 rfl rfl rfl rfl (by decide) rfl ?_ ?_ | refine arun_allocj (z := ?_) 2 rfl rfl rfl rfl (by decide) rfl ?_ ?_); rotate_left; (focus (simp only [S1, simprocAttr, TTTmR, rowI hpj, hitI hlt, hnx, fp, fl0, fl0', hmod, hinr, (show h.length + 2 + 1 = h.length + 3 from rfl), m1, m2, hS, t49', hyl, yt49, hyz, hys, dy, hem, hey, TSz, z49_ne, z49_map, zS_len, all_scalar, takeA_arr, takeA_st, List.length_map, zeroB]; rfl))) | (refine awp_seq_k fun K hK => ?_) | (refine awp_drawR [0, 1, 2, 3, 4, 5, 6, 7, 8, 9, 10, 11, 12, 13, 14, 15] 2 (fs := []) rfl (by kernel_rfl) (by kernel_rfl) ?_) | ((first | refine awp_region ?_ | refine awp_draw (by kernel_rfl) ?_ | refine awp_block ?_ | refine awp_exit ?_ | refine awp_skip ?_ | refine awp_ret ?_); (try simp only [NB, simprocAttr])))
      all_goals refine ⟨⟨j + 1, y.to⟩, by simp only; omega, ⟨hlt, hyo⟩, ?_⟩
      all_goals refine ⟨rfl, ⟨_, rfl⟩, ?_, ⟨trivial, trivial, trivial⟩, avlts_is _ _, trivial⟩
      all_goals simp only [keeps, avlt, avlts, blksLt, frL, upd_get, S1, simprocAttr, List.length_map, Int.natCast_zero, AV.p.injEq, PV.int.injEq, PV.bool.injEq, PV.sl.injEq] <;> (try and_intros) <;> (try assumption) <;> (try trivial) <;> (try omega)
  · obtain rfl : j = picks.length := by omega
    repeat' (first | ((first | refine aops_nil ?_ | refine aqops_nil ?_); (try simp only [NB])) | ((repeat ((fail_if_success (refine hK _ ?_)); clear hK K)); refine hK _ ?_; clear hK K) | ((first | refine aops_k fun K1 hK1 => ?_ | refine aqops_k fun K1 hK1 => ?_ | refine awp_cond_k fun A B hA hB => ?_); simp only [S1, simprocAttr, TTTmR, endI]; first | (refine hK1 _ ?_; clear hK1 K1) | ((first | refine hA ?_ | refine hB ?_); clear hA hB A B) | ((first | apply call_a E15 | apply call_q E15); exact (hline _); (refine hK1 _ ?_; clear hK1 K1)) | (refine join_x (v := ?_) (fun hg hk9 => ?_) ?_; rotate_left; (focus (try ((try simp only [BN] at hg); simp only [S1, simprocAttr, TTTmR, endI, hg] at hk9 ⊢)); first | exact hk9 | ((first | apply call_a E15 | apply call_q E15); exact (hline _); exact hk9)); (refine hK1 _ ?_; clear hK1 K1)) | (((first | (refine ⟨fun hg => hA ?_, fun hg => hB ?_⟩ <;> clear hA hB A B) | refine ⟨fun hg => ?_, fun hg => ?_⟩) <;> (try simp only [BN2] at hg) <;> (try simp only [hg, cond_true, cond_false])) <;> (try (refine hK1 _ ?_; clear hK1 K1)) <;> (try simp only [BN3] at hg))) | (refine awp_seq_k fun K hK => ?_) | ((first | refine awp_region ?_ | refine awp_draw (by kernel_rfl) ?_ | refine awp_block ?_ | refine awp_exit ?_ | refine awp_skip ?_ | refine awp_ret ?_); (try simp only [NB, simprocAttr])))
    all_goals simp only [EndP, FinP, resA, resL, resA1, lastV, lastA, lastAs, pur, purs, take_app, List.take_length, S1, simprocAttr, TTTmR, Nat.le_add_right, Nat.le_refl]

theorem one_given (xss : List (List PV)) (hl : xss.length = [25, 40].length) (ht : ∀ (j : Nat) t xs, [25, 40][j]? = some t → xss[j]? = some xs → ∃ fuel, Ty Tryd.prog fuel t xs) :
    ACalls Tryd.prog gW 5 (List.zipWith (argA Tryd.prog) [25, 40] xss) [] fun r h' => r = .b true ∧ h' = [] := by
  match xss, hl, ht with
  | [x0, x1], _, ht =>
    obtain ⟨_, h0⟩ := ht 0 25 x0 rfl rfl
    obtain ⟨_, h1⟩ := ht 1 40 x1 rfl rfl
    obtain ⟨ns, fl, e0⟩ := arg_net h0
    obtain ⟨l, e1⟩ := arg_ints h1
    simp only [List.zipWith_cons_cons, List.zipWith_nil_left, e0, e1]
    exact tone_calls ns fl l []
end Go.Proofs.YtjpphhcimpclpaaDoor.AM
end

section
set_option linter.unusedVariables false
set_option linter.unusedSimpArgs false
set_option maxRecDepth 4000
set_option maxHeartbeats 4000000
namespace Go.Proofs.YtjpphhcimpclpaaDoor.AM
open Go Go.Proofs
set_option linter.defProp false in
def TTTmS := And.intro T2 (And.intro T3 (And.intro T4 (And.intro T22 (And.intro T25 (And.intro T26 (And.intro T27 (And.intro T31 (And.intro T40 (And.intro T46 (And.intro T50 (And.intro T53 T60)))))))))))
attribute [local irreducible] awp aops aqops aeops arun arunT

structure Qgo where
  j : Nat
  S : List Int

theorem goes_calls (ns : List Nd) (fl : List Fl) (picks : List Int) (h : Heap) : ACalls Tryd.prog gW 6 [aNet ns fl, aI picks] h (fun r h' => r = .b true ∧ h' = h) := by
  have hline := fun h => line7_calls h
  have hlg := fun h => largeM_calls (G := gW) ns fl h
  cases hl : largeM ns fl with
  | true =>
    rw [hl] at hlg
    refine acalls_pure (rl := []) mixed Tryd.func6 rfl (rs := [.tmp 4]) rfl Tryd.ntmps6 (by simp) ?_
    repeat' (first | ((first | refine aops_nil ?_ | refine aqops_nil ?_); (try simp only [NB])) | ((repeat ((fail_if_success (refine hK _ ?_)); clear hK K)); refine hK _ ?_; clear hK K) | ((first | refine aops_k fun K1 hK1 => ?_ | refine aqops_k fun K1 hK1 => ?_ | refine awp_cond_k fun A B hA hB => ?_); simp only [S1, simprocAttr, TTTmS, List.length_map]; first | (refine hK1 _ ?_; clear hK1 K1) | ((first | refine hA ?_ | refine hB ?_); clear hA hB A B) | ((first | apply call_a E14 | apply call_q E14); exact (hlg _); (refine hK1 _ ?_; clear hK1 K1)) | ((first | apply call_a E15 | apply call_q E15); exact (hline _); (refine hK1 _ ?_; clear hK1 K1)) | (refine join_x (v := ?_) (fun hg hk9 => ?_) ?_; rotate_left; (focus (try ((try simp only [BN] at hg); simp only [S1, simprocAttr, TTTmS, List.length_map, hg] at hk9 ⊢)); first | exact hk9 | ((first | apply call_a E14 | apply call_q E14); exact (hlg _); exact hk9) | ((first | apply call_a E15 | apply call_q E15); exact (hline _); exact hk9)); (refine hK1 _ ?_; clear hK1 K1)) | (((first | (refine ⟨fun hg => hA ?_, fun hg => hB ?_⟩ <;> clear hA hB A B) | refine ⟨fun hg => ?_, fun hg => ?_⟩) <;> (try simp only [BN2] at hg) <;> (try simp only [hg, cond_true, cond_false])) <;> (try (refine hK1 _ ?_; clear hK1 K1)) <;> (try simp only [BN3] at hg))) | (refine awp_seq_k fun K hK => ?_) | ((first | refine awp_region ?_ | refine awp_draw (by kernel_rfl) ?_ | refine awp_block ?_ | refine awp_exit ?_ | refine awp_skip ?_ | refine awp_ret ?_); (try simp only [NB, simprocAttr])))
    all_goals simp only [EndP, FinP, resA, resL, resA1, lastV, lastA, lastAs, pur, purs, take_app, List.take_length, S1, simprocAttr, TTTmS, Nat.le_add_right, Nat.le_refl]
  | false =>
  rw [hl] at hlg
  have nk := largeM_ok hl
  by_cases hp60 : picks.length ≤ 60
  case neg =>
    have f60 : decide (60 < (picks.length : Int)) = true := decide_eq_true (by omega)
    refine acalls_pure (rl := []) mixed Tryd.func6 rfl (rs := [.tmp 4]) rfl Tryd.ntmps6 (by simp) ?_
    repeat' (first | ((first | refine aops_nil ?_ | refine aqops_nil ?_); (try simp only [NB])) | ((repeat ((fail_if_success (refine hK _ ?_)); clear hK K)); refine hK _ ?_; clear hK K) | ((first | refine aops_k fun K1 hK1 => ?_ | refine aqops_k fun K1 hK1 => ?_ | refine awp_cond_k fun A B hA hB => ?_); simp only [S1, simprocAttr, TTTmS, f60, List.length_map]; first | (refine hK1 _ ?_; clear hK1 K1) | ((first | refine hA ?_ | refine hB ?_); clear hA hB A B) | ((first | apply call_a E14 | apply call_q E14); exact (hlg _); (refine hK1 _ ?_; clear hK1 K1)) | ((first | apply call_a E15 | apply call_q E15); exact (hline _); (refine hK1 _ ?_; clear hK1 K1)) | (refine join_x (v := ?_) (fun hg hk9 => ?_) ?_; rotate_left; (focus (try ((try simp only [BN] at hg); simp only [S1, simprocAttr, TTTmS, f60, List.length_map, hg] at hk9 ⊢)); first | exact hk9 | ((first | apply call_a E14 | apply call_q E14); exact (hlg _); exact hk9) | ((first | apply call_a E15 | apply call_q E15); exact (hline _); exact hk9)); (refine hK1 _ ?_; clear hK1 K1)) | (((first | (refine ⟨fun hg => hA ?_, fun hg => hB ?_⟩ <;> clear hA hB A B) | refine ⟨fun hg => ?_, fun hg => ?_⟩) <;> (try simp only [BN2] at hg) <;> (try simp only [hg, cond_true, cond_false])) <;> (try (refine hK1 _ ?_; clear hK1 K1)) <;> (try simp only [BN3] at hg))) | (refine awp_seq_k fun K hK => ?_) | ((first | refine awp_region ?_ | refine awp_draw (by kernel_rfl) ?_ | refine awp_block ?_ | refine awp_exit ?_ | refine awp_skip ?_ | refine awp_ret ?_); (try simp only [NB, simprocAttr])))
    all_goals simp only [EndP, FinP, resA, resL, resA1, lastV, lastA, lastAs, pur, purs, take_app, List.take_length, S1, simprocAttr, TTTmS, Nat.le_add_right, Nat.le_refl]
  have f60 : decide (60 < (picks.length : Int)) = false := decide_eq_false (by omega)
  have hst := fun h => tStart_calls nk h
  have hzl : (zS.map AV.i).length = 49 := by rw [List.length_map]; rfl
  have hem : (zS.map AV.i).isEmpty = false := rfl
  refine acalls_pure (rl := []) mixed Tryd.func6 rfl (rs := [.tmp 4]) rfl Tryd.ntmps6 (by simp) ?_
  repeat' (first | ((first | refine aops_nil ?_ | refine aqops_nil ?_); (try simp only [NB])) | ((repeat ((fail_if_success (refine hK _ ?_)); clear hK K)); refine hK _ ?_; clear hK K) | ((first | refine aops_k fun K1 hK1 => ?_ | refine aqops_k fun K1 hK1 => ?_ | refine awp_cond_k fun A B hA hB => ?_); simp only [S1, simprocAttr, TTTmS, f60, List.length_map]; first | (refine hK1 _ ?_; clear hK1 K1) | ((first | refine hA ?_ | refine hB ?_); clear hA hB A B) | ((first | apply call_a E14 | apply call_q E14); exact (hlg _); (refine hK1 _ ?_; clear hK1 K1)) | (refine join_x (v := ?_) (fun hg hk9 => ?_) ?_; rotate_left; (focus (try ((try simp only [BN] at hg); simp only [S1, simprocAttr, TTTmS, f60, List.length_map, hg] at hk9 ⊢)); first | exact hk9 | ((first | apply call_a E14 | apply call_q E14); exact (hlg _); exact hk9)); (refine hK1 _ ?_; clear hK1 K1)) | (((first | (refine ⟨fun hg => hA ?_, fun hg => hB ?_⟩ <;> clear hA hB A B) | refine ⟨fun hg => ?_, fun hg => ?_⟩) <;> (try simp only [BN2] at hg) <;> (try simp only [hg, cond_true, cond_false])) <;> (try (refine hK1 _ ?_; clear hK1 K1)) <;> (try simp only [BN3] at hg))) | (refine awp_seq_k fun K hK => ?_) | ((first | refine awp_region ?_ | refine awp_draw (by kernel_rfl) ?_ | refine awp_block ?_ | refine awp_exit ?_ | refine awp_skip ?_ | refine awp_ret ?_); (try simp only [NB, simprocAttr])))
  refine awp_for ns.length 79 (fun j => [(26, .i j), (25, .i ns.length), (24, .p (.sl (ns.map eN))), (2, .ptr h.length 0 0), (1, aI picks)])
    (fun j => [some ⟨0, cNet ns fl⟩]) (fun j => ∀ i k, i < j → ns[i]? = some k → k.kind ≠ 6) ?_ (fun i k hi => absurd hi (Nat.not_lt_zero _)) fun j hj hp K hK => ?_
  · refine ⟨rfl, ⟨[], by simp only [List.append_nil]⟩, ?_, ⟨trivial, trivial, trivial⟩, trivial⟩
    simp only [keeps, avlt, avlts, blksLt, frL, upd_get, S1, simprocAttr, List.length_map, Int.natCast_zero, AV.p.injEq, PV.int.injEq, PV.bool.injEq, PV.sl.injEq] <;> (try and_intros) <;> (try assumption) <;> (try trivial) <;> (try omega)
  rcases Nat.lt_or_ge j ns.length with hlt | hge
  · obtain ⟨k, hx⟩ : ∃ k, ns[j]? = some k := ⟨_, List.getElem?_eq_getElem hlt⟩
    by_cases h6 : k.kind = 6
    · have e6 : (k.kind == 6) = true := by simp [h6]
      repeat' (first | ((first | refine aops_nil ?_ | refine aqops_nil ?_); (try simp only [NB])) | ((repeat ((fail_if_success (refine hK _ ?_)); clear hK K)); refine hK _ ?_; clear hK K) | ((first | refine aops_k fun K1 hK1 => ?_ | refine aqops_k fun K1 hK1 => ?_ | refine awp_cond_k fun A B hA hB => ?_); simp only [S1, simprocAttr, TTTmS, rowN hx, hitN hlt, nextN nk.n hlt, eN, e6, List.length_map]; first | (refine hK1 _ ?_; clear hK1 K1) | ((first | refine hA ?_ | refine hB ?_); clear hA hB A B) | ((first | apply call_a E15 | apply call_q E15); exact (hline _); (refine hK1 _ ?_; clear hK1 K1)) | (refine join_x (v := ?_) (fun hg hk9 => ?_) ?_; rotate_left; (focus (try ((try simp only [BN] at hg); simp only [S1, simprocAttr, TTTmS, rowN hx, hitN hlt, nextN nk.n hlt, eN, e6, List.length_map, hg] at hk9 ⊢)); first | exact hk9 | ((first | apply call_a E15 | apply call_q E15); exact (hline _); exact hk9)); (refine hK1 _ ?_; clear hK1 K1)) | (((first | (refine ⟨fun hg => hA ?_, fun hg => hB ?_⟩ <;> clear hA hB A B) | refine ⟨fun hg => ?_, fun hg => ?_⟩) <;> (try simp only [BN2] at hg) <;> (try simp only [hg, cond_true, cond_false])) <;> (try (refine hK1 _ ?_; clear hK1 K1)) <;> (try simp only [BN3] at hg))) | (refine awp_seq_k fun K hK => ?_) | ((first | refine awp_region ?_ | refine awp_draw (by kernel_rfl) ?_ | refine awp_block ?_ | refine awp_exit ?_ | refine awp_skip ?_ | refine awp_ret ?_); (try simp only [NB, simprocAttr])))
      all_goals simp only [EndP, FinP, resA, resL, resA1, lastV, lastA, lastAs, pur, purs, take_app, List.take_length, S1, simprocAttr, TTTmS, Nat.le_add_right, Nat.le_refl]
    · have e6 : (k.kind == 6) = false := by simp [h6]
      repeat' (first | ((first | refine aops_nil ?_ | refine aqops_nil ?_); (try simp only [NB])) | ((repeat ((fail_if_success (refine hK _ ?_)); clear hK K)); refine hK _ ?_; clear hK K) | ((first | refine aops_k fun K1 hK1 => ?_ | refine aqops_k fun K1 hK1 => ?_ | refine awp_cond_k fun A B hA hB => ?_); simp only [S1, simprocAttr, TTTmS, rowN hx, hitN hlt, nextN nk.n hlt, eN, e6, List.length_map]; first | (refine hK1 _ ?_; clear hK1 K1) | ((first | refine hA ?_ | refine hB ?_); clear hA hB A B) | (refine join_x (v := ?_) (fun hg hk9 => ?_) ?_; rotate_left; (focus (try ((try simp only [BN] at hg); simp only [S1, simprocAttr, TTTmS, rowN hx, hitN hlt, nextN nk.n hlt, eN, e6, List.length_map, hg] at hk9 ⊢)); first | exact hk9); (refine hK1 _ ?_; clear hK1 K1)) | (((first | (refine ⟨fun hg => hA ?_, fun hg => hB ?_⟩ <;> clear hA hB A B) | refine ⟨fun hg => ?_, fun hg => ?_⟩) <;> (try simp only [BN2] at hg) <;> (try simp only [hg, cond_true, cond_false])) <;> (try (refine hK1 _ ?_; clear hK1 K1)) <;> (try simp only [BN3] at hg))) | (refine awp_seq_k fun K hK => ?_) | ((first | refine awp_region ?_ | refine awp_draw (by kernel_rfl) ?_ | refine awp_block ?_ | refine awp_exit ?_ | refine awp_skip ?_ | refine awp_ret ?_); (try simp only [NB, simprocAttr])))
      all_goals refine ⟨hlt, ?_, ?_⟩
      · intro i k' hi hk'
        rcases Nat.lt_or_ge i j with h1 | h1
        · exact hp i k' h1 hk'
        · obtain rfl : i = j := by omega
          rw [hx] at hk'; cases hk'; exact h6
      · (refine ⟨rfl, (by first | exact ⟨_, rfl⟩ | exact ⟨[], by simp⟩), ?_, ?_⟩ <;> simp only [keeps, avlt, avlts, blksLt, frL, upd_get, S1, simprocAttr, List.length_map, Int.natCast_zero, AV.p.injEq, PV.int.injEq, PV.bool.injEq, PV.sl.injEq] <;> (try and_intros) <;> (try assumption) <;> (try trivial) <;> (try omega))
  obtain rfl : j = ns.length := by omega
  have ha : ∀ k ∈ ns, k.kind ≠ 6 := by
    intro k hk
    obtain ⟨i, hi⟩ := List.getElem?_of_mem hk
    exact hp i k (List.getElem?_eq_some_iff.mp hi).1 hi
  have hsl : (startG ns fl).1.length = 49 := by
    unfold startG
    split
    · rfl
    · rw [List.length_set]; rfl
  have hso : over (zS.map AV.i) 0 ((startG ns fl).1.map AV.i) = (startG ns fl).1.map AV.i := over_full (n := 49) (by rw [List.length_map, hsl]) _ hzl
  by_cases h0 : (startG ns fl).2 = 0
  case neg =>
    have f0 : ((startG ns fl).2 != 0) = true := by simp [h0]
    repeat' (first | ((first | refine aops_nil ?_ | refine aqops_nil ?_); (try simp only [NB])) | ((repeat ((fail_if_success (refine hK _ ?_)); clear hK K)); refine hK _ ?_; clear hK K) | ((first | refine aops_k fun K1 hK1 => ?_ | refine aqops_k fun K1 hK1 => ?_ | refine awp_cond_k fun A B hA hB => ?_); simp only [S1, simprocAttr, TTTmS, endN, f0, hso, hsl, hem, TSz, z49_ne, z49_map, zS_len, all_scalar, takeA_arr, takeA_st, List.length_map]; first | (refine hK1 _ ?_; clear hK1 K1) | ((first | refine hA ?_ | refine hB ?_); clear hA hB A B) | ((first | apply call_a E18 | apply call_q E18); exact (hst _); (refine hK1 _ ?_; clear hK1 K1)) | ((first | apply call_a E15 | apply call_q E15); exact (hline _); (refine hK1 _ ?_; clear hK1 K1)) | (refine join_x (v := ?_) (fun hg hk9 => ?_) ?_; rotate_left; (focus (try ((try simp only [BN] at hg); simp only [S1, simprocAttr, TTTmS, endN, f0, hso, hsl, hem, TSz, z49_ne, z49_map, zS_len, all_scalar, takeA_arr, takeA_st, List.length_map, hg] at hk9 ⊢)); first | exact hk9 | ((first | apply call_a E18 | apply call_q E18); exact (hst _); exact hk9) | ((first | apply call_a E15 | apply call_q E15); exact (hline _); exact hk9)); (refine hK1 _ ?_; clear hK1 K1)) | (((first | (refine ⟨fun hg => hA ?_, fun hg => hB ?_⟩ <;> clear hA hB A B) | refine ⟨fun hg => ?_, fun hg => ?_⟩) <;> (try simp only [BN2] at hg) <;> (try simp only [hg, cond_true, cond_false])) <;> (try (refine hK1 _ ?_; clear hK1 K1)) <;> (try simp only [BN3] at hg))) | (refine awp_seq_k fun K hK => ?_) | ((first | refine awp_region ?_ | refine awp_draw (by kernel_rfl) ?_ | refine awp_block ?_ | refine awp_exit ?_ | refine awp_skip ?_ | refine awp_ret ?_); (try simp only [NB, simprocAttr])))
    all_goals simp only [EndP, FinP, resA, resL, resA1, lastV, lastA, lastAs, pur, purs, take_app, List.take_length, S1, simprocAttr, TTTmS, Nat.le_add_right, Nat.le_refl]
  have f0 : ((startG ns fl).2 != 0) = false := by simp [h0]
  obtain ⟨s1, s2⟩ := start_ok h0
  repeat' (first | ((first | refine aops_nil ?_ | refine aqops_nil ?_); (try simp only [NB])) | ((repeat ((fail_if_success (refine hK _ ?_)); clear hK K)); refine hK _ ?_; clear hK K) | ((first | refine aops_k fun K1 hK1 => ?_ | refine aqops_k fun K1 hK1 => ?_ | refine awp_cond_k fun A B hA hB => ?_); simp only [S1, simprocAttr, TTTmS, endN, f0, hso, hsl, hem, TSz, z49_ne, z49_map, zS_len, all_scalar, takeA_arr, takeA_st, List.length_map]; first | (refine hK1 _ ?_; clear hK1 K1) | ((first | refine hA ?_ | refine hB ?_); clear hA hB A B) | ((first | apply call_a E18 | apply call_q E18); exact (hst _); (refine hK1 _ ?_; clear hK1 K1)) | (refine join_x (v := ?_) (fun hg hk9 => ?_) ?_; rotate_left; (focus (try ((try simp only [BN] at hg); simp only [S1, simprocAttr, TTTmS, endN, f0, hso, hsl, hem, TSz, z49_ne, z49_map, zS_len, all_scalar, takeA_arr, takeA_st, List.length_map, hg] at hk9 ⊢)); first | exact hk9 | ((first | apply call_a E18 | apply call_q E18); exact (hst _); exact hk9)); (refine hK1 _ ?_; clear hK1 K1)) | (((first | (refine ⟨fun hg => hA ?_, fun hg => hB ?_⟩ <;> clear hA hB A B) | refine ⟨fun hg => ?_, fun hg => ?_⟩) <;> (try simp only [BN2] at hg) <;> (try simp only [hg, cond_true, cond_false])) <;> (try (refine hK1 _ ?_; clear hK1 K1)) <;> (try simp only [BN3] at hg))) | (refine awp_seq_k fun K hK => ?_) | ((first | refine awp_region ?_ | refine awp_draw (by kernel_rfl) ?_ | refine awp_block ?_ | refine awp_exit ?_ | refine awp_skip ?_ | refine awp_ret ?_); (try simp only [NB, simprocAttr])))
  refine awp_while (σ := Qgo) (fun q => picks.length - q.j) 79 (fun q => [(45, .i q.j), (44, .i picks.length), (43, aI picks), (7, .ptr (h.length + 1) 0 0), (2, .ptr h.length 0 0)])
    (fun q => [some ⟨0, cNet ns fl⟩, some ⟨0, q.S.map AV.i⟩]) (fun q => q.j ≤ picks.length ∧ OneOk ns fl q.S) ⟨0, (startG ns fl).1⟩ ?_ ⟨Nat.zero_le _, s1⟩ fun q hq K hK => ?_
  · refine ⟨rfl, ⟨[], by simp only [List.append_nil]⟩, ?_, ⟨trivial, trivial, trivial⟩, avlts_is _ _, trivial⟩
    simp only [keeps, avlt, avlts, blksLt, frL, upd_get, S1, simprocAttr, List.length_map, Int.natCast_zero, AV.p.injEq, PV.int.injEq, PV.bool.injEq, PV.sl.injEq] <;> (try and_intros) <;> (try assumption) <;> (try trivial) <;> (try omega)
  obtain ⟨j, S⟩ := q
  obtain ⟨hj, hS1⟩ := hq
  simp only at hj hS1
  have hS := hS1.1
  have t49' : (S.map AV.i).take 49 = S.map AV.i := List.take_of_length_le (by rw [List.length_map, hS]; exact Nat.le_refl _)
  rcases Nat.lt_or_ge j picks.length with hlt | hge
  · obtain ⟨p, hpj⟩ : ∃ p, picks[j]? = some p := ⟨_, List.getElem?_eq_getElem hlt⟩
    have hmv := fun h => moves_calls nk hS h
    have hln := stepsG_len (ns := ns) (fl := fl) (S := S)
    have hto := stepsG_to (ns := ns) (fl := fl) hS
    have hon : ∀ y ∈ stepsG ns fl S, OneOk ns fl y.to := fun y hy => one_step ha hS1 hy
    have hdo : ∀ (j : Nat) (y : Sp), (stepsG ns fl S)[j]? = some y → ∀ h, ACalls Tryd.prog gW 17 [aNet ns fl, aS S, .i j] h (fun r h' => r = .tup [aS y.to, aLb y, .i 0] ∧ h' = h) := by
      intro j y hy h
      have := do_calls nk hS (j : Int) h
      have e : doG ns fl S (j : Int) = (y, 0) := by unfold doG; rw [if_neg (by simpa using hS1.2.1), if_neg (by omega), Int.toNat_natCast, hy]
      rw [e] at this
      exact this
    have hgo : mdS S = 0 → stepsG ns fl S ≠ [] := fun e => one_goes ha hS1 e
    generalize stepsG ns fl S = sl at *
    have hnx := nextI (l := picks) (by omega) hlt
    by_cases hnil : sl = []
    · subst hnil
      have hmd : mdS S ≠ 0 := fun e => hgo e rfl
      have f1 : (mdS S != 0) = true := by simp [hmd]
      have dm := dropI (at_get hS (k := 48) (by omega))
      have emd : S.getD 48 0 = mdS S := rfl
      rw [emd] at dm
      repeat' (first | ((first | refine aops_nil ?_ | refine aqops_nil ?_); (try simp only [NB])) | ((repeat ((fail_if_success (refine hK _ ?_)); clear hK K)); refine hK _ ?_; clear hK K) | ((first | refine aops_k fun K1 hK1 => ?_ | refine aqops_k fun K1 hK1 => ?_ | refine awp_cond_k fun A B hA hB => ?_); simp only [S1, simprocAttr, TTTmS, rowI hpj, hitI hlt, hnx, f1, dm, hS, t49', TSz, z49_ne, z49_map, zS_len, all_scalar, takeA_arr, takeA_st, List.length_map, List.map_nil, List.length_nil]; first | (refine hK1 _ ?_; clear hK1 K1) | ((first | refine hA ?_ | refine hB ?_); clear hA hB A B) | ((first | apply call_a E16 | apply call_q E16); exact (hmv _); (refine hK1 _ ?_; clear hK1 K1)) | ((first | apply call_a E15 | apply call_q E15); exact (hline _); (refine hK1 _ ?_; clear hK1 K1)) | (refine join_x (v := ?_) (fun hg hk9 => ?_) ?_; rotate_left; (focus (try ((try simp only [BN] at hg); simp only [S1, simprocAttr, TTTmS, rowI hpj, hitI hlt, hnx, f1, dm, hS, t49', TSz, z49_ne, z49_map, zS_len, all_scalar, takeA_arr, takeA_st, List.length_map, List.map_nil, List.length_nil, hg] at hk9 ⊢)); first | exact hk9 | ((first | apply call_a E16 | apply call_q E16); exact (hmv _); exact hk9) | ((first | apply call_a E15 | apply call_q E15); exact (hline _); exact hk9)); (refine hK1 _ ?_; clear hK1 K1)) | (((first | (refine ⟨fun hg => hA ?_, fun hg => hB ?_⟩ <;> clear hA hB A B) | refine ⟨fun hg => ?_, fun hg => ?_⟩) <;> (try simp only [BN2] at hg) <;> (try simp only [hg, cond_true, cond_false])) <;> (try (refine hK1 _ ?_; clear hK1 K1)) <;> (try simp only [BN3] at hg))) | (refine awp_seq_k fun K hK => ?_) | ((first | refine awp_region ?_ | refine awp_draw (by kernel_rfl) ?_ | refine awp_block ?_ | refine awp_exit ?_ | refine awp_skip ?_ | refine awp_ret ?_); (try simp only [NB, simprocAttr])))
      all_goals simp only [EndP, FinP, resA, resL, resA1, lastV, lastA, lastAs, pur, purs, take_app, List.take_length, S1, simprocAttr, TTTmS, Nat.le_add_right, Nat.le_refl]
    have hpos : 0 < sl.length := List.length_pos_iff.mpr hnil
    have fl0 : ((sl.length : Int) == 0) = false := by simp; omega
    have fl0' : ((sl.length : Int) = 0) = False := by simp; omega
    by_cases hp0 : p < 0
    · have fp : decide (p < 0) = true := decide_eq_true hp0
      repeat' (first | ((first | refine aops_nil ?_ | refine aqops_nil ?_); (try simp only [NB])) | ((repeat ((fail_if_success (refine hK _ ?_)); clear hK K)); refine hK _ ?_; clear hK K) | ((first | refine aops_k fun K1 hK1 => ?_ | refine aqops_k fun K1 hK1 => ?_ | refine awp_cond_k fun A B hA hB => ?_); simp only [S1, simprocAttr, TTTmS, rowI hpj, hitI hlt, hnx, fp, fl0, hS, t49', TSz, z49_ne, z49_map, zS_len, all_scalar, takeA_arr, takeA_st, List.length_map]; first | (refine hK1 _ ?_; clear hK1 K1) | ((first | refine hA ?_ | refine hB ?_); clear hA hB A B) | ((first | apply call_a E16 | apply call_q E16); exact (hmv _); (refine hK1 _ ?_; clear hK1 K1)) | (refine join_x (v := ?_) (fun hg hk9 => ?_) ?_; rotate_left; (focus (try ((try simp only [BN] at hg); simp only [S1, simprocAttr, TTTmS, rowI hpj, hitI hlt, hnx, fp, fl0, hS, t49', TSz, z49_ne, z49_map, zS_len, all_scalar, takeA_arr, takeA_st, List.length_map, hg] at hk9 ⊢)); first | exact hk9 | ((first | apply call_a E16 | apply call_q E16); exact (hmv _); exact hk9)); (refine hK1 _ ?_; clear hK1 K1)) | (((first | (refine ⟨fun hg => hA ?_, fun hg => hB ?_⟩ <;> clear hA hB A B) | refine ⟨fun hg => ?_, fun hg => ?_⟩) <;> (try simp only [BN2] at hg) <;> (try simp only [hg, cond_true, cond_false])) <;> (try (refine hK1 _ ?_; clear hK1 K1)) <;> (try simp only [BN3] at hg))) | (refine awp_seq_k fun K hK => ?_) | ((first | refine awp_region ?_ | refine awp_draw (by kernel_rfl) ?_ | refine awp_block ?_ | refine awp_exit ?_ | refine awp_skip ?_ | refine awp_ret ?_); (try simp only [NB, simprocAttr])))
      all_goals refine ⟨⟨j + 1, S⟩, by simp only; omega, ⟨hlt, hS1⟩, ?_⟩
      all_goals refine ⟨rfl, ⟨_, rfl⟩, ?_, ⟨trivial, trivial, trivial⟩, avlts_is _ _, trivial⟩
      all_goals simp only [keeps, avlt, avlts, blksLt, frL, upd_get, S1, simprocAttr, List.length_map, Int.natCast_zero, AV.p.injEq, PV.int.injEq, PV.bool.injEq, PV.sl.injEq] <;> (try and_intros) <;> (try assumption) <;> (try trivial) <;> (try omega)
    have fp : decide (p < 0) = false := decide_eq_false hp0
    obtain ⟨n, rfl⟩ := Int.eq_ofNat_of_zero_le (by omega : 0 ≤ p)
    obtain ⟨r, hmlt, hmod⟩ : ∃ r : Nat, r < sl.length ∧ Int.tmod (n : Int) (sl.length : Int) = (r : Int) := ⟨n % sl.length, Nat.mod_lt _ hpos, rfl⟩
    have hinr : inR .i64 (r : Int) = true := by
      unfold inR
      simp only [Bool.and_eq_true, decide_eq_true_eq]
      refine ⟨?_, ?_⟩
      · show (-9223372036854775808 : Int) ≤ _; omega
      · show _ ≤ (9223372036854775807 : Int); omega
    obtain ⟨y, hy⟩ : ∃ y, sl[r]? = some y := ⟨_, List.getElem?_eq_getElem hmlt⟩
    have hm := List.mem_of_getElem? hy
    have hd := hdo _ y hy
    have hyl := hto y hm
    have hyo := hon y hm
    have yt49 : (y.to.map AV.i).take 49 = y.to.map AV.i := List.take_of_length_le (by rw [List.length_map, hyl]; exact Nat.le_refl _)
    have hyz : over (zS.map AV.i) 0 (y.to.map AV.i) = y.to.map AV.i := over_full (n := 49) (by rw [List.length_map, hyl]) _ hzl
    have hys : over (S.map AV.i) 0 (y.to.map AV.i) = y.to.map AV.i := over_full (n := 49) (by rw [List.length_map, hyl]) _ (by rw [List.length_map, hS])
    have hey : (y.to.map AV.i).isEmpty = false := ne_is hyl
    repeat' (first | ((first | refine aops_nil ?_ | refine aqops_nil ?_ | refine arun_nil ?_ | refine arunT_nil ?_); (try simp only [NB])) | ((repeat ((fail_if_success (refine hK _ ?_)); clear hK K)); refine hK _ ?_; clear hK K) | ((first | refine aops_k fun K1 hK1 => ?_ | refine aqops_k fun K1 hK1 => ?_ | refine arun_eff rfl rfl rfl fun K1 hK1 => ?_ | refine awp_cond_k fun A B hA hB => ?_); simp only [S1, simprocAttr, TTTmS, rowI hpj, hitI hlt, hnx, fp, fl0, fl0', hmod, hinr, (show h.length + 2 + 1 = h.length + 3 from rfl), hS, t49', hyl, yt49, hyz, hys, hem, hey, TSz, z49_ne, z49_map, zS_len, all_scalar, takeA_arr, takeA_st, List.length_map]; first | (refine hK1 _ ?_; clear hK1 K1) | ((first | refine hA ?_ | refine hB ?_); clear hA hB A B) | ((first | apply call_a E16 | apply call_q E16); exact (hmv _); (refine hK1 _ ?_; clear hK1 K1)) | ((first | apply call_a E17 | apply call_q E17); exact (hd _); (refine hK1 _ ?_; clear hK1 K1)) | (refine join_x (v := ?_) (fun hg hk9 => ?_) ?_; rotate_left; (focus (try ((try simp only [BN] at hg); simp only [S1, simprocAttr, TTTmS, rowI hpj, hitI hlt, hnx, fp, fl0, fl0', hmod, hinr, (show h.length + 2 + 1 = h.length + 3 from rfl), hS, t49', hyl, yt49, hyz, hys, hem, hey, TSz, z49_ne, z49_map, zS_len, all_scalar, takeA_arr, takeA_st, List.length_map, hg] at hk9 ⊢)); first | exact hk9 | ((first | apply call_a E16 | apply call_q E16); exact (hmv _); exact hk9) | ((first | apply call_a E17 | apply call_q E17); exact (hd _); exact hk9)); (refine hK1 _ ?_; clear hK1 K1)) | (((first | (refine ⟨fun hg => hA ?_, fun hg => hB ?_⟩ <;> clear hA hB A B) | refine ⟨fun hg => ?_, fun hg => ?_⟩) <;> (try simp only [BN2] at hg) <;> (try simp only [hg, cond_true, cond_false])) <;> (try (refine hK1 _ ?_; clear hK1 K1)) <;> (try simp only [BN3] at hg))) | ((first | refine arun_q (v := ?_) rfl rfl rfl rfl (by decide) (fun R1 K1 hK1 => ?_) ?_ | refine arun_f (v := ?_) rfl rfl rfl (by decide) (fun K1 hK1 => ?_) ?_ | refine arunT_f (v := ?_) rfl rfl rfl (by decide) (fun K1 hK1 => ?_) ?_); rotate_left; (focus (simp only [S1, simprocAttr, TTTmS, rowI hpj, hitI hlt, hnx, fp, fl0, fl0', hmod, hinr, (show h.length + 2 + 1 = h.length + 3 from rfl), hS, t49', hyl, yt49, hyz, hys, hem, hey, TSz, z49_ne, z49_map, zS_len, all_scalar, takeA_arr, takeA_st, List.length_map]; first | (exact hK1 _ _ _) | ((first | apply call_a E16 | apply call_q E16); exact (hmv _); exact hK1 _ _ _) | ((first | apply call_a E17 | apply call_q E17); exact (hd _); exact hK1 _ _ _)))) | (refine arun_tail rfl rfl rfl ?_) | ((first | refine arun_allocj (z := ?_) 0 rfl rfl rfl rfl (by decide) rfl ?_ ?_ | refine arun_allocj (z := ?_) 1 rfl rfl rfl rfl (by decide) rfl ?_ ?_ | refine arun_allocj (z := ?_) 2 rfl rfl rfl rfl (by decide) rfl ?_ ?_); rotate_left; (focus (simp only [S1, simprocAttr, TTTmS, rowI hpj, hitI hlt, hnx, fp, fl0, fl0', hmod, hinr, (show h.length + 2 + 1 = h.length + 3 from rfl), hS, t49', hyl, yt49, hyz, hys, hem, hey, TSz, z49_ne, z49_map, zS_len, all_scalar, takeA_arr, takeA_st, List.length_map, zeroB]; rfl))) | (refine awp_seq_k fun K hK => ?_) | (refine awp_drawR [0, 1, 2, 3, 4, 5, 6, 7, 8, 9, 10, 11, 12, 13, 14, 15] 2 (fs := []) rfl (by kernel_rfl) (by kernel_rfl) ?_) | ((first | refine awp_region ?_ | refine awp_draw (by kernel_rfl) ?_ | refine awp_block ?_ | refine awp_exit ?_ | refine awp_skip ?_ | refine awp_ret ?_); (try simp only [NB, simprocAttr])))
    all_goals refine ⟨⟨j + 1, y.to⟩, by simp only; omega, ⟨hlt, hyo⟩, ?_⟩
    all_goals refine ⟨rfl, ⟨_, rfl⟩, ?_, ⟨trivial, trivial, trivial⟩, avlts_is _ _, trivial⟩
    all_goals simp only [keeps, avlt, avlts, blksLt, frL, upd_get, S1, simprocAttr, List.length_map, Int.natCast_zero, AV.p.injEq, PV.int.injEq, PV.bool.injEq, PV.sl.injEq] <;> (try and_intros) <;> (try assumption) <;> (try trivial) <;> (try omega)
  · obtain rfl : j = picks.length := by omega
    repeat' (first | ((first | refine aops_nil ?_ | refine aqops_nil ?_); (try simp only [NB])) | ((repeat ((fail_if_success (refine hK _ ?_)); clear hK K)); refine hK _ ?_; clear hK K) | ((first | refine aops_k fun K1 hK1 => ?_ | refine aqops_k fun K1 hK1 => ?_ | refine awp_cond_k fun A B hA hB => ?_); simp only [S1, simprocAttr, TTTmS, endI]; first | (refine hK1 _ ?_; clear hK1 K1) | ((first | refine hA ?_ | refine hB ?_); clear hA hB A B) | ((first | apply call_a E15 | apply call_q E15); exact (hline _); (refine hK1 _ ?_; clear hK1 K1)) | (refine join_x (v := ?_) (fun hg hk9 => ?_) ?_; rotate_left; (focus (try ((try simp only [BN] at hg); simp only [S1, simprocAttr, TTTmS, endI, hg] at hk9 ⊢)); first | exact hk9 | ((first | apply call_a E15 | apply call_q E15); exact (hline _); exact hk9)); (refine hK1 _ ?_; clear hK1 K1)) | (((first | (refine ⟨fun hg => hA ?_, fun hg => hB ?_⟩ <;> clear hA hB A B) | refine ⟨fun hg => ?_, fun hg => ?_⟩) <;> (try simp only [BN2] at hg) <;> (try simp only [hg, cond_true, cond_false])) <;> (try (refine hK1 _ ?_; clear hK1 K1)) <;> (try simp only [BN3] at hg))) | (refine awp_seq_k fun K hK => ?_) | ((first | refine awp_region ?_ | refine awp_draw (by kernel_rfl) ?_ | refine awp_block ?_ | refine awp_exit ?_ | refine awp_skip ?_ | refine awp_ret ?_); (try simp only [NB, simprocAttr])))
    all_goals simp only [EndP, FinP, resA, resL, resA1, lastV, lastA, lastAs, pur, purs, take_app, List.take_length, S1, simprocAttr, TTTmS, Nat.le_add_right, Nat.le_refl]

theorem goes_given (xss : List (List PV)) (hl : xss.length = [25, 40].length) (ht : ∀ (j : Nat) t xs, [25, 40][j]? = some t → xss[j]? = some xs → ∃ fuel, Ty Tryd.prog fuel t xs) :
    ACalls Tryd.prog gW 6 (List.zipWith (argA Tryd.prog) [25, 40] xss) [] fun r h' => r = .b true ∧ h' = [] := by
  match xss, hl, ht with
  | [x0, x1], _, ht =>
    obtain ⟨_, h0⟩ := ht 0 25 x0 rfl rfl
    obtain ⟨_, h1⟩ := ht 1 40 x1 rfl rfl
    obtain ⟨ns, fl, e0⟩ := arg_net h0
    obtain ⟨l, e1⟩ := arg_ints h1
    simp only [List.zipWith_cons_cons, List.zipWith_nil_left, e0, e1]
    exact goes_calls ns fl l []
end Go.Proofs.YtjpphhcimpclpaaDoor.AM
end
