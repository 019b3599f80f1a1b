/- Proved here, in parts, for one law: Contracts: what may happen in a state; what a move leads to. The abstract machine, part W: what a function hands back is told otherwise at its end. Contracts: states, each once. Contracts: what moves with a label lead to. Contracts: lists that are closed, of the program and of the document. Contracts: what is wrong; lists that are closed, begun, and behind a label: of the program and of the document. Contracts: what a move leads to, and the first state, as the document tells them. Contracts: clouds that are begun, and behind a label: of the program and of the document. Contracts: how many labels can be seen: of the program and of the document. Contracts: which label is ahead of which. Contracts: labels, each once. Contracts: a cloud's labels, of the document; equal labels. Contracts: a cloud's labels, of the document; equal labels. PLAIN: the labels of steps are small numbers. slices.SortFunc of labels, from the shelf. The first part was printed by the kit's lay-shelf tool in its plain mode, for seat Ytbbmfemplmelhaa.ZD of TURN r4. Contracts: a cloud's labels, of the program. PLAIN: the small case: what its labels are, what it accepts. Conditions: none. -/
import Derived.Test.YtbbmfemplmelhaaGreatDoorZTrailLessE
import Derived.Shelf.SlSortCmp.WholeK
import Derived.Shelf.SlGeneric
import Derived.Shelf.SlSortCmp.NoneTotal

section
set_option linter.unusedVariables false
set_option linter.unusedSimpArgs false
set_option maxRecDepth 4000
set_option maxHeartbeats 4000000
namespace Go.Proofs.YtbbmfemplmelhaaGreatDoor.AM
open Go Go.Proofs
set_option linter.defProp false in
def TTTmN := And.intro T2 (And.intro T3 (And.intro T4 (And.intro T22 (And.intro T25 (And.intro T28 (And.intro T31 (And.intro T41 (And.intro T57 (And.intro T58 (And.intro T77 (And.intro T89 (And.intro T92 (And.intro T118 T121)))))))))))))
attribute [local irreducible] awp aops aqops aeops arun arunT

theorem stepsG_to {ns : List Nd} {fl : List Fl} {S : List Int} (hS : S.length = 49) : ∀ y ∈ stepsG ns fl S, y.to.length = 49 := by
  intro y hy
  unfold stepsG at hy
  split at hy
  · cases hy
  · rcases List.mem_append.mp hy with h | h
    · exact nodesG_to hS _ y h
    · exact sendsG_to hS _ y h
theorem stepsG_len {ns : List Nd} {fl : List Fl} {S : List Int} : (stepsG ns fl S).length ≤ 2500 := by
  unfold stepsG
  split
  · simp
  · rename_i h0
    rw [not_or] at h0
    have rt := Right.of (stC_zero (by simpa using h0.1)).1
    have hn := rt.n
    have hf := rt.f
    have h1 := nodesG_len ns fl S hf ns.length
    have h2 := sendsG_len ns S 4
    rw [List.length_append]
    have : 100 * ns.length ≤ 100 * 24 := Nat.mul_le_mul_left _ hn
    omega

def cMv (y : Sp) : List Int := [y.node, y.arg, y.lk, y.ln, y.la]
def eMv (y : Sp) : List PV := (cMv y).map (PV.int .i64)
def cMvs (l : List Sp) : List Int := l.flatMap cMv
abbrev aMvs (l : List Sp) : AV := .p (.sl (l.map eMv))
theorem eMv_len (y : Sp) : (eMv y).length = 5 := rfl
theorem eMv_ok (y : Sp) : ∀ x ∈ eMv y, x ≠ .nils := by
  intro x hx
  obtain ⟨n, _, rfl⟩ := List.mem_map.mp hx
  exact fun e => by cases e
theorem cMvs_e (l : List Sp) : (cMvs l).map AV.i = (flatE eMv l).map AV.p := by
  unfold flatE cMvs eMv
  rw [List.map_flatMap, List.map_flatMap]
  congr 1
theorem cMvs_len : ∀ l : List Sp, (cMvs l).length = l.length * 5
  | [] => rfl
  | x :: r => by
    have := cMvs_len r
    unfold cMvs at this ⊢
    rw [List.flatMap_cons, List.length_append, this, List.length_cons]; simp [cMv] <;> omega
theorem cMvs_step {l : List Sp} {j : Nat} {y : Sp} (h : l[j]? = some y) : cMvs (l.take (j + 1)) = cMvs (l.take j) ++ [y.node, y.arg, y.lk, y.ln, y.la] := by
  unfold cMvs
  rw [List.take_add_one, h, List.flatMap_append]
  simp [cMv]

theorem moves_calls {ns : List Nd} {fl : List Fl} (nk : NetOk ns fl) {S : List Int} (hS : S.length = 49) (h : Heap) :
    ACalls Tryz.prog gW 38 [aNet ns fl, aS S] h (fun r h' => r = aMvs (stepsG ns fl S) ∧ h' = h) := by
  have hne := ne_is hS
  have hst := fun h => tSteps_calls nk hS h
  have hto := stepsG_to (ns := ns) (fl := fl) hS
  have hln := stepsG_len (ns := ns) (fl := fl) (S := S)
  have t49' : (S.map AV.i).take 49 = S.map AV.i := List.take_of_length_le (by rw [List.length_map, hS]; exact Nat.le_refl _)
  refine acalls_pure (rl := []) mixed Tryz.func38 rfl (rs := [.tmp 4]) rfl Tryz.ntmps38 (by simp) ?_
  repeat' (first | ((first | refine aops_nil ?_ | refine aqops_nil ?_); (try simp only [NB])) | ((repeat ((fail_if_success (refine hK _ ?_)); clear hK K)); refine hK _ ?_; clear hK K) | ((first | refine aops_k fun K1 hK1 => ?_ | refine aqops_k fun K1 hK1 => ?_ | refine awp_cond_k fun A B hA hB => ?_); simp only [S1, simprocAttr, TTTmN, TSz, z49_ne, z49_map, zS_len, hne, hS, all_scalar, t49', takeA_arr, takeA_st, List.length_map]; first | (refine hK1 _ ?_; clear hK1 K1) | ((first | refine hA ?_ | refine hB ?_); clear hA hB A B) | ((first | apply call_a E59 | apply call_q E59); exact (hst _); (refine hK1 _ ?_; clear hK1 K1)) | (((first | (refine ⟨fun hg => hA ?_, fun hg => hB ?_⟩ <;> clear hA hB A B) | refine ⟨fun hg => ?_, fun hg => ?_⟩) <;> (try simp only [BN2] at hg) <;> (try simp only [hg, cond_true, cond_false])) <;> (try (refine hK1 _ ?_; clear hK1 K1)) <;> (try simp only [BN3] at hg))) | (refine awp_seq_k fun K hK => ?_) | ((first | refine awp_region ?_ | refine awp_draw (by kernel_rfl) ?_ | refine awp_block ?_ | refine awp_exit ?_ | refine awp_skip ?_ | refine awp_ret ?_); (try simp only [NB, simprocAttr])))
  clear hst
  generalize stepsG ns fl S = sl at *
  refine awp_forG sl.length 23 (fun j => [(12, .i j), (11, .i sl.length), (10, aSps sl), (5, .ref (h.length + 2) j 0 5 j)])
    (fun j => [some ⟨0, cNet ns fl⟩, some ⟨0, S.map AV.i⟩, some ⟨j, (cMvs (sl.take j)).map AV.i⟩]) (fun j => True) ?_ trivial fun j hj hp K hK => ?_
  · refine (Ghost.adopt 5 5 rfl).trans (Sub.ghost ⟨rfl, ⟨[], by simp [cMvs]⟩, ?_, ⟨trivial, trivial, trivial⟩, avlts_is _ _, avlts_is _ _, trivial⟩)
    simp only [keeps, avlt, upd_get, frL, List.length_cons, List.length_nil]
    simp
  rcases Nat.lt_or_ge j sl.length with hlt | hge
  · obtain ⟨y, hy⟩ : ∃ y, sl[j]? = some y := ⟨_, List.getElem?_eq_getElem hlt⟩
    have hxy : (sl.map eSp)[j]? = some ((cSp y).map (PV.int .i64)) := by rw [List.getElem?_map, hy]; rfl
    have hyl := hto y (List.mem_of_getElem? hy)
    have jl : (j : Int) < (sl.length : Int) := by omega
    have j0 : (0 : Int) ≤ (j : Int) := by omega
    have hnx : IntKind.i64.wrap ((j : Int) + 1) = ((j + 1 : Nat) : Int) := by rw [IntWalk.i64_in _ (by omega)]; omega
    have y54 : (cSp y).length = 54 := cSp_len hyl
    have ymm := (mapmap (cSp y)).trans (cSp_eq y)
    have yov := over_tail hyl
    have yt49 : (y.to.map AV.i).take 49 = y.to.map AV.i := List.take_of_length_le (by rw [List.length_map, hyl]; exact Nat.le_refl _)
    have hmax : j + 1 ≤ maxCount := by unfold maxCount; omega
    have hcl : (cMvs (sl.take j)).length = j * 5 := by rw [cMvs_len, List.length_take, Nat.min_eq_left (by omega)]
    have hcs := cMvs_step hy
    repeat' (first | ((first | refine aops_nil ?_ | refine aqops_nil ?_); (try simp only [NB])) | ((repeat ((fail_if_success (refine hK _ ?_)); clear hK K)); refine hK _ ?_; clear hK K) | ((first | refine aops_k fun K1 hK1 => ?_ | refine aqops_k fun K1 hK1 => ?_ | refine awp_cond_k fun A B hA hB => ?_); simp only [S1, simprocAttr, TTTmN, jl, j0, hxy, hnx, y54, ymm, yov, yt49, hyl, hmax, hcl, takeA_arr, takeA_st, all_scalar, List.length_map, List.length_cons, List.length_nil, Nat.mul_one, Nat.zero_add, Nat.add_zero, Int.toNat_natCast]; first | (refine hK1 _ ?_; clear hK1 K1) | ((first | refine hA ?_ | refine hB ?_); clear hA hB A B) | (((first | (refine ⟨fun hg => hA ?_, fun hg => hB ?_⟩ <;> clear hA hB A B) | refine ⟨fun hg => ?_, fun hg => ?_⟩) <;> (try simp only [BN2] at hg) <;> (try simp only [hg, cond_true, cond_false])) <;> (try (refine hK1 _ ?_; clear hK1 K1)) <;> (try simp only [BN3] at hg))) | (refine awp_seq_k fun K hK => ?_) | ((first | refine awp_region ?_ | refine awp_draw (by kernel_rfl) ?_ | refine awp_block ?_ | refine awp_exit ?_ | refine awp_skip ?_ | refine awp_ret ?_); (try simp only [NB, simprocAttr])))
    all_goals refine ⟨hlt, trivial, ?_⟩
    all_goals simp only [hcs, List.map_append, List.map_cons, List.map_nil]
    all_goals refine ⟨rfl, ⟨_, rfl⟩, ?_, ⟨trivial, trivial, trivial⟩, avlts_is _ _, (by have := avlts_is (h.length + 3) (cMvs (sl.take j) ++ [y.node, y.arg, y.lk, y.ln, y.la]); simpa using this), trivial⟩
    all_goals simp only [keeps, avlt, avlts, blksLt, frL, upd_get, S1, simprocAttr, List.length_map, Int.natCast_zero, AV.p.injEq, PV.int.injEq, PV.bool.injEq, PV.sl.injEq] <;> (try and_intros) <;> (try assumption) <;> (try trivial) <;> (try omega)
  · obtain rfl : j = sl.length := by omega
    repeat' (first | ((first | refine aops_nil ?_ | refine aqops_nil ?_); (try simp only [NB])) | ((repeat ((fail_if_success (refine hK _ ?_)); clear hK K)); refine hK _ ?_; clear hK K) | ((first | refine aops_k fun K1 hK1 => ?_ | refine aqops_k fun K1 hK1 => ?_ | refine awp_cond_k fun A B hA hB => ?_); simp only [S1, simprocAttr, TTTmN, Int.lt_irrefl]; first | (refine hK1 _ ?_; clear hK1 K1) | ((first | refine hA ?_ | refine hB ?_); clear hA hB A B) | (((first | (refine ⟨fun hg => hA ?_, fun hg => hB ?_⟩ <;> clear hA hB A B) | refine ⟨fun hg => ?_, fun hg => ?_⟩) <;> (try simp only [BN2] at hg) <;> (try simp only [hg, cond_true, cond_false])) <;> (try (refine hK1 _ ?_; clear hK1 K1)) <;> (try simp only [BN3] at hg))) | (refine awp_seq_k fun K hK => ?_) | ((first | refine awp_region ?_ | refine awp_draw (by kernel_rfl) ?_ | refine awp_block ?_ | refine awp_exit ?_ | refine awp_skip ?_ | refine awp_ret ?_); (try simp only [NB, simprocAttr])))
    exact EndP_rows eMv_len eMv_ok (.inr rfl) (l := sl) rfl rfl (by simp only [cMvs_e, List.take_length, blkAt, get_app, List.getElem?_cons_succ, List.getElem?_cons_zero, if_true]) (by omega) (by simp) (by simp) rfl

def zSp : Sp := ⟨0, 0, 0, 0, 0, zS⟩
/-- What a move leads to, its label and its error. -/
noncomputable def doG (ns : List Nd) (fl : List Fl) (S : List Int) (i : Int) : Sp × Int :=
  if stC ns fl S ≠ 0 then (zSp, stC ns fl S) else if i < 0 then (zSp, 6) else match (stepsG ns fl S)[i.toNat]? with | some y => (y, 0) | none => (zSp, 6)
abbrev aLb (y : Sp) : AV := .agg [.i y.lk, .i y.ln, .i y.la]

theorem do_calls {ns : List Nd} {fl : List Fl} (nk : NetOk ns fl) {S : List Int} (hS : S.length = 49) (i : Int) (h : Heap) :
    ACalls Tryz.prog gW 52 [aNet ns fl, aS S, .i i] h (fun r h' => r = .tup [aS (doG ns fl S i).1.to, aLb (doG ns fl S i).1, .i (doG ns fl S i).2] ∧ h' = h) := by
  have hne := ne_is hS
  have hst := fun h => tSteps_calls nk hS h
  have hck := fun h => tChk_calls nk hS h
  have hto := stepsG_to (ns := ns) (fl := fl) hS
  have t49' : (S.map AV.i).take 49 = S.map AV.i := List.take_of_length_le (by rw [List.length_map, hS]; exact Nat.le_refl _)
  have hzl : (zS.map AV.i).length = 49 := by rw [List.length_map]; rfl
  have hem : (zS.map AV.i).isEmpty = false := rfl
  have hzz : over (zS.map AV.i) 0 (zS.map AV.i) = zS.map AV.i := over_full (n := 49) (by rw [List.length_map]; rfl) _ hzl
  have hzt : (zS.map AV.i).take 49 = zS.map AV.i := List.take_of_length_le (by rw [hzl]; exact Nat.le_refl _)
  by_cases h0 : stC ns fl S = 0
  case neg =>
    have f0 : (stC ns fl S != 0) = true := by simp [h0]
    have e : doG ns fl S i = (zSp, stC ns fl S) := by unfold doG; rw [if_pos h0]
    rw [e]
    refine acalls_pure (rl := []) mixed Tryz.func52 rfl (rs := [.cell 6 82, .cell 7 28, .tmp 8]) rfl Tryz.ntmps52 (by simp) ?_
    repeat' (first | ((first | refine aops_nil ?_ | refine aqops_nil ?_); (try simp only [NB])) | ((repeat ((fail_if_success (refine hK _ ?_)); clear hK K)); refine hK _ ?_; clear hK K) | ((first | refine aops_k fun K1 hK1 => ?_ | refine aqops_k fun K1 hK1 => ?_ | refine awp_cond_k fun A B hA hB => ?_); simp only [S1, simprocAttr, TTTmN, f0, TSz, z49_ne, z49_map, zS_len, hem, hzz, hzt, hne, hS, all_scalar, t49', takeA_arr, takeA_st, List.length_map]; first | (refine hK1 _ ?_; clear hK1 K1) | ((first | refine hA ?_ | refine hB ?_); clear hA hB A B) | ((first | apply call_a E51 | apply call_q E51); exact (hck _); (refine hK1 _ ?_; clear hK1 K1)) | (refine join_x (v := ?_) (fun hg hk9 => ?_) ?_; rotate_left; (focus (try ((try simp only [BN] at hg); simp only [S1, simprocAttr, TTTmN, f0, TSz, z49_ne, z49_map, zS_len, hem, hzz, hzt, hne, hS, all_scalar, t49', takeA_arr, takeA_st, List.length_map, hg] at hk9 ⊢)); first | exact hk9 | ((first | apply call_a E51 | apply call_q E51); exact (hck _); exact hk9)); (refine hK1 _ ?_; clear hK1 K1)) | (((first | (refine ⟨fun hg => hA ?_, fun hg => hB ?_⟩ <;> clear hA hB A B) | refine ⟨fun hg => ?_, fun hg => ?_⟩) <;> (try simp only [BN2] at hg) <;> (try simp only [hg, cond_true, cond_false])) <;> (try (refine hK1 _ ?_; clear hK1 K1)) <;> (try simp only [BN3] at hg))) | (refine awp_seq_k fun K hK => ?_) | ((first | refine awp_region ?_ | refine awp_draw (by kernel_rfl) ?_ | refine awp_block ?_ | refine awp_exit ?_ | refine awp_skip ?_ | refine awp_ret ?_); (try simp only [NB, simprocAttr])))
    all_goals simp only [EndP, FinP, resA, resL, resA1, lastV, lastA, lastAs, pur, purs, take_app, List.take_length, S1, simprocAttr, TTTmN, Nat.le_add_right, Nat.le_refl, hzt, hzl, List.length_map, zS_len, TSz, takeA_st, purs_is, mapmap]
    all_goals rfl
  have f0 : (stC ns fl S != 0) = false := by simp [h0]
  rw [h0] at hck
  by_cases h1 : i < 0
  · have f1 : decide (i < 0) = true := decide_eq_true h1
    have e : doG ns fl S i = (zSp, 6) := by unfold doG; rw [if_neg (by simpa using h0), if_pos h1]
    rw [e]
    refine acalls_pure (rl := []) mixed Tryz.func52 rfl (rs := [.cell 6 82, .cell 7 28, .tmp 8]) rfl Tryz.ntmps52 (by simp) ?_
    repeat' (first | ((first | refine aops_nil ?_ | refine aqops_nil ?_); (try simp only [NB])) | ((repeat ((fail_if_success (refine hK _ ?_)); clear hK K)); refine hK _ ?_; clear hK K) | ((first | refine aops_k fun K1 hK1 => ?_ | refine aqops_k fun K1 hK1 => ?_ | refine awp_cond_k fun A B hA hB => ?_); simp only [S1, simprocAttr, TTTmN, f1, TSz, z49_ne, z49_map, zS_len, hem, hzz, hzt, hne, hS, all_scalar, t49', takeA_arr, takeA_st, List.length_map]; first | (refine hK1 _ ?_; clear hK1 K1) | ((first | refine hA ?_ | refine hB ?_); clear hA hB A B) | ((first | apply call_a E51 | apply call_q E51); exact (hck _); (refine hK1 _ ?_; clear hK1 K1)) | ((first | apply call_a E59 | apply call_q E59); exact (hst _); (refine hK1 _ ?_; clear hK1 K1)) | (refine join_x (v := ?_) (fun hg hk9 => ?_) ?_; rotate_left; (focus (try ((try simp only [BN] at hg); simp only [S1, simprocAttr, TTTmN, f1, TSz, z49_ne, z49_map, zS_len, hem, hzz, hzt, hne, hS, all_scalar, t49', takeA_arr, takeA_st, List.length_map, hg] at hk9 ⊢)); first | exact hk9 | ((first | apply call_a E51 | apply call_q E51); exact (hck _); exact hk9) | ((first | apply call_a E59 | apply call_q E59); exact (hst _); exact hk9)); (refine hK1 _ ?_; clear hK1 K1)) | (((first | (refine ⟨fun hg => hA ?_, fun hg => hB ?_⟩ <;> clear hA hB A B) | refine ⟨fun hg => ?_, fun hg => ?_⟩) <;> (try simp only [BN2] at hg) <;> (try simp only [hg, cond_true, cond_false])) <;> (try (refine hK1 _ ?_; clear hK1 K1)) <;> (try simp only [BN3] at hg))) | (refine awp_seq_k fun K hK => ?_) | ((first | refine awp_region ?_ | refine awp_draw (by kernel_rfl) ?_ | refine awp_block ?_ | refine awp_exit ?_ | refine awp_skip ?_ | refine awp_ret ?_); (try simp only [NB, simprocAttr])))
    all_goals simp only [EndP, FinP, resA, resL, resA1, lastV, lastA, lastAs, pur, purs, take_app, List.take_length, S1, simprocAttr, TTTmN, Nat.le_add_right, Nat.le_refl, hzt, hzl, List.length_map, zS_len, TSz, takeA_st, purs_is, mapmap]
    all_goals rfl
  have f1 : decide (i < 0) = false := decide_eq_false h1
  obtain ⟨n, rfl⟩ := Int.eq_ofNat_of_zero_le (by omega : 0 ≤ i)
  rcases Nat.lt_or_ge n (stepsG ns fl S).length with hlt | hge
  · obtain ⟨y, hy⟩ : ∃ y, (stepsG ns fl S)[n]? = some y := ⟨_, List.getElem?_eq_getElem hlt⟩
    have e : doG ns fl S (n : Int) = (y, 0) := by unfold doG; rw [if_neg (by simpa using h0), if_neg h1, Int.toNat_natCast, hy]
    rw [e]
    have hyl := hto y (List.mem_of_getElem? hy)
    generalize stepsG ns fl S = sl at *
    have hxy : (sl.map eSp)[n]? = some ((cSp y).map (PV.int .i64)) := by rw [List.getElem?_map, hy]; rfl
    have f2 : decide ((sl.length : Int) ≤ (n : Int)) = false := by simp; omega
    have n0 : (0 : Int) ≤ (n : Int) := by omega
    have y54 : (cSp y).length = 54 := cSp_len hyl
    have ymm := (mapmap (cSp y)).trans (cSp_eq y)
    have ycons : (cSp y).map (PV.int .i64) = .int .i64 y.node :: .int .i64 y.arg :: .int .i64 y.lk :: .int .i64 y.ln :: .int .i64 y.la :: y.to.map (PV.int .i64) := rfl
    have yto : (y.to.map (PV.int .i64)).map AV.p = y.to.map AV.i := mapmap y.to
    have yt49 : (y.to.map AV.i).take 49 = y.to.map AV.i := List.take_of_length_le (by rw [List.length_map, hyl]; exact Nat.le_refl _)
    have yt49p : (y.to.map (PV.int .i64)).take 49 = y.to.map (PV.int .i64) := List.take_of_length_le (by rw [List.length_map, hyl]; exact Nat.le_refl _)
    have hyz : over (zS.map AV.i) 0 (y.to.map AV.i) = y.to.map AV.i := over_full (n := 49) (by rw [List.length_map, hyl]) _ hzl
    refine acalls_pure (rl := []) mixed Tryz.func52 rfl (rs := [.cell 6 82, .cell 7 28, .tmp 8]) rfl Tryz.ntmps52 (by simp) ?_
    repeat' (first | ((first | refine aops_nil ?_ | refine aqops_nil ?_ | refine arun_nil ?_ | refine arunT_nil ?_); (try simp only [NB])) | ((repeat ((fail_if_success (refine hK _ ?_)); clear hK K)); refine hK _ ?_; clear hK K) | ((first | refine aops_k fun K1 hK1 => ?_ | refine aqops_k fun K1 hK1 => ?_ | refine arun_eff rfl rfl rfl fun K1 hK1 => ?_ | refine awp_cond_k fun A B hA hB => ?_); simp only [S1, simprocAttr, TTTmN, f1, f2, n0, hxy, y54, ymm, ycons, yto, yt49, yt49p, hyz, hyl, TSz, z49_ne, z49_map, zS_len, hem, hne, hS, all_scalar, t49', takeA_arr, takeA_st, List.length_map, List.length_cons, List.length_take, List.length_drop, Nat.mul_one, Nat.zero_add, Nat.add_zero, Int.toNat_natCast]; first | (refine hK1 _ ?_; clear hK1 K1) | ((first | refine hA ?_ | refine hB ?_); clear hA hB A B) | ((first | apply call_a E51 | apply call_q E51); exact (hck _); (refine hK1 _ ?_; clear hK1 K1)) | ((first | apply call_a E59 | apply call_q E59); exact (hst _); (refine hK1 _ ?_; clear hK1 K1)) | (refine join_x (v := ?_) (fun hg hk9 => ?_) ?_; rotate_left; (focus (try ((try simp only [BN] at hg); simp only [S1, simprocAttr, TTTmN, f1, f2, n0, hxy, y54, ymm, ycons, yto, yt49, yt49p, hyz, hyl, TSz, z49_ne, z49_map, zS_len, hem, hne, hS, all_scalar, t49', takeA_arr, takeA_st, List.length_map, List.length_cons, List.length_take, List.length_drop, Nat.mul_one, Nat.zero_add, Nat.add_zero, Int.toNat_natCast, hg] at hk9 ⊢)); first | exact hk9 | ((first | apply call_a E51 | apply call_q E51); exact (hck _); exact hk9) | ((first | apply call_a E59 | apply call_q E59); exact (hst _); exact hk9)); (refine hK1 _ ?_; clear hK1 K1)) | (((first | (refine ⟨fun hg => hA ?_, fun hg => hB ?_⟩ <;> clear hA hB A B) | refine ⟨fun hg => ?_, fun hg => ?_⟩) <;> (try simp only [BN2] at hg) <;> (try simp only [hg, cond_true, cond_false])) <;> (try (refine hK1 _ ?_; clear hK1 K1)) <;> (try simp only [BN3] at hg))) | ((first | refine arun_q (v := ?_) rfl rfl rfl rfl (by decide) (fun R1 K1 hK1 => ?_) ?_ | refine arun_f (v := ?_) rfl rfl rfl (by decide) (fun K1 hK1 => ?_) ?_ | refine arunT_f (v := ?_) rfl rfl rfl (by decide) (fun K1 hK1 => ?_) ?_ | refine arun_w (v := ?_) rfl rfl rfl rfl (by decide) (fun H1 K1 hK1 => ?_) ?_); rotate_left; (focus (simp only [S1, simprocAttr, TTTmN, f1, f2, n0, hxy, y54, ymm, ycons, yto, yt49, yt49p, hyz, hyl, TSz, z49_ne, z49_map, zS_len, hem, hne, hS, all_scalar, t49', takeA_arr, takeA_st, List.length_map, List.length_cons, List.length_take, List.length_drop, Nat.mul_one, Nat.zero_add, Nat.add_zero, Int.toNat_natCast]; first | (exact hK1 _ _ _) | ((first | apply call_a E51 | apply call_q E51); exact (hck _); exact hK1 _ _ _) | ((first | apply call_a E59 | apply call_q E59); exact (hst _); exact hK1 _ _ _)))) | (refine arun_tail rfl rfl rfl ?_) | ((first | refine arun_allocj (z := ?_) 0 rfl rfl rfl rfl (by decide) rfl ?_ ?_ | refine arun_allocj (z := ?_) 1 rfl rfl rfl rfl (by decide) rfl ?_ ?_ | refine arun_allocj (z := ?_) 2 rfl rfl rfl rfl (by decide) rfl ?_ ?_); rotate_left; (focus (simp only [S1, simprocAttr, TTTmN, f1, f2, n0, hxy, y54, ymm, ycons, yto, yt49, yt49p, hyz, hyl, TSz, z49_ne, z49_map, zS_len, hem, hne, hS, all_scalar, t49', takeA_arr, takeA_st, List.length_map, List.length_cons, List.length_take, List.length_drop, Nat.mul_one, Nat.zero_add, Nat.add_zero, Int.toNat_natCast, zeroB]; rfl))) | (refine awp_seq_k fun K hK => ?_) | (refine awp_drawR (es := []) [0, 1, 2, 3, 4, 5, 6, 7, 8, 9, 10, 11, 12, 13] 0 (fs := [2, 7, 10]) rfl (by kernel_rfl) (by kernel_rfl) ?_) | ((first | refine awp_region ?_ | refine awp_draw (by kernel_rfl) ?_ | refine awp_block ?_ | refine awp_exit ?_ | refine awp_skip ?_ | refine awp_ret ?_); (try simp only [NB, simprocAttr])))
    all_goals simp only [EndP, FinP, resA, resL, resA1, lastV, lastA, lastAs, pur, purs, take_app, List.take_length, S1, simprocAttr, TTTmN, Nat.le_add_right, Nat.le_refl, yt49, hyl, List.length_map, TSz, takeA_st, purs_is, mapmap]
  · have e : doG ns fl S (n : Int) = (zSp, 6) := by unfold doG; rw [if_neg (by simpa using h0), if_neg h1, Int.toNat_natCast, List.getElem?_eq_none hge]
    rw [e]
    generalize stepsG ns fl S = sl at *
    have f2 : decide ((sl.length : Int) ≤ (n : Int)) = true := by simp; omega
    refine acalls_pure (rl := []) mixed Tryz.func52 rfl (rs := [.cell 6 82, .cell 7 28, .tmp 8]) rfl Tryz.ntmps52 (by simp) ?_
    repeat' (first | ((first | refine aops_nil ?_ | refine aqops_nil ?_); (try simp only [NB])) | ((repeat ((fail_if_success (refine hK _ ?_)); clear hK K)); refine hK _ ?_; clear hK K) | ((first | refine aops_k fun K1 hK1 => ?_ | refine aqops_k fun K1 hK1 => ?_ | refine awp_cond_k fun A B hA hB => ?_); simp only [S1, simprocAttr, TTTmN, f1, f2, TSz, z49_ne, z49_map, zS_len, hem, hzz, hzt, hne, hS, all_scalar, t49', takeA_arr, takeA_st, List.length_map]; first | (refine hK1 _ ?_; clear hK1 K1) | ((first | refine hA ?_ | refine hB ?_); clear hA hB A B) | ((first | apply call_a E51 | apply call_q E51); exact (hck _); (refine hK1 _ ?_; clear hK1 K1)) | ((first | apply call_a E59 | apply call_q E59); exact (hst _); (refine hK1 _ ?_; clear hK1 K1)) | (refine join_x (v := ?_) (fun hg hk9 => ?_) ?_; rotate_left; (focus (try ((try simp only [BN] at hg); simp only [S1, simprocAttr, TTTmN, f1, f2, TSz, z49_ne, z49_map, zS_len, hem, hzz, hzt, hne, hS, all_scalar, t49', takeA_arr, takeA_st, List.length_map, hg] at hk9 ⊢)); first | exact hk9 | ((first | apply call_a E51 | apply call_q E51); exact (hck _); exact hk9) | ((first | apply call_a E59 | apply call_q E59); exact (hst _); exact hk9)); (refine hK1 _ ?_; clear hK1 K1)) | (((first | (refine ⟨fun hg => hA ?_, fun hg => hB ?_⟩ <;> clear hA hB A B) | refine ⟨fun hg => ?_, fun hg => ?_⟩) <;> (try simp only [BN2] at hg) <;> (try simp only [hg, cond_true, cond_false])) <;> (try (refine hK1 _ ?_; clear hK1 K1)) <;> (try simp only [BN3] at hg))) | (refine awp_seq_k fun K hK => ?_) | ((first | refine awp_region ?_ | refine awp_draw (by kernel_rfl) ?_ | refine awp_block ?_ | refine awp_exit ?_ | refine awp_skip ?_ | refine awp_ret ?_); (try simp only [NB, simprocAttr])))
    all_goals simp only [EndP, FinP, resA, resL, resA1, lastV, lastA, lastAs, pur, purs, take_app, List.take_length, S1, simprocAttr, TTTmN, Nat.le_add_right, Nat.le_refl, hzt, hzl, List.length_map, zS_len, TSz, takeA_st, purs_is, mapmap]
    all_goals rfl
end Go.Proofs.YtbbmfemplmelhaaGreatDoor.AM
end

section
set_option linter.unusedVariables false
set_option linter.unusedSimpArgs false
namespace Go.Proofs.YtbbmfemplmelhaaGreatDoor.AM
open Go
section
variable {P : Program} {G : Nat → Option (List PV)} {rl : List String} {h : Heap}
/-- A cut at which the state is told anew, by whatever way of telling. -/
theorem awp_tellG {x y : Code} {Q : Exit → St → Prop} {s : St} (s1 : St) (h1 : ∀ K : St → Prop, (∀ s', Ghost P G h s' s1 → K s') → awp P G rl h x (thenA K Q) s) (h2 : awp P G rl h y Q s1) : awp P G rl h (.seq x y) Q s :=
  awp_cut (fun t => t = s1) (h1 _ fun s' hs => ⟨_, hs, rfl⟩) fun t e => by subst e; exact h2

/-- A row that a cell tells of comes to stand in another block. -/
theorem Ghost.move {h0 : Heap} {s : St} {b j q m off sz n : Nat} {bk bq bm : Blk} (hb : s.heap[b]? = some (some bk)) (hx : bk.cells[j]? = some (.ref m bm.g off sz n)) (hq : s.heap[q]? = some (some bq)) (hm : s.heap[m]? = some (some bm)) (hbq : b ≠ q) (hbm : b ≠ m) (hqm : q ≠ m) :
    Ghost P G h0 s ⟨s.fr, s.nt, ((s.heap.set m none).set q (some ⟨bq.g + 1, bm.cells⟩)).set b (some ⟨bk.g, bk.cells.set j (.ref q (bq.g + 1) off sz n)⟩)⟩ := by
  intro ι a w ι0 w0 hS hs he
  have hbl : b < s.heap.length := getElem?_lt hb
  have hql : q < s.heap.length := getElem?_lt hq
  have hml : m < s.heap.length := getElem?_lt hm
  have hne' : bk.cells ≠ [] := by
    intro e
    rw [e] at hx; simp at hx
  obtain ⟨h', hh'⟩ : ∃ h', h' = ((s.heap.set m none).set q (some ⟨bq.g + 1, bm.cells⟩)).set b (some ⟨bk.g, bk.cells.set j (.ref q (bq.g + 1) off sz n)⟩) := ⟨_, rfl⟩
  obtain ⟨ι', hι⟩ : ∃ ι' : Nat → Nat × Nat, ι' = fun i => if i = q then ι m else ι i := ⟨_, rfl⟩
  have hlen : h'.length = s.heap.length := by rw [hh']; simp
  have hlo : ∀ (c : Nat) (bk' : Blk), h'[c]? = some (some bk') → (c = b ∧ bk' = ⟨bk.g, bk.cells.set j (.ref q (bq.g + 1) off sz n)⟩) ∨ (c = q ∧ bk' = ⟨bq.g + 1, bm.cells⟩) ∨ (c ≠ b ∧ c ≠ q ∧ c ≠ m ∧ s.heap[c]? = some (some bk')) := by
    intro c bk' hc
    rw [hh', List.getElem?_set] at hc
    split at hc
    · rename_i e
      split at hc
      · exact .inl ⟨e.symm, (Option.some.inj (Option.some.inj hc)).symm⟩
      · cases hc
    · rename_i e1
      rw [List.getElem?_set] at hc
      split at hc
      · rename_i e
        split at hc
        · exact .inr (.inl ⟨e.symm, (Option.some.inj (Option.some.inj hc)).symm⟩)
        · cases hc
      · rename_i e2
        rw [List.getElem?_set] at hc
        split at hc
        · (try split at hc) <;> cases hc
        · rename_i e3
          exact .inr (.inr ⟨fun e => e1 e.symm, fun e => e2 e.symm, fun e => e3 e.symm, hc⟩)
  have hιo : ∀ c, c ≠ q → ι' c = ι c := fun c hc => by rw [hι]; simp [hc]
  have hιq : ι' q = ι m := by rw [hι]; simp
  have own_lo : ∀ k, own ι' h' k → own ι s.heap k := by
    rintro k ⟨c, bk', q1, q2, q3⟩
    rcases hlo c bk' q1 with ⟨rfl, rfl⟩ | ⟨rfl, rfl⟩ | ⟨n1, n2, n3, q1⟩
    · exact ⟨c, bk, hb, hne', by rw [← q3, hιo c hbq]⟩
    · exact ⟨m, bm, hm, q2, by rw [← q3, hιq]⟩
    · exact ⟨c, bk', q1, q2, by rw [← q3, hιo c n2]⟩
  have oo : ∀ k, k < w.heap.size → ¬ own ι s.heap k → w.heap[k]? = w.heap[k]? ∧ ¬ own ι' h' k := fun k _ ho => ⟨rfl, fun e => ho (own_lo k e)⟩
  have lv : ∀ (c g : Nat), (∀ bk : Blk, s.heap[c]? = some (some bk) → g ≤ bk.g) → liveAt h' c g → c ≠ q ∧ c ≠ m ∧ liveAt s.heap c g ∧ (∀ bk : Blk, s.heap[c]? = some (some bk) → bk.cells ≠ [] → ∃ bk' : Blk, h'[c]? = some (some bk') ∧ bk'.cells ≠ []) := by
    rintro c g hg ⟨bk', q1, q2⟩
    rcases hlo c bk' q1 with ⟨rfl, rfl⟩ | ⟨rfl, rfl⟩ | ⟨n1, n2, n3, q3⟩
    · refine ⟨hbq, hbm, ⟨bk, hb, q2⟩, fun bk1 hk1 hk2 => ⟨_, q1, ?_⟩⟩
      rw [hb] at hk1; cases hk1
      rw [ne_eq, ← List.length_eq_zero_iff, List.length_set, List.length_eq_zero_iff]; exact hne'
    · have := hg bq hq
      simp only at q2
      omega
    · exact ⟨n2, n3, ⟨bk', q3, q2⟩, fun bk1 hk1 hk2 => ⟨bk', q1, by rw [q3] at hk1; cases hk1; exact hk2⟩⟩
  have gg : ∀ (c g : Nat), (∀ bk : Blk, s.heap[c]? = some (some bk) → g ≤ bk.g) → ∀ bk : Blk, h'[c]? = some (some bk) → g ≤ bk.g := by
    intro c g hg bk' q1
    rcases hlo c bk' q1 with ⟨rfl, rfl⟩ | ⟨rfl, rfl⟩ | ⟨n1, n2, n3, q3⟩
    · exact hg bk hb
    · have := hg bq hq
      simp only; omega
    · exact hg bk' q3
  have vr : ∀ x v, VRel ι s.heap w x v → VRel ι' h' w x v := by
    intro x v hx
    induction hx with
    | p x v hx => exact .p _ _ (hx.mono (Nat.le_refl _) oo)
    | agg cells vs hl hv ih => exact .agg _ _ hl ih
    | tup cells vs hl hv ih => exact .tup _ _ hl ih
    | fn f cells vs hl hv ih => exact .fn _ _ _ hl ih
    | ref c g off sz len A cc hn hb0 hg hv =>
      refine .ref _ _ _ _ _ _ _ hn (by rw [hlen]; exact hb0) (gg c g hg) fun hl => ?_
      obtain ⟨l1, l2, l3, l4⟩ := lv c g hg hl
      rw [hιo c l1]
      rcases hv l3 with hz | ⟨hA, hle, ⟨bk0, q0, hn0⟩, hcs⟩
      · exact .inl hz
      · exact .inr ⟨hA, hle, l4 bk0 q0 hn0, hcs⟩
    | ptr c g off A hb0 hg hv =>
      refine .ptr _ _ _ _ (by rw [hlen]; exact hb0) (gg c g hg) fun hl => ?_
      obtain ⟨l1, l2, l3, l4⟩ := lv c g hg hl
      rw [hιo c l1]
      exact hv l3
    | pin cells blk off hv => exact .pin _ _ _ (hv.mono (Nat.le_refl _) oo)
    | mref c g r hb0 hg hv =>
      refine .mref _ _ _ (by rw [hlen]; exact hb0) (gg c g hg) fun hl => ?_
      obtain ⟨l1, l2, l3, l4⟩ := lv c g hg hl
      rw [hιo c l1]
      exact hv l3
  have hq' : h'[q]? = some (some ⟨bq.g + 1, bm.cells⟩) := by
    rw [hh', List.getElem?_set_ne hbq, List.getElem?_set_self (by simpa using hql)]
  have vm : ∀ v, VRel ι s.heap w (.ref m bm.g off sz n) v → VRel ι' h' w (.ref q (bq.g + 1) off sz n) v := by
    intro v hv
    cases hv with
    | ref _ _ _ _ _ A cc hn hb0 hg hv =>
      refine .ref _ _ _ _ _ _ _ hn (by rw [hlen]; exact hql) (fun bk hk => by rw [hq'] at hk; cases hk; exact Nat.le_refl _) fun _ => ?_
      rw [hιq]
      rcases hv ⟨bm, hm, rfl⟩ with hz | ⟨hA, hle, ⟨bk0, q0, hn0⟩, hcs⟩
      · exact .inl hz
      · rw [hm] at q0; cases q0
        exact .inr ⟨hA, hle, ⟨_, hq', hn0⟩, hcs⟩
  rw [← hh']
  refine ⟨ι', ⟨⟨⟨fun c bk' hc hne => ?_, fun c c' k k' q1 q2 n1 n2 e => ?_⟩, fun g cells hg => (hs.hS.gr g cells hg).mono (Nat.le_refl _) oo⟩, fun k y hy => ?_, hs.nt, hs.df⟩, ?_⟩
  · rcases hlo c bk' hc with ⟨rfl, rfl⟩ | ⟨rfl, rfl⟩ | ⟨e1, e2, e3, hc⟩
    · have hB := hs.hS.hr.blk c bk hb hne'
      rcases hB with ⟨cs, ty, p1, p2, p3⟩ | ⟨es, e1, _⟩
      case inr =>
        rw [e1] at hx
        cases j with
        | zero => simp at hx
        | succ j => simp at hx
      refine .inl ⟨cs, ty, by rw [hιo c hbq]; exact p1, by rw [hιo c hbq]; simpa using p2, fun i y hy => ?_⟩
      rw [hιo c hbq]
      simp only [List.getElem?_set] at hy
      split at hy
      · rename_i e; subst e
        split at hy
        · cases hy
          obtain ⟨v, r1, r2⟩ := p3 j _ hx
          exact ⟨v, r1, vm v r2⟩
        · cases hy
      · obtain ⟨v, r1, r2⟩ := p3 i y hy
        exact ⟨v, r1, vr _ _ r2⟩
    · have := (hs.hS.hr.blk m bm hm hne).keep (b' := c) (ι' := ι') (h' := h') (w' := w) hιq rfl (fun y _ v hv => vr _ _ hv) (Nat.le_refl _) oo
      rcases this with ⟨cs, ty, p1, p2, p3⟩ | ⟨es, e1, p1, p2, p3⟩
      · exact .inl ⟨cs, ty, p1, p2, p3⟩
      · exact .inr ⟨es, e1, p1, p2, p3⟩
    · exact (hs.hS.hr.blk c bk' hc hne).keep (hιo c e2) rfl (fun y _ v hv => vr _ _ hv) (Nat.le_refl _) oo
  · have back : ∀ (c : Nat) (k : Blk), h'[c]? = some (some k) → k.cells ≠ [] → ∃ (d : Nat) (k0 : Blk), s.heap[d]? = some (some k0) ∧ k0.cells ≠ [] ∧ (ι' c).1 = (ι d).1 ∧ d = (if c = q then m else c) := by
      intro c k q1 n1
      rcases hlo c k q1 with ⟨rfl, rfl⟩ | ⟨rfl, rfl⟩ | ⟨e1, e2, e3, hc⟩
      · exact ⟨c, bk, hb, hne', by rw [hιo c hbq], by rw [if_neg hbq]⟩
      · exact ⟨m, bm, hm, n1, by rw [hιq], by rw [if_pos rfl]⟩
      · exact ⟨c, k, hc, n1, by rw [hιo c e2], by rw [if_neg e2]⟩
    obtain ⟨d, k0, a1, a2, a3, a4⟩ := back c k q1 n1
    obtain ⟨d', k1, b1, b2, b3, b4⟩ := back c' k' q2 n2
    have hd := hs.hS.hr.inj d d' k0 k1 a1 b1 a2 b2 (by rw [← a3, ← b3]; exact e)
    have nm : ∀ (c : Nat) (k : Blk), h'[c]? = some (some k) → c ≠ m := by
      intro c k q1
      rcases hlo c k q1 with ⟨rfl, _⟩ | ⟨rfl, _⟩ | ⟨_, _, e3, _⟩
      · exact hbm
      · exact hqm
      · exact e3
    have m1 := nm c k q1
    have m2 := nm c' k' q2
    rw [hd, b4] at a4
    split at a4 <;> split at a4 <;> omega
  · obtain ⟨v, p1, p2⟩ := hs.fr k y hy
    exact ⟨v, p1, vr _ _ p2⟩
  · refine ⟨he.size, fun k hk ho => ⟨(he.keep k hk ho).1, fun e => (he.keep k hk ho).2 (own_lo k e)⟩, by show _ ≤ h'.length; rw [hlen]; exact he.len, fun c bk' hc hk => ?_, he.os, he.output, he.tape, he.drawn⟩
    rcases hlo c bk' hk with ⟨rfl, rfl⟩ | ⟨rfl, rfl⟩ | ⟨e1, e2, e3, hk⟩
    · obtain ⟨bk0, a1, a2, a3⟩ := he.gens c bk hc hb
      refine ⟨bk0, a1, a2, fun e => ?_⟩
      obtain ⟨b1, b2, b3⟩ := a3 e
      exact ⟨by rw [hιo c hbq]; exact b1, fun _ => by rw [ne_eq, ← List.length_eq_zero_iff, List.length_set, List.length_eq_zero_iff]; exact hne', b3⟩
    · obtain ⟨bk0, a1, a2, a3⟩ := he.gens c bq hc hq
      exact ⟨bk0, a1, by simp only; omega, fun e => by simp only at e; omega⟩
    · obtain ⟨bk0, a1, a2, a3⟩ := he.gens c bk' hc hk
      refine ⟨bk0, a1, a2, fun e => ?_⟩
      obtain ⟨b1, b2, b3⟩ := a3 e
      exact ⟨by rw [hιo c e2]; exact b1, b2, b3⟩

/-- A row of ours that nobody writes any more. -/
theorem Ghost.freeze {h0 : Heap} {s : St} {k b sz n : Nat} {bk : Blk} {rows : List (List PV)} {rest : List AV} (hk : s.fr k = some (.ref b bk.g 0 sz n)) (hb : s.heap[b]? = some (some bk)) (hn : n = rows.length) (hrows : ∀ r ∈ rows, r.length = sz) (hsz : sz ≠ 0)
    (hc : bk.cells = (rows.flatMap id).map AV.p ++ rest) :
    Ghost P G h0 s ⟨upd s.fr k (.p (.sl rows)), s.nt, s.heap.set b none⟩ := by
  intro ι a w ι0 w0 hS hs he
  have hbl : b < s.heap.length := getElem?_lt hb
  obtain ⟨h', hh'⟩ : ∃ h', h' = s.heap.set b none := ⟨_, rfl⟩
  have hlen : h'.length = s.heap.length := by rw [hh']; simp
  have hlo : ∀ (c : Nat) (bk' : Blk), h'[c]? = some (some bk') → c ≠ b ∧ s.heap[c]? = some (some bk') := by
    intro c bk' hc
    rw [hh', List.getElem?_set] at hc
    split at hc
    · (try split at hc) <;> cases hc
    · rename_i e; exact ⟨fun e' => e e'.symm, hc⟩
  have hhi : ∀ (c : Nat), c ≠ b → h'[c]? = s.heap[c]? := fun c hc => by rw [hh', List.getElem?_set_ne (fun e => hc e.symm)]
  have own_lo : ∀ k, own ι h' k → own ι s.heap k := by
    rintro k ⟨c, bk', q1, q2, q3⟩
    exact ⟨c, bk', (hlo c bk' q1).2, q2, q3⟩
  have oo : ∀ k, k < w.heap.size → ¬ own ι s.heap k → w.heap[k]? = w.heap[k]? ∧ ¬ own ι h' k := fun k _ ho => ⟨rfl, fun e => ho (own_lo k e)⟩
  have lv : ∀ (c g : Nat), liveAt h' c g → c ≠ b ∧ liveAt s.heap c g := by
    rintro c g ⟨bk', q1, q2⟩
    obtain ⟨n1, q3⟩ := hlo c bk' q1
    exact ⟨n1, bk', q3, q2⟩
  have gg : ∀ (c g : Nat), (∀ bk : Blk, s.heap[c]? = some (some bk) → g ≤ bk.g) → ∀ bk : Blk, h'[c]? = some (some bk) → g ≤ bk.g := fun c g hg bk' q1 => hg bk' (hlo c bk' q1).2
  have vr : ∀ x v, VRel ι s.heap w x v → VRel ι h' w x v := by
    intro x v hx
    induction hx with
    | p x v hx => exact .p _ _ (hx.mono (Nat.le_refl _) oo)
    | agg cells vs hl hv ih => exact .agg _ _ hl ih
    | tup cells vs hl hv ih => exact .tup _ _ hl ih
    | fn f cells vs hl hv ih => exact .fn _ _ _ hl ih
    | ref c g off sz len A cc hn hb0 hg hv =>
      refine .ref _ _ _ _ _ _ _ hn (by rw [hlen]; exact hb0) (gg c g hg) fun hl => ?_
      obtain ⟨l1, l3⟩ := lv c g hl
      rcases hv l3 with hz | ⟨hA, hle, ⟨bk0, q0, hn0⟩, hcs⟩
      · exact .inl hz
      · exact .inr ⟨hA, hle, ⟨bk0, by rw [hhi c l1]; exact q0, hn0⟩, hcs⟩
    | ptr c g off A hb0 hg hv =>
      refine .ptr _ _ _ _ (by rw [hlen]; exact hb0) (gg c g hg) fun hl => ?_
      obtain ⟨l1, l3⟩ := lv c g hl
      exact hv l3
    | pin cells blk off hv => exact .pin _ _ _ (hv.mono (Nat.le_refl _) oo)
    | mref c g r hb0 hg hv =>
      refine .mref _ _ _ (by rw [hlen]; exact hb0) (gg c g hg) fun hl => ?_
      obtain ⟨l1, l3⟩ := lv c g hl
      exact hv l3
  obtain ⟨v, hv1, hv2⟩ := hs.fr k _ hk
  have hnew : VRel ι h' w (.p (.sl rows)) v := by
    obtain ⟨A, c, rfl, hn64, hcase⟩ := hv2.ref_inv ⟨bk, hb, rfl⟩
    by_cases h0 : rows = []
    · subst h0; subst hn
      exact .p _ _ (.slz A c)
    rcases hcase with ⟨hz, _⟩ | ⟨rfl, hle, ⟨bk0, hq0, hne⟩, cs0, ty1, fr1, hcc, hfit⟩
    · rw [hn] at hz; exact absurd (List.eq_nil_of_length_eq_zero hz) h0
    rw [hb] at hq0; cases hq0
    obtain ⟨c0, ty0, hc0, hl0, hv0⟩ := (hs.hS.hr.blk b _ hb hne).cells hcc
    subst hn
    have hnown : ¬ own ι h' (ι b).1 := by
      rintro ⟨d, bk', q1, q2, q3⟩
      obtain ⟨n1, q4⟩ := hlo d bk' q1
      exact n1 (hs.hS.hr.inj d b bk' bk q4 hb q2 hne q3)
    have key : ∀ i j x, get2 rows i j = some x → ∃ u, c0[(ι b).2 + (i * sz + j)]? = some u ∧ VRel ι s.heap w (.p x) u := by
      intro i j x hx
      have hj : j < sz := by
        unfold get2 at hx
        cases hr : rows[i]? with
        | none => rw [hr] at hx; simp at hx
        | some r =>
          rw [hr] at hx
          have h1 := hrows r (List.mem_of_getElem? hr)
          have h2 := getElem?_lt (show r[j]? = some x from hx)
          omega
      have hf := flat_get rows hrows i j hj
      rw [hx] at hf
      refine hv0 _ _ ?_
      rw [hc, List.getElem?_append_left (by rw [List.length_map]; exact getElem?_lt hf), List.getElem?_map, hf]; rfl
    refine .p _ _ (.sl rows (ι b).1 ((ι b).2 + 0) c sz (fun i j => (c0[(ι b).2 + (i * sz + j)]?).getD undef) hle hn64 hnown (lt_heap hc0) hrows (fun i j x hx => ?_) (fun i j x hx => ?_))
    · obtain ⟨u, q1, q2⟩ := key i j x hx
      rw [Nat.add_zero, q1]
      unfold World.cell?
      simp only [hc0, q1]; rfl
    · obtain ⟨u, q1, q2⟩ := key i j x hx
      rw [q1]
      cases q2 with
      | p _ _ q2 => exact q2.mono (Nat.le_refl _) oo
  rw [← hh']
  refine ⟨ι, ⟨⟨⟨fun c bk' hc hne => ?_, fun c c' k k' q1 q2 n1 n2 e => ?_⟩, fun g cells hg => (hs.hS.gr g cells hg).mono (Nat.le_refl _) oo⟩, fun j y hy => ?_, hs.nt, hs.df⟩, ?_⟩
  · exact (hs.hS.hr.blk c bk' (hlo c bk' hc).2 hne).keep rfl rfl (fun y _ v hv => vr _ _ hv) (Nat.le_refl _) oo
  · exact hs.hS.hr.inj c c' k k' (hlo c k q1).2 (hlo c' k' q2).2 n1 n2 e
  · simp only [upd] at hy
    split at hy
    · rename_i e; subst e; cases hy
      exact ⟨v, hv1, hnew⟩
    · obtain ⟨u, p1, p2⟩ := hs.fr j y hy
      exact ⟨u, p1, vr _ _ p2⟩
  · refine ⟨he.size, fun k hk ho => ⟨(he.keep k hk ho).1, fun e => (he.keep k hk ho).2 (own_lo k e)⟩, by show _ ≤ h'.length; rw [hlen]; exact he.len, fun c bk' hc hk => ?_, he.os, he.output, he.tape, he.drawn⟩
    obtain ⟨e1, e2⟩ := hlo c bk' hk
    obtain ⟨bk0, a1, a2, a3⟩ := he.gens c bk' hc e2
    exact ⟨bk0, a1, a2, a3⟩

/-- A loop whose state is told by whatever data, and that may change blocks that were there. -/
theorem awp_whileH {σ : Type} {c : Code} {Q : Exit → St → Prop} {s : St} (m : σ → Nat) (nt : Nat) (H : σ → Heap) (l : σ → List (Nat × AV)) (L : σ → List (Option Blk)) (p : σ → Prop) (x0 : σ)
    (hH : ∀ x, (H x).length = h.length ∧ ∀ (b : Nat) (bk : Blk), (H x)[b]? = some (some bk) → h[b]? = some (some bk) ∨ avlts h.length bk.cells) (hi : Sub (H x0) s (l x0) (L x0) nt) (hp : p x0)
    (hb : ∀ x, p x → ∀ K : St → Prop, (∀ s', (∃ y, m y < m x ∧ p y ∧ Sub (H y) s' (l y) (L y) nt) → K s') → awp P G rl h c (thenA K Q) ⟨frL (l x), nt, H x ++ L x⟩) : awp P G rl h (.loop c) Q s := by
  refine awp_loop (fun n s => ∃ x, p x ∧ n = m x ∧ s = ⟨frL (l x), nt, H x ++ L x⟩) (m x0) _ (hi.ghostH (hH x0).1 (hH x0).2) ⟨x0, hp, rfl, rfl⟩ fun n s hI => ?_
  obtain ⟨x, h1, rfl, rfl⟩ := hI
  refine hb x h1 _ fun s' hs => ?_
  obtain ⟨y, h2, h3, h4⟩ := hs
  exact ⟨m y, _, h2, h4.ghostH (hH y).1 (hH y).2, y, h3, rfl, rfl⟩
end
end Go.Proofs.YtbbmfemplmelhaaGreatDoor.AM
end

section
set_option linter.unusedVariables false
set_option linter.unusedSimpArgs false
set_option maxRecDepth 4000
set_option maxHeartbeats 4000000
namespace Go.Proofs.YtbbmfemplmelhaaGreatDoor.AM
open Go Go.Proofs
set_option linter.defProp false in
def TTTrB := And.intro T2 (And.intro T3 (And.intro T4 (And.intro T25 (And.intro T26 (And.intro T41 (And.intro T57 (And.intro T58 (And.intro T89 (And.intro T92 T134)))))))))
attribute [local irreducible] awp aops aqops aeops arun arunT
variable {G : Nat → Option (List PV)}

def eSt (S : Sv) : List PV := S.map (PV.int .i64)
abbrev aSts (l : List Sv) : AV := .p (.sl (l.map eSt))
def flatS (l : List Sv) : List AV := l.flatMap (·.map AV.i)
def mkE (s : Sv) : List Int × Bool := (s, true)
def St49 (l : List Sv) : Prop := ∀ s ∈ l, s.length = 49
theorem flatS_len : ∀ {l : List Sv}, St49 l → (flatS l).length = l.length * 49
  | [], _ => rfl
  | s :: l, h => by
    have := flatS_len (l := l) fun t ht => h t (by simp [ht])
    unfold flatS at this ⊢
    rw [List.flatMap_cons, List.length_append, this, List.length_map, h s (by simp), List.length_cons]; omega
theorem flatS_app (l : List Sv) (s : Sv) : flatS (l ++ [s]) = flatS l ++ s.map AV.i := by
  unfold flatS; rw [List.flatMap_append]; simp
theorem flatS_avl (l : List Sv) (n : Nat) : avlts n (flatS l) := by
  unfold flatS
  rw [← List.map_flatMap]
  exact avlts_is _ _
theorem flatS_drop : ∀ {l : List Sv} (j : Nat), St49 l → (flatS l).drop (j * 49) = flatS (l.drop j)
  | l, 0, _ => by simp
  | [], j + 1, _ => by simp [flatS]
  | s :: l, j + 1, h => by
    have := flatS_drop (l := l) j fun t ht => h t (by simp [ht])
    have hs : (s.map AV.i).length = 49 := by rw [List.length_map]; exact h s (by simp)
    rw [List.drop_succ_cons, ← this]
    unfold flatS
    rw [List.flatMap_cons, show (j + 1) * 49 = 49 + j * 49 by omega, ← List.drop_drop, List.drop_left' hs]
theorem flatS_take {l : List Sv} {j : Nat} {s : Sv} (h : St49 l) (hs : l[j]? = some s) : ((flatS l).drop (j * 49)).take 49 = s.map AV.i := by
  rw [flatS_drop j h, List.drop_eq_getElem_cons (List.getElem?_eq_some_iff.mp hs).1, (List.getElem?_eq_some_iff.mp hs).2]
  have e : flatS (s :: l.drop (j + 1)) = s.map AV.i ++ flatS (l.drop (j + 1)) := by unfold flatS; rw [List.flatMap_cons]
  rw [e, List.take_left' (by rw [List.length_map]; exact h s (List.mem_of_getElem? hs))]
theorem intsOf_is : ∀ l : List Int, intsOf (l.map AV.i) = some l
  | [] => rfl
  | x :: r => by simp only [List.map_cons, intsOf, intsOf_is r, Option.map_some]
theorem mget_in {s : Sv} : ∀ {l : List Sv}, s ∈ l → mget (l.map mkE) s = some true
  | [], h => by cases h
  | t :: l, h => by
    unfold mget
    rw [List.map_cons, List.find?_cons]
    by_cases e : t = s
    · subst e; simp [mkE]
    · have : ((mkE t).1 == s) = false := by simpa [mkE] using e
      rw [this]
      have hl : s ∈ l := by
        rcases List.mem_cons.mp h with h | h
        · exact absurd h.symm e
        · exact h
      exact mget_in hl
theorem mget_out {s : Sv} : ∀ {l : List Sv}, s ∉ l → mget (l.map mkE) s = none
  | [], h => rfl
  | t :: l, h => by
    unfold mget
    rw [List.map_cons, List.find?_cons]
    have e : t ≠ s := fun e => h (by simp [e])
    have : ((mkE t).1 == s) = false := by simpa [mkE] using e
    rw [this]
    exact mget_out fun h' => h (by simp [h'])
theorem all49 {l : List Sv} (h : St49 l) : ((l.map mkE).all fun e => e.1.length == 49) = true := by
  rw [List.all_eq_true]
  intro e he
  obtain ⟨s, hs, rfl⟩ := List.mem_map.mp he
  simp [mkE, h s hs]
theorem st49_addS {out more : List Sv} (h1 : St49 out) (h2 : St49 more) : St49 (addS out more) := fun s hs => by
  rcases (mem_addS _ _).mp hs with h | h
  · exact h1 s h
  · exact h2 s h

/-- A heap with what is seen and what is found. -/
def putS (h : Heap) (out : List Sv) : Heap := h ++ [some ⟨0, [.mp (out.map mkE)]⟩, some ⟨0, [.mref h.length 0]⟩, some ⟨0, [.ref (h.length + 3) out.length 0 49 out.length]⟩, some ⟨out.length, flatS out⟩]
theorem putS_len (h : Heap) (out : List Sv) : (putS h out).length = h.length + 4 := by simp [putS]
theorem putS_keep (h : Heap) (out out' : List Sv) : ∀ (b : Nat) (bk : Blk), (putS h out)[b]? = some (some bk) → (putS h out')[b]? = some (some bk) ∨ avlts (putS h out').length bk.cells := by
  intro b bk hb
  rw [putS_len]
  unfold putS at hb ⊢
  rcases Nat.lt_or_ge b h.length with hl | hl
  · rw [List.getElem?_append_left hl] at hb ⊢
    exact .inl hb
  · rw [List.getElem?_append_right hl] at hb
    right
    obtain ⟨i, hi⟩ : ∃ i, b - h.length = i := ⟨_, rfl⟩
    rw [hi] at hb
    match i, hb with
    | 0, hb => simp at hb; subst hb; exact ⟨trivial, trivial⟩
    | 1, hb => simp at hb; subst hb; exact ⟨by simp [avlt], trivial⟩
    | 2, hb => simp at hb; subst hb; exact ⟨by simp [avlt], trivial⟩
    | 3, hb => simp at hb; subst hb; exact flatS_avl _ _
    | i + 4, hb => simp at hb

theorem sadd_calls (h : Heap) {out more : List Sv} (h1 : St49 out) (h2 : St49 more) (hn : out.length + more.length ≤ 16000000) :
    ACalls Tryz.prog G 74 [aSts more, .ptr (h.length + 1) 0 0, .ptr (h.length + 2) 0 0] (putS h out) (fun r h' => r = .undef ∧ h' = putS h (addS out more)) := by
  have hzl : (zS.map AV.i).length = 49 := by rw [List.length_map]; rfl
  have hem : (zS.map AV.i).isEmpty = false := rfl
  refine acalls_heap (rl := []) mixed Tryz.func74 rfl (rs := []) rfl Tryz.ntmps74 (by simp) ?_
  repeat' (first | ((first | refine aops_nil ?_ | refine aqops_nil ?_); (try simp only [NB])) | ((repeat ((fail_if_success (refine hK _ ?_)); clear hK K)); refine hK _ ?_; clear hK K) | ((first | refine aops_k fun K1 hK1 => ?_ | refine aqops_k fun K1 hK1 => ?_ | refine awp_cond_k fun A B hA hB => ?_); simp only [S1, simprocAttr, TTTrB, List.length_map]; first | (refine hK1 _ ?_; clear hK1 K1) | ((first | refine hA ?_ | refine hB ?_); clear hA hB A B) | (((first | (refine ⟨fun hg => hA ?_, fun hg => hB ?_⟩ <;> clear hA hB A B) | refine ⟨fun hg => ?_, fun hg => ?_⟩) <;> (try simp only [BN2] at hg) <;> (try simp only [hg, cond_true, cond_false])) <;> (try (refine hK1 _ ?_; clear hK1 K1)) <;> (try simp only [BN3] at hg))) | (refine awp_seq_k fun K hK => ?_) | ((first | refine awp_region ?_ | refine awp_draw (by kernel_rfl) ?_ | refine awp_block ?_ | refine awp_exit ?_ | refine awp_skip ?_ | refine awp_ret ?_); (try simp only [NB, simprocAttr])))
  refine awp_forH more.length 23 (fun j => putS h (addS out (more.take j))) (fun j => [(8, .i j), (7, .i more.length), (6, aSts more), (1, .ptr (h.length + 1) 0 0), (2, .ptr (h.length + 2) 0 0)]) (fun j => []) (fun j => True)
    (fun j => ⟨by rw [putS_len, putS_len], putS_keep h _ _⟩) ?_ trivial fun j hj hp K hK => ?_
  · refine ⟨rfl, ⟨[], by simp [addS]⟩, ?_, trivial⟩
    simp only [putS_len]
    simp only [keeps, avlt, avlts, blksLt, frL, upd_get, S1, simprocAttr, List.length_map, Int.natCast_zero, AV.p.injEq, PV.int.injEq, PV.bool.injEq, PV.sl.injEq] <;> (try and_intros) <;> (try assumption) <;> (try trivial) <;> (try omega)
  rw [List.append_nil]
  rcases Nat.lt_or_ge j more.length with hlt | hge
  · obtain ⟨s, hx⟩ : ∃ k, more[j]? = some k := ⟨_, List.getElem?_eq_getElem hlt⟩
    have hs : s.length = 49 := h2 s (List.mem_of_getElem? hx)
    have hxr : (more.map eSt)[j]? = some (s.map (PV.int .i64)) := by rw [List.getElem?_map, hx]; rfl
    have es := addS_take (out := out) hx
    have ho : St49 (addS out (more.take j)) := st49_addS h1 fun t ht => h2 t (List.mem_of_mem_take ht)
    have hol := (addS_len (more.take j) out).1
    rw [List.length_take] at hol
    have jl : (j : Int) < (more.length : Int) := by omega
    have j0 : (0 : Int) ≤ (j : Int) := by omega
    have hnx : IntKind.i64.wrap ((j : Int) + 1) = ((j + 1 : Nat) : Int) := by rw [IntWalk.i64_in _ (by omega)]; omega
    have t49' : (s.map AV.i).take 49 = s.map AV.i := List.take_of_length_le (by rw [List.length_map, hs]; exact Nat.le_refl _)
    have hso : over (zS.map AV.i) 0 (s.map AV.i) = s.map AV.i := over_full (n := 49) (by rw [List.length_map, hs]) _ hzl
    have hsm := mapmap s
    have hne := ne_is hs
    generalize addS out (more.take j) = o at *
    have hio := intsOf_is s
    have ha := all49 ho
    have hmax : o.length + 1 ≤ maxCount := by unfold maxCount; omega
    have hfl := flatS_len ho
    have hpk : ∀ L : Heap, putS h o ++ L = h ++ ([some ⟨0, [.mp (o.map mkE)]⟩, some ⟨0, [.mref h.length 0]⟩, some ⟨0, [.ref (h.length + 3) o.length 0 49 o.length]⟩, some ⟨o.length, flatS o⟩] ++ L) := fun L => by unfold putS; rw [List.append_assoc]
    have hpk0 : putS h o = h ++ [some ⟨0, [.mp (o.map mkE)]⟩, some ⟨0, [.mref h.length 0]⟩, some ⟨0, [.ref (h.length + 3) o.length 0 49 o.length]⟩, some ⟨o.length, flatS o⟩] := rfl
    by_cases hin : s ∈ o
    · have hg := mget_in hin
      have ea : addO o s = o := by unfold addO; rw [if_pos hin]
      rw [ea] at es
      rw [hpk0]
      repeat' (first | ((first | refine aops_nil ?_ | refine aqops_nil ?_); (try simp only [NB])) | ((repeat ((fail_if_success (refine hK _ ?_)); clear hK K)); refine hK _ ?_; clear hK K) | ((first | refine aops_k fun K1 hK1 => ?_ | refine aqops_k fun K1 hK1 => ?_ | refine awp_cond_k fun A B hA hB => ?_); simp only [S1, simprocAttr, TTTrB, jl, j0, hnx, hxr, hs, hzl, hem, t49', hso, hsm, hne, hio, ha, hg, lookupA, M134, K134, Z134, TSz, z49_ne, z49_map, zS_len, all_scalar, takeA_arr, takeA_st, List.length_map, Option.getD_some, Int.toNat_natCast]; first | (refine hK1 _ ?_; clear hK1 K1) | ((first | refine hA ?_ | refine hB ?_); clear hA hB A B) | (((first | (refine ⟨fun hg => hA ?_, fun hg => hB ?_⟩ <;> clear hA hB A B) | refine ⟨fun hg => ?_, fun hg => ?_⟩) <;> (try simp only [BN2] at hg) <;> (try simp only [hg, cond_true, cond_false])) <;> (try (refine hK1 _ ?_; clear hK1 K1)) <;> (try simp only [BN3] at hg))) | (refine awp_seq_k fun K hK => ?_) | ((first | refine awp_region ?_ | refine awp_draw (by kernel_rfl) ?_ | refine awp_block ?_ | refine awp_exit ?_ | refine awp_skip ?_ | refine awp_ret ?_); (try simp only [NB, simprocAttr])))
      all_goals refine ⟨hlt, trivial, ?_⟩
      all_goals refine ⟨rfl, ⟨_, by rw [es, hpk0, List.append_assoc]; rfl⟩, ?_, trivial⟩
      all_goals simp only [putS_len]
      all_goals simp only [keeps, avlt, avlts, blksLt, frL, upd_get, S1, simprocAttr, List.length_map, Int.natCast_zero, AV.p.injEq, PV.int.injEq, PV.bool.injEq, PV.sl.injEq] <;> (try and_intros) <;> (try assumption) <;> (try trivial) <;> (try omega)
    · have hg := mget_out hin
      have ea : addO o s = o ++ [s] := by unfold addO; rw [if_neg hin]
      rw [ea] at es
      have hpk1 : putS h (o ++ [s]) = h ++ [some ⟨0, [.mp (o.map mkE ++ [(s, true)])]⟩, some ⟨0, [.mref h.length 0]⟩, some ⟨0, [.ref (h.length + 3) (o.length + 1) 0 49 (o.length + 1)]⟩, some ⟨o.length + 1, flatS o ++ s.map AV.i⟩] := by
        unfold putS; rw [flatS_app, List.map_append, List.length_append]; rfl
      have hpv := pvs_is s
      have hch := chunk_all 49 (s.map (PV.int .i64)) (by rw [List.length_map, hs])
      have hti : (s.map (PV.int .i64)).take 49 = s.map (PV.int .i64) := List.take_of_length_le (by rw [List.length_map, hs]; exact Nat.le_refl _)
      rw [hpk0]
      repeat' (first | ((first | refine aops_nil ?_ | refine aqops_nil ?_); (try simp only [NB])) | ((repeat ((fail_if_success (refine hK _ ?_)); clear hK K)); refine hK _ ?_; clear hK K) | ((first | refine aops_k fun K1 hK1 => ?_ | refine aqops_k fun K1 hK1 => ?_ | refine awp_cond_k fun A B hA hB => ?_); simp only [S1, simprocAttr, TTTrB, jl, j0, hnx, hxr, hs, hzl, hem, t49', hso, hsm, hne, hio, ha, hg, hmax, hfl, hpv, hch, hti, lookupA, mapUpdateA, M134, K134, Z134, TSz, z49_ne, z49_map, zS_len, all_scalar, takeA_arr, takeA_st, List.length_map, Option.getD_none, Int.toNat_natCast, Nat.zero_add, List.length_cons, List.length_nil, List.drop_zero]; first | (refine hK1 _ ?_; clear hK1 K1) | ((first | refine hA ?_ | refine hB ?_); clear hA hB A B) | (((first | (refine ⟨fun hg => hA ?_, fun hg => hB ?_⟩ <;> clear hA hB A B) | refine ⟨fun hg => ?_, fun hg => ?_⟩) <;> (try simp only [BN2] at hg) <;> (try simp only [hg, cond_true, cond_false])) <;> (try (refine hK1 _ ?_; clear hK1 K1)) <;> (try simp only [BN3] at hg))) | (refine awp_seq_k fun K hK => ?_) | ((first | refine awp_region ?_ | refine awp_draw (by kernel_rfl) ?_ | refine awp_block ?_ | refine awp_exit ?_ | refine awp_skip ?_ | refine awp_ret ?_); (try simp only [NB, simprocAttr])))
      all_goals refine ⟨hlt, trivial, ?_⟩
      all_goals refine ⟨rfl, ⟨_, by rw [es, hpk1, List.append_assoc]; rfl⟩, ?_, trivial⟩
      all_goals simp only [putS_len]
      all_goals simp only [keeps, avlt, avlts, blksLt, frL, upd_get, S1, simprocAttr, List.length_map, Int.natCast_zero, AV.p.injEq, PV.int.injEq, PV.bool.injEq, PV.sl.injEq] <;> (try and_intros) <;> (try assumption) <;> (try trivial) <;> (try omega)
  · obtain rfl : j = more.length := by omega
    have hfin : ∀ (b : Nat) (bk : Blk), (putS h (addS out more))[b]? = some (some bk) → (putS h out)[b]? = some (some bk) ∨ ∀ x, x ∈ bk.cells → AVlt (putS h out).length x := fun b bk hb => by
      rcases putS_keep h (addS out more) out b bk hb with h' | h'
      · exact .inl h'
      · right
        rw [putS_len] at h' ⊢
        exact avlts_lt _ h'
    have htk : (putS h (addS out more)).take (putS h out).length = putS h (addS out more) := List.take_of_length_le (by rw [putS_len, putS_len]; exact Nat.le_refl _)
    have hle : (putS h out).length ≤ (putS h (addS out more)).length := by rw [putS_len, putS_len]; exact Nat.le_refl _
    rw [List.take_length]
    repeat' (first | ((first | refine aops_nil ?_ | refine aqops_nil ?_); (try simp only [NB])) | ((repeat ((fail_if_success (refine hK _ ?_)); clear hK K)); refine hK _ ?_; clear hK K) | ((first | refine aops_k fun K1 hK1 => ?_ | refine aqops_k fun K1 hK1 => ?_ | refine awp_cond_k fun A B hA hB => ?_); simp only [S1, simprocAttr, TTTrB, Int.lt_irrefl]; first | (refine hK1 _ ?_; clear hK1 K1) | ((first | refine hA ?_ | refine hB ?_); clear hA hB A B) | (((first | (refine ⟨fun hg => hA ?_, fun hg => hB ?_⟩ <;> clear hA hB A B) | refine ⟨fun hg => ?_, fun hg => ?_⟩) <;> (try simp only [BN2] at hg) <;> (try simp only [hg, cond_true, cond_false])) <;> (try (refine hK1 _ ?_; clear hK1 K1)) <;> (try simp only [BN3] at hg))) | (refine awp_seq_k fun K hK => ?_) | ((first | refine awp_region ?_ | refine awp_draw (by kernel_rfl) ?_ | refine awp_block ?_ | refine awp_exit ?_ | refine awp_skip ?_ | refine awp_ret ?_); (try simp only [NB, simprocAttr])))
    all_goals simp only [EndH, FinH, resA, resL, resA1, lastV, lastA, lastAs, pur, purs, htk, S1, simprocAttr, Nat.le_add_right, Nat.le_refl]
    all_goals exact ⟨hle, hfin⟩

theorem eSt_len {l : List Sv} (h : St49 l) : ∀ s ∈ l, (eSt s).length = 49 := fun s hs => by unfold eSt; rw [List.length_map]; exact h s hs
theorem chunk_sts : ∀ {l : List Sv}, St49 l → chunk 49 l.length (l.flatMap eSt) = l.map eSt
  | [], _ => rfl
  | s :: r, h => by
    have ih := chunk_sts (l := r) fun t ht => h t (by simp [ht])
    have hs : (eSt s).length = 49 := eSt_len h s (by simp)
    rw [List.length_cons, chunk, List.flatMap_cons, List.take_left' hs, List.drop_left' hs, ih]; rfl
theorem purs_sts (h : Heap) (n fuel : Nat) (l : List Sv) : purs h n fuel (flatS l) = some (l.flatMap eSt) := by
  unfold flatS eSt
  rw [← List.map_flatMap, ← List.map_flatMap]
  exact purs_is h n fuel _
theorem pur_sts {h : Heap} {n fuel b g m : Nat} {l : List Sv} (h49 : St49 l) (hm : m = l.length) (hb : blkAt h b g = some (flatS l)) (hn : n ≤ b) : pur h n (fuel + 1) (.ref b g 0 49 m) = some (.sl (l.map eSt)) := by
  subst hm
  unfold pur
  by_cases h0 : l.length = 0
  · rw [if_pos h0]; have := List.eq_nil_of_length_eq_zero h0; subst this; rfl
  · rw [if_neg h0, hb]
    have e : (flatS l).length = l.length * 49 := flatS_len h49
    simp only [hn, true_and, Nat.zero_add, e, Nat.le_refl, if_true, List.drop_zero]
    rw [List.take_of_length_le (by rw [e]; exact Nat.le_refl _), purs_sts]
    simp only [Option.map_some, chunk_sts h49]
theorem EndP_sts {P : Program} {h : Heap} {K : AV → Prop} {x : Exit} {s : St} (hx : x = .normal ∨ x = .ret) {t b g m : Nat} {l : List Sv} (h49 : St49 l) (hm : m = l.length) (hf : s.fr t = some (.ref b g 0 49 m))
    (hb : blkAt s.heap b g = some (flatS l)) (hn : h.length ≤ b) (ht : s.heap.take h.length = h) (hle : h.length ≤ s.heap.length) (hk : K (aSts l)) : EndP P [.tmp t] h K x s := by
  have key : FinP P [.tmp t] h K s := by
    unfold FinP
    simp only [resA, resL, resA1, hf, lastV, lastA, pur_sts h49 hm hb hn, Option.map_some]
    exact ⟨ht, hle, hk⟩
  rcases hx with rfl | rfl <;> exact key
theorem EndP_stsB {P : Program} {h : Heap} {K : AV → Prop} {x : Exit} {s : St} (hx : x = .normal ∨ x = .ret) {t t2 b g m : Nat} {l : List Sv} {y : Bool} (h49 : St49 l) (hm : m = l.length) (hf : s.fr t = some (.ref b g 0 49 m)) (hf2 : s.fr t2 = some (.b y))
    (hb : blkAt s.heap b g = some (flatS l)) (hn : h.length ≤ b) (ht : s.heap.take h.length = h) (hle : h.length ≤ s.heap.length) (hk : K (.tup [aSts l, .b y])) : EndP P [.tmp t, .tmp t2] h K x s := by
  have key : FinP P [.tmp t, .tmp t2] h K s := by
    unfold FinP
    simp only [resA, resL, resA1, hf, hf2, lastV, lastAs, lastA, pur_sts h49 hm hb hn, pur, Option.map_some]
    exact ⟨ht, hle, hk⟩
  rcases hx with rfl | rfl <;> exact key

/-- A round of the loop over what is found. -/
structure Qsp where
  i : Nat
  out : List Sv

theorem spread_calls {f : FuncId} (hE : Enters Tryz.prog f) {caps : List AV} {h : Heap} (hcap : avlts h.length caps) {nx : Sv → List Sv} (hnx49 : ∀ s, s.length = 49 → St49 (nx s)) (hnl : ∀ s, (nx s).length ≤ 2500)
    (hnx : ∀ s, s.length = 49 → ∀ L : Heap, ACalls Tryz.prog G f (aS s :: caps) (h ++ L) (fun r h' => r = aSts (nx s) ∧ h' = h ++ L)) {l : List Sv} (h49 : St49 l) (hl : l.length ≤ 8000000) :
    ACalls Tryz.prog G 53 [aSts l, .i 1500, .fn f caps] h (fun r h' => r = .tup [aSts (closeW nx 1500 l), .b (decide ((closeW nx 1500 l).length ≤ 1500))] ∧ h' = h) := by
  have hadd0 := sadd_calls (G := G) h (out := []) (more := l) (fun s hs => by cases hs) h49 (by simp; omega)
  have hp0 : h ++ [some ⟨0, [.mp []]⟩, some ⟨0, [.mref h.length 0]⟩, some ⟨0, [.ref (h.length + 3) 0 0 49 0]⟩, some ⟨0, []⟩] = putS h [] := rfl
  refine acalls_pure (rl := []) mixed Tryz.func53 rfl (rs := [.tmp 6, .tmp 7]) rfl Tryz.ntmps53 (by simp) ?_
  refine awp_seq_k fun K hK => ?_
  repeat' (first | ((first | refine aops_nil ?_ | refine aqops_nil ?_); (try simp only [NB]); ((repeat ((fail_if_success (refine hK _ ?_)); clear hK K)); refine hK _ ?_; clear hK K)) | ((first | refine aops_k fun K1 hK1 => ?_ | refine aqops_k fun K1 hK1 => ?_ | refine awp_cond_k fun A B hA hB => ?_); simp only [S1, simprocAttr, TTTrB, T134]; first | (refine hK1 _ ?_; clear hK1 K1) | ((first | refine hA ?_ | refine hB ?_); clear hA hB A B) | (refine join_x (v := ?_) (fun hg hk9 => ?_) ?_; rotate_left; (focus (try ((try simp only [BN] at hg); simp only [S1, simprocAttr, TTTrB, T134, hg] at hk9 ⊢)); first | exact hk9); (refine hK1 _ ?_; clear hK1 K1)) | (((first | (refine ⟨fun hg => hA ?_, fun hg => hB ?_⟩ <;> clear hA hB A B) | refine ⟨fun hg => ?_, fun hg => ?_⟩) <;> (try simp only [BN2] at hg) <;> (try simp only [hg, cond_true, cond_false])) <;> (try (refine hK1 _ ?_; clear hK1 K1)) <;> (try simp only [BN3] at hg))) | (fail) | ((first | refine awp_region ?_ | refine awp_draw (by kernel_rfl) ?_ | refine awp_block ?_ | refine awp_exit ?_ | refine awp_skip ?_ | refine awp_ret ?_); (try simp only [NB, simprocAttr]); (try ((repeat ((fail_if_success (refine hK _ ?_)); clear hK K)); refine hK _ ?_; clear hK K))))
  refine awp_seq_k fun K hK => ?_
  repeat' (first | ((first | refine aops_nil ?_ | refine aqops_nil ?_); (try simp only [NB]); ((repeat ((fail_if_success (refine hK _ ?_)); clear hK K)); refine hK _ ?_; clear hK K)) | ((first | refine aops_k fun K1 hK1 => ?_ | refine aqops_k fun K1 hK1 => ?_ | refine awp_cond_k fun A B hA hB => ?_); simp only [S1, simprocAttr, TTTrB, T134]; first | (refine hK1 _ ?_; clear hK1 K1) | ((first | refine hA ?_ | refine hB ?_); clear hA hB A B) | (refine join_x (v := ?_) (fun hg hk9 => ?_) ?_; rotate_left; (focus (try ((try simp only [BN] at hg); simp only [S1, simprocAttr, TTTrB, T134, hg] at hk9 ⊢)); first | exact hk9); (refine hK1 _ ?_; clear hK1 K1)) | (((first | (refine ⟨fun hg => hA ?_, fun hg => hB ?_⟩ <;> clear hA hB A B) | refine ⟨fun hg => ?_, fun hg => ?_⟩) <;> (try simp only [BN2] at hg) <;> (try simp only [hg, cond_true, cond_false])) <;> (try (refine hK1 _ ?_; clear hK1 K1)) <;> (try simp only [BN3] at hg))) | (fail) | ((first | refine awp_region ?_ | refine awp_draw (by kernel_rfl) ?_ | refine awp_block ?_ | refine awp_exit ?_ | refine awp_skip ?_ | refine awp_ret ?_); (try simp only [NB, simprocAttr]); (try ((repeat ((fail_if_success (refine hK _ ?_)); clear hK K)); refine hK _ ?_; clear hK K))))
  refine awp_tellG ⟨frL [(8, .ptr (h.length + 1) 0 0), (9, .ptr (h.length + 2) 0 0), (0, aSts l), (1, .i 1500), (2, .fn f caps)], 42, putS h []⟩ (fun K hK => ?_) ?_
  · repeat' (first | ((first | refine aops_nil ?_ | refine aqops_nil ?_); (try simp only [NB])) | ((repeat ((fail_if_success (refine hK _ ?_)); clear hK K)); refine hK _ ?_; clear hK K) | ((first | refine aops_k fun K1 hK1 => ?_ | refine aqops_k fun K1 hK1 => ?_ | refine awp_cond_k fun A B hA hB => ?_); simp only [S1, simprocAttr, TTTrB]; first | (refine hK1 _ ?_; clear hK1 K1) | ((first | refine hA ?_ | refine hB ?_); clear hA hB A B) | (refine join_x (v := ?_) (fun hg hk9 => ?_) ?_; rotate_left; (focus (try ((try simp only [BN] at hg); simp only [S1, simprocAttr, TTTrB, hg] at hk9 ⊢)); first | exact hk9); (refine hK1 _ ?_; clear hK1 K1)) | (((first | (refine ⟨fun hg => hA ?_, fun hg => hB ?_⟩ <;> clear hA hB A B) | refine ⟨fun hg => ?_, fun hg => ?_⟩) <;> (try simp only [BN2] at hg) <;> (try simp only [hg, cond_true, cond_false])) <;> (try (refine hK1 _ ?_; clear hK1 K1)) <;> (try simp only [BN3] at hg))) | (refine awp_seq_k fun K hK => ?_) | ((first | refine awp_region ?_ | refine awp_draw (by kernel_rfl) ?_ | refine awp_block ?_ | refine awp_exit ?_ | refine awp_skip ?_ | refine awp_ret ?_); (try simp only [NB, simprocAttr])))
    refine (Ghost.adoptCell 49 (b := h.length + 2) (j := 0) (bk := ⟨0, [.p .nils]⟩) (by simp [get_app]) rfl (by omega)).trans (Sub.ghost ⟨rfl, ⟨[], by simp [flatS, set_app]⟩, ?_, ?_⟩)
    · have hc4 := avlts_mono (Nat.le_add_right h.length 4) caps hcap
      simp only [keeps, avlt, avlts, blksLt, frL, upd_get, S1, simprocAttr, List.length_map, Int.natCast_zero, AV.p.injEq, PV.int.injEq, PV.bool.injEq, PV.sl.injEq] <;> (try and_intros) <;> (try assumption) <;> (try trivial) <;> (try omega)
      all_goals exact hc4
    · exact ⟨⟨trivial, trivial⟩, ⟨by simp [avlt], trivial⟩, ⟨by simp [avlt], trivial⟩, trivial, trivial⟩
  have hEa := E74
  repeat' (first | ((first | refine aops_nil ?_ | refine aqops_nil ?_); (try simp only [NB])) | ((repeat ((fail_if_success (refine hK _ ?_)); clear hK K)); refine hK _ ?_; clear hK K) | ((first | refine aops_k fun K1 hK1 => ?_ | refine aqops_k fun K1 hK1 => ?_ | refine awp_cond_k fun A B hA hB => ?_); simp only [S1, simprocAttr, TTTrB, putS_len]; first | (refine hK1 _ ?_; clear hK1 K1) | ((first | refine hA ?_ | refine hB ?_); clear hA hB A B) | ((first | apply call_a E74 | apply call_q E74); exact hadd0; (refine hK1 _ ?_; clear hK1 K1)) | (refine join_x (v := ?_) (fun hg hk9 => ?_) ?_; rotate_left; (focus (try ((try simp only [BN] at hg); simp only [S1, simprocAttr, TTTrB, putS_len, hg] at hk9 ⊢)); first | exact hk9 | ((first | apply call_a E74 | apply call_q E74); exact hadd0; exact hk9)); (refine hK1 _ ?_; clear hK1 K1)) | (((first | (refine ⟨fun hg => hA ?_, fun hg => hB ?_⟩ <;> clear hA hB A B) | refine ⟨fun hg => ?_, fun hg => ?_⟩) <;> (try simp only [BN2] at hg) <;> (try simp only [hg, cond_true, cond_false])) <;> (try (refine hK1 _ ?_; clear hK1 K1)) <;> (try simp only [BN3] at hg))) | (refine awp_seq_k fun K hK => ?_) | ((first | refine awp_region ?_ | refine awp_draw (by kernel_rfl) ?_ | refine awp_block ?_ | refine awp_exit ?_ | refine awp_skip ?_ | refine awp_ret ?_); (try simp only [NB, simprocAttr])))
  refine awp_whileG (σ := Qsp) (fun q => 1501 - q.i) 42 (fun q => [(11, .i q.i), (10, .fn 74 [.ptr (h.length + 1) 0 0, .ptr (h.length + 2) 0 0]), (9, .ptr (h.length + 2) 0 0), (1, .i 1500), (2, .fn f caps)])
    (fun q => [some ⟨0, [.mp (q.out.map mkE)]⟩, some ⟨0, [.mref h.length 0]⟩, some ⟨0, [.ref (h.length + 3) q.out.length 0 49 q.out.length]⟩, some ⟨q.out.length, flatS q.out⟩])
    (fun q => q.i ≤ 1501 ∧ St49 q.out ∧ q.out.length ≤ 8000000 ∧ closeW nx 1500 l = closeF nx 1500 (1501 - q.i) q.i q.out) ⟨0, addS [] l⟩ ?_ ?_ fun q hp K hK => ?_
  · refine Sub.ghost ⟨rfl, ⟨[], by rw [List.append_nil]; rfl⟩, ?_, ?_⟩
    · have hc4 := avlts_mono (Nat.le_add_right h.length 4) caps hcap
      simp only [keeps, avlt, avlts, blksLt, frL, upd_get, S1, simprocAttr, List.length_map, Int.natCast_zero, AV.p.injEq, PV.int.injEq, PV.bool.injEq, PV.sl.injEq] <;> (try and_intros) <;> (try assumption) <;> (try trivial) <;> (try omega)
      all_goals exact hc4
    · exact ⟨⟨trivial, trivial⟩, ⟨by simp [avlt], trivial⟩, ⟨by simp [avlt], trivial⟩, flatS_avl _ _, trivial⟩
  · refine ⟨by show 0 ≤ 1501; omega, st49_addS (fun s hs => by cases hs) h49, ?_, rfl⟩
    have := (addS_len l []).1
    simp only [List.length_nil, Nat.zero_add] at this
    show (addS [] l).length ≤ 8000000
    omega
  obtain ⟨i, out⟩ := q
  obtain ⟨p1, p2, p3, p4⟩ := hp
  simp only at p1 p2 p3 p4 hK ⊢
  have hpk : h ++ [some ⟨0, [.mp (out.map mkE)]⟩, some ⟨0, [.mref h.length 0]⟩, some ⟨0, [.ref (h.length + 3) out.length 0 49 out.length]⟩, some ⟨out.length, flatS out⟩] = putS h out := rfl
  have hfl := flatS_len p2
  have i0 : (0 : Int) ≤ (i : Int) := by omega
  have hnx1 : IntKind.i64.wrap ((i : Int) + 1) = ((i + 1 : Nat) : Int) := by rw [IntWalk.i64_in _ (by omega)]; omega
  have hend : ∀ {fr : Nat → Option AV} (y : Bool), closeW nx 1500 l = out → fr 6 = some (.ref (h.length + 3) out.length 0 49 out.length) → fr 7 = some (.b y) → y = decide (out.length ≤ 1500) → EndP Tryz.prog [.tmp 6, .tmp 7] h (fun r => r = .tup [aSts (closeW nx 1500 l), .b (decide ((closeW nx 1500 l).length ≤ 1500))]) .ret
      ⟨fr, 42, h ++ [some ⟨0, [.mp (out.map mkE)]⟩, some ⟨0, [.mref h.length 0]⟩, some ⟨0, [.ref (h.length + 3) out.length 0 49 out.length]⟩, some ⟨out.length, flatS out⟩]⟩ := fun y e1 e2 e3 e4 => by
    rw [e1, ← e4]
    exact EndP_stsB (.inr rfl) (t := 6) (t2 := 7) p2 rfl e2 e3 (by simp [blkAt, get_app]) (Nat.le_add_right _ _) (by simp) (by simp) rfl
  by_cases hlt : i < out.length
  · have hi : (i : Int) < (out.length : Int) := by omega
    obtain ⟨s, hx⟩ : ∃ k, out[i]? = some k := ⟨_, List.getElem?_eq_getElem hlt⟩
    by_cases hmost : out.length ≤ 1500
    · have hm : (out.length : Int) ≤ 1500 := by omega
      have hs : s.length = 49 := p2 s (List.mem_of_getElem? hx)
      have hft := flatS_take p2 hx
      have hle : 49 ≤ out.length * 49 - i * 49 := by omega
      have hn1 := hnx s hs [some ⟨0, [.mp (out.map mkE)]⟩, some ⟨0, [.mref h.length 0]⟩, some ⟨0, [.ref (h.length + 3) out.length 0 49 out.length]⟩, some ⟨out.length, flatS out⟩]
      have hnl1 := hnl s
      have ha1 := sadd_calls (G := G) h p2 (hnx49 s hs) (by omega)
      have hEa := E74
      have hao := (addS_len (nx s) out).1
      have p4' : closeW nx 1500 l = closeF nx 1500 (1501 - (i + 1)) (i + 1) (addS out (nx s)) := by
        rw [p4]
        obtain ⟨k, hk⟩ : ∃ k, 1501 - i = k + 1 := ⟨1500 - i, by omega⟩
        rw [hk, show 1501 - (i + 1) = k by omega]
        conv => lhs; unfold closeF
        rw [hx]; simp only; rw [if_pos hmost]
      repeat' (first | ((first | refine aops_nil ?_ | refine aqops_nil ?_); (try simp only [NB])) | ((repeat ((fail_if_success (refine hK _ ?_)); clear hK K)); refine hK _ ?_; clear hK K) | ((first | refine aops_k fun K1 hK1 => ?_ | refine aqops_k fun K1 hK1 => ?_ | refine awp_cond_k fun A B hA hB => ?_); simp only [S1, simprocAttr, TTTrB, hi, hm, i0, hnx1, hft, hle, hfl, TSz, all_scalar, takeA_arr, takeA_st, List.length_map, List.length_drop, Int.toNat_natCast, Nat.zero_add]; first | (refine hK1 _ ?_; clear hK1 K1) | ((first | refine hA ?_ | refine hB ?_); clear hA hB A B) | ((first | apply call_a hE | apply call_q hE); exact hn1; (refine hK1 _ ?_; clear hK1 K1)) | ((first | apply call_a E74 | apply call_q E74); exact ha1; (refine hK1 _ ?_; clear hK1 K1)) | (refine join_x (v := ?_) (fun hg hk9 => ?_) ?_; rotate_left; (focus (try ((try simp only [BN] at hg); simp only [S1, simprocAttr, TTTrB, hi, hm, i0, hnx1, hft, hle, hfl, TSz, all_scalar, takeA_arr, takeA_st, List.length_map, List.length_drop, Int.toNat_natCast, Nat.zero_add, hg] at hk9 ⊢)); first | exact hk9 | ((first | apply call_a hE | apply call_q hE); exact hn1; exact hk9) | ((first | apply call_a E74 | apply call_q E74); exact ha1; exact hk9)); (refine hK1 _ ?_; clear hK1 K1)) | (((first | (refine ⟨fun hg => hA ?_, fun hg => hB ?_⟩ <;> clear hA hB A B) | refine ⟨fun hg => ?_, fun hg => ?_⟩) <;> (try simp only [BN2] at hg) <;> (try simp only [hg, cond_true, cond_false])) <;> (try (refine hK1 _ ?_; clear hK1 K1)) <;> (try simp only [BN3] at hg))) | (refine awp_seq_k fun K hK => ?_) | ((first | refine awp_region ?_ | refine awp_draw (by kernel_rfl) ?_ | refine awp_block ?_ | refine awp_exit ?_ | refine awp_skip ?_ | refine awp_ret ?_); (try simp only [NB, simprocAttr])))
      all_goals refine ⟨⟨i + 1, addS out (nx s)⟩, by simp only; omega, ⟨by simp only; omega, st49_addS p2 (hnx49 s hs), by simp only; omega, p4'⟩, ?_⟩
      all_goals refine ⟨rfl, ⟨[], by rw [List.append_nil]; rfl⟩, ?_, ?_⟩
      · have hc4 := avlts_mono (Nat.le_add_right h.length 4) caps hcap
        simp only [keeps, avlt, avlts, blksLt, frL, upd_get, S1, simprocAttr, List.length_map, Int.natCast_zero, AV.p.injEq, PV.int.injEq, PV.bool.injEq, PV.sl.injEq] <;> (try and_intros) <;> (try assumption) <;> (try trivial) <;> (try omega)
        all_goals exact hc4
      · exact ⟨⟨trivial, trivial⟩, ⟨by simp [avlt], trivial⟩, ⟨by simp [avlt], trivial⟩, flatS_avl _ _, trivial⟩
    · have hm : ¬ (out.length : Int) ≤ 1500 := by omega
      have e : closeW nx 1500 l = out := by
        rw [p4]
        cases hq : 1501 - i with
        | zero => rfl
        | succ f => unfold closeF; rw [hx]; simp only; rw [if_neg hmost]
      repeat' (first | ((first | refine aops_nil ?_ | refine aqops_nil ?_); (try simp only [NB])) | ((repeat ((fail_if_success (refine hK _ ?_)); clear hK K)); refine hK _ ?_; clear hK K) | ((first | refine aops_k fun K1 hK1 => ?_ | refine aqops_k fun K1 hK1 => ?_ | refine awp_cond_k fun A B hA hB => ?_); simp only [S1, simprocAttr, TTTrB, hi, hm, List.length_map]; first | (refine hK1 _ ?_; clear hK1 K1) | ((first | refine hA ?_ | refine hB ?_); clear hA hB A B) | (refine join_x (v := ?_) (fun hg hk9 => ?_) ?_; rotate_left; (focus (try ((try simp only [BN] at hg); simp only [S1, simprocAttr, TTTrB, hi, hm, List.length_map, hg] at hk9 ⊢)); first | exact hk9); (refine hK1 _ ?_; clear hK1 K1)) | (((first | (refine ⟨fun hg => hA ?_, fun hg => hB ?_⟩ <;> clear hA hB A B) | refine ⟨fun hg => ?_, fun hg => ?_⟩) <;> (try simp only [BN2] at hg) <;> (try simp only [hg, cond_true, cond_false])) <;> (try (refine hK1 _ ?_; clear hK1 K1)) <;> (try simp only [BN3] at hg))) | (refine awp_seq_k fun K hK => ?_) | ((first | refine awp_region ?_ | refine awp_draw (by kernel_rfl) ?_ | refine awp_block ?_ | refine awp_exit ?_ | refine awp_skip ?_ | refine awp_ret ?_); (try simp only [NB, simprocAttr])))
      all_goals exact hend false e rfl rfl (by simp [hmost])
  · have hi : ¬ (i : Int) < (out.length : Int) := by omega
    have e : closeW nx 1500 l = out := by
      rw [p4]
      cases hq : 1501 - i with
      | zero => rfl
      | succ f => unfold closeF; rw [List.getElem?_eq_none (by omega)]
    by_cases hmost : out.length ≤ 1500
    · have hm : (out.length : Int) ≤ 1500 := by omega
      repeat' (first | ((first | refine aops_nil ?_ | refine aqops_nil ?_); (try simp only [NB])) | ((repeat ((fail_if_success (refine hK _ ?_)); clear hK K)); refine hK _ ?_; clear hK K) | ((first | refine aops_k fun K1 hK1 => ?_ | refine aqops_k fun K1 hK1 => ?_ | refine awp_cond_k fun A B hA hB => ?_); simp only [S1, simprocAttr, TTTrB, hi, hm, List.length_map]; first | (refine hK1 _ ?_; clear hK1 K1) | ((first | refine hA ?_ | refine hB ?_); clear hA hB A B) | (refine join_x (v := ?_) (fun hg hk9 => ?_) ?_; rotate_left; (focus (try ((try simp only [BN] at hg); simp only [S1, simprocAttr, TTTrB, hi, hm, List.length_map, hg] at hk9 ⊢)); first | exact hk9); (refine hK1 _ ?_; clear hK1 K1)) | (((first | (refine ⟨fun hg => hA ?_, fun hg => hB ?_⟩ <;> clear hA hB A B) | refine ⟨fun hg => ?_, fun hg => ?_⟩) <;> (try simp only [BN2] at hg) <;> (try simp only [hg, cond_true, cond_false])) <;> (try (refine hK1 _ ?_; clear hK1 K1)) <;> (try simp only [BN3] at hg))) | (refine awp_seq_k fun K hK => ?_) | ((first | refine awp_region ?_ | refine awp_draw (by kernel_rfl) ?_ | refine awp_block ?_ | refine awp_exit ?_ | refine awp_skip ?_ | refine awp_ret ?_); (try simp only [NB, simprocAttr])))
      all_goals exact hend true e rfl rfl (by simp [hmost])
    · have hm : ¬ (out.length : Int) ≤ 1500 := by omega
      repeat' (first | ((first | refine aops_nil ?_ | refine aqops_nil ?_); (try simp only [NB])) | ((repeat ((fail_if_success (refine hK _ ?_)); clear hK K)); refine hK _ ?_; clear hK K) | ((first | refine aops_k fun K1 hK1 => ?_ | refine aqops_k fun K1 hK1 => ?_ | refine awp_cond_k fun A B hA hB => ?_); simp only [S1, simprocAttr, TTTrB, hi, hm, List.length_map]; first | (refine hK1 _ ?_; clear hK1 K1) | ((first | refine hA ?_ | refine hB ?_); clear hA hB A B) | (refine join_x (v := ?_) (fun hg hk9 => ?_) ?_; rotate_left; (focus (try ((try simp only [BN] at hg); simp only [S1, simprocAttr, TTTrB, hi, hm, List.length_map, hg] at hk9 ⊢)); first | exact hk9); (refine hK1 _ ?_; clear hK1 K1)) | (((first | (refine ⟨fun hg => hA ?_, fun hg => hB ?_⟩ <;> clear hA hB A B) | refine ⟨fun hg => ?_, fun hg => ?_⟩) <;> (try simp only [BN2] at hg) <;> (try simp only [hg, cond_true, cond_false])) <;> (try (refine hK1 _ ?_; clear hK1 K1)) <;> (try simp only [BN3] at hg))) | (refine awp_seq_k fun K hK => ?_) | ((first | refine awp_region ?_ | refine awp_draw (by kernel_rfl) ?_ | refine awp_block ?_ | refine awp_exit ?_ | refine awp_skip ?_ | refine awp_ret ?_); (try simp only [NB, simprocAttr])))
      all_goals exact hend false e rfl rfl (by simp [hmost])
end Go.Proofs.YtbbmfemplmelhaaGreatDoor.AM
end

section
set_option linter.unusedVariables false
set_option linter.unusedSimpArgs false
set_option maxRecDepth 4000
set_option maxHeartbeats 4000000
namespace Go.Proofs.YtbbmfemplmelhaaGreatDoor.AM
open Go Go.Proofs
set_option linter.defProp false in
def TTTrC := And.intro T2 (And.intro T3 (And.intro T4 (And.intro T25 (And.intro T26 (And.intro T28 (And.intro T31 (And.intro T34 (And.intro T41 (And.intro T57 (And.intro T58 (And.intro T62 (And.intro T65 (And.intro T89 T92)))))))))))))
attribute [local irreducible] awp aops aqops aeops arun arunT

def labS (y : Sp) : Lb := (y.lk, y.ln, y.la)
abbrev aL (x : Lb) : AV := .agg [.i x.1, .i x.2.1, .i x.2.2]
def ledF (sl : List Sp) (x : Lb) : List Sv := (sl.filter fun y => labS y = x).map (·.to)
noncomputable def ledW (ns : List Nd) (fl : List Fl) (S : Sv) (x : Lb) : List Sv := ledF (stepsG ns fl S) x
theorem ledF_succ {sl : List Sp} {j : Nat} {y : Sp} (h : sl[j]? = some y) (x : Lb) : ledF (sl.take (j + 1)) x = ledF (sl.take j) x ++ if labS y = x then [y.to] else [] := by
  unfold ledF
  rw [List.take_add_one, h, List.filter_append, List.map_append]
  congr 1
  by_cases hc : labS y = x <;> simp [hc]
theorem ledF_le (sl : List Sp) (j : Nat) (x : Lb) : (ledF (sl.take j) x).length ≤ sl.length := by
  unfold ledF
  rw [List.length_map]
  exact Nat.le_trans (List.length_filter_le _ _) (by rw [List.length_take]; omega)
theorem ledF_49 {sl : List Sp} (h : ∀ y ∈ sl, y.to.length = 49) (x : Lb) : St49 (ledF sl x) := fun s hs => by
  unfold ledF at hs
  obtain ⟨y, hy, rfl⟩ := List.mem_map.mp hs
  exact h y (List.mem_filter.mp hy).1
theorem eqLb (a b : Lb) : eqCells true [AV.i a.1, AV.i a.2.1, AV.i a.2.2] [AV.i b.1, AV.i b.2.1, AV.i b.2.2] = some (decide (a = b)) := by
  simp only [eqCells]
  obtain ⟨a1, a2, a3⟩ := a
  obtain ⟨b1, b2, b3⟩ := b
  by_cases h1 : a1 = b1 <;> by_cases h2 : a2 = b2 <;> by_cases h3 : a3 = b3 <;> simp [h1, h2, h3]

theorem led_calls {ns : List Nd} {fl : List Fl} (nk : NetOk ns fl) {S : Sv} (hS : S.length = 49) (x : Lb) (h : Heap) :
    ACalls Tryz.prog gW 31 [aNet ns fl, aS S, aL x] h (fun r h' => r = aSts (ledW ns fl S x) ∧ h' = h) := by
  have hne := ne_is hS
  have hmv := fun h => moves_calls nk hS h
  have hto := stepsG_to (ns := ns) (fl := fl) hS
  have hln := stepsG_len (ns := ns) (fl := fl) (S := S)
  have hzl : (zS.map AV.i).length = 49 := by rw [List.length_map]; rfl
  have hem : (zS.map AV.i).isEmpty = false := rfl
  have t49' : (S.map AV.i).take 49 = S.map AV.i := List.take_of_length_le (by rw [List.length_map, hS]; exact Nat.le_refl _)
  have hdo : ∀ (j : Nat) (y : Sp), (stepsG ns fl S)[j]? = some y → ∀ h, ACalls Tryz.prog gW 52 [aNet ns fl, aS S, .i j] h (fun r h' => r = .tup [aS y.to, aLb y, .i 0] ∧ h' = h) := by
    intro j y hy h
    have h0 : stC ns fl S = 0 := by
      rcases Classical.em (stC ns fl S = 0) with e | e
      · exact e
      · exfalso
        have : stepsG ns fl S = [] := by unfold stepsG; rw [if_pos (.inl e)]
        rw [this] at hy; simp at hy
    have := do_calls nk hS (j : Int) h
    have e : doG ns fl S (j : Int) = (y, 0) := by unfold doG; rw [if_neg (by simpa using h0), if_neg (by omega), Int.toNat_natCast, hy]
    rw [e] at this
    exact this
  refine acalls_pure (rl := []) mixed Tryz.func31 rfl (rs := [.tmp 6]) rfl Tryz.ntmps31 (by simp) ?_
  refine awp_seq_k fun K hK => ?_
  repeat' (first | ((first | refine aops_nil ?_ | refine aqops_nil ?_); (try simp only [NB]); ((repeat ((fail_if_success (refine hK _ ?_)); clear hK K)); refine hK _ ?_; clear hK K)) | ((first | refine aops_k fun K1 hK1 => ?_ | refine aqops_k fun K1 hK1 => ?_ | refine awp_cond_k fun A B hA hB => ?_); simp only [S1, simprocAttr, TTTrC, hne, hS, all_scalar]; first | (refine hK1 _ ?_; clear hK1 K1) | ((first | refine hA ?_ | refine hB ?_); clear hA hB A B) | (((first | (refine ⟨fun hg => hA ?_, fun hg => hB ?_⟩ <;> clear hA hB A B) | refine ⟨fun hg => ?_, fun hg => ?_⟩) <;> (try simp only [BN2] at hg) <;> (try simp only [hg, cond_true, cond_false])) <;> (try (refine hK1 _ ?_; clear hK1 K1)) <;> (try simp only [BN3] at hg))) | (fail) | ((first | refine awp_region ?_ | refine awp_draw (by kernel_rfl) ?_ | refine awp_block ?_ | refine awp_exit ?_ | refine awp_skip ?_ | refine awp_ret ?_); (try simp only [NB, simprocAttr]); (try ((repeat ((fail_if_success (refine hK _ ?_)); clear hK K)); refine hK _ ?_; clear hK K))))
  refine awp_seq_k fun K hK => ?_
  repeat' (first | ((first | refine aops_nil ?_ | refine aqops_nil ?_); (try simp only [NB]); ((repeat ((fail_if_success (refine hK _ ?_)); clear hK K)); refine hK _ ?_; clear hK K)) | ((first | refine aops_k fun K1 hK1 => ?_ | refine aqops_k fun K1 hK1 => ?_ | refine awp_cond_k fun A B hA hB => ?_); simp only [S1, simprocAttr, TTTrC]; first | (refine hK1 _ ?_; clear hK1 K1) | ((first | refine hA ?_ | refine hB ?_); clear hA hB A B) | (((first | (refine ⟨fun hg => hA ?_, fun hg => hB ?_⟩ <;> clear hA hB A B) | refine ⟨fun hg => ?_, fun hg => ?_⟩) <;> (try simp only [BN2] at hg) <;> (try simp only [hg, cond_true, cond_false])) <;> (try (refine hK1 _ ?_; clear hK1 K1)) <;> (try simp only [BN3] at hg))) | (fail) | ((first | refine awp_region ?_ | refine awp_draw (by kernel_rfl) ?_ | refine awp_block ?_ | refine awp_exit ?_ | refine awp_skip ?_ | refine awp_ret ?_); (try simp only [NB, simprocAttr]); (try ((repeat ((fail_if_success (refine hK _ ?_)); clear hK K)); refine hK _ ?_; clear hK K))))
  refine awp_seq_k fun K hK => ?_
  repeat' (first | ((first | refine aops_nil ?_ | refine aqops_nil ?_); (try simp only [NB])) | ((repeat ((fail_if_success (refine hK _ ?_)); clear hK K)); refine hK _ ?_; clear hK K) | ((first | refine aops_k fun K1 hK1 => ?_ | refine aqops_k fun K1 hK1 => ?_ | refine awp_cond_k fun A B hA hB => ?_); simp only [S1, simprocAttr, TTTrC, TSz, z49_ne, hne, hS, all_scalar, t49', takeA_arr, takeA_st, List.length_map]; first | (refine hK1 _ ?_; clear hK1 K1) | ((first | refine hA ?_ | refine hB ?_); clear hA hB A B) | ((first | apply call_a E38 | apply call_q E38); exact (hmv _); (refine hK1 _ ?_; clear hK1 K1)) | (((first | (refine ⟨fun hg => hA ?_, fun hg => hB ?_⟩ <;> clear hA hB A B) | refine ⟨fun hg => ?_, fun hg => ?_⟩) <;> (try simp only [BN2] at hg) <;> (try simp only [hg, cond_true, cond_false])) <;> (try (refine hK1 _ ?_; clear hK1 K1)) <;> (try simp only [BN3] at hg))) | (refine awp_seq_k fun K hK => ?_) | ((first | refine awp_region ?_ | refine awp_draw (by kernel_rfl) ?_ | refine awp_block ?_ | refine awp_exit ?_ | refine awp_skip ?_ | refine awp_ret ?_); (try simp only [NB, simprocAttr])))
  have hW : ledW ns fl S x = ledF (stepsG ns fl S) x := rfl
  clear hmv
  generalize stepsG ns fl S = sl at *
  refine awp_forG sl.length 40 (fun j => [(17, .i j), (16, .i sl.length), (15, aMvs sl), (7, .ref (h.length + 3) (ledF (sl.take j) x).length 0 49 (ledF (sl.take j) x).length), (3, .ptr h.length 0 0), (4, .ptr (h.length + 1) 0 0), (5, .ptr (h.length + 2) 0 0)])
    (fun j => [some ⟨0, cNet ns fl⟩, some ⟨0, S.map AV.i⟩, some ⟨0, [.i x.1, .i x.2.1, .i x.2.2]⟩, some ⟨(ledF (sl.take j) x).length, flatS (ledF (sl.take j) x)⟩]) (fun j => True) ?_ trivial fun j hj hp K hK => ?_
  · refine (Ghost.adopt 7 49 rfl).trans (Sub.ghost ⟨rfl, ⟨[], by simp [flatS, ledF]⟩, ?_, ⟨trivial, trivial, trivial⟩, avlts_is _ _, ⟨trivial, trivial, trivial, trivial⟩, trivial, trivial⟩)
    simp only [keeps, avlt, upd_get, frL, List.length_cons, List.length_nil]
    simp [ledF]
  rcases Nat.lt_or_ge j sl.length with hlt | hge
  · obtain ⟨y, hy⟩ : ∃ y, sl[j]? = some y := ⟨_, List.getElem?_eq_getElem hlt⟩
    have hxy : (sl.map eMv)[j]? = some [.int .i64 y.node, .int .i64 y.arg, .int .i64 y.lk, .int .i64 y.ln, .int .i64 y.la] := by rw [List.getElem?_map, hy]; rfl
    have hyl := hto y (List.mem_of_getElem? hy)
    have es := ledF_succ hy x
    have hle := ledF_le sl j x
    have ho49 := ledF_49 (sl := sl.take j) (fun y hy => hto y (List.mem_of_mem_take hy)) x
    have hfl := flatS_len ho49
    have hmax : (ledF (sl.take j) x).length + 1 ≤ maxCount := by unfold maxCount; omega
    have jl : (j : Int) < (sl.length : Int) := by omega
    have j0 : (0 : Int) ≤ (j : Int) := by omega
    have hnx : IntKind.i64.wrap ((j : Int) + 1) = ((j + 1 : Nat) : Int) := by rw [IntWalk.i64_in _ (by omega)]; omega
    have heq := eqLb (labS y) x
    have heq : eqCells true [.p (.int .i64 y.lk), .p (.int .i64 y.ln), .p (.int .i64 y.la)] [.p (.int .i64 x.1), .p (.int .i64 x.2.1), .p (.int .i64 x.2.2)] = some (decide (labS y = x)) := heq
    by_cases hc : labS y = x
    · rw [decide_eq_true hc] at heq
      rw [if_pos hc] at es
      have hd := hdo j y hy
      have yt49 : (y.to.map AV.i).take 49 = y.to.map AV.i := List.take_of_length_le (by rw [List.length_map, hyl]; exact Nat.le_refl _)
      have hyz : over (zS.map AV.i) 0 (y.to.map AV.i) = y.to.map AV.i := over_full (n := 49) (by rw [List.length_map, hyl]) _ hzl
      have hey : (y.to.map AV.i).isEmpty = false := ne_is hyl
      have hpv := pvs_is y.to
      have hch := chunk_all 49 (y.to.map (PV.int .i64)) (by rw [List.length_map, hyl])
      have hti : (y.to.map (PV.int .i64)).take 49 = y.to.map (PV.int .i64) := List.take_of_length_le (by rw [List.length_map, hyl]; exact Nat.le_refl _)
      have hmm := mapmap y.to
      have hfa := flatS_app (ledF (sl.take j) x) y.to
      repeat' (first | ((first | refine aops_nil ?_ | refine aqops_nil ?_); (try simp only [NB])) | ((repeat ((fail_if_success (refine hK _ ?_)); clear hK K)); refine hK _ ?_; clear hK K) | ((first | refine aops_k fun K1 hK1 => ?_ | refine aqops_k fun K1 hK1 => ?_ | refine awp_cond_k fun A B hA hB => ?_); simp only [S1, simprocAttr, TTTrC, jl, j0, hxy, hnx, hyl, hzl, hem, yt49, hyz, hey, hpv, hch, hti, hmm, hfl, hmax, heq, eqA, W28, and_self, TSz, z49_ne, z49_map, zS_len, hne, hS, all_scalar, t49', takeA_arr, takeA_st, List.length_map, List.length_cons, List.length_nil, Nat.mul_one, Nat.zero_add, Nat.add_zero, Int.toNat_natCast]; first | (refine hK1 _ ?_; clear hK1 K1) | ((first | refine hA ?_ | refine hB ?_); clear hA hB A B) | ((first | apply call_a E52 | apply call_q E52); exact (hd _); (refine hK1 _ ?_; clear hK1 K1)) | (((first | (refine ⟨fun hg => hA ?_, fun hg => hB ?_⟩ <;> clear hA hB A B) | refine ⟨fun hg => ?_, fun hg => ?_⟩) <;> (try simp only [BN2] at hg) <;> (try simp only [hg, cond_true, cond_false])) <;> (try (refine hK1 _ ?_; clear hK1 K1)) <;> (try simp only [BN3] at hg))) | (refine awp_seq_k fun K hK => ?_) | ((first | refine awp_region ?_ | refine awp_draw (by kernel_rfl) ?_ | refine awp_block ?_ | refine awp_exit ?_ | refine awp_skip ?_ | refine awp_ret ?_); (try simp only [NB, simprocAttr])))
      all_goals refine ⟨hlt, trivial, ?_⟩
      all_goals simp only [es, hfa, List.length_append, List.length_cons, List.length_nil, Nat.zero_add]
      all_goals refine ⟨rfl, ⟨_, rfl⟩, ?_, ⟨trivial, trivial, trivial⟩, avlts_is _ _, ⟨trivial, trivial, trivial, trivial⟩, (by rw [← flatS_app]; exact flatS_avl _ _), trivial⟩
      all_goals simp only [keeps, avlt, avlts, blksLt, frL, upd_get, S1, simprocAttr, List.length_map, Int.natCast_zero, AV.p.injEq, PV.int.injEq, PV.bool.injEq, PV.sl.injEq] <;> (try and_intros) <;> (try assumption) <;> (try trivial) <;> (try omega)
    · rw [decide_eq_false hc] at heq
      rw [if_neg hc, List.append_nil] at es
      repeat' (first | ((first | refine aops_nil ?_ | refine aqops_nil ?_); (try simp only [NB])) | ((repeat ((fail_if_success (refine hK _ ?_)); clear hK K)); refine hK _ ?_; clear hK K) | ((first | refine aops_k fun K1 hK1 => ?_ | refine aqops_k fun K1 hK1 => ?_ | refine awp_cond_k fun A B hA hB => ?_); simp only [S1, simprocAttr, TTTrC, jl, j0, hxy, hnx, hyl, heq, eqA, W28, and_self, takeA_arr, takeA_st, List.length_map, List.length_cons, List.length_nil, Nat.mul_one, Nat.zero_add, Nat.add_zero, Int.toNat_natCast]; first | (refine hK1 _ ?_; clear hK1 K1) | ((first | refine hA ?_ | refine hB ?_); clear hA hB A B) | (((first | (refine ⟨fun hg => hA ?_, fun hg => hB ?_⟩ <;> clear hA hB A B) | refine ⟨fun hg => ?_, fun hg => ?_⟩) <;> (try simp only [BN2] at hg) <;> (try simp only [hg, cond_true, cond_false])) <;> (try (refine hK1 _ ?_; clear hK1 K1)) <;> (try simp only [BN3] at hg))) | (refine awp_seq_k fun K hK => ?_) | ((first | refine awp_region ?_ | refine awp_draw (by kernel_rfl) ?_ | refine awp_block ?_ | refine awp_exit ?_ | refine awp_skip ?_ | refine awp_ret ?_); (try simp only [NB, simprocAttr])))
      all_goals refine ⟨hlt, trivial, ?_⟩
      all_goals simp only [es]
      all_goals refine ⟨rfl, ⟨_, rfl⟩, ?_, ⟨trivial, trivial, trivial⟩, avlts_is _ _, ⟨trivial, trivial, trivial, trivial⟩, flatS_avl _ _, trivial⟩
      all_goals simp only [keeps, avlt, avlts, blksLt, frL, upd_get, S1, simprocAttr, List.length_map, Int.natCast_zero, AV.p.injEq, PV.int.injEq, PV.bool.injEq, PV.sl.injEq] <;> (try and_intros) <;> (try assumption) <;> (try trivial) <;> (try omega)
  · obtain rfl : j = sl.length := by omega
    have h49 := ledF_49 hto x
    repeat' (first | ((first | refine aops_nil ?_ | refine aqops_nil ?_); (try simp only [NB])) | ((repeat ((fail_if_success (refine hK _ ?_)); clear hK K)); refine hK _ ?_; clear hK K) | ((first | refine aops_k fun K1 hK1 => ?_ | refine aqops_k fun K1 hK1 => ?_ | refine awp_cond_k fun A B hA hB => ?_); simp only [S1, simprocAttr, TTTrC, Int.lt_irrefl]; first | (refine hK1 _ ?_; clear hK1 K1) | ((first | refine hA ?_ | refine hB ?_); clear hA hB A B) | (((first | (refine ⟨fun hg => hA ?_, fun hg => hB ?_⟩ <;> clear hA hB A B) | refine ⟨fun hg => ?_, fun hg => ?_⟩) <;> (try simp only [BN2] at hg) <;> (try simp only [hg, cond_true, cond_false])) <;> (try (refine hK1 _ ?_; clear hK1 K1)) <;> (try simp only [BN3] at hg))) | (refine awp_seq_k fun K hK => ?_) | ((first | refine awp_region ?_ | refine awp_draw (by kernel_rfl) ?_ | refine awp_block ?_ | refine awp_exit ?_ | refine awp_skip ?_ | refine awp_ret ?_); (try simp only [NB, simprocAttr])))
    all_goals exact EndP_sts (.inr rfl) h49 rfl (by rw [List.take_length]; rfl) (by simp only [List.take_length, blkAt, get_app, List.getElem?_cons_succ, List.getElem?_cons_zero, if_true]) (by omega) (by simp) (by simp) (by rw [hW])

end Go.Proofs.YtbbmfemplmelhaaGreatDoor.AM
end

section
set_option linter.unusedVariables false
set_option linter.unusedSimpArgs false
set_option maxRecDepth 4000
set_option maxHeartbeats 4000000
namespace Go.Proofs.YtbbmfemplmelhaaGreatDoor.AM
open Go Go.Proofs
set_option linter.defProp false in
def TTTrD := And.intro T2 (And.intro T3 (And.intro T4 (And.intro T25 (And.intro T26 (And.intro T28 (And.intro T31 (And.intro T34 (And.intro T36 (And.intro T41 (And.intro T57 (And.intro T58 (And.intro T62 (And.intro T65 (And.intro T89 T92))))))))))))))
attribute [local irreducible] awp aops aqops aeops arun arunT

theorem ledW_49 {ns : List Nd} {fl : List Fl} {S : Sv} (hS : S.length = 49) (x : Lb) : St49 (ledW ns fl S x) := ledF_49 (stepsG_to hS) x
theorem ledW_le (ns : List Nd) (fl : List Fl) (S : Sv) (x : Lb) : (ledW ns fl S x).length ≤ 2500 := by
  have := ledF_le (stepsG ns fl S) (stepsG ns fl S).length x
  rw [List.take_length] at this
  exact Nat.le_trans this stepsG_len
noncomputable abbrev nxW (ns : List Nd) (fl : List Fl) (S : Sv) : List Sv := ledW ns fl S (0, 0, 0)

theorem closed1_calls {ns : List Nd} {fl : List Fl} (nk : NetOk ns fl) {S : Sv} (hS : S.length = 49) {H : Heap} {b : Nat} (hb : H[b]? = some (some ⟨0, cNet ns fl⟩)) (hlt : b < H.length) :
    ACalls Tryz.prog gW 54 [aS S, .ptr b 0 0] H (fun r h' => r = aSts (nxW ns fl S) ∧ h' = H) := by
  have hne := ne_is hS
  have t49' : (S.map AV.i).take 49 = S.map AV.i := List.take_of_length_le (by rw [List.length_map, hS]; exact Nat.le_refl _)
  have hled := fun h => led_calls nk hS (0, 0, 0) h
  have hb' : ∀ L : Heap, (H ++ L)[b]? = some (some ⟨0, cNet ns fl⟩) := fun L => by rw [List.getElem?_append_left hlt]; exact hb
  refine acalls_pure (rl := []) mixed Tryz.func54 rfl (rs := [.tmp 3]) rfl Tryz.ntmps54 (by simp) ?_
  repeat' (first | ((first | refine aops_nil ?_ | refine aqops_nil ?_); (try simp only [NB])) | ((repeat ((fail_if_success (refine hK _ ?_)); clear hK K)); refine hK _ ?_; clear hK K) | ((first | refine aops_k fun K1 hK1 => ?_ | refine aqops_k fun K1 hK1 => ?_ | refine awp_cond_k fun A B hA hB => ?_); simp only [S1, simprocAttr, TTTrD, hb, hb', TSz, z49_ne, hne, hS, all_scalar, t49', takeA_arr, takeA_st, List.length_map]; first | (refine hK1 _ ?_; clear hK1 K1) | ((first | refine hA ?_ | refine hB ?_); clear hA hB A B) | ((first | apply call_a E31 | apply call_q E31); exact (hled _); (refine hK1 _ ?_; clear hK1 K1)) | (((first | (refine ⟨fun hg => hA ?_, fun hg => hB ?_⟩ <;> clear hA hB A B) | refine ⟨fun hg => ?_, fun hg => ?_⟩) <;> (try simp only [BN2] at hg) <;> (try simp only [hg, cond_true, cond_false])) <;> (try (refine hK1 _ ?_; clear hK1 K1)) <;> (try simp only [BN3] at hg))) | (refine awp_seq_k fun K hK => ?_) | ((first | refine awp_region ?_ | refine awp_draw (by kernel_rfl) ?_ | refine awp_block ?_ | refine awp_exit ?_ | refine awp_skip ?_ | refine awp_ret ?_); (try simp only [NB, simprocAttr])))
  all_goals simp only [EndP, FinP, resA, resL, resA1, lastV, lastA, lastAs, pur, purs, take_app, List.take_length, S1, simprocAttr, TTTrD, Nat.le_add_right, Nat.le_refl]

/-- The closed list and its error. -/
noncomputable def closedW (ns : List Nd) (fl : List Fl) (l : List Sv) : List Sv × Int := if (closeW (nxW ns fl) 1500 l).length ≤ 1500 then (closeW (nxW ns fl) 1500 l, 0) else ([], 5)

theorem closed_calls {ns : List Nd} {fl : List Fl} (nk : NetOk ns fl) {l : List Sv} (h49 : St49 l) (hl : l.length ≤ 8000000) (h : Heap) :
    ACalls Tryz.prog gW 32 [aNet ns fl, aSts l] h (fun r h' => r = .tup [aSts (closedW ns fl l).1, .i (closedW ns fl l).2] ∧ h' = h) := by
  have hE := E54
  have hsp := spread_calls (G := gW) hE (caps := [.ptr h.length 0 0]) (h := h ++ [some ⟨0, cNet ns fl⟩]) ⟨by simp [avlt], trivial⟩ (nx := nxW ns fl) (fun s hs => ledW_49 hs _) (fun s => ledW_le _ _ _ _)
    (fun s hs L => closed1_calls nk hs (by rw [List.append_assoc, get_app0]; rfl) (by simp)) h49 hl
  by_cases hc : (closeW (nxW ns fl) 1500 l).length ≤ 1500
  · have e : closedW ns fl l = (closeW (nxW ns fl) 1500 l, 0) := if_pos hc
    rw [e]
    rw [decide_eq_true hc] at hsp
    refine acalls_pure (rl := []) mixed Tryz.func32 rfl (rs := [.tmp 4, .tmp 5]) rfl Tryz.ntmps32 (by simp) ?_
    repeat' (first | ((first | refine aops_nil ?_ | refine aqops_nil ?_); (try simp only [NB])) | ((repeat ((fail_if_success (refine hK _ ?_)); clear hK K)); refine hK _ ?_; clear hK K) | ((first | refine aops_k fun K1 hK1 => ?_ | refine aqops_k fun K1 hK1 => ?_ | refine awp_cond_k fun A B hA hB => ?_); simp only [S1, simprocAttr, TTTrD]; first | (refine hK1 _ ?_; clear hK1 K1) | ((first | refine hA ?_ | refine hB ?_); clear hA hB A B) | ((first | apply call_a E53 | apply call_q E53); exact hsp; (refine hK1 _ ?_; clear hK1 K1)) | (((first | (refine ⟨fun hg => hA ?_, fun hg => hB ?_⟩ <;> clear hA hB A B) | refine ⟨fun hg => ?_, fun hg => ?_⟩) <;> (try simp only [BN2] at hg) <;> (try simp only [hg, cond_true, cond_false])) <;> (try (refine hK1 _ ?_; clear hK1 K1)) <;> (try simp only [BN3] at hg))) | (refine awp_seq_k fun K hK => ?_) | ((first | refine awp_region ?_ | refine awp_draw (by kernel_rfl) ?_ | refine awp_block ?_ | refine awp_exit ?_ | refine awp_skip ?_ | refine awp_ret ?_); (try simp only [NB, simprocAttr])))
    all_goals simp only [EndP, FinP, resA, resL, resA1, lastV, lastA, lastAs, pur, purs, take_app, List.take_length, S1, simprocAttr, TTTrD, Nat.le_add_right, Nat.le_refl]
  · have e : closedW ns fl l = ([], 5) := if_neg hc
    rw [e]
    rw [decide_eq_false hc] at hsp
    refine acalls_pure (rl := []) mixed Tryz.func32 rfl (rs := [.tmp 4, .tmp 5]) rfl Tryz.ntmps32 (by simp) ?_
    repeat' (first | ((first | refine aops_nil ?_ | refine aqops_nil ?_); (try simp only [NB])) | ((repeat ((fail_if_success (refine hK _ ?_)); clear hK K)); refine hK _ ?_; clear hK K) | ((first | refine aops_k fun K1 hK1 => ?_ | refine aqops_k fun K1 hK1 => ?_ | refine awp_cond_k fun A B hA hB => ?_); simp only [S1, simprocAttr, TTTrD]; first | (refine hK1 _ ?_; clear hK1 K1) | ((first | refine hA ?_ | refine hB ?_); clear hA hB A B) | ((first | apply call_a E53 | apply call_q E53); exact hsp; (refine hK1 _ ?_; clear hK1 K1)) | (((first | (refine ⟨fun hg => hA ?_, fun hg => hB ?_⟩ <;> clear hA hB A B) | refine ⟨fun hg => ?_, fun hg => ?_⟩) <;> (try simp only [BN2] at hg) <;> (try simp only [hg, cond_true, cond_false])) <;> (try (refine hK1 _ ?_; clear hK1 K1)) <;> (try simp only [BN3] at hg))) | (refine awp_seq_k fun K hK => ?_) | ((first | refine awp_region ?_ | refine awp_draw (by kernel_rfl) ?_ | refine awp_block ?_ | refine awp_exit ?_ | refine awp_skip ?_ | refine awp_ret ?_); (try simp only [NB, simprocAttr])))
    all_goals simp only [EndP, FinP, resA, resL, resA1, lastV, lastA, lastAs, pur, purs, take_app, List.take_length, S1, simprocAttr, TTTrD, Nat.le_add_right, Nat.le_refl]
    all_goals rfl

/-! The document's. -/
end Go.Proofs.YtbbmfemplmelhaaGreatDoor.AM
end

section
set_option linter.unusedVariables false
set_option linter.unusedSimpArgs false
set_option maxRecDepth 4000
set_option maxHeartbeats 4000000
namespace Go.Proofs.YtbbmfemplmelhaaGreatDoor.AM
open Go Go.Proofs
set_option linter.defProp false in
def TTTrF := And.intro T2 (And.intro T3 (And.intro T4 (And.intro T25 (And.intro T26 (And.intro T28 (And.intro T31 (And.intro T34 (And.intro T36 (And.intro T41 (And.intro T55 (And.intro T57 (And.intro T58 (And.intro T62 (And.intro T65 (And.intro T89 T92)))))))))))))))
attribute [local irreducible] awp aops aqops aeops arun arunT

/-- What is wrong with states. -/
noncomputable def wrongL (ns : List Nd) (fl : List Fl) : List Sv → Int
  | [] => 0
  | s :: r => if stC ns fl s = 0 then wrongL ns fl r else stC ns fl s
noncomputable def wrongW (ns : List Nd) (fl : List Fl) (l : List Sv) : Int := if (netN ns fl).1 ≠ 0 then 4 else wrongL ns fl l
theorem wrongL_drop {ns : List Nd} {fl : List Fl} {l : List Sv} {j : Nat} {s : Sv} (h : l[j]? = some s) : wrongL ns fl (l.drop j) = if stC ns fl s = 0 then wrongL ns fl (l.drop (j + 1)) else stC ns fl s := by
  rw [List.drop_eq_getElem_cons (List.getElem?_eq_some_iff.mp h).1, (List.getElem?_eq_some_iff.mp h).2]; rfl

theorem tright_calls {ns : List Nd} {fl : List Fl} (nk : NetOk ns fl) {l : List Sv} (h49 : St49 l) (hl : l.length ≤ 8000000) (h : Heap) :
    ACalls Tryz.prog gW 30 [aNet ns fl, aSts l] h (fun r h' => r = .i (wrongW ns fl l) ∧ h' = h) := by
  have hst := fun h => tStart_calls nk h
  have hzl : (zS.map AV.i).length = 49 := by rw [List.length_map]; rfl
  have hem : (zS.map AV.i).isEmpty = false := rfl
  by_cases h0 : (netN ns fl).1 = 0
  case neg =>
    have e : wrongW ns fl l = 4 := by unfold wrongW; rw [if_pos h0]
    have es : startG ns fl = (zS, 4) := by unfold startG; rw [if_pos h0]
    have hzz : over (zS.map AV.i) 0 (zS.map AV.i) = zS.map AV.i := over_full (n := 49) (by rw [List.length_map]; rfl) _ hzl
    rw [e]
    rw [es] at hst
    refine acalls_pure (rl := []) mixed Tryz.func30 rfl (rs := [.tmp 4]) rfl Tryz.ntmps30 (by simp) ?_
    repeat' (first | ((first | refine aops_nil ?_ | refine aqops_nil ?_); (try simp only [NB])) | ((repeat ((fail_if_success (refine hK _ ?_)); clear hK K)); refine hK _ ?_; clear hK K) | ((first | refine aops_k fun K1 hK1 => ?_ | refine aqops_k fun K1 hK1 => ?_ | refine awp_cond_k fun A B hA hB => ?_); simp only [S1, simprocAttr, TTTrF, TSz, z49_ne, z49_map, zS_len, hem, hzz, all_scalar, takeA_arr, takeA_st, List.length_map]; first | (refine hK1 _ ?_; clear hK1 K1) | ((first | refine hA ?_ | refine hB ?_); clear hA hB A B) | ((first | apply call_a E36 | apply call_q E36); exact (hst _); (refine hK1 _ ?_; clear hK1 K1)) | (((first | (refine ⟨fun hg => hA ?_, fun hg => hB ?_⟩ <;> clear hA hB A B) | refine ⟨fun hg => ?_, fun hg => ?_⟩) <;> (try simp only [BN2] at hg) <;> (try simp only [hg, cond_true, cond_false])) <;> (try (refine hK1 _ ?_; clear hK1 K1)) <;> (try simp only [BN3] at hg))) | (refine awp_seq_k fun K hK => ?_) | ((first | refine awp_region ?_ | refine awp_draw (by kernel_rfl) ?_ | refine awp_block ?_ | refine awp_exit ?_ | refine awp_skip ?_ | refine awp_ret ?_); (try simp only [NB, simprocAttr])))
    all_goals simp only [EndP, FinP, resA, resL, resA1, lastV, lastA, lastAs, pur, purs, take_app, List.take_length, S1, simprocAttr, TTTrF, Nat.le_add_right, Nat.le_refl]
  have e : wrongW ns fl l = wrongL ns fl l := by unfold wrongW; rw [if_neg (by simpa using h0)]
  rw [e]
  have hs2 : (startG ns fl).2 = 0 := by unfold startG; rw [if_neg (by simpa using h0)]
  have hs1 : (startG ns fl).1.length = 49 := (start_ok hs2).1.1
  rw [hs2] at hst
  generalize (startG ns fl).1 = S0 at *
  have hso0 : over (zS.map AV.i) 0 (S0.map AV.i) = S0.map AV.i := over_full (n := 49) (by rw [List.length_map, hs1]) _ hzl
  refine acalls_pure (rl := []) mixed Tryz.func30 rfl (rs := [.tmp 4]) rfl Tryz.ntmps30 (by simp) ?_
  repeat' (first | ((first | refine aops_nil ?_ | refine aqops_nil ?_); (try simp only [NB])) | ((repeat ((fail_if_success (refine hK _ ?_)); clear hK K)); refine hK _ ?_; clear hK K) | ((first | refine aops_k fun K1 hK1 => ?_ | refine aqops_k fun K1 hK1 => ?_ | refine awp_cond_k fun A B hA hB => ?_); simp only [S1, simprocAttr, TTTrF, hs1, hso0, TSz, z49_ne, z49_map, zS_len, hem, all_scalar, takeA_arr, takeA_st, List.length_map]; first | (refine hK1 _ ?_; clear hK1 K1) | ((first | refine hA ?_ | refine hB ?_); clear hA hB A B) | ((first | apply call_a E36 | apply call_q E36); exact (hst _); (refine hK1 _ ?_; clear hK1 K1)) | (((first | (refine ⟨fun hg => hA ?_, fun hg => hB ?_⟩ <;> clear hA hB A B) | refine ⟨fun hg => ?_, fun hg => ?_⟩) <;> (try simp only [BN2] at hg) <;> (try simp only [hg, cond_true, cond_false])) <;> (try (refine hK1 _ ?_; clear hK1 K1)) <;> (try simp only [BN3] at hg))) | (refine awp_seq_k fun K hK => ?_) | ((first | refine awp_region ?_ | refine awp_draw (by kernel_rfl) ?_ | refine awp_block ?_ | refine awp_exit ?_ | refine awp_skip ?_ | refine awp_ret ?_); (try simp only [NB, simprocAttr])))
  refine awp_for l.length 31 (fun j => [(20, .i j), (19, .i l.length), (18, aSts l), (2, .ptr h.length 0 0)]) (fun j => [some ⟨0, cNet ns fl⟩]) (fun j => wrongL ns fl l = wrongL ns fl (l.drop j)) ?_ rfl fun j hj hp K hK => ?_
  · refine ⟨rfl, ⟨_, rfl⟩, ?_, ⟨trivial, trivial, trivial⟩, trivial⟩
    simp only [keeps, avlt, avlts, blksLt, frL, upd_get, S1, simprocAttr, List.length_map, Int.natCast_zero, AV.p.injEq, PV.int.injEq, PV.bool.injEq, PV.sl.injEq] <;> (try and_intros) <;> (try assumption) <;> (try trivial) <;> (try omega)
  rcases Nat.lt_or_ge j l.length with hlt | hge
  · obtain ⟨s, hx⟩ : ∃ k, l[j]? = some k := ⟨_, List.getElem?_eq_getElem hlt⟩
    have hs : s.length = 49 := h49 s (List.mem_of_getElem? hx)
    have hxr : (l.map eSt)[j]? = some (s.map (PV.int .i64)) := by rw [List.getElem?_map, hx]; rfl
    have jl : (j : Int) < (l.length : Int) := by omega
    have j0 : (0 : Int) ≤ (j : Int) := by omega
    have hnx : IntKind.i64.wrap ((j : Int) + 1) = ((j + 1 : Nat) : Int) := by rw [IntWalk.i64_in _ (by omega)]; omega
    have s49 : (s.map AV.i).take 49 = s.map AV.i := List.take_of_length_le (by rw [List.length_map, hs]; exact Nat.le_refl _)
    have hso : over (zS.map AV.i) 0 (s.map AV.i) = s.map AV.i := over_full (n := 49) (by rw [List.length_map, hs]) _ hzl
    have hsm := mapmap s
    have hck := fun h => tChk_calls nk hs h
    rw [wrongL_drop hx] at hp
    by_cases hc : stC ns fl s = 0
    · rw [if_pos hc] at hp
      rw [hc] at hck
      repeat' (first | ((first | refine aops_nil ?_ | refine aqops_nil ?_); (try simp only [NB])) | ((repeat ((fail_if_success (refine hK _ ?_)); clear hK K)); refine hK _ ?_; clear hK K) | ((first | refine aops_k fun K1 hK1 => ?_ | refine aqops_k fun K1 hK1 => ?_ | refine awp_cond_k fun A B hA hB => ?_); simp only [S1, simprocAttr, TTTrF, jl, j0, hnx, hxr, hs, hzl, hem, s49, hso, hsm, TSz, z49_ne, z49_map, zS_len, all_scalar, takeA_arr, takeA_st, List.length_map, Int.toNat_natCast]; first | (refine hK1 _ ?_; clear hK1 K1) | ((first | refine hA ?_ | refine hB ?_); clear hA hB A B) | ((first | apply call_a E51 | apply call_q E51); exact (hck _); (refine hK1 _ ?_; clear hK1 K1)) | (((first | (refine ⟨fun hg => hA ?_, fun hg => hB ?_⟩ <;> clear hA hB A B) | refine ⟨fun hg => ?_, fun hg => ?_⟩) <;> (try simp only [BN2] at hg) <;> (try simp only [hg, cond_true, cond_false])) <;> (try (refine hK1 _ ?_; clear hK1 K1)) <;> (try simp only [BN3] at hg))) | (refine awp_seq_k fun K hK => ?_) | ((first | refine awp_region ?_ | refine awp_draw (by kernel_rfl) ?_ | refine awp_block ?_ | refine awp_exit ?_ | refine awp_skip ?_ | refine awp_ret ?_); (try simp only [NB, simprocAttr])))
      all_goals refine ⟨hlt, hp, ?_⟩
      all_goals refine ⟨rfl, ⟨_, rfl⟩, ?_, ⟨trivial, trivial, trivial⟩, trivial⟩
      all_goals simp only [keeps, avlt, avlts, blksLt, frL, upd_get, S1, simprocAttr, List.length_map, Int.natCast_zero, AV.p.injEq, PV.int.injEq, PV.bool.injEq, PV.sl.injEq] <;> (try and_intros) <;> (try assumption) <;> (try trivial) <;> (try omega)
    · rw [if_neg hc] at hp
      have hc' : (stC ns fl s != 0) = true := by simp [hc]
      repeat' (first | ((first | refine aops_nil ?_ | refine aqops_nil ?_); (try simp only [NB])) | ((repeat ((fail_if_success (refine hK _ ?_)); clear hK K)); refine hK _ ?_; clear hK K) | ((first | refine aops_k fun K1 hK1 => ?_ | refine aqops_k fun K1 hK1 => ?_ | refine awp_cond_k fun A B hA hB => ?_); simp only [S1, simprocAttr, TTTrF, jl, j0, hnx, hxr, hs, hzl, hem, s49, hso, hsm, hc', TSz, z49_ne, z49_map, zS_len, all_scalar, takeA_arr, takeA_st, List.length_map, Int.toNat_natCast]; first | (refine hK1 _ ?_; clear hK1 K1) | ((first | refine hA ?_ | refine hB ?_); clear hA hB A B) | ((first | apply call_a E51 | apply call_q E51); exact (hck _); (refine hK1 _ ?_; clear hK1 K1)) | (((first | (refine ⟨fun hg => hA ?_, fun hg => hB ?_⟩ <;> clear hA hB A B) | refine ⟨fun hg => ?_, fun hg => ?_⟩) <;> (try simp only [BN2] at hg) <;> (try simp only [hg, cond_true, cond_false])) <;> (try (refine hK1 _ ?_; clear hK1 K1)) <;> (try simp only [BN3] at hg))) | (refine awp_seq_k fun K hK => ?_) | ((first | refine awp_region ?_ | refine awp_draw (by kernel_rfl) ?_ | refine awp_block ?_ | refine awp_exit ?_ | refine awp_skip ?_ | refine awp_ret ?_); (try simp only [NB, simprocAttr])))
      all_goals simp only [EndP, FinP, resA, resL, resA1, lastV, lastA, lastAs, pur, purs, take_app, List.take_length, S1, simprocAttr, TTTrF, Nat.le_add_right, Nat.le_refl]
      all_goals rw [hp]
  · obtain rfl : j = l.length := by omega
    rw [List.drop_length] at hp
    repeat' (first | ((first | refine aops_nil ?_ | refine aqops_nil ?_); (try simp only [NB])) | ((repeat ((fail_if_success (refine hK _ ?_)); clear hK K)); refine hK _ ?_; clear hK K) | ((first | refine aops_k fun K1 hK1 => ?_ | refine aqops_k fun K1 hK1 => ?_ | refine awp_cond_k fun A B hA hB => ?_); simp only [S1, simprocAttr, TTTrF, Int.lt_irrefl]; first | (refine hK1 _ ?_; clear hK1 K1) | ((first | refine hA ?_ | refine hB ?_); clear hA hB A B) | (((first | (refine ⟨fun hg => hA ?_, fun hg => hB ?_⟩ <;> clear hA hB A B) | refine ⟨fun hg => ?_, fun hg => ?_⟩) <;> (try simp only [BN2] at hg) <;> (try simp only [hg, cond_true, cond_false])) <;> (try (refine hK1 _ ?_; clear hK1 K1)) <;> (try simp only [BN3] at hg))) | (refine awp_seq_k fun K hK => ?_) | ((first | refine awp_region ?_ | refine awp_draw (by kernel_rfl) ?_ | refine awp_block ?_ | refine awp_exit ?_ | refine awp_skip ?_ | refine awp_ret ?_); (try simp only [NB, simprocAttr])))
    all_goals simp only [EndP, FinP, resA, resL, resA1, lastV, lastA, lastAs, pur, purs, take_app, List.take_length, S1, simprocAttr, TTTrF, Nat.le_add_right, Nat.le_refl]
    all_goals rw [hp]; rfl

noncomputable def beginG (ns : List Nd) (fl : List Fl) : List Sv × Int := if (netN ns fl).1 ≠ 0 then ([], 4) else closedW ns fl [(startG ns fl).1]

end Go.Proofs.YtbbmfemplmelhaaGreatDoor.AM
end

section
set_option linter.unusedVariables false
set_option linter.unusedSimpArgs false
set_option maxRecDepth 4000
set_option maxHeartbeats 4000000
namespace Go.Proofs.YtbbmfemplmelhaaGreatDoor.AM
open Go Go.Proofs
set_option linter.defProp false in
attribute [local irreducible] awp aops aqops aeops arun arunT

def z53 : List PV := List.replicate 53 (.int .i64 0)
/- left out: not in this program -/

/- left out: not in this program -/

end Go.Proofs.YtbbmfemplmelhaaGreatDoor.AM
end

section
set_option linter.unusedVariables false
set_option linter.unusedSimpArgs false
set_option maxRecDepth 4000
set_option maxHeartbeats 4000000
namespace Go.Proofs.YtbbmfemplmelhaaGreatDoor.AM
open Go Go.Proofs
set_option linter.defProp false in
def TTTrG := And.intro T2 (And.intro T3 (And.intro T4 (And.intro T25 (And.intro T26 (And.intro T28 (And.intro T31 (And.intro T34 (And.intro T36 (And.intro T41 (And.intro T44 (And.intro T55 (And.intro T57 (And.intro T58 (And.intro T62 (And.intro T65 (And.intro T89 T92))))))))))))))))
attribute [local irreducible] awp aops aqops aeops arun arunT

theorem startG_49 (ns : List Nd) (fl : List Fl) : (startG ns fl).1.length = 49 := by
  unfold startG
  split
  · rfl
  · simp [zS]
theorem st49_one {s : Sv} (h : s.length = 49) : St49 [s] := fun t ht => by rw [List.mem_singleton] at ht; rw [ht]; exact h

theorem begin_calls {ns : List Nd} {fl : List Fl} (nk : NetOk ns fl) (h : Heap) :
    ACalls Tryz.prog gW 15 [aNet ns fl] h (fun r h' => r = .tup [aSts (beginG ns fl).1, .i (beginG ns fl).2] ∧ h' = h) := by
  have hst := fun h => tStart_calls nk h
  have hzl : (zS.map AV.i).length = 49 := by rw [List.length_map]; rfl
  have hem : (zS.map AV.i).isEmpty = false := rfl
  by_cases h0 : (netN ns fl).1 = 0
  case neg =>
    have e : beginG ns fl = ([], 4) := by unfold beginG; rw [if_pos h0]
    have es : startG ns fl = (zS, 4) := by unfold startG; rw [if_pos h0]
    have hzz : over (zS.map AV.i) 0 (zS.map AV.i) = zS.map AV.i := over_full (n := 49) (by rw [List.length_map]; rfl) _ hzl
    rw [e]
    rw [es] at hst
    refine acalls_pure (rl := []) mixed Tryz.func15 rfl (rs := [.tmp 2, .tmp 3]) rfl Tryz.ntmps15 (by simp) ?_
    repeat' (first | ((first | refine aops_nil ?_ | refine aqops_nil ?_); (try simp only [NB])) | ((repeat ((fail_if_success (refine hK _ ?_)); clear hK K)); refine hK _ ?_; clear hK K) | ((first | refine aops_k fun K1 hK1 => ?_ | refine aqops_k fun K1 hK1 => ?_ | refine awp_cond_k fun A B hA hB => ?_); simp only [S1, simprocAttr, TTTrG, TSz, z49_ne, z49_map, zS_len, hem, hzz, all_scalar, takeA_arr, takeA_st, List.length_map]; first | (refine hK1 _ ?_; clear hK1 K1) | ((first | refine hA ?_ | refine hB ?_); clear hA hB A B) | ((first | apply call_a E36 | apply call_q E36); exact (hst _); (refine hK1 _ ?_; clear hK1 K1)) | (((first | (refine ⟨fun hg => hA ?_, fun hg => hB ?_⟩ <;> clear hA hB A B) | refine ⟨fun hg => ?_, fun hg => ?_⟩) <;> (try simp only [BN2] at hg) <;> (try simp only [hg, cond_true, cond_false])) <;> (try (refine hK1 _ ?_; clear hK1 K1)) <;> (try simp only [BN3] at hg))) | (refine awp_seq_k fun K hK => ?_) | ((first | refine awp_region ?_ | refine awp_draw (by kernel_rfl) ?_ | refine awp_block ?_ | refine awp_exit ?_ | refine awp_skip ?_ | refine awp_ret ?_); (try simp only [NB, simprocAttr])))
    all_goals simp only [EndP, FinP, resA, resL, resA1, lastV, lastA, lastAs, pur, purs, take_app, List.take_length, S1, simprocAttr, TTTrG, Nat.le_add_right, Nat.le_refl]
    all_goals rfl
  have e : beginG ns fl = closedW ns fl [(startG ns fl).1] := by unfold beginG; rw [if_neg (by simpa using h0)]
  have hs2 : (startG ns fl).2 = 0 := by unfold startG; rw [if_neg (by simpa using h0)]
  have hs1 := startG_49 ns fl
  rw [e]
  rw [hs2] at hst
  generalize (startG ns fl).1 = s at *
  have hso0 : over (zS.map AV.i) 0 (s.map AV.i) = s.map AV.i := over_full (n := 49) (by rw [List.length_map, hs1]) _ hzl
  have s49 : (s.map AV.i).take 49 = s.map AV.i := List.take_of_length_le (by rw [List.length_map, hs1]; exact Nat.le_refl _)
  have hpv := pvs_is s
  have hch := chunk_all 49 (s.map (PV.int .i64)) (by rw [List.length_map, hs1])
  have hti : (s.map (PV.int .i64)).take 49 = s.map (PV.int .i64) := List.take_of_length_le (by rw [List.length_map, hs1]; exact Nat.le_refl _)
  have hc := fun h => closed_calls nk (st49_one hs1) (by simp) h
  refine acalls_pure (rl := []) mixed Tryz.func15 rfl (rs := [.tmp 2, .tmp 3]) rfl Tryz.ntmps15 (by simp) ?_
  repeat' (first | ((first | refine aops_nil ?_ | refine aqops_nil ?_); (try simp only [NB])) | ((repeat ((fail_if_success (refine hK _ ?_)); clear hK K)); refine hK _ ?_; clear hK K) | ((first | refine aops_k fun K1 hK1 => ?_ | refine aqops_k fun K1 hK1 => ?_ | refine awp_cond_k fun A B hA hB => ?_); simp only [S1, simprocAttr, TTTrG, hs1, hso0, s49, hpv, hch, hti, TSz, z49_ne, z49_map, zS_len, hem, all_scalar, takeA_arr, takeA_st, List.length_map]; first | (refine hK1 _ ?_; clear hK1 K1) | ((first | refine hA ?_ | refine hB ?_); clear hA hB A B) | ((first | apply call_a E36 | apply call_q E36); exact (hst _); (refine hK1 _ ?_; clear hK1 K1)) | ((first | apply call_a E32 | apply call_q E32); exact (hc _); (refine hK1 _ ?_; clear hK1 K1)) | (((first | (refine ⟨fun hg => hA ?_, fun hg => hB ?_⟩ <;> clear hA hB A B) | refine ⟨fun hg => ?_, fun hg => ?_⟩) <;> (try simp only [BN2] at hg) <;> (try simp only [hg, cond_true, cond_false])) <;> (try (refine hK1 _ ?_; clear hK1 K1)) <;> (try simp only [BN3] at hg))) | (refine awp_seq_k fun K hK => ?_) | ((first | refine awp_region ?_ | refine awp_draw (by kernel_rfl) ?_ | refine awp_block ?_ | refine awp_exit ?_ | refine awp_skip ?_ | refine awp_ret ?_); (try simp only [NB, simprocAttr])))
  all_goals simp only [EndP, FinP, resA, resL, resA1, lastV, lastA, lastAs, pur, purs, take_app, List.take_length, S1, simprocAttr, TTTrG, Nat.le_add_right, Nat.le_refl]

/-- What is behind a label. -/
noncomputable def ledsW (ns : List Nd) (fl : List Fl) (l : List Sv) (x : Lb) : List Sv := l.flatMap fun s => ledW ns fl s x
noncomputable def afterG (ns : List Nd) (fl : List Fl) (l : List Sv) (x : Lb) : List Sv × Int := if wrongW ns fl l ≠ 0 then ([], wrongW ns fl l) else if x.1 = 0 then ([], 1) else closedW ns fl (ledsW ns fl l x)
theorem ledsW_succ {ns : List Nd} {fl : List Fl} {l : List Sv} {j : Nat} {s : Sv} (h : l[j]? = some s) (x : Lb) : ledsW ns fl (l.take (j + 1)) x = ledsW ns fl (l.take j) x ++ ledW ns fl s x := by
  unfold ledsW
  rw [List.take_add_one, h, List.flatMap_append]; simp
theorem ledsW_49 {ns : List Nd} {fl : List Fl} {l : List Sv} (h : St49 l) (x : Lb) : St49 (ledsW ns fl l x) := fun t ht => by
  unfold ledsW at ht
  obtain ⟨s, hs, ht⟩ := List.mem_flatMap.mp ht
  exact ledW_49 (h s hs) x t ht
theorem ledsW_le (ns : List Nd) (fl : List Fl) (x : Lb) : ∀ l : List Sv, (ledsW ns fl l x).length ≤ l.length * 2500
  | [] => by simp [ledsW]
  | s :: l => by
    have h1 := ledsW_le ns fl x l
    have h2 := ledW_le ns fl s x
    unfold ledsW at h1 ⊢
    rw [List.flatMap_cons, List.length_append, List.length_cons]; omega
theorem flatS_app2 (l m : List Sv) : flatS (l ++ m) = flatS l ++ flatS m := by unfold flatS; rw [List.flatMap_append]
theorem rows_flatS (l : List Sv) : ((l.map eSt).flatMap id).map AV.p = flatS l := by
  unfold flatS eSt
  induction l with
  | nil => rfl
  | cons s l ih => rw [List.map_cons, List.flatMap_cons, List.map_append, ih, List.flatMap_cons]; congr 1; exact mapmap s
theorem rows_allS {l : List Sv} (h : St49 l) : (l.map eSt).all (fun r => r.length == 49) = true := by
  rw [List.all_eq_true]
  intro r hr
  obtain ⟨s, hs, rfl⟩ := List.mem_map.mp hr
  simpa using eSt_len h s hs

/-- How often the list grew. -/
noncomputable def genW (ns : List Nd) (fl : List Fl) (l : List Sv) (x : Lb) : Nat := ((l.map fun s => ledW ns fl s x).filter fun m => m.length ≠ 0).length
theorem genW_succ {ns : List Nd} {fl : List Fl} {l : List Sv} {j : Nat} {s : Sv} (h : l[j]? = some s) (x : Lb) : genW ns fl (l.take (j + 1)) x = genW ns fl (l.take j) x + if (ledW ns fl s x).length = 0 then 0 else 1 := by
  unfold genW
  rw [List.take_add_one, h, List.map_append, List.filter_append, List.length_append]
  congr 1
  by_cases hc : (ledW ns fl s x).length = 0
  · have : ledW ns fl s x = [] := List.eq_nil_of_length_eq_zero hc
    simp [this]
  · have : ledW ns fl s x ≠ [] := fun e => hc (by rw [e]; rfl)
    simp [this]

theorem after_calls {ns : List Nd} {fl : List Fl} (nk : NetOk ns fl) {l : List Sv} (h49 : St49 l) (hl : l.length ≤ 2000) (x : Lb) (h : Heap) :
    ACalls Tryz.prog gW 11 [aNet ns fl, aSts l, aL x] h (fun r h' => r = .tup [aSts (afterG ns fl l x).1, .i (afterG ns fl l x).2] ∧ h' = h) := by
  have hr := fun h => tright_calls nk h49 (by omega) h
  have hzl : (zS.map AV.i).length = 49 := by rw [List.length_map]; rfl
  have hem : (zS.map AV.i).isEmpty = false := rfl
  by_cases h0 : wrongW ns fl l = 0
  case neg =>
    have e : afterG ns fl l x = ([], wrongW ns fl l) := by unfold afterG; rw [if_pos h0]
    have f0 : (wrongW ns fl l != 0) = true := by simp [h0]
    rw [e]
    refine acalls_pure (rl := []) mixed Tryz.func11 rfl (rs := [.tmp 6, .tmp 7]) rfl Tryz.ntmps11 (by simp) ?_
    repeat' (first | ((first | refine aops_nil ?_ | refine aqops_nil ?_); (try simp only [NB])) | ((repeat ((fail_if_success (refine hK _ ?_)); clear hK K)); refine hK _ ?_; clear hK K) | ((first | refine aops_k fun K1 hK1 => ?_ | refine aqops_k fun K1 hK1 => ?_ | refine awp_cond_k fun A B hA hB => ?_); simp only [S1, simprocAttr, TTTrG, f0]; first | (refine hK1 _ ?_; clear hK1 K1) | ((first | refine hA ?_ | refine hB ?_); clear hA hB A B) | ((first | apply call_a E30 | apply call_q E30); exact (hr _); (refine hK1 _ ?_; clear hK1 K1)) | (((first | (refine ⟨fun hg => hA ?_, fun hg => hB ?_⟩ <;> clear hA hB A B) | refine ⟨fun hg => ?_, fun hg => ?_⟩) <;> (try simp only [BN2] at hg) <;> (try simp only [hg, cond_true, cond_false])) <;> (try (refine hK1 _ ?_; clear hK1 K1)) <;> (try simp only [BN3] at hg))) | (refine awp_seq_k fun K hK => ?_) | ((first | refine awp_region ?_ | refine awp_draw (by kernel_rfl) ?_ | refine awp_block ?_ | refine awp_exit ?_ | refine awp_skip ?_ | refine awp_ret ?_); (try simp only [NB, simprocAttr])))
    all_goals simp only [EndP, FinP, resA, resL, resA1, lastV, lastA, lastAs, pur, purs, take_app, List.take_length, S1, simprocAttr, TTTrG, Nat.le_add_right, Nat.le_refl]
    all_goals rfl
  rw [h0] at hr
  by_cases h1 : x.1 = 0
  · have e : afterG ns fl l x = ([], 1) := by unfold afterG; rw [if_neg (by simpa using h0), if_pos h1]
    have f1 : (x.1 == 0) = true := by simp [h1]
    rw [e]
    refine acalls_pure (rl := []) mixed Tryz.func11 rfl (rs := [.tmp 6, .tmp 7]) rfl Tryz.ntmps11 (by simp) ?_
    repeat' (first | ((first | refine aops_nil ?_ | refine aqops_nil ?_); (try simp only [NB])) | ((repeat ((fail_if_success (refine hK _ ?_)); clear hK K)); refine hK _ ?_; clear hK K) | ((first | refine aops_k fun K1 hK1 => ?_ | refine aqops_k fun K1 hK1 => ?_ | refine awp_cond_k fun A B hA hB => ?_); simp only [S1, simprocAttr, TTTrG, f1]; first | (refine hK1 _ ?_; clear hK1 K1) | ((first | refine hA ?_ | refine hB ?_); clear hA hB A B) | ((first | apply call_a E30 | apply call_q E30); exact (hr _); (refine hK1 _ ?_; clear hK1 K1)) | (((first | (refine ⟨fun hg => hA ?_, fun hg => hB ?_⟩ <;> clear hA hB A B) | refine ⟨fun hg => ?_, fun hg => ?_⟩) <;> (try simp only [BN2] at hg) <;> (try simp only [hg, cond_true, cond_false])) <;> (try (refine hK1 _ ?_; clear hK1 K1)) <;> (try simp only [BN3] at hg))) | (refine awp_seq_k fun K hK => ?_) | ((first | refine awp_region ?_ | refine awp_draw (by kernel_rfl) ?_ | refine awp_block ?_ | refine awp_exit ?_ | refine awp_skip ?_ | refine awp_ret ?_); (try simp only [NB, simprocAttr])))
    all_goals simp only [EndP, FinP, resA, resL, resA1, lastV, lastA, lastAs, pur, purs, take_app, List.take_length, S1, simprocAttr, TTTrG, Nat.le_add_right, Nat.le_refl]
    all_goals rfl
  have e : afterG ns fl l x = closedW ns fl (ledsW ns fl l x) := by unfold afterG; rw [if_neg (by simpa using h0), if_neg h1]
  have f1 : (x.1 == 0) = false := by simp [h1]
  have hlw := ledsW_le ns fl x l
  have hc := fun h => closed_calls nk (l := ledsW ns fl l x) (ledsW_49 h49 x) (by omega) h
  rw [e]
  refine acalls_pure (rl := []) mixed Tryz.func11 rfl (rs := [.tmp 6, .tmp 7]) rfl Tryz.ntmps11 (by simp) ?_
  repeat' (first | ((first | refine aops_nil ?_ | refine aqops_nil ?_); (try simp only [NB]); ((repeat ((fail_if_success (refine hK _ ?_)); clear hK K)); refine hK _ ?_; clear hK K)) | ((first | refine aops_k fun K1 hK1 => ?_ | refine aqops_k fun K1 hK1 => ?_ | refine awp_cond_k fun A B hA hB => ?_); simp only [S1, simprocAttr, TTTrG]; first | (refine hK1 _ ?_; clear hK1 K1) | ((first | refine hA ?_ | refine hB ?_); clear hA hB A B) | (((first | (refine ⟨fun hg => hA ?_, fun hg => hB ?_⟩ <;> clear hA hB A B) | refine ⟨fun hg => ?_, fun hg => ?_⟩) <;> (try simp only [BN2] at hg) <;> (try simp only [hg, cond_true, cond_false])) <;> (try (refine hK1 _ ?_; clear hK1 K1)) <;> (try simp only [BN3] at hg))) | (refine awp_seq_k (x := Code.region _ _ _) fun K hK => ?_) | ((first | refine awp_region ?_ | refine awp_draw (by kernel_rfl) ?_ | refine awp_block ?_ | refine awp_exit ?_ | refine awp_skip ?_ | refine awp_ret ?_); (try simp only [NB, simprocAttr]); (try ((repeat ((fail_if_success (refine hK _ ?_)); clear hK K)); refine hK _ ?_; clear hK K))))
  refine awp_seq_k fun K hK => ?_
  repeat' (first | ((first | refine aops_nil ?_ | refine aqops_nil ?_); (try simp only [NB]); ((repeat ((fail_if_success (refine hK _ ?_)); clear hK K)); refine hK _ ?_; clear hK K)) | ((first | refine aops_k fun K1 hK1 => ?_ | refine aqops_k fun K1 hK1 => ?_ | refine awp_cond_k fun A B hA hB => ?_); simp only [S1, simprocAttr, TTTrG]; first | (refine hK1 _ ?_; clear hK1 K1) | ((first | refine hA ?_ | refine hB ?_); clear hA hB A B) | ((first | apply call_a E30 | apply call_q E30); exact (hr _); (refine hK1 _ ?_; clear hK1 K1)) | (((first | (refine ⟨fun hg => hA ?_, fun hg => hB ?_⟩ <;> clear hA hB A B) | refine ⟨fun hg => ?_, fun hg => ?_⟩) <;> (try simp only [BN2] at hg) <;> (try simp only [hg, cond_true, cond_false])) <;> (try (refine hK1 _ ?_; clear hK1 K1)) <;> (try simp only [BN3] at hg))) | (refine awp_seq_k (x := Code.region _ _ _) fun K hK => ?_) | ((first | refine awp_region ?_ | refine awp_draw (by kernel_rfl) ?_ | refine awp_block ?_ | refine awp_exit ?_ | refine awp_skip ?_ | refine awp_ret ?_); (try simp only [NB, simprocAttr]); (try ((repeat ((fail_if_success (refine hK _ ?_)); clear hK K)); refine hK _ ?_; clear hK K))))
  refine awp_seq_k fun K hK => ?_
  repeat' (first | ((first | refine aops_nil ?_ | refine aqops_nil ?_); (try simp only [NB]); ((repeat ((fail_if_success (refine hK _ ?_)); clear hK K)); refine hK _ ?_; clear hK K)) | ((first | refine aops_k fun K1 hK1 => ?_ | refine aqops_k fun K1 hK1 => ?_ | refine awp_cond_k fun A B hA hB => ?_); simp only [S1, simprocAttr, TTTrG, f1]; first | (refine hK1 _ ?_; clear hK1 K1) | ((first | refine hA ?_ | refine hB ?_); clear hA hB A B) | (((first | (refine ⟨fun hg => hA ?_, fun hg => hB ?_⟩ <;> clear hA hB A B) | refine ⟨fun hg => ?_, fun hg => ?_⟩) <;> (try simp only [BN2] at hg) <;> (try simp only [hg, cond_true, cond_false])) <;> (try (refine hK1 _ ?_; clear hK1 K1)) <;> (try simp only [BN3] at hg))) | (refine awp_seq_k (x := Code.region _ _ _) fun K hK => ?_) | ((first | refine awp_region ?_ | refine awp_draw (by kernel_rfl) ?_ | refine awp_block ?_ | refine awp_exit ?_ | refine awp_skip ?_ | refine awp_ret ?_); (try simp only [NB, simprocAttr]); (try ((repeat ((fail_if_success (refine hK _ ?_)); clear hK K)); refine hK _ ?_; clear hK K))))
  refine awp_tellG ⟨frL [(9, aSts (ledsW ns fl l x)), (3, .ptr h.length 0 0)], 39, h ++ [some ⟨0, cNet ns fl⟩]⟩ (fun K hK => ?_) ?_
  · repeat' (first | ((first | refine aops_nil ?_ | refine aqops_nil ?_); (try simp only [NB])) | ((repeat ((fail_if_success (refine hK _ ?_)); clear hK K)); refine hK _ ?_; clear hK K) | ((first | refine aops_k fun K1 hK1 => ?_ | refine aqops_k fun K1 hK1 => ?_ | refine awp_cond_k fun A B hA hB => ?_); simp only [S1, simprocAttr, TTTrG, List.length_map]; first | (refine hK1 _ ?_; clear hK1 K1) | ((first | refine hA ?_ | refine hB ?_); clear hA hB A B) | (((first | (refine ⟨fun hg => hA ?_, fun hg => hB ?_⟩ <;> clear hA hB A B) | refine ⟨fun hg => ?_, fun hg => ?_⟩) <;> (try simp only [BN2] at hg) <;> (try simp only [hg, cond_true, cond_false])) <;> (try (refine hK1 _ ?_; clear hK1 K1)) <;> (try simp only [BN3] at hg))) | (refine awp_seq_k fun K hK => ?_) | ((first | refine awp_region ?_ | refine awp_draw (by kernel_rfl) ?_ | refine awp_block ?_ | refine awp_exit ?_ | refine awp_skip ?_ | refine awp_ret ?_); (try simp only [NB, simprocAttr])))
    refine awp_forG l.length 39 (fun j => [(23, .i j), (22, .i l.length), (21, aSts l), (9, .ref (h.length + 2) (genW ns fl (l.take j) x) 0 49 (ledsW ns fl (l.take j) x).length), (3, .ptr h.length 0 0), (5, .ptr (h.length + 1) 0 0)])
      (fun j => [some ⟨0, cNet ns fl⟩, some ⟨0, [.i x.1, .i x.2.1, .i x.2.2]⟩, some ⟨genW ns fl (l.take j) x, flatS (ledsW ns fl (l.take j) x)⟩]) (fun j => True) ?_ trivial fun j hj hp K hK => ?_
    · refine (Ghost.adopt 9 49 rfl).trans (Sub.ghost ⟨rfl, ⟨[], by simp [flatS, ledsW, genW]⟩, ?_, ⟨trivial, trivial, trivial⟩, ⟨trivial, trivial, trivial, trivial⟩, trivial, trivial⟩)
      simp only [keeps, avlt, upd_get, frL, List.length_cons, List.length_nil]
      simp [ledsW, genW]
    rcases Nat.lt_or_ge j l.length with hlt | hge
    · obtain ⟨s, hx⟩ : ∃ k, l[j]? = some k := ⟨_, List.getElem?_eq_getElem hlt⟩
      have hs : s.length = 49 := h49 s (List.mem_of_getElem? hx)
      have hxr : (l.map eSt)[j]? = some (s.map (PV.int .i64)) := by rw [List.getElem?_map, hx]; rfl
      have jl : (j : Int) < (l.length : Int) := by omega
      have j0 : (0 : Int) ≤ (j : Int) := by omega
      have hnx : IntKind.i64.wrap ((j : Int) + 1) = ((j + 1 : Nat) : Int) := by rw [IntWalk.i64_in _ (by omega)]; omega
      have s49 : (s.map AV.i).take 49 = s.map AV.i := List.take_of_length_le (by rw [List.length_map, hs]; exact Nat.le_refl _)
      have hso : over (zS.map AV.i) 0 (s.map AV.i) = s.map AV.i := over_full (n := 49) (by rw [List.length_map, hs]) _ hzl
      have hsm := mapmap s
      have hne := ne_is hs
      have hled := fun h => led_calls nk hs x h
      have es := ledsW_succ (ns := ns) (fl := fl) hx x
      have eg := genW_succ (ns := ns) (fl := fl) hx x
      have hm49 := ledW_49 (ns := ns) (fl := fl) hs x
      have hml := ledW_le ns fl s x
      have ho := ledsW_49 (ns := ns) (fl := fl) (l := l.take j) (fun t ht => h49 t (List.mem_of_mem_take ht)) x
      have hol := ledsW_le ns fl x (l.take j)
      rw [List.length_take] at hol
      have hjm : min j l.length * 2500 ≤ 2000 * 2500 := Nat.mul_le_mul_right _ (by omega)
      generalize ledW ns fl s x = more at *
      generalize genW ns fl (l.take j) x = gn at *
      generalize ledsW ns fl (l.take j) x = o at *
      have hfl := flatS_len ho
      have hra := rows_allS hm49
      have hrf := rows_flatS more
      have hfa := flatS_app2 o more
      by_cases hk : more.length = 0
      · obtain rfl := List.eq_nil_of_length_eq_zero hk
        simp only [List.length_nil, if_true, Nat.add_zero] at eg
        rw [List.append_nil] at es
        repeat' (first | ((first | refine aops_nil ?_ | refine aqops_nil ?_); (try simp only [NB])) | ((repeat ((fail_if_success (refine hK _ ?_)); clear hK K)); refine hK _ ?_; clear hK K) | ((first | refine aops_k fun K1 hK1 => ?_ | refine aqops_k fun K1 hK1 => ?_ | refine awp_cond_k fun A B hA hB => ?_); simp only [S1, simprocAttr, TTTrG, jl, j0, hnx, hxr, hs, hzl, hem, s49, hso, hsm, hne, hfl, TSz, z49_ne, z49_map, zS_len, all_scalar, takeA_arr, takeA_st, List.map_nil, List.length_nil, List.all_nil, List.flatMap_nil, List.length_map, Int.toNat_natCast, Nat.zero_add]; first | (refine hK1 _ ?_; clear hK1 K1) | ((first | refine hA ?_ | refine hB ?_); clear hA hB A B) | ((first | apply call_a E31 | apply call_q E31); exact (hled _); (refine hK1 _ ?_; clear hK1 K1)) | (((first | (refine ⟨fun hg => hA ?_, fun hg => hB ?_⟩ <;> clear hA hB A B) | refine ⟨fun hg => ?_, fun hg => ?_⟩) <;> (try simp only [BN2] at hg) <;> (try simp only [hg, cond_true, cond_false])) <;> (try (refine hK1 _ ?_; clear hK1 K1)) <;> (try simp only [BN3] at hg))) | (refine awp_seq_k fun K hK => ?_) | ((first | refine awp_region ?_ | refine awp_draw (by kernel_rfl) ?_ | refine awp_block ?_ | refine awp_exit ?_ | refine awp_skip ?_ | refine awp_ret ?_); (try simp only [NB, simprocAttr])))
        all_goals refine ⟨hlt, trivial, ?_⟩
        all_goals simp only [es, eg]
        all_goals refine ⟨rfl, ⟨_, rfl⟩, ?_, ⟨trivial, trivial, trivial⟩, ⟨trivial, trivial, trivial, trivial⟩, flatS_avl _ _, trivial⟩
        all_goals clear hjm hol hml hlw hfl
        all_goals simp only [keeps, avlt, avlts, blksLt, frL, upd_get, S1, simprocAttr, List.length_map, Int.natCast_zero, AV.p.injEq, PV.int.injEq, PV.bool.injEq, PV.sl.injEq] <;> (try and_intros) <;> (try assumption) <;> (try trivial) <;> (try omega)
      · rw [if_neg hk] at eg
        have hmax : o.length + more.length ≤ maxCount := by unfold maxCount; omega
        repeat' (first | ((first | refine aops_nil ?_ | refine aqops_nil ?_); (try simp only [NB])) | ((repeat ((fail_if_success (refine hK _ ?_)); clear hK K)); refine hK _ ?_; clear hK K) | ((first | refine aops_k fun K1 hK1 => ?_ | refine aqops_k fun K1 hK1 => ?_ | refine awp_cond_k fun A B hA hB => ?_); simp only [S1, simprocAttr, TTTrG, jl, j0, hnx, hxr, hs, hzl, hem, s49, hso, hsm, hne, hfl, hk, hmax, hra, hrf, TSz, z49_ne, z49_map, zS_len, all_scalar, takeA_arr, takeA_st, List.length_map, Int.toNat_natCast, Nat.zero_add, List.drop_zero]; first | (refine hK1 _ ?_; clear hK1 K1) | ((first | refine hA ?_ | refine hB ?_); clear hA hB A B) | ((first | apply call_a E31 | apply call_q E31); exact (hled _); (refine hK1 _ ?_; clear hK1 K1)) | (((first | (refine ⟨fun hg => hA ?_, fun hg => hB ?_⟩ <;> clear hA hB A B) | refine ⟨fun hg => ?_, fun hg => ?_⟩) <;> (try simp only [BN2] at hg) <;> (try simp only [hg, cond_true, cond_false])) <;> (try (refine hK1 _ ?_; clear hK1 K1)) <;> (try simp only [BN3] at hg))) | (refine awp_seq_k fun K hK => ?_) | ((first | refine awp_region ?_ | refine awp_draw (by kernel_rfl) ?_ | refine awp_block ?_ | refine awp_exit ?_ | refine awp_skip ?_ | refine awp_ret ?_); (try simp only [NB, simprocAttr])))
        all_goals refine ⟨hlt, trivial, ?_⟩
        all_goals simp only [es, eg, hfa, List.length_append]
        all_goals refine ⟨rfl, ⟨_, rfl⟩, ?_, ⟨trivial, trivial, trivial⟩, ⟨trivial, trivial, trivial, trivial⟩, (by rw [← flatS_app2]; exact flatS_avl _ _), trivial⟩
        all_goals clear hjm hol hmax hml hlw hfl
        all_goals simp only [keeps, avlt, avlts, blksLt, frL, upd_get, S1, simprocAttr, List.length_map, Int.natCast_zero, AV.p.injEq, PV.int.injEq, PV.bool.injEq, PV.sl.injEq] <;> (try and_intros) <;> (try assumption) <;> (try trivial) <;> (try omega)
    · obtain rfl : j = l.length := by omega
      rw [List.take_length]
      have ho := ledsW_49 (ns := ns) (fl := fl) h49 x
      repeat' (first | ((first | refine aops_nil ?_ | refine aqops_nil ?_); (try simp only [NB])) | ((repeat ((fail_if_success (refine hK _ ?_)); clear hK K)); refine hK _ ?_; clear hK K) | ((first | refine aops_k fun K1 hK1 => ?_ | refine aqops_k fun K1 hK1 => ?_ | refine awp_cond_k fun A B hA hB => ?_); simp only [S1, simprocAttr, TTTrG, Int.lt_irrefl]; first | (refine hK1 _ ?_; clear hK1 K1) | ((first | refine hA ?_ | refine hB ?_); clear hA hB A B) | (((first | (refine ⟨fun hg => hA ?_, fun hg => hB ?_⟩ <;> clear hA hB A B) | refine ⟨fun hg => ?_, fun hg => ?_⟩) <;> (try simp only [BN2] at hg) <;> (try simp only [hg, cond_true, cond_false])) <;> (try (refine hK1 _ ?_; clear hK1 K1)) <;> (try simp only [BN3] at hg))) | (refine awp_seq_k fun K hK => ?_) | ((first | refine awp_region ?_ | refine awp_draw (by kernel_rfl) ?_ | refine awp_block ?_ | refine awp_exit ?_ | refine awp_skip ?_ | refine awp_ret ?_); (try simp only [NB, simprocAttr])))
      have hfz : ∀ r ∈ (ledsW ns fl l x).map eSt, r.length = 49 := fun r hr => by obtain ⟨s, hs, rfl⟩ := List.mem_map.mp hr; exact eSt_len ho s hs
      have hcz : flatS (ledsW ns fl l x) = (((ledsW ns fl l x).map eSt).flatMap id).map AV.p ++ [] := by rw [rows_flatS, List.append_nil]
      have hlz : (ledsW ns fl l x).length = ((ledsW ns fl l x).map eSt).length := (List.length_map ..).symm
      have hbz : ∀ A B C : Option Blk, (h ++ [A, B, C])[h.length + 2]? = some C := fun A B C => by rw [get_app]; rfl
      have hsz : ∀ A B C : Option Blk, (h ++ [A, B, C]).set (h.length + 2) none = h ++ ([A] ++ [B, none]) := fun A B C => by rw [set_app]; rfl
      all_goals refine (Ghost.freeze (k := 9) (b := h.length + 2) (sz := 49) (n := (ledsW ns fl l x).length) (rows := (ledsW ns fl l x).map eSt) (bk := ⟨genW ns fl l x, flatS (ledsW ns fl l x)⟩) (rest := []) rfl (hbz _ _ _) hlz hfz (by omega) hcz).trans (Sub.ghost ⟨rfl, ⟨_, hsz _ _ _⟩, ?_, ⟨trivial, trivial, trivial⟩, trivial⟩)
      all_goals simp only [keeps, avlt, avlts, blksLt, frL, upd_get, S1, simprocAttr, List.length_map, Int.natCast_zero, AV.p.injEq, PV.int.injEq, PV.bool.injEq, PV.sl.injEq] <;> (try and_intros) <;> (try assumption) <;> (try trivial) <;> (try omega)
  repeat' (first | ((first | refine aops_nil ?_ | refine aqops_nil ?_); (try simp only [NB])) | ((repeat ((fail_if_success (refine hK _ ?_)); clear hK K)); refine hK _ ?_; clear hK K) | ((first | refine aops_k fun K1 hK1 => ?_ | refine aqops_k fun K1 hK1 => ?_ | refine awp_cond_k fun A B hA hB => ?_); simp only [S1, simprocAttr, TTTrG]; first | (refine hK1 _ ?_; clear hK1 K1) | ((first | refine hA ?_ | refine hB ?_); clear hA hB A B) | ((first | apply call_a E32 | apply call_q E32); exact (hc _); (refine hK1 _ ?_; clear hK1 K1)) | (((first | (refine ⟨fun hg => hA ?_, fun hg => hB ?_⟩ <;> clear hA hB A B) | refine ⟨fun hg => ?_, fun hg => ?_⟩) <;> (try simp only [BN2] at hg) <;> (try simp only [hg, cond_true, cond_false])) <;> (try (refine hK1 _ ?_; clear hK1 K1)) <;> (try simp only [BN3] at hg))) | (refine awp_seq_k fun K hK => ?_) | ((first | refine awp_region ?_ | refine awp_draw (by kernel_rfl) ?_ | refine awp_block ?_ | refine awp_exit ?_ | refine awp_skip ?_ | refine awp_ret ?_); (try simp only [NB, simprocAttr])))
  all_goals simp only [EndP, FinP, resA, resL, resA1, lastV, lastA, lastAs, pur, purs, take_app, List.take_length, S1, simprocAttr, TTTrG, Nat.le_add_right, Nat.le_refl]
end Go.Proofs.YtbbmfemplmelhaaGreatDoor.AM
end

section
set_option linter.unusedVariables false
set_option linter.unusedSimpArgs false
set_option maxRecDepth 4000
set_option maxHeartbeats 4000000
namespace Go.Proofs.YtbbmfemplmelhaaGreatDoor.AM
open Go Go.Proofs
set_option linter.defProp false in
def TTTrI := And.intro T2 (And.intro T3 (And.intro T4 (And.intro T25 (And.intro T26 (And.intro T28 (And.intro T31 (And.intro T34 (And.intro T36 (And.intro T41 (And.intro T44 (And.intro T57 (And.intro T58 (And.intro T89 T92)))))))))))))
attribute [local irreducible] awp aops aqops aeops arun arunT

def eL (x : Lb) : List PV := [.int .i64 x.1, .int .i64 x.2.1, .int .i64 x.2.2]
abbrev aLs (l : List Lb) : AV := .p (.sl (l.map eL))
theorem rowL {l : List Lb} {j : Nat} {x : Lb} (h : l[j]? = some x) : (l.map eL)[j]? = some [.int .i64 x.1, .int .i64 x.2.1, .int .i64 x.2.2] := by simp [h, eL]

/-- How many labels can be seen: of a cloud, of the labels from the j-th on. -/
noncomputable def accF (ns : List Nd) (fl : List Fl) : List Lb → Nat → List Sv → Int × Int
  | [], j, _ => (j, 0)
  | x :: r, j, c => if x.1 = 0 then (j, 0) else if (afterG ns fl c x).2 ≠ 0 then (0, (afterG ns fl c x).2) else if (afterG ns fl c x).1 = [] then (j, 0) else accF ns fl r (j + 1) (afterG ns fl c x).1
noncomputable def acceptG (ns : List Nd) (fl : List Fl) (l : List Lb) : Int × Int := if (beginG ns fl).2 ≠ 0 then (0, (beginG ns fl).2) else accF ns fl l 0 (beginG ns fl).1

theorem closedW_le (ns : List Nd) (fl : List Fl) (l : List Sv) : (closedW ns fl l).1.length ≤ 1500 := by
  unfold closedW
  split
  · assumption
  · simp
theorem closedW_49 {ns : List Nd} {fl : List Fl} {l : List Sv} (h : St49 l) : St49 (closedW ns fl l).1 := by
  unfold closedW
  split
  · exact closeW_mem (P := fun s => s.length = 49) (fun s hs t ht => ledW_49 hs _ t ht) h
  · exact fun s hs => by cases hs
theorem afterG_le (ns : List Nd) (fl : List Fl) (l : List Sv) (x : Lb) : (afterG ns fl l x).1.length ≤ 1500 := by
  unfold afterG
  split
  · simp
  · split
    · simp
    · exact closedW_le _ _ _
theorem afterG_49 {ns : List Nd} {fl : List Fl} {l : List Sv} (h : St49 l) (x : Lb) : St49 (afterG ns fl l x).1 := by
  unfold afterG
  split
  · exact fun s hs => by cases hs
  · split
    · exact fun s hs => by cases hs
    · exact closedW_49 (ledsW_49 h x)
theorem beginG_le (ns : List Nd) (fl : List Fl) : (beginG ns fl).1.length ≤ 1500 := by
  unfold beginG
  split
  · simp
  · exact closedW_le _ _ _
theorem beginG_49 (ns : List Nd) (fl : List Fl) : St49 (beginG ns fl).1 := by
  unfold beginG
  split
  · exact fun s hs => by cases hs
  · exact closedW_49 (st49_one (startG_49 ns fl))

/-- Where a walk over labels stands. -/
structure Qac where
  j : Nat
  c : List Sv
  e : Int

theorem accepts_calls {ns : List Nd} {fl : List Fl} (nk : NetOk ns fl) {l : List Lb} (hl : l.length ≤ 1000) (h : Heap) :
    ACalls Tryz.prog gW 20 [aNet ns fl, aLs l] h (fun r h' => r = .tup [.i (acceptG ns fl l).1, .i (acceptG ns fl l).2] ∧ h' = h) := by
  have hbg := fun h => begin_calls nk h
  have hb49 := beginG_49 ns fl
  have hble := beginG_le ns fl
  have hac : acceptG ns fl l = if (beginG ns fl).2 ≠ 0 then (0, (beginG ns fl).2) else accF ns fl l 0 (beginG ns fl).1 := rfl
  obtain ⟨c0, e0, hce⟩ : ∃ c e, beginG ns fl = (c, e) := ⟨_, _, rfl⟩
  rw [hce] at hbg hb49 hble hac
  simp only at hbg hb49 hble hac
  refine acalls_pure (rl := []) mixed Tryz.func20 rfl (rs := [.tmp 4, .tmp 5]) rfl Tryz.ntmps20 (by simp) ?_
  repeat' (first | ((first | refine aops_nil ?_ | refine aqops_nil ?_); (try simp only [NB])) | ((repeat ((fail_if_success (refine hK _ ?_)); clear hK K)); refine hK _ ?_; clear hK K) | ((first | refine aops_k fun K1 hK1 => ?_ | refine aqops_k fun K1 hK1 => ?_ | refine awp_cond_k fun A B hA hB => ?_); simp only [S1, simprocAttr, TTTrI, List.length_map]; first | (refine hK1 _ ?_; clear hK1 K1) | ((first | refine hA ?_ | refine hB ?_); clear hA hB A B) | ((first | apply call_a E15 | apply call_q E15); exact (hbg _); (refine hK1 _ ?_; clear hK1 K1)) | (refine join_x (v := ?_) (fun hg hk9 => ?_) ?_; rotate_left; (focus (try ((try simp only [BN] at hg); simp only [S1, simprocAttr, TTTrI, List.length_map, hg] at hk9 ⊢)); first | exact hk9 | ((first | apply call_a E15 | apply call_q E15); exact (hbg _); exact hk9)); (refine hK1 _ ?_; clear hK1 K1)) | (((first | (refine ⟨fun hg => hA ?_, fun hg => hB ?_⟩ <;> clear hA hB A B) | refine ⟨fun hg => ?_, fun hg => ?_⟩) <;> (try simp only [BN2] at hg) <;> (try simp only [hg, cond_true, cond_false])) <;> (try (refine hK1 _ ?_; clear hK1 K1)) <;> (try simp only [BN3] at hg))) | (refine awp_seq_k fun K hK => ?_) | ((first | refine awp_region ?_ | refine awp_draw (by kernel_rfl) ?_ | refine awp_block ?_ | refine awp_exit ?_ | refine awp_skip ?_ | refine awp_ret ?_); (try simp only [NB, simprocAttr])))
  refine awp_while (σ := Qac) (fun q => l.length - q.j) 50 (fun q => [(17, .i q.j), (16, .i l.length), (15, aLs l), (1, aLs l), (6, aSts q.c), (7, .i q.e), (2, .ptr h.length 0 0)]) (fun q => [some ⟨0, cNet ns fl⟩])
    (fun q => q.j ≤ l.length ∧ St49 q.c ∧ q.c.length ≤ 1500 ∧ acceptG ns fl l = if q.e ≠ 0 then (0, q.e) else accF ns fl (l.drop q.j) q.j q.c) ⟨0, c0, e0⟩ ?_ ⟨Nat.zero_le _, hb49, hble, hac⟩ fun q hp K hK => ?_
  · refine ⟨rfl, ⟨_, rfl⟩, ?_, ⟨trivial, trivial, trivial⟩, trivial⟩
    simp only [keeps, avlt, avlts, blksLt, frL, upd_get, S1, simprocAttr, List.length_map, Int.natCast_zero, AV.p.injEq, PV.int.injEq, PV.bool.injEq, PV.sl.injEq] <;> (try and_intros) <;> (try assumption) <;> (try trivial) <;> (try omega)
  clear hac hble hb49 hce hbg
  obtain ⟨j, c, e⟩ := q
  obtain ⟨hj, c49, cle, hac⟩ := hp
  simp only at hj c49 cle hac hK ⊢
  rcases Nat.lt_or_ge j l.length with hlt | hge
  · obtain ⟨x, hx⟩ : ∃ k, l[j]? = some k := ⟨_, List.getElem?_eq_getElem hlt⟩
    have hd : l.drop j = x :: l.drop (j + 1) := by rw [List.drop_eq_getElem_cons hlt, (List.getElem?_eq_some_iff.mp hx).2]
    have jl : (j : Int) < (l.length : Int) := by omega
    have j0 : (0 : Int) ≤ (j : Int) := by omega
    have hnx : IntKind.i64.wrap ((j : Int) + 1) = ((j + 1 : Nat) : Int) := by rw [IntWalk.i64_in _ (by omega)]; omega
    by_cases he : e = 0
    case neg =>
      have f0 : (e != 0) = true := by simp [he]
      rw [if_pos he] at hac
      rw [hac]
      repeat' (first | ((first | refine aops_nil ?_ | refine aqops_nil ?_); (try simp only [NB])) | ((repeat ((fail_if_success (refine hK _ ?_)); clear hK K)); refine hK _ ?_; clear hK K) | ((first | refine aops_k fun K1 hK1 => ?_ | refine aqops_k fun K1 hK1 => ?_ | refine awp_cond_k fun A B hA hB => ?_); simp only [S1, simprocAttr, TTTrI, jl, j0, rowL hx, f0, takeA_arr, takeA_st, List.length_map, Int.toNat_natCast]; first | (refine hK1 _ ?_; clear hK1 K1) | ((first | refine hA ?_ | refine hB ?_); clear hA hB A B) | (refine join_x (v := ?_) (fun hg hk9 => ?_) ?_; rotate_left; (focus (try ((try simp only [BN] at hg); simp only [S1, simprocAttr, TTTrI, jl, j0, rowL hx, f0, takeA_arr, takeA_st, List.length_map, Int.toNat_natCast, hg] at hk9 ⊢)); first | exact hk9); (refine hK1 _ ?_; clear hK1 K1)) | (((first | (refine ⟨fun hg => hA ?_, fun hg => hB ?_⟩ <;> clear hA hB A B) | refine ⟨fun hg => ?_, fun hg => ?_⟩) <;> (try simp only [BN2] at hg) <;> (try simp only [hg, cond_true, cond_false])) <;> (try (refine hK1 _ ?_; clear hK1 K1)) <;> (try simp only [BN3] at hg))) | (refine awp_seq_k fun K hK => ?_) | ((first | refine awp_region ?_ | refine awp_draw (by kernel_rfl) ?_ | refine awp_block ?_ | refine awp_exit ?_ | refine awp_skip ?_ | refine awp_ret ?_); (try simp only [NB, simprocAttr])))
      all_goals simp only [EndP, FinP, resA, resL, resA1, lastV, lastA, lastAs, pur, purs, take_app, List.take_length, S1, simprocAttr, TTTrI, Nat.le_add_right, Nat.le_refl]
    subst he
    rw [if_neg (by simp), hd] at hac
    by_cases h1 : x.1 = 0
    · have f1 : (x.1 == 0) = true := by simp [h1]
      have e1 : acceptG ns fl l = ((j : Int), 0) := by rw [hac]; unfold accF; rw [if_pos h1]
      rw [e1]
      repeat' (first | ((first | refine aops_nil ?_ | refine aqops_nil ?_); (try simp only [NB])) | ((repeat ((fail_if_success (refine hK _ ?_)); clear hK K)); refine hK _ ?_; clear hK K) | ((first | refine aops_k fun K1 hK1 => ?_ | refine aqops_k fun K1 hK1 => ?_ | refine awp_cond_k fun A B hA hB => ?_); simp only [S1, simprocAttr, TTTrI, jl, j0, rowL hx, f1, takeA_arr, takeA_st, List.length_map, Int.toNat_natCast]; first | (refine hK1 _ ?_; clear hK1 K1) | ((first | refine hA ?_ | refine hB ?_); clear hA hB A B) | (refine join_x (v := ?_) (fun hg hk9 => ?_) ?_; rotate_left; (focus (try ((try simp only [BN] at hg); simp only [S1, simprocAttr, TTTrI, jl, j0, rowL hx, f1, takeA_arr, takeA_st, List.length_map, Int.toNat_natCast, hg] at hk9 ⊢)); first | exact hk9); (refine hK1 _ ?_; clear hK1 K1)) | (((first | (refine ⟨fun hg => hA ?_, fun hg => hB ?_⟩ <;> clear hA hB A B) | refine ⟨fun hg => ?_, fun hg => ?_⟩) <;> (try simp only [BN2] at hg) <;> (try simp only [hg, cond_true, cond_false])) <;> (try (refine hK1 _ ?_; clear hK1 K1)) <;> (try simp only [BN3] at hg))) | (refine awp_seq_k fun K hK => ?_) | ((first | refine awp_region ?_ | refine awp_draw (by kernel_rfl) ?_ | refine awp_block ?_ | refine awp_exit ?_ | refine awp_skip ?_ | refine awp_ret ?_); (try simp only [NB, simprocAttr])))
      all_goals simp only [EndP, FinP, resA, resL, resA1, lastV, lastA, lastAs, pur, purs, take_app, List.take_length, S1, simprocAttr, TTTrI, Nat.le_add_right, Nat.le_refl]
    have f1 : (x.1 == 0) = false := by simp [h1]
    have haf := fun h => after_calls nk c49 (by omega) x h
    have ha49 := afterG_49 (ns := ns) (fl := fl) c49 x
    have hale := afterG_le ns fl c x
    have e1 : acceptG ns fl l = if (afterG ns fl c x).2 ≠ 0 then (0, (afterG ns fl c x).2) else if (afterG ns fl c x).1 = [] then ((j : Int), 0) else accF ns fl (l.drop (j + 1)) (j + 1) (afterG ns fl c x).1 := by
      rw [hac]; conv => lhs; unfold accF
      rw [if_neg h1]
    obtain ⟨c', e', hce⟩ : ∃ c1 e1, afterG ns fl c x = (c1, e1) := ⟨_, _, rfl⟩
    rw [hce] at haf ha49 hale e1
    simp only at haf ha49 hale e1
    by_cases h2 : e' = 0
    · subst h2
      rw [if_neg (by simp)] at e1
      by_cases h3 : c' = []
      · subst h3
        rw [if_pos rfl] at e1
        rw [e1]
        repeat' (first | ((first | refine aops_nil ?_ | refine aqops_nil ?_); (try simp only [NB])) | ((repeat ((fail_if_success (refine hK _ ?_)); clear hK K)); refine hK _ ?_; clear hK K) | ((first | refine aops_k fun K1 hK1 => ?_ | refine aqops_k fun K1 hK1 => ?_ | refine awp_cond_k fun A B hA hB => ?_); simp only [S1, simprocAttr, TTTrI, jl, j0, rowL hx, f1, takeA_arr, takeA_st, List.length_map, List.map_nil, List.length_nil, Int.toNat_natCast]; first | (refine hK1 _ ?_; clear hK1 K1) | ((first | refine hA ?_ | refine hB ?_); clear hA hB A B) | ((first | apply call_a E11 | apply call_q E11); exact (haf _); (refine hK1 _ ?_; clear hK1 K1)) | (refine join_x (v := ?_) (fun hg hk9 => ?_) ?_; rotate_left; (focus (try ((try simp only [BN] at hg); simp only [S1, simprocAttr, TTTrI, jl, j0, rowL hx, f1, takeA_arr, takeA_st, List.length_map, List.map_nil, List.length_nil, Int.toNat_natCast, hg] at hk9 ⊢)); first | exact hk9 | ((first | apply call_a E11 | apply call_q E11); exact (haf _); exact hk9)); (refine hK1 _ ?_; clear hK1 K1)) | (((first | (refine ⟨fun hg => hA ?_, fun hg => hB ?_⟩ <;> clear hA hB A B) | refine ⟨fun hg => ?_, fun hg => ?_⟩) <;> (try simp only [BN2] at hg) <;> (try simp only [hg, cond_true, cond_false])) <;> (try (refine hK1 _ ?_; clear hK1 K1)) <;> (try simp only [BN3] at hg))) | (refine awp_seq_k fun K hK => ?_) | ((first | refine awp_region ?_ | refine awp_draw (by kernel_rfl) ?_ | refine awp_block ?_ | refine awp_exit ?_ | refine awp_skip ?_ | refine awp_ret ?_); (try simp only [NB, simprocAttr])))
        all_goals simp only [EndP, FinP, resA, resL, resA1, lastV, lastA, lastAs, pur, purs, take_app, List.take_length, S1, simprocAttr, TTTrI, Nat.le_add_right, Nat.le_refl]
      · rw [if_neg h3] at e1
        have f3 : ((c'.length : Int) == 0) = false := by
          have : c'.length ≠ 0 := fun e => h3 (List.eq_nil_of_length_eq_zero e)
          simp; omega
        repeat' (first | ((first | refine aops_nil ?_ | refine aqops_nil ?_); (try simp only [NB])) | ((repeat ((fail_if_success (refine hK _ ?_)); clear hK K)); refine hK _ ?_; clear hK K) | ((first | refine aops_k fun K1 hK1 => ?_ | refine aqops_k fun K1 hK1 => ?_ | refine awp_cond_k fun A B hA hB => ?_); simp only [S1, simprocAttr, TTTrI, jl, j0, hnx, rowL hx, f1, f3, takeA_arr, takeA_st, List.length_map, Int.toNat_natCast]; first | (refine hK1 _ ?_; clear hK1 K1) | ((first | refine hA ?_ | refine hB ?_); clear hA hB A B) | ((first | apply call_a E11 | apply call_q E11); exact (haf _); (refine hK1 _ ?_; clear hK1 K1)) | (refine join_x (v := ?_) (fun hg hk9 => ?_) ?_; rotate_left; (focus (try ((try simp only [BN] at hg); simp only [S1, simprocAttr, TTTrI, jl, j0, hnx, rowL hx, f1, f3, takeA_arr, takeA_st, List.length_map, Int.toNat_natCast, hg] at hk9 ⊢)); first | exact hk9 | ((first | apply call_a E11 | apply call_q E11); exact (haf _); exact hk9)); (refine hK1 _ ?_; clear hK1 K1)) | (((first | (refine ⟨fun hg => hA ?_, fun hg => hB ?_⟩ <;> clear hA hB A B) | refine ⟨fun hg => ?_, fun hg => ?_⟩) <;> (try simp only [BN2] at hg) <;> (try simp only [hg, cond_true, cond_false])) <;> (try (refine hK1 _ ?_; clear hK1 K1)) <;> (try simp only [BN3] at hg))) | (refine awp_seq_k fun K hK => ?_) | ((first | refine awp_region ?_ | refine awp_draw (by kernel_rfl) ?_ | refine awp_block ?_ | refine awp_exit ?_ | refine awp_skip ?_ | refine awp_ret ?_); (try simp only [NB, simprocAttr])))
        all_goals refine ⟨⟨j + 1, c', 0⟩, by simp only; omega, ⟨by simp only; omega, ha49, hale, by simp only; rw [if_neg (by simp)]; exact e1⟩, ?_⟩
        all_goals refine ⟨rfl, ⟨_, rfl⟩, ?_, ⟨trivial, trivial, trivial⟩, trivial⟩
        all_goals simp only [keeps, avlt, avlts, blksLt, frL, upd_get, S1, simprocAttr, List.length_map, Int.natCast_zero, AV.p.injEq, PV.int.injEq, PV.bool.injEq, PV.sl.injEq] <;> (try and_intros) <;> (try assumption) <;> (try trivial) <;> (try omega)
    · have f2 : (e' == 0) = false := by simp [h2]
      rw [if_pos h2] at e1
      by_cases h3 : c' = []
      · subst h3
        repeat' (first | ((first | refine aops_nil ?_ | refine aqops_nil ?_); (try simp only [NB])) | ((repeat ((fail_if_success (refine hK _ ?_)); clear hK K)); refine hK _ ?_; clear hK K) | ((first | refine aops_k fun K1 hK1 => ?_ | refine aqops_k fun K1 hK1 => ?_ | refine awp_cond_k fun A B hA hB => ?_); simp only [S1, simprocAttr, TTTrI, jl, j0, hnx, rowL hx, f1, f2, takeA_arr, takeA_st, List.length_map, List.map_nil, List.length_nil, Int.toNat_natCast]; first | (refine hK1 _ ?_; clear hK1 K1) | ((first | refine hA ?_ | refine hB ?_); clear hA hB A B) | ((first | apply call_a E11 | apply call_q E11); exact (haf _); (refine hK1 _ ?_; clear hK1 K1)) | (refine join_x (v := ?_) (fun hg hk9 => ?_) ?_; rotate_left; (focus (try ((try simp only [BN] at hg); simp only [S1, simprocAttr, TTTrI, jl, j0, hnx, rowL hx, f1, f2, takeA_arr, takeA_st, List.length_map, List.map_nil, List.length_nil, Int.toNat_natCast, hg] at hk9 ⊢)); first | exact hk9 | ((first | apply call_a E11 | apply call_q E11); exact (haf _); exact hk9)); (refine hK1 _ ?_; clear hK1 K1)) | (((first | (refine ⟨fun hg => hA ?_, fun hg => hB ?_⟩ <;> clear hA hB A B) | refine ⟨fun hg => ?_, fun hg => ?_⟩) <;> (try simp only [BN2] at hg) <;> (try simp only [hg, cond_true, cond_false])) <;> (try (refine hK1 _ ?_; clear hK1 K1)) <;> (try simp only [BN3] at hg))) | (refine awp_seq_k fun K hK => ?_) | ((first | refine awp_region ?_ | refine awp_draw (by kernel_rfl) ?_ | refine awp_block ?_ | refine awp_exit ?_ | refine awp_skip ?_ | refine awp_ret ?_); (try simp only [NB, simprocAttr])))
        all_goals refine ⟨⟨j + 1, [], e'⟩, by simp only; omega, ⟨by simp only; omega, ha49, hale, by simp only; rw [if_pos h2]; exact e1⟩, ?_⟩
        all_goals refine ⟨rfl, ⟨_, rfl⟩, ?_, ⟨trivial, trivial, trivial⟩, trivial⟩
        all_goals simp only [keeps, avlt, avlts, blksLt, frL, upd_get, S1, simprocAttr, List.length_map, Int.natCast_zero, AV.p.injEq, PV.int.injEq, PV.bool.injEq, PV.sl.injEq] <;> (try and_intros) <;> (try assumption) <;> (try trivial) <;> (try omega)
      · have f3 : ((c'.length : Int) == 0) = false := by
          have : c'.length ≠ 0 := fun e => h3 (List.eq_nil_of_length_eq_zero e)
          simp; omega
        repeat' (first | ((first | refine aops_nil ?_ | refine aqops_nil ?_); (try simp only [NB])) | ((repeat ((fail_if_success (refine hK _ ?_)); clear hK K)); refine hK _ ?_; clear hK K) | ((first | refine aops_k fun K1 hK1 => ?_ | refine aqops_k fun K1 hK1 => ?_ | refine awp_cond_k fun A B hA hB => ?_); simp only [S1, simprocAttr, TTTrI, jl, j0, hnx, rowL hx, f1, f3, takeA_arr, takeA_st, List.length_map, Int.toNat_natCast]; first | (refine hK1 _ ?_; clear hK1 K1) | ((first | refine hA ?_ | refine hB ?_); clear hA hB A B) | ((first | apply call_a E11 | apply call_q E11); exact (haf _); (refine hK1 _ ?_; clear hK1 K1)) | (refine join_x (v := ?_) (fun hg hk9 => ?_) ?_; rotate_left; (focus (try ((try simp only [BN] at hg); simp only [S1, simprocAttr, TTTrI, jl, j0, hnx, rowL hx, f1, f3, takeA_arr, takeA_st, List.length_map, Int.toNat_natCast, hg] at hk9 ⊢)); first | exact hk9 | ((first | apply call_a E11 | apply call_q E11); exact (haf _); exact hk9)); (refine hK1 _ ?_; clear hK1 K1)) | (((first | (refine ⟨fun hg => hA ?_, fun hg => hB ?_⟩ <;> clear hA hB A B) | refine ⟨fun hg => ?_, fun hg => ?_⟩) <;> (try simp only [BN2] at hg) <;> (try simp only [hg, cond_true, cond_false])) <;> (try (refine hK1 _ ?_; clear hK1 K1)) <;> (try simp only [BN3] at hg))) | (refine awp_seq_k fun K hK => ?_) | ((first | refine awp_region ?_ | refine awp_draw (by kernel_rfl) ?_ | refine awp_block ?_ | refine awp_exit ?_ | refine awp_skip ?_ | refine awp_ret ?_); (try simp only [NB, simprocAttr])))
        all_goals refine ⟨⟨j + 1, c', e'⟩, by simp only; omega, ⟨by simp only; omega, ha49, hale, by simp only; rw [if_pos h2]; exact e1⟩, ?_⟩
        all_goals refine ⟨rfl, ⟨_, rfl⟩, ?_, ⟨trivial, trivial, trivial⟩, trivial⟩
        all_goals simp only [keeps, avlt, avlts, blksLt, frL, upd_get, S1, simprocAttr, List.length_map, Int.natCast_zero, AV.p.injEq, PV.int.injEq, PV.bool.injEq, PV.sl.injEq] <;> (try and_intros) <;> (try assumption) <;> (try trivial) <;> (try omega)
  · obtain rfl : j = l.length := by omega
    by_cases he : e = 0
    · subst he
      rw [if_neg (by simp), List.drop_length] at hac
      have e1 : acceptG ns fl l = ((l.length : Int), 0) := by rw [hac]; rfl
      repeat' (first | ((first | refine aops_nil ?_ | refine aqops_nil ?_); (try simp only [NB])) | ((repeat ((fail_if_success (refine hK _ ?_)); clear hK K)); refine hK _ ?_; clear hK K) | ((first | refine aops_k fun K1 hK1 => ?_ | refine aqops_k fun K1 hK1 => ?_ | refine awp_cond_k fun A B hA hB => ?_); simp only [S1, simprocAttr, TTTrI, Int.lt_irrefl, List.length_map]; first | (refine hK1 _ ?_; clear hK1 K1) | ((first | refine hA ?_ | refine hB ?_); clear hA hB A B) | (refine join_x (v := ?_) (fun hg hk9 => ?_) ?_; rotate_left; (focus (try ((try simp only [BN] at hg); simp only [S1, simprocAttr, TTTrI, Int.lt_irrefl, List.length_map, hg] at hk9 ⊢)); first | exact hk9); (refine hK1 _ ?_; clear hK1 K1)) | (((first | (refine ⟨fun hg => hA ?_, fun hg => hB ?_⟩ <;> clear hA hB A B) | refine ⟨fun hg => ?_, fun hg => ?_⟩) <;> (try simp only [BN2] at hg) <;> (try simp only [hg, cond_true, cond_false])) <;> (try (refine hK1 _ ?_; clear hK1 K1)) <;> (try simp only [BN3] at hg))) | (refine awp_seq_k fun K hK => ?_) | ((first | refine awp_region ?_ | refine awp_draw (by kernel_rfl) ?_ | refine awp_block ?_ | refine awp_exit ?_ | refine awp_skip ?_ | refine awp_ret ?_); (try simp only [NB, simprocAttr])))
      all_goals simp only [EndP, FinP, resA, resL, resA1, lastV, lastA, lastAs, pur, purs, take_app, List.take_length, S1, simprocAttr, TTTrI, Nat.le_add_right, Nat.le_refl]
      all_goals rw [e1]
    · have f0 : (e != 0) = true := by simp [he]
      rw [if_pos he] at hac
      repeat' (first | ((first | refine aops_nil ?_ | refine aqops_nil ?_); (try simp only [NB])) | ((repeat ((fail_if_success (refine hK _ ?_)); clear hK K)); refine hK _ ?_; clear hK K) | ((first | refine aops_k fun K1 hK1 => ?_ | refine aqops_k fun K1 hK1 => ?_ | refine awp_cond_k fun A B hA hB => ?_); simp only [S1, simprocAttr, TTTrI, Int.lt_irrefl, f0, List.length_map]; first | (refine hK1 _ ?_; clear hK1 K1) | ((first | refine hA ?_ | refine hB ?_); clear hA hB A B) | (refine join_x (v := ?_) (fun hg hk9 => ?_) ?_; rotate_left; (focus (try ((try simp only [BN] at hg); simp only [S1, simprocAttr, TTTrI, Int.lt_irrefl, f0, List.length_map, hg] at hk9 ⊢)); first | exact hk9); (refine hK1 _ ?_; clear hK1 K1)) | (((first | (refine ⟨fun hg => hA ?_, fun hg => hB ?_⟩ <;> clear hA hB A B) | refine ⟨fun hg => ?_, fun hg => ?_⟩) <;> (try simp only [BN2] at hg) <;> (try simp only [hg, cond_true, cond_false])) <;> (try (refine hK1 _ ?_; clear hK1 K1)) <;> (try simp only [BN3] at hg))) | (refine awp_seq_k fun K hK => ?_) | ((first | refine awp_region ?_ | refine awp_draw (by kernel_rfl) ?_ | refine awp_block ?_ | refine awp_exit ?_ | refine awp_skip ?_ | refine awp_ret ?_); (try simp only [NB, simprocAttr])))
      all_goals simp only [EndP, FinP, resA, resL, resA1, lastV, lastA, lastAs, pur, purs, take_app, List.take_length, S1, simprocAttr, TTTrI, Nat.le_add_right, Nat.le_refl]
      all_goals rw [hac]

end Go.Proofs.YtbbmfemplmelhaaGreatDoor.AM
end

section
set_option linter.unusedVariables false
set_option linter.unusedSimpArgs false
set_option maxRecDepth 4000
set_option maxHeartbeats 4000000
namespace Go.Proofs.YtbbmfemplmelhaaGreatDoor.AM
open Go Go.Proofs
set_option linter.defProp false in
def TTTrJ := And.intro T2 (And.intro T3 (And.intro T4 (And.intro T28 (And.intro T41 T44))))
attribute [local irreducible] awp aops aqops aeops arun arunT
variable {G : Nat → Option (List PV)}

theorem isNaN3_calls (x : Int) (h : Heap) : ACalls Tryz.prog G 94 [.i x] h (fun r h' => r = .b false ∧ h' = h) := by
  have hx : (x != x) = false := by simp
  refine acalls_pure (rl := []) mixed Tryz.func94 rfl (rs := [.tmp 2]) rfl Tryz.ntmps94 (by simp) ?_
  repeat' (first | ((first | refine aops_nil ?_ | refine aqops_nil ?_); (try simp only [NB])) | ((repeat ((fail_if_success (refine hK _ ?_)); clear hK K)); refine hK _ ?_; clear hK K) | ((first | refine aops_k fun K1 hK1 => ?_ | refine aqops_k fun K1 hK1 => ?_ | refine awp_cond_k fun A B hA hB => ?_); simp only [S1, simprocAttr, TTTrJ, hx]; first | (refine hK1 _ ?_; clear hK1 K1) | ((first | refine hA ?_ | refine hB ?_); clear hA hB A B) | (((first | (refine ⟨fun hg => hA ?_, fun hg => hB ?_⟩ <;> clear hA hB A B) | refine ⟨fun hg => ?_, fun hg => ?_⟩) <;> (try simp only [BN2] at hg) <;> (try simp only [hg, cond_true, cond_false])) <;> (try (refine hK1 _ ?_; clear hK1 K1)) <;> (try simp only [BN3] at hg))) | (refine awp_seq_k fun K hK => ?_) | ((first | refine awp_region ?_ | refine awp_draw (by kernel_rfl) ?_ | refine awp_block ?_ | refine awp_exit ?_ | refine awp_skip ?_ | refine awp_ret ?_); (try simp only [NB, simprocAttr])))
  all_goals simp only [EndP, FinP, resA, resL, resA1, lastV, lastA, lastAs, pur, purs, take_app, List.take_length, S1, simprocAttr, TTTrJ, Nat.le_add_right, Nat.le_refl]
theorem compare3_calls (x y : Int) (h : Heap) : ACalls Tryz.prog G 63 [.i x, .i y] h (fun r h' => r = .i (cmpI3 x y) ∧ h' = h) := by
  by_cases h1 : x < y
  · have e : cmpI3 x y = -1 := by unfold cmpI3; rw [if_pos h1]
    rw [e]
    refine acalls_pure (rl := []) mixed Tryz.func63 rfl (rs := [.tmp 4]) rfl Tryz.ntmps63 (by simp) ?_
    repeat' (first | ((first | refine aops_nil ?_ | refine aqops_nil ?_); (try simp only [NB])) | ((repeat ((fail_if_success (refine hK _ ?_)); clear hK K)); refine hK _ ?_; clear hK K) | ((first | refine aops_k fun K1 hK1 => ?_ | refine aqops_k fun K1 hK1 => ?_ | refine awp_cond_k fun A B hA hB => ?_); simp only [S1, simprocAttr, TTTrJ, h1]; first | (refine hK1 _ ?_; clear hK1 K1) | ((first | refine hA ?_ | refine hB ?_); clear hA hB A B) | ((first | apply call_a E94 | apply call_q E94); exact (isNaN3_calls _ _); (refine hK1 _ ?_; clear hK1 K1)) | (((first | (refine ⟨fun hg => hA ?_, fun hg => hB ?_⟩ <;> clear hA hB A B) | refine ⟨fun hg => ?_, fun hg => ?_⟩) <;> (try simp only [BN2] at hg) <;> (try simp only [hg, cond_true, cond_false])) <;> (try (refine hK1 _ ?_; clear hK1 K1)) <;> (try simp only [BN3] at hg))) | (refine awp_seq_k fun K hK => ?_) | ((first | refine awp_region ?_ | refine awp_draw (by kernel_rfl) ?_ | refine awp_block ?_ | refine awp_exit ?_ | refine awp_skip ?_ | refine awp_ret ?_); (try simp only [NB, simprocAttr])))
    all_goals simp only [EndP, FinP, resA, resL, resA1, lastV, lastA, lastAs, pur, purs, take_app, List.take_length, S1, simprocAttr, TTTrJ, Nat.le_add_right, Nat.le_refl]
  · by_cases h2 : y < x
    · have e : cmpI3 x y = 1 := by unfold cmpI3; rw [if_neg h1, if_pos h2]
      rw [e]
      refine acalls_pure (rl := []) mixed Tryz.func63 rfl (rs := [.tmp 4]) rfl Tryz.ntmps63 (by simp) ?_
      repeat' (first | ((first | refine aops_nil ?_ | refine aqops_nil ?_); (try simp only [NB])) | ((repeat ((fail_if_success (refine hK _ ?_)); clear hK K)); refine hK _ ?_; clear hK K) | ((first | refine aops_k fun K1 hK1 => ?_ | refine aqops_k fun K1 hK1 => ?_ | refine awp_cond_k fun A B hA hB => ?_); simp only [S1, simprocAttr, TTTrJ, h1, h2]; first | (refine hK1 _ ?_; clear hK1 K1) | ((first | refine hA ?_ | refine hB ?_); clear hA hB A B) | ((first | apply call_a E94 | apply call_q E94); exact (isNaN3_calls _ _); (refine hK1 _ ?_; clear hK1 K1)) | (((first | (refine ⟨fun hg => hA ?_, fun hg => hB ?_⟩ <;> clear hA hB A B) | refine ⟨fun hg => ?_, fun hg => ?_⟩) <;> (try simp only [BN2] at hg) <;> (try simp only [hg, cond_true, cond_false])) <;> (try (refine hK1 _ ?_; clear hK1 K1)) <;> (try simp only [BN3] at hg))) | (refine awp_seq_k fun K hK => ?_) | ((first | refine awp_region ?_ | refine awp_draw (by kernel_rfl) ?_ | refine awp_block ?_ | refine awp_exit ?_ | refine awp_skip ?_ | refine awp_ret ?_); (try simp only [NB, simprocAttr])))
      all_goals simp only [EndP, FinP, resA, resL, resA1, lastV, lastA, lastAs, pur, purs, take_app, List.take_length, S1, simprocAttr, TTTrJ, Nat.le_add_right, Nat.le_refl]
    · have e : cmpI3 x y = 0 := by unfold cmpI3; rw [if_neg h1, if_neg h2]
      rw [e]
      refine acalls_pure (rl := []) mixed Tryz.func63 rfl (rs := [.tmp 4]) rfl Tryz.ntmps63 (by simp) ?_
      repeat' (first | ((first | refine aops_nil ?_ | refine aqops_nil ?_); (try simp only [NB])) | ((repeat ((fail_if_success (refine hK _ ?_)); clear hK K)); refine hK _ ?_; clear hK K) | ((first | refine aops_k fun K1 hK1 => ?_ | refine aqops_k fun K1 hK1 => ?_ | refine awp_cond_k fun A B hA hB => ?_); simp only [S1, simprocAttr, TTTrJ, h1, h2]; first | (refine hK1 _ ?_; clear hK1 K1) | ((first | refine hA ?_ | refine hB ?_); clear hA hB A B) | ((first | apply call_a E94 | apply call_q E94); exact (isNaN3_calls _ _); (refine hK1 _ ?_; clear hK1 K1)) | (((first | (refine ⟨fun hg => hA ?_, fun hg => hB ?_⟩ <;> clear hA hB A B) | refine ⟨fun hg => ?_, fun hg => ?_⟩) <;> (try simp only [BN2] at hg) <;> (try simp only [hg, cond_true, cond_false])) <;> (try (refine hK1 _ ?_; clear hK1 K1)) <;> (try simp only [BN3] at hg))) | (refine awp_seq_k fun K hK => ?_) | ((first | refine awp_region ?_ | refine awp_draw (by kernel_rfl) ?_ | refine awp_block ?_ | refine awp_exit ?_ | refine awp_skip ?_ | refine awp_ret ?_); (try simp only [NB, simprocAttr])))
      all_goals simp only [EndP, FinP, resA, resL, resA1, lastV, lastA, lastAs, pur, purs, take_app, List.take_length, S1, simprocAttr, TTTrJ, Nat.le_add_right, Nat.le_refl]
theorem or3_calls (l : List Int) (hl : l.length ≤ 100) (h : Heap) : ACalls Tryz.prog G 62 [.p (.sl (l.map fun n => [.int .i64 n]))] h (fun r h' => r = .i (orI3 l) ∧ h' = h) := by
  refine acalls_pure (rl := []) mixed Tryz.func62 rfl (rs := [.tmp 2]) rfl Tryz.ntmps62 (by simp) ?_
  repeat' (first | ((first | refine aops_nil ?_ | refine aqops_nil ?_); (try simp only [NB])) | ((repeat ((fail_if_success (refine hK _ ?_)); clear hK K)); refine hK _ ?_; clear hK K) | ((first | refine aops_k fun K1 hK1 => ?_ | refine aqops_k fun K1 hK1 => ?_ | refine awp_cond_k fun A B hA hB => ?_); simp only [S1, simprocAttr, TTTrJ, List.length_map]; first | (refine hK1 _ ?_; clear hK1 K1) | ((first | refine hA ?_ | refine hB ?_); clear hA hB A B) | (((first | (refine ⟨fun hg => hA ?_, fun hg => hB ?_⟩ <;> clear hA hB A B) | refine ⟨fun hg => ?_, fun hg => ?_⟩) <;> (try simp only [BN2] at hg) <;> (try simp only [hg, cond_true, cond_false])) <;> (try (refine hK1 _ ?_; clear hK1 K1)) <;> (try simp only [BN3] at hg))) | (refine awp_seq_k fun K hK => ?_) | ((first | refine awp_region ?_ | refine awp_draw (by kernel_rfl) ?_ | refine awp_block ?_ | refine awp_exit ?_ | refine awp_skip ?_ | refine awp_ret ?_); (try simp only [NB, simprocAttr])))
  refine awp_for l.length 18 (fun j => [(8, .i j), (7, .i l.length), (6, .p (.sl (l.map fun n => [.int .i64 n]))), (3, .i 0)]) (fun j => []) (fun j => orI3 l = orI3 (l.drop j)) ?_ rfl fun j hj hp K hK => ?_
  · (refine ⟨rfl, (by first | exact ⟨_, rfl⟩ | exact ⟨[], by simp⟩), ?_, ?_⟩ <;> simp only [keeps, avlt, avlts, blksLt, frL, upd_get, S1, simprocAttr, List.length_map, Int.natCast_zero, AV.p.injEq, PV.int.injEq, PV.bool.injEq, PV.sl.injEq] <;> (try and_intros) <;> (try assumption) <;> (try trivial) <;> (try omega))
  rcases Nat.lt_or_ge j l.length with hlt | hge
  · obtain ⟨y, hy⟩ : ∃ y, l[j]? = some y := ⟨_, List.getElem?_eq_getElem hlt⟩
    have hx : (l.map fun n => [PV.int .i64 n])[j]? = some [.int .i64 y] := by rw [List.getElem?_map, hy]; rfl
    have jl : (j : Int) < (l.length : Int) := by omega
    have j0 : (0 : Int) ≤ (j : Int) := by omega
    have hnx : IntKind.i64.wrap ((j : Int) + 1) = ((j + 1 : Nat) : Int) := by rw [IntWalk.i64_in _ (by omega)]; omega
    have hd : orI3 (l.drop j) = if y = 0 then orI3 (l.drop (j + 1)) else y := by
      rw [List.drop_eq_getElem_cons hlt, (List.getElem?_eq_some_iff.mp hy).2]; rfl
    by_cases hz : y = 0
    · subst hz
      have hb : ((0 : Int) != 0) = false := rfl
      repeat' (first | ((first | refine aops_nil ?_ | refine aqops_nil ?_); (try simp only [NB])) | ((repeat ((fail_if_success (refine hK _ ?_)); clear hK K)); refine hK _ ?_; clear hK K) | ((first | refine aops_k fun K1 hK1 => ?_ | refine aqops_k fun K1 hK1 => ?_ | refine awp_cond_k fun A B hA hB => ?_); simp only [S1, simprocAttr, TTTrJ, jl, j0, hx, hnx, hb, List.length_map]; first | (refine hK1 _ ?_; clear hK1 K1) | ((first | refine hA ?_ | refine hB ?_); clear hA hB A B) | (((first | (refine ⟨fun hg => hA ?_, fun hg => hB ?_⟩ <;> clear hA hB A B) | refine ⟨fun hg => ?_, fun hg => ?_⟩) <;> (try simp only [BN2] at hg) <;> (try simp only [hg, cond_true, cond_false])) <;> (try (refine hK1 _ ?_; clear hK1 K1)) <;> (try simp only [BN3] at hg))) | (refine awp_seq_k fun K hK => ?_) | ((first | refine awp_region ?_ | refine awp_draw (by kernel_rfl) ?_ | refine awp_block ?_ | refine awp_exit ?_ | refine awp_skip ?_ | refine awp_ret ?_); (try simp only [NB, simprocAttr])))
      all_goals refine ⟨hlt, ?_, ?_⟩
      all_goals first | (rw [hp, hd]; rfl) | (refine ⟨rfl, (by first | exact ⟨_, rfl⟩ | exact ⟨[], by simp⟩), ?_, ?_⟩ <;> simp only [keeps, avlt, avlts, blksLt, frL, upd_get, S1, simprocAttr, List.length_map, Int.natCast_zero, AV.p.injEq, PV.int.injEq, PV.bool.injEq, PV.sl.injEq] <;> (try and_intros) <;> (try assumption) <;> (try trivial) <;> (try omega))
    · have hb : (y != 0) = true := by simpa using hz
      rw [if_neg hz] at hd
      repeat' (first | ((first | refine aops_nil ?_ | refine aqops_nil ?_); (try simp only [NB])) | ((repeat ((fail_if_success (refine hK _ ?_)); clear hK K)); refine hK _ ?_; clear hK K) | ((first | refine aops_k fun K1 hK1 => ?_ | refine aqops_k fun K1 hK1 => ?_ | refine awp_cond_k fun A B hA hB => ?_); simp only [S1, simprocAttr, TTTrJ, jl, j0, hx, hnx, hb, List.length_map]; first | (refine hK1 _ ?_; clear hK1 K1) | ((first | refine hA ?_ | refine hB ?_); clear hA hB A B) | (((first | (refine ⟨fun hg => hA ?_, fun hg => hB ?_⟩ <;> clear hA hB A B) | refine ⟨fun hg => ?_, fun hg => ?_⟩) <;> (try simp only [BN2] at hg) <;> (try simp only [hg, cond_true, cond_false])) <;> (try (refine hK1 _ ?_; clear hK1 K1)) <;> (try simp only [BN3] at hg))) | (refine awp_seq_k fun K hK => ?_) | ((first | refine awp_region ?_ | refine awp_draw (by kernel_rfl) ?_ | refine awp_block ?_ | refine awp_exit ?_ | refine awp_skip ?_ | refine awp_ret ?_); (try simp only [NB, simprocAttr])))
      all_goals simp only [EndP, FinP, resA, resL, resA1, lastV, lastA, lastAs, pur, purs, take_app, List.take_length, S1, simprocAttr, TTTrJ, Nat.le_add_right, Nat.le_refl]
      all_goals rw [hp, hd]
      all_goals trivial
  · obtain rfl : j = l.length := by omega
    repeat' (first | ((first | refine aops_nil ?_ | refine aqops_nil ?_); (try simp only [NB])) | ((repeat ((fail_if_success (refine hK _ ?_)); clear hK K)); refine hK _ ?_; clear hK K) | ((first | refine aops_k fun K1 hK1 => ?_ | refine aqops_k fun K1 hK1 => ?_ | refine awp_cond_k fun A B hA hB => ?_); simp only [S1, simprocAttr, TTTrJ, Int.lt_irrefl]; first | (refine hK1 _ ?_; clear hK1 K1) | ((first | refine hA ?_ | refine hB ?_); clear hA hB A B) | (((first | (refine ⟨fun hg => hA ?_, fun hg => hB ?_⟩ <;> clear hA hB A B) | refine ⟨fun hg => ?_, fun hg => ?_⟩) <;> (try simp only [BN2] at hg) <;> (try simp only [hg, cond_true, cond_false])) <;> (try (refine hK1 _ ?_; clear hK1 K1)) <;> (try simp only [BN3] at hg))) | (refine awp_seq_k fun K hK => ?_) | ((first | refine awp_region ?_ | refine awp_draw (by kernel_rfl) ?_ | refine awp_block ?_ | refine awp_exit ?_ | refine awp_skip ?_ | refine awp_ret ?_); (try simp only [NB, simprocAttr])))
    all_goals simp only [EndP, FinP, resA, resL, resA1, lastV, lastA, lastAs, pur, purs, take_app, List.take_length, S1, simprocAttr, TTTrJ, Nat.le_add_right, Nat.le_refl]
    rw [List.drop_length] at hp
    simp [hp, orI3]
theorem tcompare_calls (x y : Lb) (h : Heap) : ACalls Tryz.prog G 40 [aL x, aL y] h (fun r h' => r = .i (cmpLb x y) ∧ h' = h) := by
  have ho := fun h => or3_calls (G := G) [cmpI3 x.1 y.1, cmpI3 x.2.1 y.2.1, cmpI3 x.2.2 y.2.2] (by simp) h
  have ec : cmpLb x y = orI3 [cmpI3 x.1 y.1, cmpI3 x.2.1 y.2.1, cmpI3 x.2.2 y.2.2] := rfl
  rw [← ec] at ho
  refine acalls_pure (rl := []) mixed Tryz.func40 rfl (rs := [.tmp 4]) rfl Tryz.ntmps40 (by simp) ?_
  repeat' (first | ((first | refine aops_nil ?_ | refine aqops_nil ?_); (try simp only [NB])) | ((repeat ((fail_if_success (refine hK _ ?_)); clear hK K)); refine hK _ ?_; clear hK K) | ((first | refine aops_k fun K1 hK1 => ?_ | refine aqops_k fun K1 hK1 => ?_ | refine awp_cond_k fun A B hA hB => ?_); simp only [S1, simprocAttr, TTTrJ]; first | (refine hK1 _ ?_; clear hK1 K1) | ((first | refine hA ?_ | refine hB ?_); clear hA hB A B) | ((first | apply call_a E63 | apply call_q E63); exact (compare3_calls _ _ _); (refine hK1 _ ?_; clear hK1 K1)) | ((first | apply call_a E62 | apply call_q E62); exact (ho _); (refine hK1 _ ?_; clear hK1 K1)) | (((first | (refine ⟨fun hg => hA ?_, fun hg => hB ?_⟩ <;> clear hA hB A B) | refine ⟨fun hg => ?_, fun hg => ?_⟩) <;> (try simp only [BN2] at hg) <;> (try simp only [hg, cond_true, cond_false])) <;> (try (refine hK1 _ ?_; clear hK1 K1)) <;> (try simp only [BN3] at hg))) | (refine awp_seq_k fun K hK => ?_) | ((first | refine awp_region ?_ | refine awp_draw (by kernel_rfl) ?_ | refine awp_block ?_ | refine awp_exit ?_ | refine awp_skip ?_ | refine awp_ret ?_); (try simp only [NB, simprocAttr])))
  all_goals simp only [EndP, FinP, resA, resL, resA1, lastV, lastA, lastAs, pur, purs, take_app, List.take_length, S1, simprocAttr, TTTrJ, Nat.le_add_right, Nat.le_refl]
theorem tless_calls (x y : Lb) (h : Heap) : ACalls Tryz.prog G 25 [aL x, aL y] h (fun r h' => r = .b (decide (ltL x y)) ∧ h' = h) := by
  have hc := fun h => tcompare_calls (G := G) x y h
  have e : decide (cmpLb x y < 0) = decide (ltL x y) := decide_eq_decide.mpr cmpLb_lt
  refine acalls_pure (rl := []) mixed Tryz.func25 rfl (rs := [.tmp 4]) rfl Tryz.ntmps25 (by simp) ?_
  repeat' (first | ((first | refine aops_nil ?_ | refine aqops_nil ?_); (try simp only [NB])) | ((repeat ((fail_if_success (refine hK _ ?_)); clear hK K)); refine hK _ ?_; clear hK K) | ((first | refine aops_k fun K1 hK1 => ?_ | refine aqops_k fun K1 hK1 => ?_ | refine awp_cond_k fun A B hA hB => ?_); simp only [S1, simprocAttr, TTTrJ, e, takeA_arr, takeA_st]; first | (refine hK1 _ ?_; clear hK1 K1) | ((first | refine hA ?_ | refine hB ?_); clear hA hB A B) | ((first | apply call_a E40 | apply call_q E40); exact (hc _); (refine hK1 _ ?_; clear hK1 K1)) | (((first | (refine ⟨fun hg => hA ?_, fun hg => hB ?_⟩ <;> clear hA hB A B) | refine ⟨fun hg => ?_, fun hg => ?_⟩) <;> (try simp only [BN2] at hg) <;> (try simp only [hg, cond_true, cond_false])) <;> (try (refine hK1 _ ?_; clear hK1 K1)) <;> (try simp only [BN3] at hg))) | (refine awp_seq_k fun K hK => ?_) | ((first | refine awp_region ?_ | refine awp_draw (by kernel_rfl) ?_ | refine awp_block ?_ | refine awp_exit ?_ | refine awp_skip ?_ | refine awp_ret ?_); (try simp only [NB, simprocAttr])))
  all_goals simp only [EndP, FinP, resA, resL, resA1, lastV, lastA, lastAs, pur, purs, take_app, List.take_length, S1, simprocAttr, TTTrJ, Nat.le_add_right, Nat.le_refl]
theorem rless_calls (x y : Lb) (h : Heap) : ACalls Tryz.prog G 26 [aL x, aL y] h (fun r h' => r = .b (decide (ltL x y)) ∧ h' = h) := by
  by_cases h1 : x.1 = y.1
  · have f1 : (x.1 != y.1) = false := by simp [h1]
    by_cases h2 : x.2.1 = y.2.1
    · have f2 : (x.2.1 != y.2.1) = false := by simp [h2]
      have e : decide (ltL x y) = decide (x.2.2 < y.2.2) := decide_eq_decide.mpr (by unfold ltL; omega)
      rw [e]
      refine acalls_pure (rl := []) mixed Tryz.func26 rfl (rs := [.tmp 4]) rfl Tryz.ntmps26 (by simp) ?_
      repeat' (first | ((first | refine aops_nil ?_ | refine aqops_nil ?_); (try simp only [NB])) | ((repeat ((fail_if_success (refine hK _ ?_)); clear hK K)); refine hK _ ?_; clear hK K) | ((first | refine aops_k fun K1 hK1 => ?_ | refine aqops_k fun K1 hK1 => ?_ | refine awp_cond_k fun A B hA hB => ?_); simp only [S1, simprocAttr, TTTrJ, f1, f2]; first | (refine hK1 _ ?_; clear hK1 K1) | ((first | refine hA ?_ | refine hB ?_); clear hA hB A B) | (((first | (refine ⟨fun hg => hA ?_, fun hg => hB ?_⟩ <;> clear hA hB A B) | refine ⟨fun hg => ?_, fun hg => ?_⟩) <;> (try simp only [BN2] at hg) <;> (try simp only [hg, cond_true, cond_false])) <;> (try (refine hK1 _ ?_; clear hK1 K1)) <;> (try simp only [BN3] at hg))) | (refine awp_seq_k fun K hK => ?_) | ((first | refine awp_region ?_ | refine awp_draw (by kernel_rfl) ?_ | refine awp_block ?_ | refine awp_exit ?_ | refine awp_skip ?_ | refine awp_ret ?_); (try simp only [NB, simprocAttr])))
      all_goals simp only [EndP, FinP, resA, resL, resA1, lastV, lastA, lastAs, pur, purs, take_app, List.take_length, S1, simprocAttr, TTTrJ, Nat.le_add_right, Nat.le_refl]
    · have f2 : (x.2.1 != y.2.1) = true := by simp [h2]
      have e : decide (ltL x y) = decide (x.2.1 < y.2.1) := decide_eq_decide.mpr (by unfold ltL; omega)
      rw [e]
      refine acalls_pure (rl := []) mixed Tryz.func26 rfl (rs := [.tmp 4]) rfl Tryz.ntmps26 (by simp) ?_
      repeat' (first | ((first | refine aops_nil ?_ | refine aqops_nil ?_); (try simp only [NB])) | ((repeat ((fail_if_success (refine hK _ ?_)); clear hK K)); refine hK _ ?_; clear hK K) | ((first | refine aops_k fun K1 hK1 => ?_ | refine aqops_k fun K1 hK1 => ?_ | refine awp_cond_k fun A B hA hB => ?_); simp only [S1, simprocAttr, TTTrJ, f1, f2]; first | (refine hK1 _ ?_; clear hK1 K1) | ((first | refine hA ?_ | refine hB ?_); clear hA hB A B) | (((first | (refine ⟨fun hg => hA ?_, fun hg => hB ?_⟩ <;> clear hA hB A B) | refine ⟨fun hg => ?_, fun hg => ?_⟩) <;> (try simp only [BN2] at hg) <;> (try simp only [hg, cond_true, cond_false])) <;> (try (refine hK1 _ ?_; clear hK1 K1)) <;> (try simp only [BN3] at hg))) | (refine awp_seq_k fun K hK => ?_) | ((first | refine awp_region ?_ | refine awp_draw (by kernel_rfl) ?_ | refine awp_block ?_ | refine awp_exit ?_ | refine awp_skip ?_ | refine awp_ret ?_); (try simp only [NB, simprocAttr])))
      all_goals simp only [EndP, FinP, resA, resL, resA1, lastV, lastA, lastAs, pur, purs, take_app, List.take_length, S1, simprocAttr, TTTrJ, Nat.le_add_right, Nat.le_refl]
  · have f1 : (x.1 != y.1) = true := by simp [h1]
    have e : decide (ltL x y) = decide (x.1 < y.1) := decide_eq_decide.mpr (by unfold ltL; omega)
    rw [e]
    refine acalls_pure (rl := []) mixed Tryz.func26 rfl (rs := [.tmp 4]) rfl Tryz.ntmps26 (by simp) ?_
    repeat' (first | ((first | refine aops_nil ?_ | refine aqops_nil ?_); (try simp only [NB])) | ((repeat ((fail_if_success (refine hK _ ?_)); clear hK K)); refine hK _ ?_; clear hK K) | ((first | refine aops_k fun K1 hK1 => ?_ | refine aqops_k fun K1 hK1 => ?_ | refine awp_cond_k fun A B hA hB => ?_); simp only [S1, simprocAttr, TTTrJ, f1]; first | (refine hK1 _ ?_; clear hK1 K1) | ((first | refine hA ?_ | refine hB ?_); clear hA hB A B) | (((first | (refine ⟨fun hg => hA ?_, fun hg => hB ?_⟩ <;> clear hA hB A B) | refine ⟨fun hg => ?_, fun hg => ?_⟩) <;> (try simp only [BN2] at hg) <;> (try simp only [hg, cond_true, cond_false])) <;> (try (refine hK1 _ ?_; clear hK1 K1)) <;> (try simp only [BN3] at hg))) | (refine awp_seq_k fun K hK => ?_) | ((first | refine awp_region ?_ | refine awp_draw (by kernel_rfl) ?_ | refine awp_block ?_ | refine awp_exit ?_ | refine awp_skip ?_ | refine awp_ret ?_); (try simp only [NB, simprocAttr])))
    all_goals simp only [EndP, FinP, resA, resL, resA1, lastV, lastA, lastAs, pur, purs, take_app, List.take_length, S1, simprocAttr, TTTrJ, Nat.le_add_right, Nat.le_refl]
end Go.Proofs.YtbbmfemplmelhaaGreatDoor.AM
end

section
set_option linter.unusedVariables false
set_option linter.unusedSimpArgs false
set_option maxRecDepth 4000
set_option maxHeartbeats 4000000
namespace Go.Proofs.YtbbmfemplmelhaaGreatDoor.AM
open Go Go.Proofs
set_option linter.defProp false in
def TTTrL := And.intro T2 (And.intro T3 (And.intro T4 (And.intro T28 (And.intro T41 T44))))
attribute [local irreducible] awp aops aqops aeops arun arunT
variable {G : Nat → Option (List PV)}

/-- The cells of labels. -/
def cLs (l : List Lb) : List AV := (l.flatMap recL).map AV.i
theorem cLs_len : ∀ l : List Lb, (cLs l).length = l.length * 3
  | [] => rfl
  | x :: l => by
    have := cLs_len l
    unfold cLs at this ⊢
    rw [List.flatMap_cons, List.map_append, List.length_append, this, List.length_cons]
    show 3 + l.length * 3 = _
    omega
theorem cLs_cons (x : Lb) (l : List Lb) : cLs (x :: l) = .i x.1 :: .i x.2.1 :: .i x.2.2 :: cLs l := rfl
theorem cLs_app (l m : List Lb) : cLs (l ++ m) = cLs l ++ cLs m := by unfold cLs; rw [List.flatMap_append, List.map_append]
theorem cLs_drop : ∀ (j : Nat) (l : List Lb), (cLs l).drop (j * 3) = cLs (l.drop j)
  | 0, l => by simp
  | j + 1, [] => by simp [cLs]
  | j + 1, x :: l => by
    rw [List.drop_succ_cons, ← cLs_drop j l, cLs_cons, show (j + 1) * 3 = j * 3 + 1 + 1 + 1 by omega]; rfl
theorem cLs_at {l : List Lb} {j : Nat} {x : Lb} (h : l[j]? = some x) : (cLs l).drop (j * 3) = .i x.1 :: .i x.2.1 :: .i x.2.2 :: cLs (l.drop (j + 1)) := by
  rw [cLs_drop, List.drop_eq_getElem_cons (List.getElem?_eq_some_iff.mp h).1, (List.getElem?_eq_some_iff.mp h).2, cLs_cons]
theorem cLs_take (j : Nat) (l : List Lb) : (cLs l).take (j * 3) = cLs (l.take j) := by
  induction j generalizing l with
  | zero => simp [cLs]
  | succ j ih =>
    cases l with
    | nil => simp [cLs]
    | cons x l => rw [List.take_succ_cons, cLs_cons, cLs_cons, ← ih, show (j + 1) * 3 = j * 3 + 1 + 1 + 1 by omega]; rfl
theorem cLs_over {l : List Lb} {j : Nat} (h : j < l.length) (x : Lb) : over (cLs l) (j * 3) [.i x.1, .i x.2.1, .i x.2.2] = cLs (l.set j x) := by
  have h3 : (cLs l).length = l.length * 3 := cLs_len l
  have e1 : over (cLs l) (j * 3) [AV.i x.1, AV.i x.2.1, AV.i x.2.2] = (cLs l).take (j * 3) ++ ([AV.i x.1, AV.i x.2.1, AV.i x.2.2] ++ (cLs l).drop (j * 3 + 3)) := by
    rw [over_gen _ _ _ (by rw [h3]; simp; omega)]
    simp
  rw [e1, cLs_take, show j * 3 + 3 = (j + 1) * 3 by omega, cLs_drop, List.set_eq_take_append_cons_drop, if_pos h, cLs_app, cLs_cons]
  rfl
theorem cLs_avl (l : List Lb) (n : Nat) : avlts n (cLs l) := avlts_is _ _

/-- One more behind a list that ends so. -/
theorem onceL_snoc : ∀ (p : List Lb) (z y : Lb), onceL (p ++ [z] ++ [y]) = onceL (p ++ [z]) ++ if z = y then [] else [y]
  | [], z, y => by
    simp only [List.nil_append, List.cons_append]
    unfold onceL
    split
    · rename_i e; simp [onceL, e]
    · simp [onceL]
  | [a], z, y => by
    have := onceL_snoc [] z y
    simp only [List.nil_append, List.cons_append] at this ⊢
    unfold onceL
    split
    · exact this
    · rw [this]; rfl
  | a :: b :: p, z, y => by
    have := onceL_snoc (b :: p) z y
    simp only [List.cons_append] at this ⊢
    unfold onceL
    split
    · exact this
    · rw [this]; rfl
theorem onceL_take {l : List Lb} {m : Nat} {z y : Lb} (hz : l[m]? = some z) (hy : l[m + 1]? = some y) : onceL (l.take (m + 2)) = onceL (l.take (m + 1)) ++ if z = y then [] else [y] := by
  have e1 : l.take (m + 1) = l.take m ++ [z] := by rw [List.take_add_one, hz]; rfl
  have e2 : l.take (m + 2) = l.take m ++ [z] ++ [y] := by rw [List.take_add_one, hy, e1]; rfl
  rw [e2, e1, onceL_snoc]
theorem takeL_c (by' : Nat) (z : Option (List PV)) (fs : List (Nat × Nat × Nat)) (a b c : AV) (r : List AV) : takeA ⟨.struct fs, 3, by', z⟩ (a :: b :: c :: r) = some (.agg [a, b, c]) := by
  unfold takeA; simp [TI.isAgg]

structure Qcp where
  j : Nat
  k : Nat
  cur : List Lb

theorem zer3 (m : Nat) : (List.replicate m [AV.i 0, AV.i 0, AV.i 0]).flatMap id = cLs (List.replicate m (0, 0, 0)) := by
  induction m with
  | zero => rfl
  | succ m ih => rw [List.replicate_succ, List.replicate_succ, List.flatMap_cons, ih, cLs_cons]; rfl

/-- A heap of which one block bears labels. -/
def putB (h : Heap) (b g : Nat) (l : List Lb) : Heap := h.set b (some ⟨g, cLs l⟩)
theorem putB_len (h : Heap) (b g : Nat) (l : List Lb) : (putB h b g l).length = h.length := by simp [putB]
theorem putB_get0 {h : Heap} {b : Nat} (hb : b < h.length) (g : Nat) (l : List Lb) : (putB h b g l)[b]? = some (some ⟨g, cLs l⟩) := by unfold putB; rw [List.getElem?_set_self hb]
theorem putB_set (h : Heap) (b g : Nat) (l m : List Lb) : (putB h b g l).set b (some ⟨g, cLs m⟩) = putB h b g m := by unfold putB; rw [List.set_set]
theorem putB_keep (h : Heap) (b g : Nat) (l : List Lb) : (putB h b g l).length = h.length ∧ ∀ (c : Nat) (bk : Blk), (putB h b g l)[c]? = some (some bk) → h[c]? = some (some bk) ∨ avlts h.length bk.cells := by
  refine ⟨putB_len _ _ _ _, fun c bk hc => ?_⟩
  unfold putB at hc
  rw [List.getElem?_set] at hc
  split at hc
  · split at hc
    · cases hc; exact .inr (cLs_avl _ _)
    · cases hc
  · exact .inl hc
theorem putB_self {h : Heap} {b g : Nat} {l : List Lb} (hb : h[b]? = some (some ⟨g, cLs l⟩)) : putB h b g l = h := by
  have hbl : b < h.length := getElem?_lt hb
  apply List.ext_getElem?
  intro i
  unfold putB
  rw [List.getElem?_set]
  split
  · rename_i e; subst e; first | exact hb.symm | (rw [if_pos hbl]; exact hb.symm)
  · rfl

theorem compact_calls {l : List Lb} (hl : l.length ≤ 16000000) {h : Heap} {b g : Nat} (hb : h[b]? = some (some ⟨g, cLs l⟩)) :
    ACalls Tryz.prog G 41 [.ref b g 0 3 l.length] h (fun r h' => r = .ref b g 0 3 (onceL l).length ∧ h' = putB h b g (onceL l ++ List.replicate (l.length - (onceL l).length) (0, 0, 0))) := by
  have hbl : b < h.length := getElem?_lt hb
  have hself := putB_self hb
  have hcl := cLs_len l
  have hnt := Tryz.ntmps41
  by_cases h2 : l.length < 2
  · have e : onceL l = l := by
      match l, h2 with
      | [], _ => rfl
      | [x], _ => rfl
    have f2 : (l.length : Int) < 2 := by omega
    rw [e, Nat.sub_self, List.replicate_zero, List.append_nil, hself]
    refine Sim.evoKeep (rl := []) mixed Tryz.func41 rfl (by rw [hnt]; simp) ?_
    rw [hnt]
    repeat' (first | ((first | refine aops_nil ?_ | refine aqops_nil ?_); (try simp only [NB])) | ((repeat ((fail_if_success (refine hK _ ?_)); clear hK K)); refine hK _ ?_; clear hK K) | ((first | refine aops_k fun K1 hK1 => ?_ | refine aqops_k fun K1 hK1 => ?_ | refine awp_cond_k fun A B hA hB => ?_); simp only [S1, simprocAttr, TTTrL, f2]; first | (refine hK1 _ ?_; clear hK1 K1) | ((first | refine hA ?_ | refine hB ?_); clear hA hB A B) | (refine join_x (v := ?_) (fun hg hk9 => ?_) ?_; rotate_left; (focus (try ((try simp only [BN] at hg); simp only [S1, simprocAttr, TTTrL, f2, hg] at hk9 ⊢)); first | exact hk9); (refine hK1 _ ?_; clear hK1 K1)) | (((first | (refine ⟨fun hg => hA ?_, fun hg => hB ?_⟩ <;> clear hA hB A B) | refine ⟨fun hg => ?_, fun hg => ?_⟩) <;> (try simp only [BN2] at hg) <;> (try simp only [hg, cond_true, cond_false])) <;> (try (refine hK1 _ ?_; clear hK1 K1)) <;> (try simp only [BN3] at hg))) | (refine awp_seq_k fun K hK => ?_) | ((first | refine awp_region ?_ | refine awp_draw (by kernel_rfl) ?_ | refine awp_block ?_ | refine awp_exit ?_ | refine awp_skip ?_ | refine awp_ret ?_); (try simp only [NB, simprocAttr])))
    all_goals exact ⟨.inr trivial, FinK_tmp (t := 2) rfl (Nat.le_refl _) ⟨rfl, rfl⟩⟩
  have f2 : ¬ (l.length : Int) < 2 := by omega
  refine Sim.evoKeep (rl := []) mixed Tryz.func41 rfl (by rw [hnt]; simp) ?_
  rw [hnt]
  repeat' (first | ((first | refine aops_nil ?_ | refine aqops_nil ?_); (try simp only [NB])) | ((repeat ((fail_if_success (refine hK _ ?_)); clear hK K)); refine hK _ ?_; clear hK K) | ((first | refine aops_k fun K1 hK1 => ?_ | refine aqops_k fun K1 hK1 => ?_ | refine awp_cond_k fun A B hA hB => ?_); simp only [S1, simprocAttr, TTTrL, f2]; first | (refine hK1 _ ?_; clear hK1 K1) | ((first | refine hA ?_ | refine hB ?_); clear hA hB A B) | (refine join_x (v := ?_) (fun hg hk9 => ?_) ?_; rotate_left; (focus (try ((try simp only [BN] at hg); simp only [S1, simprocAttr, TTTrL, f2, hg] at hk9 ⊢)); first | exact hk9); (refine hK1 _ ?_; clear hK1 K1)) | (((first | (refine ⟨fun hg => hA ?_, fun hg => hB ?_⟩ <;> clear hA hB A B) | refine ⟨fun hg => ?_, fun hg => ?_⟩) <;> (try simp only [BN2] at hg) <;> (try simp only [hg, cond_true, cond_false])) <;> (try (refine hK1 _ ?_; clear hK1 K1)) <;> (try simp only [BN3] at hg))) | (refine awp_seq_k fun K hK => ?_) | ((first | refine awp_region ?_ | refine awp_draw (by kernel_rfl) ?_ | refine awp_block ?_ | refine awp_exit ?_ | refine awp_skip ?_ | refine awp_ret ?_); (try simp only [NB, simprocAttr])))
  refine awp_while (σ := Nat) (fun k => l.length - k) 61 (fun k => [(3, .i k), (0, .ref b g 0 3 l.length)]) (fun k => []) (fun k => 1 ≤ k ∧ k ≤ l.length ∧ onceL (l.take k) = l.take k) 1 ?_ ⟨by omega, by omega, by
    match l with
    | [] => rfl
    | [x] => rfl
    | x :: y :: r => rfl⟩ fun k hp K hK => ?_
  · (refine ⟨rfl, (by first | exact ⟨_, rfl⟩ | exact ⟨[], by simp⟩), ?_, ?_⟩ <;> simp only [keeps, avlt, avlts, blksLt, frL, upd_get, S1, simprocAttr, List.length_map, Int.natCast_zero, AV.p.injEq, PV.int.injEq, PV.bool.injEq, PV.sl.injEq] <;> (try and_intros) <;> (try assumption) <;> (try trivial) <;> (try omega))
  obtain ⟨k1, kn, hon⟩ := hp
  rcases Nat.lt_or_ge k l.length with hlt | hge
  · obtain ⟨y, hy⟩ : ∃ y, l[k]? = some y := ⟨_, List.getElem?_eq_getElem hlt⟩
    obtain ⟨z, hz⟩ : ∃ z, l[k - 1]? = some z := ⟨_, List.getElem?_eq_getElem (by omega)⟩
    have hkk : k - 1 + 1 = k := by omega
    have hon2 := onceL_take (m := k - 1) hz (by rw [hkk]; exact hy)
    rw [show k - 1 + 2 = k + 1 by omega, hkk, hon] at hon2
    have kl : (k : Int) < (l.length : Int) := by omega
    have k0 : (0 : Int) ≤ (k : Int) := by omega
    have hnk : IntKind.i64.wrap ((k : Int) + 1) = ((k + 1 : Nat) : Int) := by rw [IntWalk.i64_in _ (by omega)]; omega
    have hpk : IntKind.i64.wrap ((k : Int) - 1) = ((k - 1 : Nat) : Int) := by rw [IntWalk.i64_in _ (by omega)]; omega
    have kp0 : (0 : Int) ≤ ((k - 1 : Nat) : Int) := by omega
    have kpl : ((k - 1 : Nat) : Int) < (l.length : Int) := by omega
    have hdy := cLs_at hy
    have hdz := cLs_at hz
    have heq := eqLb y z
    have heq : eqCells true [.p (.int .i64 y.1), .p (.int .i64 y.2.1), .p (.int .i64 y.2.2)] [.p (.int .i64 z.1), .p (.int .i64 z.2.1), .p (.int .i64 z.2.2)] = some (decide (y = z)) := heq
    by_cases hyz : y = z
    case neg =>
      rw [decide_eq_false hyz] at heq
      rw [if_neg (fun e => hyz e.symm)] at hon2
      have hon3 : onceL (l.take (k + 1)) = l.take (k + 1) := by rw [hon2, List.take_add_one, hy]; rfl
      repeat' (first | ((first | refine aops_nil ?_ | refine aqops_nil ?_); (try simp only [NB])) | ((repeat ((fail_if_success (refine hK _ ?_)); clear hK K)); refine hK _ ?_; clear hK K) | ((first | refine aops_k fun K1 hK1 => ?_ | refine aqops_k fun K1 hK1 => ?_ | refine awp_cond_k fun A B hA hB => ?_); simp only [S1, simprocAttr, TTTrL, kl, k0, hnk, hpk, kp0, kpl, hb, hdy, hdz, heq, eqA, W28, and_self, takeL_c, List.length_cons, List.length_nil, Int.toNat_natCast, Nat.zero_add]; first | (refine hK1 _ ?_; clear hK1 K1) | ((first | refine hA ?_ | refine hB ?_); clear hA hB A B) | (refine join_x (v := ?_) (fun hg hk9 => ?_) ?_; rotate_left; (focus (try ((try simp only [BN] at hg); simp only [S1, simprocAttr, TTTrL, kl, k0, hnk, hpk, kp0, kpl, hb, hdy, hdz, heq, eqA, W28, and_self, takeL_c, List.length_cons, List.length_nil, Int.toNat_natCast, Nat.zero_add, hg] at hk9 ⊢)); first | exact hk9); (refine hK1 _ ?_; clear hK1 K1)) | (((first | (refine ⟨fun hg => hA ?_, fun hg => hB ?_⟩ <;> clear hA hB A B) | refine ⟨fun hg => ?_, fun hg => ?_⟩) <;> (try simp only [BN2] at hg) <;> (try simp only [hg, cond_true, cond_false])) <;> (try (refine hK1 _ ?_; clear hK1 K1)) <;> (try simp only [BN3] at hg))) | (refine awp_seq_k fun K hK => ?_) | ((first | refine awp_region ?_ | refine awp_draw (by kernel_rfl) ?_ | refine awp_block ?_ | refine awp_exit ?_ | refine awp_skip ?_ | refine awp_ret ?_); (try simp only [NB, simprocAttr])))
      all_goals refine ⟨k + 1, by omega, ⟨by omega, by omega, hon3⟩, ?_⟩
      all_goals (refine ⟨rfl, (by first | exact ⟨_, rfl⟩ | exact ⟨[], by simp⟩), ?_, ?_⟩ <;> simp only [keeps, avlt, avlts, blksLt, frL, upd_get, S1, simprocAttr, List.length_map, Int.natCast_zero, AV.p.injEq, PV.int.injEq, PV.bool.injEq, PV.sl.injEq] <;> (try and_intros) <;> (try assumption) <;> (try trivial) <;> (try omega))
    rw [decide_eq_true hyz] at heq
    rw [if_pos hyz.symm, List.append_nil] at hon2
    have hsl : k ≤ l.length := kn
    have hnl : (l.take k).length = k := by rw [List.length_take]; omega
    repeat' (first | ((first | refine aops_nil ?_ | refine aqops_nil ?_); (try simp only [NB])) | ((repeat ((fail_if_success (refine hK _ ?_)); clear hK K)); refine hK _ ?_; clear hK K) | ((first | refine aops_k fun K1 hK1 => ?_ | refine aqops_k fun K1 hK1 => ?_ | refine awp_cond_k fun A B hA hB => ?_); simp only [S1, simprocAttr, TTTrL, kl, k0, hnk, hpk, kp0, kpl, hsl, Nat.le_refl, hb, hdy, hdz, heq, eqA, W28, and_self, takeL_c, List.length_cons, List.length_nil, Int.toNat_natCast, Nat.zero_add]; first | (refine hK1 _ ?_; clear hK1 K1) | ((first | refine hA ?_ | refine hB ?_); clear hA hB A B) | (refine join_x (v := ?_) (fun hg hk9 => ?_) ?_; rotate_left; (focus (try ((try simp only [BN] at hg); simp only [S1, simprocAttr, TTTrL, kl, k0, hnk, hpk, kp0, kpl, hsl, Nat.le_refl, hb, hdy, hdz, heq, eqA, W28, and_self, takeL_c, List.length_cons, List.length_nil, Int.toNat_natCast, Nat.zero_add, hg] at hk9 ⊢)); first | exact hk9); (refine hK1 _ ?_; clear hK1 K1)) | (((first | (refine ⟨fun hg => hA ?_, fun hg => hB ?_⟩ <;> clear hA hB A B) | refine ⟨fun hg => ?_, fun hg => ?_⟩) <;> (try simp only [BN2] at hg) <;> (try simp only [hg, cond_true, cond_false])) <;> (try (refine hK1 _ ?_; clear hK1 K1)) <;> (try simp only [BN3] at hg))) | (refine awp_seq_k fun K hK => ?_) | ((first | refine awp_region ?_ | refine awp_draw (by kernel_rfl) ?_ | refine awp_block ?_ | refine awp_exit ?_ | refine awp_skip ?_ | refine awp_ret ?_); (try simp only [NB, simprocAttr])))
    refine awp_whileH (σ := Qcp) (fun q => l.length - k - q.j) 61 (fun q => putB h b g q.cur) (fun q => [(5, .i q.j), (4, .ref b g (k * 3) 3 (l.length - k)), (3, .i q.k), (0, .ref b g 0 3 l.length)]) (fun q => [])
      (fun q => 1 ≤ q.j ∧ k + q.j ≤ l.length ∧ q.cur.length = l.length ∧ q.k = (onceL (l.take (k + q.j))).length ∧ q.k + 1 ≤ k + q.j ∧ q.cur.take q.k = onceL (l.take (k + q.j)) ∧ ∀ i, k + q.j - 1 ≤ i → q.cur[i]? = l[i]?) ⟨1, k, l⟩ (fun q => putB_keep h b g q.cur) ?_ ?_ fun q hp K hK => ?_
    · simp only [hself]
      (refine ⟨rfl, (by first | exact ⟨_, rfl⟩ | exact ⟨[], by simp⟩), ?_, ?_⟩ <;> simp only [keeps, avlt, avlts, blksLt, frL, upd_get, S1, simprocAttr, List.length_map, Int.natCast_zero, AV.p.injEq, PV.int.injEq, PV.bool.injEq, PV.sl.injEq] <;> (try and_intros) <;> (try assumption) <;> (try trivial) <;> (try omega))
    · exact ⟨Nat.le_refl _, by show k + 1 ≤ _; omega, rfl, by show k = (onceL (l.take (k + 1))).length; rw [hon2, hnl], Nat.le_refl _, hon2.symm, fun i _ => rfl⟩
    obtain ⟨j, kk, cur⟩ := q
    obtain ⟨p1, p2, p3, p4, p5, p6, p7⟩ := hp
    simp only at p1 p2 p3 p4 p5 p6 p7 hK ⊢
    rw [List.append_nil]
    have hg := putB_get0 hbl g cur
    have hcc := cLs_len cur
    have kk0 : (0 : Int) ≤ (kk : Int) := by omega
    rcases Nat.lt_or_ge (k + j) l.length with hlj | hgj
    · obtain ⟨y2, hy2⟩ : ∃ y, l[k + j]? = some y := ⟨_, List.getElem?_eq_getElem hlj⟩
      obtain ⟨z2, hz2⟩ : ∃ z, l[k + j - 1]? = some z := ⟨_, List.getElem?_eq_getElem (by omega)⟩
      have hjj : k + j - 1 + 1 = k + j := by omega
      have ho := onceL_take (m := k + j - 1) hz2 (by rw [hjj]; exact hy2)
      rw [show k + j - 1 + 2 = k + j + 1 by omega, hjj] at ho
      have cy := (p7 (k + j) (by omega)).trans hy2
      have cz := (p7 (k + j - 1) (Nat.le_refl _)).trans hz2
      have jl : (j : Int) < ((l.length - k : Nat) : Int) := by omega
      have j0 : (0 : Int) ≤ (j : Int) := by omega
      have hnj : IntKind.i64.wrap ((j : Int) + 1) = ((j + 1 : Nat) : Int) := by rw [IntWalk.i64_in _ (by omega)]; omega
      have hpj : IntKind.i64.wrap ((j : Int) - 1) = ((j - 1 : Nat) : Int) := by rw [IntWalk.i64_in _ (by omega)]; omega
      have jp0 : (0 : Int) ≤ ((j - 1 : Nat) : Int) := by omega
      have jpl : ((j - 1 : Nat) : Int) < ((l.length - k : Nat) : Int) := by omega
      have kkl : (kk : Int) < (l.length : Int) := by omega
      have hnkk : IntKind.i64.wrap ((kk : Int) + 1) = ((kk + 1 : Nat) : Int) := by rw [IntWalk.i64_in _ (by omega)]; omega
      have hdy := cLs_at cy
      have hdz := cLs_at cz
      have ey : k * 3 + j * 3 = (k + j) * 3 := by omega
      have ez : k * 3 + (j - 1) * 3 = (k + j - 1) * 3 := by omega
      have heq := eqLb y2 z2
      have heq : eqCells true [.p (.int .i64 y2.1), .p (.int .i64 y2.2.1), .p (.int .i64 y2.2.2)] [.p (.int .i64 z2.1), .p (.int .i64 z2.2.1), .p (.int .i64 z2.2.2)] = some (decide (y2 = z2)) := heq
      by_cases hyz2 : y2 = z2
      · rw [decide_eq_true hyz2] at heq
        rw [if_pos hyz2.symm, List.append_nil] at ho
        repeat' (first | ((first | refine aops_nil ?_ | refine aqops_nil ?_); (try simp only [NB])) | ((repeat ((fail_if_success (refine hK _ ?_)); clear hK K)); refine hK _ ?_; clear hK K) | ((first | refine aops_k fun K1 hK1 => ?_ | refine aqops_k fun K1 hK1 => ?_ | refine awp_cond_k fun A B hA hB => ?_); simp only [S1, simprocAttr, TTTrL, jl, j0, hnj, hpj, jp0, jpl, ey, ez, hg, hdy, hdz, heq, eqA, W28, and_self, takeL_c, List.length_cons, List.length_nil, Int.toNat_natCast, Nat.zero_add]; first | (refine hK1 _ ?_; clear hK1 K1) | ((first | refine hA ?_ | refine hB ?_); clear hA hB A B) | (refine join_x (v := ?_) (fun hg hk9 => ?_) ?_; rotate_left; (focus (try ((try simp only [BN] at hg); simp only [S1, simprocAttr, TTTrL, jl, j0, hnj, hpj, jp0, jpl, ey, ez, hg, hdy, hdz, heq, eqA, W28, and_self, takeL_c, List.length_cons, List.length_nil, Int.toNat_natCast, Nat.zero_add, hg] at hk9 ⊢)); first | exact hk9); (refine hK1 _ ?_; clear hK1 K1)) | (((first | (refine ⟨fun hg => hA ?_, fun hg => hB ?_⟩ <;> clear hA hB A B) | refine ⟨fun hg => ?_, fun hg => ?_⟩) <;> (try simp only [BN2] at hg) <;> (try simp only [hg, cond_true, cond_false])) <;> (try (refine hK1 _ ?_; clear hK1 K1)) <;> (try simp only [BN3] at hg))) | (refine awp_seq_k fun K hK => ?_) | ((first | refine awp_region ?_ | refine awp_draw (by kernel_rfl) ?_ | refine awp_block ?_ | refine awp_exit ?_ | refine awp_skip ?_ | refine awp_ret ?_); (try simp only [NB, simprocAttr])))
        all_goals refine ⟨⟨j + 1, kk, cur⟩, by simp only; omega, ⟨by simp only; omega, by simp only; omega, p3, by simp only; rw [← Nat.add_assoc, ho]; exact p4, by simp only; omega, by simp only; rw [← Nat.add_assoc, ho]; exact p6, fun i hi => p7 i (by simp only at hi; omega)⟩, ?_⟩
        all_goals refine ⟨rfl, ⟨[], by simp⟩, ?_, trivial⟩
        all_goals simp only [putB_len]
        all_goals simp only [keeps, avlt, avlts, blksLt, frL, upd_get, S1, simprocAttr, List.length_map, Int.natCast_zero, AV.p.injEq, PV.int.injEq, PV.bool.injEq, PV.sl.injEq] <;> (try and_intros) <;> (try assumption) <;> (try trivial) <;> (try omega)
      · rw [decide_eq_false hyz2] at heq
        rw [if_neg (fun e => hyz2 e.symm)] at ho
        have hov := cLs_over (l := cur) (j := kk) (by omega) y2
        have hst := putB_set h b g cur (cur.set kk y2)
        have hsl3 : kk * 3 + 3 ≤ cur.length * 3 := by omega
        repeat' (first | ((first | refine aops_nil ?_ | refine aqops_nil ?_); (try simp only [NB])) | ((repeat ((fail_if_success (refine hK _ ?_)); clear hK K)); refine hK _ ?_; clear hK K) | ((first | refine aops_k fun K1 hK1 => ?_ | refine aqops_k fun K1 hK1 => ?_ | refine awp_cond_k fun A B hA hB => ?_); simp only [S1, simprocAttr, TTTrL, jl, j0, hnj, hpj, jp0, jpl, kkl, kk0, hnkk, ey, ez, hg, hdy, hdz, heq, hov, hst, hcc, hsl3, eqA, W28, and_self, takeL_c, List.length_cons, List.length_nil, Int.toNat_natCast, Nat.zero_add]; first | (refine hK1 _ ?_; clear hK1 K1) | ((first | refine hA ?_ | refine hB ?_); clear hA hB A B) | (refine join_x (v := ?_) (fun hg hk9 => ?_) ?_; rotate_left; (focus (try ((try simp only [BN] at hg); simp only [S1, simprocAttr, TTTrL, jl, j0, hnj, hpj, jp0, jpl, kkl, kk0, hnkk, ey, ez, hg, hdy, hdz, heq, hov, hst, hcc, hsl3, eqA, W28, and_self, takeL_c, List.length_cons, List.length_nil, Int.toNat_natCast, Nat.zero_add, hg] at hk9 ⊢)); first | exact hk9); (refine hK1 _ ?_; clear hK1 K1)) | (((first | (refine ⟨fun hg => hA ?_, fun hg => hB ?_⟩ <;> clear hA hB A B) | refine ⟨fun hg => ?_, fun hg => ?_⟩) <;> (try simp only [BN2] at hg) <;> (try simp only [hg, cond_true, cond_false])) <;> (try (refine hK1 _ ?_; clear hK1 K1)) <;> (try simp only [BN3] at hg))) | (refine awp_seq_k fun K hK => ?_) | ((first | refine awp_region ?_ | refine awp_draw (by kernel_rfl) ?_ | refine awp_block ?_ | refine awp_exit ?_ | refine awp_skip ?_ | refine awp_ret ?_); (try simp only [NB, simprocAttr])))
        all_goals refine ⟨⟨j + 1, kk + 1, cur.set kk y2⟩, by simp only; omega, ⟨by simp only; omega, by simp only; omega, by simp only [List.length_set]; exact p3, by simp only; rw [← Nat.add_assoc, ho, List.length_append, ← p4]; rfl, by simp only; omega, by
            simp only
            rw [← Nat.add_assoc, ho, ← p6, List.take_add_one, List.getElem?_set_self (by omega), List.take_set_of_le (Nat.le_refl _)]; rfl, fun i hi => by
            simp only at hi ⊢
            rw [List.getElem?_set_ne (by omega)]
            exact p7 i (by omega)⟩, ?_⟩
        all_goals refine ⟨rfl, ⟨[], by simp only [List.append_nil]; rw [← hst, ← hov]; rfl⟩, ?_, trivial⟩
        all_goals simp only [putB_len]
        all_goals simp only [keeps, avlt, avlts, blksLt, frL, upd_get, S1, simprocAttr, List.length_map, Int.natCast_zero, AV.p.injEq, PV.int.injEq, PV.bool.injEq, PV.sl.injEq] <;> (try and_intros) <;> (try assumption) <;> (try trivial) <;> (try omega)
    · have hjn : k + j = l.length := by omega
      rw [hjn, List.take_length] at p4 p6
      have jl : ¬ (j : Int) < ((l.length - k : Nat) : Int) := by omega
      have kkl : kk ≤ l.length := by omega
      have hnz : ¬ l.length - kk = 0 := by omega
      have hfit : kk * 3 + (l.length - kk) * 3 ≤ cur.length * 3 := by rw [p3]; omega
      have hct := cLs_take kk cur
      rw [p6] at hct
      have hdr : (cLs cur).drop (kk * 3 + (l.length - kk) * 3) = [] := List.drop_of_length_le (by rw [hcc]; omega)
      have hzr := zer3 (l.length - kk)
      have hst := putB_set h b g cur (onceL l ++ List.replicate (l.length - kk) (0, 0, 0))
      rw [cLs_app] at hst
      have hg2 := putB_get0 hbl g (onceL l ++ List.replicate (l.length - kk) (0, 0, 0))
      repeat' (first | ((first | refine aops_nil ?_ | refine aqops_nil ?_); (try simp only [NB])) | ((repeat ((fail_if_success (refine hK _ ?_)); clear hK K)); refine hK _ ?_; clear hK K) | ((first | refine aops_k fun K1 hK1 => ?_ | refine aqops_k fun K1 hK1 => ?_ | refine awp_cond_k fun A B hA hB => ?_); simp only [S1, simprocAttr, TTTrL, jl, kk0, kkl, hnz, hfit, hct, hdr, hzr, hst, hcc, hg, hg2, Nat.le_refl, Nat.zero_le, Nat.sub_zero, Nat.zero_mul, List.map_cons, List.map_nil, List.length_cons, List.length_nil, List.append_nil, builtinA, Int.toNat_natCast, Nat.zero_add]; first | (refine hK1 _ ?_; clear hK1 K1) | ((first | refine hA ?_ | refine hB ?_); clear hA hB A B) | (refine join_x (v := ?_) (fun hg hk9 => ?_) ?_; rotate_left; (focus (try ((try simp only [BN] at hg); simp only [S1, simprocAttr, TTTrL, jl, kk0, kkl, hnz, hfit, hct, hdr, hzr, hst, hcc, hg, hg2, Nat.le_refl, Nat.zero_le, Nat.sub_zero, Nat.zero_mul, List.map_cons, List.map_nil, List.length_cons, List.length_nil, List.append_nil, builtinA, Int.toNat_natCast, Nat.zero_add, hg] at hk9 ⊢)); first | exact hk9); (refine hK1 _ ?_; clear hK1 K1)) | (((first | (refine ⟨fun hg => hA ?_, fun hg => hB ?_⟩ <;> clear hA hB A B) | refine ⟨fun hg => ?_, fun hg => ?_⟩) <;> (try simp only [BN2] at hg) <;> (try simp only [hg, cond_true, cond_false])) <;> (try (refine hK1 _ ?_; clear hK1 K1)) <;> (try simp only [BN3] at hg))) | (refine awp_seq_k fun K hK => ?_) | ((first | refine awp_region ?_ | refine awp_draw (by kernel_rfl) ?_ | refine awp_block ?_ | refine awp_exit ?_ | refine awp_skip ?_ | refine awp_ret ?_); (try simp only [NB, simprocAttr])))
      all_goals exact ⟨.inr trivial, FinK_tmp (t := 2) rfl (by rw [putB_len]; exact Nat.le_refl _) ⟨by rw [p4], by rw [p4]⟩⟩
  · obtain rfl : k = l.length := by omega
    rw [List.take_length] at hon
    repeat' (first | ((first | refine aops_nil ?_ | refine aqops_nil ?_); (try simp only [NB])) | ((repeat ((fail_if_success (refine hK _ ?_)); clear hK K)); refine hK _ ?_; clear hK K) | ((first | refine aops_k fun K1 hK1 => ?_ | refine aqops_k fun K1 hK1 => ?_ | refine awp_cond_k fun A B hA hB => ?_); simp only [S1, simprocAttr, TTTrL, Int.lt_irrefl]; first | (refine hK1 _ ?_; clear hK1 K1) | ((first | refine hA ?_ | refine hB ?_); clear hA hB A B) | (refine join_x (v := ?_) (fun hg hk9 => ?_) ?_; rotate_left; (focus (try ((try simp only [BN] at hg); simp only [S1, simprocAttr, TTTrL, Int.lt_irrefl, hg] at hk9 ⊢)); first | exact hk9); (refine hK1 _ ?_; clear hK1 K1)) | (((first | (refine ⟨fun hg => hA ?_, fun hg => hB ?_⟩ <;> clear hA hB A B) | refine ⟨fun hg => ?_, fun hg => ?_⟩) <;> (try simp only [BN2] at hg) <;> (try simp only [hg, cond_true, cond_false])) <;> (try (refine hK1 _ ?_; clear hK1 K1)) <;> (try simp only [BN3] at hg))) | (refine awp_seq_k fun K hK => ?_) | ((first | refine awp_region ?_ | refine awp_draw (by kernel_rfl) ?_ | refine awp_block ?_ | refine awp_exit ?_ | refine awp_skip ?_ | refine awp_ret ?_); (try simp only [NB, simprocAttr])))
    all_goals exact ⟨.inr trivial, FinK_tmp (t := 2) rfl (by simp) ⟨by rw [hon], by rw [hon, Nat.sub_self, List.replicate_zero, List.append_nil, hself]⟩⟩
end Go.Proofs.YtbbmfemplmelhaaGreatDoor.AM
end

section
set_option linter.unusedVariables false
set_option linter.unusedSimpArgs false
set_option maxRecDepth 4000
set_option maxHeartbeats 4000000
namespace Go.Proofs.YtbbmfemplmelhaaGreatDoor.AM
open Go Go.Proofs
set_option linter.defProp false in
attribute [local irreducible] awp aops aqops aeops arun arunT
variable {G : Nat → Option (List PV)}

theorem pur_lbs {h : Heap} {n fuel b g m : Nat} {l : List Lb} {rest : List AV} (hm : m = l.length) (hb : blkAt h b g = some (cLs l ++ rest)) (hn : n ≤ b) : pur h n (fuel + 1) (.ref b g 0 3 m) = some (.sl (l.map eL)) := by
  subst hm
  have hch : ∀ l : List Lb, chunk 3 l.length ((l.flatMap recL).map (PV.int .i64)) = l.map eL := by
    intro l
    induction l with
    | nil => rfl
    | cons x l ih =>
      rw [List.length_cons, chunk, List.flatMap_cons, List.map_append, List.take_left' (by rfl), List.drop_left' (by rfl), ih]; rfl
  unfold pur
  by_cases h0 : l.length = 0
  · rw [if_pos h0]; have := List.eq_nil_of_length_eq_zero h0; subst this; rfl
  · rw [if_neg h0, hb]
    have e : (cLs l).length = l.length * 3 := cLs_len l
    have hle : l.length * 3 ≤ (cLs l ++ rest).length := by rw [List.length_append, e]; omega
    simp only [hn, true_and, Nat.zero_add, hle, if_true, List.drop_zero]
    rw [List.take_left' e]
    unfold cLs
    rw [purs_is]
    simp only [Option.map_some, hch]
theorem EndP_lbs {P : Program} {h : Heap} {K : AV → Prop} {x : Exit} {s : St} (hx : x = .normal ∨ x = .ret) {t b g m : Nat} {l : List Lb} {rest : List AV} (hm : m = l.length) (hf : s.fr t = some (.ref b g 0 3 m))
    (hb : blkAt s.heap b g = some (cLs l ++ rest)) (hn : h.length ≤ b) (ht : s.heap.take h.length = h) (hle : h.length ≤ s.heap.length) (hk : K (aLs l)) : EndP P [.tmp t] h K x s := by
  have key : FinP P [.tmp t] h K s := by
    unfold FinP
    simp only [resA, resL, resA1, hf, lastV, lastA, pur_lbs hm hb hn, Option.map_some]
    exact ⟨ht, hle, hk⟩
  rcases hx with rfl | rfl <;> exact key

/-! The document's put. -/
theorem cLs_snoc (l : List Lb) (x : Lb) : cLs (l ++ [x]) = cLs l ++ [.i x.1, .i x.2.1, .i x.2.2] := by rw [cLs_app]; rfl
end Go.Proofs.YtbbmfemplmelhaaGreatDoor.AM
end

section
set_option linter.unusedVariables false
set_option linter.unusedSimpArgs false
set_option maxRecDepth 4000
set_option maxHeartbeats 4000000
namespace Go.Proofs.YtbbmfemplmelhaaGreatDoor.AM
open Go Go.Proofs
set_option linter.defProp false in
attribute [local irreducible] awp aops aqops aeops arun arunT

/-- The labels that are seen, of steps; of a cloud, in order, often. -/
def seenL (sl : List Sp) : List Lb := (sl.filter fun y => y.lk ≠ 0).map labS
noncomputable def allLb (ns : List Nd) (fl : List Fl) (l : List Sv) : List Lb := l.flatMap fun s => seenL (stepsG ns fl s)
theorem seenL_succ {sl : List Sp} {j : Nat} {y : Sp} (h : sl[j]? = some y) : seenL (sl.take (j + 1)) = seenL (sl.take j) ++ if y.lk = 0 then [] else [labS y] := by
  unfold seenL
  rw [List.take_add_one, h, List.filter_append, List.map_append]
  congr 1
  by_cases hc : y.lk = 0 <;> simp [hc]
theorem seenL_le (sl : List Sp) (j : Nat) : (seenL (sl.take j)).length ≤ sl.length := by
  unfold seenL
  rw [List.length_map]
  exact Nat.le_trans (List.length_filter_le _ _) (by rw [List.length_take]; omega)
theorem allLb_succ {ns : List Nd} {fl : List Fl} {l : List Sv} {j : Nat} {s : Sv} (h : l[j]? = some s) : allLb ns fl (l.take (j + 1)) = allLb ns fl (l.take j) ++ seenL (stepsG ns fl s) := by
  unfold allLb
  rw [List.take_add_one, h, List.flatMap_append]; simp
theorem allLb_le (ns : List Nd) (fl : List Fl) : ∀ l : List Sv, (allLb ns fl l).length ≤ l.length * 2500
  | [] => by simp [allLb]
  | s :: l => by
    have h1 := allLb_le ns fl l
    have h2 := seenL_le (stepsG ns fl s) (stepsG ns fl s).length
    rw [List.take_length] at h2
    have h3 := stepsG_len (ns := ns) (fl := fl) (S := s)
    unfold allLb at h1 ⊢
    rw [List.flatMap_cons, List.length_append, List.length_cons]; omega
end Go.Proofs.YtbbmfemplmelhaaGreatDoor.AM
end

section
set_option linter.unusedVariables false
set_option linter.unusedSimpArgs false
set_option maxRecDepth 4000
set_option maxHeartbeats 4000000
namespace Go.Proofs.YtbbmfemplmelhaaGreatDoor.AM
open Go Go.Proofs

abbrev Sm (n : Int) : Prop := -2000 ≤ n ∧ n ≤ 2000
theorem ask_sm (t : Tm) (v : Int → Int) (k : Int) : Sm (askN t v k) := by
  unfold askN checkN wrongN
  constructor <;> (repeat' split) <;> simp
theorem num_sm {t : Tm} {v : Int → Int} (hv : ∀ i, Num (v i)) : Sm (numR t v).2 := by
  unfold numR
  split
  · exact ask_sm _ _ _
  · rename_i e
    obtain ⟨g1, g2, g3⟩ := ask_good (by simpa using e)
    have := (ev_good hv g1).2.2
    constructor <;> simp only <;> omega
theorem tru_sm {t : Tm} {v : Int → Int} (hv : ∀ i, Num (v i)) : Sm (truR t v).2 := by
  unfold truR
  split
  · exact ask_sm _ _ _
  · rename_i e
    obtain ⟨g1, g2, g3⟩ := ask_good (by simpa using e)
    have := (ev_good hv g1).2.2
    constructor <;> simp only <;> omega
theorem chF_sm {fl : List Fl} {v : Int → Int} (hv : ∀ i, Num (v i)) : ∀ {outs : List Int} {x : Int × Int}, chF fl v outs = some x → Sm x.2
  | [], x, h => by cases h
  | f :: r, x, h => by
    unfold chF at h
    split at h
    · exact chF_sm hv h
    · split at h
      · exact chF_sm hv h
      · split at h
        · cases h; exact tru_sm hv
        · split at h
          · cases h; constructor <;> simp
          · exact chF_sm hv h
theorem choose_sm {fl : List Fl} {v : Int → Int} (hv : ∀ i, Num (v i)) (outs : List Int) : Sm (chooseG fl v outs).2 := by
  unfold chooseG
  cases h : chF fl v outs with
  | none => constructor <;> simp
  | some x => exact chF_sm hv h
def LbS (y : Sp) : Prop := Sm y.lk ∧ Sm y.ln ∧ Sm y.la
theorem move_sm {S : List Int} {x : Sp} {fr to : List Int} (hx : LbS x) : ∀ y ∈ moveG S x fr to, LbS y := by
  intro y hy
  unfold moveG at hy
  split at hy
  · cases hy
  · split at hy
    · cases hy
    · rw [List.mem_singleton] at hy; subst hy; exact hx
theorem catch_sm {ns : List Nd} {fl : List Fl} {S : List Int} {node arg c : Int} (hc : Sm c) (fr : List Int) : ∀ y ∈ catchG ns fl S node arg c fr, LbS y := by
  have h3 : LbS ⟨node, arg, 3, c, 0, S.set (44 + (ndA ns c).toNat) (qAt S (ndA ns c) - 1)⟩ := ⟨⟨by show (-2000 : Int) ≤ 3; decide, by show (3 : Int) ≤ 2000; decide⟩, hc, ⟨by show (-2000 : Int) ≤ 0; decide, by show (0 : Int) ≤ 2000; decide⟩⟩
  have h4 : LbS ⟨node, arg, 4, c, 0, S⟩ := ⟨⟨by show (-2000 : Int) ≤ 4; decide, by show (4 : Int) ≤ 2000; decide⟩, hc, ⟨by show (-2000 : Int) ≤ 0; decide, by show (0 : Int) ≤ 2000; decide⟩⟩
  intro y hy
  unfold catchG at hy
  split at hy
  · split at hy
    · cases hy
    · exact move_sm h3 y hy
  · exact move_sm h4 y hy
theorem lb_of {n a k l c : Int} {S : List Int} (h1 : Sm k) (h2 : Sm l) (h3 : Sm c) : LbS ⟨n, a, k, l, c, S⟩ := ⟨h1, h2, h3⟩
theorem sm_lit {n : Int} (h : (decide (-2000 ≤ n) && decide (n ≤ 2000)) = true) : Sm n := by
  simp only [Bool.and_eq_true, decide_eq_true_eq] at h; exact h
theorem node_sm {ns : List Nd} {fl : List Fl} {S : List Int} (rt : Right ns fl) (hr : RestOk S) {i : Nat} {k : Nd} (hc : ns[i]? = some k) : ∀ y ∈ nodeG ns fl S i k, LbS y := by
  have hi : Sm (i : Int) := by
    have := (List.getElem?_eq_some_iff.mp hc).1
    have := rt.n
    constructor <;> omega
  have hv := vS_numQ hr
  have z : Sm 0 := sm_lit rfl
  intro y hy
  unfold nodeG at hy
  split at hy
  · unfold lastG at hy
    split at hy
    · exact move_sm (lb_of (sm_lit rfl) z z) y hy
    · exact move_sm (lb_of z z z) y hy
  split at hy
  · unfold dataG at hy
    split at hy
    · cases hy
    split at hy
    · rcases List.mem_append.mp hy with hy | hy
      · exact move_sm (lb_of (sm_lit rfl) hi z) y hy
      · exact move_sm (lb_of (sm_lit rfl) hi (sm_lit rfl)) y hy
    split at hy
    · rw [List.mem_singleton] at hy; subst hy
      exact lb_of (sm_lit rfl) hi (num_sm hv)
    · exact move_sm (lb_of (sm_lit rfl) hi z) y hy
  split at hy
  · unfold xorG at hy
    split at hy
    · obtain ⟨f, _, hy⟩ := List.mem_flatMap.mp hy
      exact move_sm (lb_of z z z) y hy
    split at hy
    · cases hy
    split at hy
    · rw [List.mem_singleton] at hy; subst hy
      exact lb_of (sm_lit rfl) hi (choose_sm hv _)
    · exact move_sm (lb_of z z z) y hy
  split at hy
  · exact move_sm (lb_of z z z) y hy
  split at hy
  · rename_i h7
    obtain ⟨f, hf, hy⟩ := List.mem_flatMap.mp hy
    obtain ⟨c, k', e, hc', _⟩ := (rt.ar7 hc h7).2.2 f hf
    have := (List.getElem?_eq_some_iff.mp hc').1
    have := rt.n
    rw [e] at hy
    exact catch_sm (by constructor <;> omega) _ y hy
  split at hy
  · exact catch_sm hi _ y hy
  · cases hy
theorem nodes_sm {ns : List Nd} {fl : List Fl} {S : List Int} (rt : Right ns fl) (hr : RestOk S) : ∀ j, ∀ y ∈ nodesG ns fl S j, LbS y
  | 0, y, hy => by cases hy
  | j + 1, y, hy => by
    unfold nodesG at hy
    rcases List.mem_append.mp hy with hy | hy
    · exact nodes_sm rt hr j y hy
    · split at hy
      · rename_i k hk; exact node_sm rt hr hk y hy
      · cases hy
theorem sends_sm {ns : List Nd} {S : List Int} : ∀ m, m ≤ 4 → ∀ y ∈ sendsG ns S m, LbS y
  | 0, _, y, hy => by cases hy
  | m + 1, hm, y, hy => by
    unfold sendsG at hy
    rcases List.mem_append.mp hy with hy | hy
    · exact sends_sm m (by omega) y hy
    · unfold sendG at hy
      split at hy
      · exact move_sm (lb_of (sm_lit rfl) (sm_lit rfl) (by constructor <;> omega)) y hy
      · cases hy
theorem steps_sm {ns : List Nd} {fl : List Fl} {S : List Int} (hS : S.length = 49) : ∀ y ∈ stepsG ns fl S, LbS y := by
  intro y hy
  unfold stepsG at hy
  split at hy
  · cases hy
  · rename_i h0
    rw [not_or] at h0
    obtain ⟨h1, h2⟩ := stC_zero (by simpa using h0.1)
    have rt := Right.of h1
    have hr := (okS_to hS h2).2
    rcases List.mem_append.mp hy with hy | hy
    · exact nodes_sm rt hr _ y hy
    · exact sends_sm 4 (Nat.le_refl _) y hy
theorem inR_of_sm {n : Int} (h : Sm n) : InRange .i64 n := by
  have hmin : IntKind.i64.min = -9223372036854775808 := by decide
  have hmax : IntKind.i64.max = 9223372036854775807 := by decide
  unfold InRange
  rw [hmin, hmax]
  omega
theorem allLb_sm {ns : List Nd} {fl : List Fl} {l : List Sv} (h49 : St49 l) : ∀ x ∈ allLb ns fl l, Sm x.1 ∧ Sm x.2.1 ∧ Sm x.2.2 := by
  intro x hx
  unfold allLb seenL at hx
  obtain ⟨s, hs, hx⟩ := List.mem_flatMap.mp hx
  obtain ⟨y, hy, rfl⟩ := List.mem_map.mp hx
  exact steps_sm (h49 s hs) y (List.mem_filter.mp hy).1
end Go.Proofs.YtbbmfemplmelhaaGreatDoor.AM
end

section
namespace Go.Proofs
open Go.Shelf
def Tryz.sortIv_ren : Go.Shelf.Ren := ⟨fun | 6 => 39 | 15 => 61 | 14 => 60 | 28 => 92 | 29 => 93 | 20 => 84 | 21 => 85 | 22 => 86 | 23 => 87 | 24 => 88 | 25 => 89 | 26 => 90 | 27 => 91 | 46 => 121 | 47 => 122 | 48 => 123 | 49 => 124 | 50 => 125 | 57 => 143 | n => n, fun | 22 => 44 | 24 => 28 | 25 => 94 | 3 => 3 | 39 => 124 | 0 => 0 | 53 => 157 | 55 => 159 | 4 => 4 | 46 => 150 | 45 => 149 | 50 => 154 | 5 => 5 | 9 => 9 | 66 => 176 | 70 => 180 | 76 => 192 | 77 => 51 | n => n, fun | n => n⟩
theorem Tryz.sortIv : Go.Proofs.SlLaysF0.n6 Tryz.prog Tryz.sortIv_ren := {
  mixed := by kernel_rfl
  f6 := ⟨Tryz.f39.name, by decide, Tryz.func39.trans (congrArg some (by kernel_rfl))⟩
  f14 := ⟨Tryz.f60.name, by decide, Tryz.func60.trans (congrArg some (by kernel_rfl))⟩
  f15 := Tryz.func61.trans (congrArg some (by kernel_rfl))
  f20 := ⟨Tryz.f84.name, by decide, Tryz.func84.trans (congrArg some (by kernel_rfl))⟩
  f21 := ⟨Tryz.f85.name, by decide, Tryz.func85.trans (congrArg some (by kernel_rfl))⟩
  f22 := ⟨Tryz.f86.name, by decide, Tryz.func86.trans (congrArg some (by kernel_rfl))⟩
  f23 := ⟨Tryz.f87.name, by decide, Tryz.func87.trans (congrArg some (by kernel_rfl))⟩
  f24 := ⟨Tryz.f88.name, by decide, Tryz.func88.trans (congrArg some (by kernel_rfl))⟩
  f25 := ⟨Tryz.f89.name, by decide, Tryz.func89.trans (congrArg some (by kernel_rfl))⟩
  f26 := ⟨Tryz.f90.name, by decide, Tryz.func90.trans (congrArg some (by kernel_rfl))⟩
  f27 := ⟨Tryz.f91.name, by decide, Tryz.func91.trans (congrArg some (by kernel_rfl))⟩
  f28 := Tryz.func92.trans (congrArg some (by kernel_rfl))
  f29 := Tryz.func93.trans (congrArg some (by kernel_rfl))
  f46 := ⟨Tryz.f121.name, by decide, Tryz.func121.trans (congrArg some (by kernel_rfl))⟩
  f47 := Tryz.func122.trans (congrArg some (by kernel_rfl))
  f48 := Tryz.func123.trans (congrArg some (by kernel_rfl))
  f49 := ⟨Tryz.f124.name, by decide, Tryz.func124.trans (congrArg some (by kernel_rfl))⟩
  f50 := ⟨Tryz.f125.name, by decide, Tryz.func125.trans (congrArg some (by kernel_rfl))⟩
  f57 := ⟨Tryz.f143.name, by decide, Tryz.func143.trans (congrArg some (by kernel_rfl))⟩
  t0 := Tryz.underlying0
  a0 := Tryz.isAgg0
  z0 := Tryz.sizeOf0
  v0 := Tryz.zeroValue0
  t3 := Tryz.underlying3
  a3 := Tryz.isAgg3
  z3 := Tryz.sizeOf3
  v3 := Tryz.zeroValue3
  t4 := Tryz.underlying4
  a4 := Tryz.isAgg4
  z4 := Tryz.sizeOf4
  v4 := Tryz.zeroValue4
  t5 := Tryz.underlying5
  a5 := Tryz.isAgg5
  z5 := Tryz.sizeOf5
  v5 := Tryz.zeroValue5
  t9 := Tryz.underlying9
  a9 := Tryz.isAgg9
  z9 := Tryz.sizeOf9
  v9 := Tryz.zeroValue9
  t22 := Tryz.underlying44
  a22 := Tryz.isAgg44
  z22 := Tryz.sizeOf44
  v22 := Tryz.zeroValue44
  t25 := Tryz.underlying94
  a25 := Tryz.isAgg94
  z25 := Tryz.sizeOf94
  v25 := Tryz.zeroValue94
  t39 := Tryz.underlying124
  a39 := Tryz.isAgg124
  z39 := Tryz.sizeOf124
  v39 := Tryz.zeroValue124
  t45 := Tryz.underlying149
  a45 := Tryz.isAgg149
  z45 := Tryz.sizeOf149
  v45 := Tryz.zeroValue149
  t46 := Tryz.underlying150
  a46 := Tryz.isAgg150
  z46 := Tryz.sizeOf150
  v46 := Tryz.zeroValue150
  t50 := Tryz.underlying154
  a50 := Tryz.isAgg154
  z50 := Tryz.sizeOf154
  v50 := Tryz.zeroValue154
  t53 := Tryz.underlying157
  a53 := Tryz.isAgg157
  z53 := Tryz.sizeOf157
  v53 := Tryz.zeroValue157
  t55 := Tryz.underlying159
  a55 := Tryz.isAgg159
  z55 := Tryz.sizeOf159
  v55 := Tryz.zeroValue159
  t66 := Tryz.underlying176
  a66 := Tryz.isAgg176
  z66 := Tryz.sizeOf176
  v66 := Tryz.zeroValue176
  t70 := Tryz.underlying180
  a70 := Tryz.isAgg180
  z70 := Tryz.sizeOf180
  v70 := Tryz.zeroValue180
  t76 := Tryz.underlying192
  a76 := Tryz.isAgg192
  z76 := Tryz.sizeOf192
  v76 := Tryz.zeroValue192
  t77 := Tryz.underlying51
  a77 := Tryz.isAgg51
  z77 := Tryz.sizeOf51
  v77 := Tryz.zeroValue51 }
end Go.Proofs
namespace Go.Proofs.YtbbmfemplmelhaaGreatDoor.AM
open Go Go.Proofs Go.Sort
theorem enc_len {k : Nat} (x : Rec k) : (encR x).length = k := by rw [encR, List.length_map, x.2.1]
theorem enc_one {k : Nat} (x : Rec k) : ∀ v ∈ encR x, v.oneCell' = true := by
  intro v hv
  obtain ⟨n, _, rfl⟩ := List.mem_map.mp hv
  rfl
theorem hskT : SortsK Tryz.prog 39 40 3 := by
  intro cf hO blk off cap d w hcmp hH hblk hsz
  have eg : ∀ args w, (callFunc 40 args).run Tryz.prog w = .ok (.enter 40 args) w := enters_of Tryz.func40 (by kernel_rfl) rfl
  exact AnyQ.slices_SortFunc Tryz.sortIv 3 (fun w => run_isAgg T28 w) (fun w => run_sizeOf' T28 w) encR enc_len enc_one cf hO 40 #[] blk off cap d w eg hcmp hH hblk hsz
end Go.Proofs.YtbbmfemplmelhaaGreatDoor.AM
end

section
set_option linter.unusedVariables false
set_option linter.unusedSimpArgs false
set_option maxRecDepth 4000
set_option maxHeartbeats 4000000
namespace Go.Proofs.YtbbmfemplmelhaaGreatDoor.AM
open Go Go.Proofs Go.Sort
set_option linter.defProp false in
def TTTrP := And.intro T2 (And.intro T3 (And.intro T4 (And.intro T25 (And.intro T26 (And.intro T28 (And.intro T31 (And.intro T41 (And.intro T44 (And.intro T57 (And.intro T58 (And.intro T89 T92)))))))))))
attribute [local irreducible] awp aops aqops aeops arun arunT

theorem cLs_rows (l : List Lb) : (l.map recL).flatMap (·.map AV.i) = cLs l := by
  unfold cLs
  induction l with
  | nil => rfl
  | cons x l ih => rw [List.map_cons, List.flatMap_cons, ih, List.flatMap_cons, List.map_append]
/-- A row of labels is sorted. -/
theorem sortT_calls {G : Nat → Option (List PV)} {l : List Lb} (hn : l.length ≤ 5000000) (hr : ∀ x ∈ l, Sm x.1 ∧ Sm x.2.1 ∧ Sm x.2.2) {h : Heap} {b g : Nat} (hb : h[b]? = some (some ⟨g, cLs l⟩)) :
    ACalls Tryz.prog G 39 [.ref b g 0 3 l.length, .fn 40 []] h (fun r h' => r = .undef ∧ h' = putB h b g (sortL l)) := by
  by_cases hne : l = []
  · subst hne
    have hs : sortL [] = [] := rfl
    rw [hs, putB_self hb]
    intro ι w vs hS hv
    obtain ⟨hl, hv⟩ := hv
    have hl2 : vs.size = 2 := by simpa using hl.symm
    obtain ⟨v0, v1, rfl⟩ : ∃ v0 v1, vs = #[v0, v1] := by
      obtain ⟨l⟩ := vs
      match l, hl2 with
      | [a, b], _ => exact ⟨a, b, rfl⟩
    have h0 := hv 0 _ v0 rfl rfl
    obtain ⟨A, c, rfl, _⟩ := h0.ref_inv ⟨_, hb, rfl⟩
    refine (AnyF.slices_SortFunc_none Tryz.sortIv A c v1 w).mono ?_
    rintro e w' ⟨rfl, rfl⟩
    exact ⟨_, .undef, h, ι, rfl, ⟨rfl, rfl⟩, hS, .tup _ _ rfl (fun i x v hx => by simp at hx), Evo.refl (Nat.le_refl _)⟩
  have hcm : ∀ x y : Rec 3, ACalls Tryz.prog G 40 [.agg (cellR x), .agg (cellR y)] [] fun r h' => r = .i (cmpL3 x.1 y.1) := by
    intro x y
    obtain ⟨a, i, p, e1⟩ := rec3 x
    obtain ⟨c, j, q, e2⟩ := rec3 y
    have hx : cellR x = [.i a, .i i, .i p] := by unfold cellR; rw [e1]; rfl
    have hy : cellR y = [.i c, .i j, .i q] := by unfold cellR; rw [e2]; rfl
    rw [hx, hy, e1, e2]
    intro ι w vs hS hv
    refine (tcompare_calls (G := G) (a, i, p) (c, j, q) [] ι w vs hS hv).mono ?_
    rintro e w' ⟨v, r, h', ι', q1, ⟨q2, _⟩, q3⟩
    exact ⟨v, r, h', ι', q1, q2, q3⟩
  have key := sort_lists (G := G) (k := 3) (by omega) hskT cmpL3 cmpL3_swo hcm (h := h) (b := b) (gg := g) (off := 0) (pre := []) (post := []) (rows := l.map recL) (out := (sortL l).map recL)
    (by rw [cLs_rows]; simpa using hb) rfl (by simpa using hne) (by rw [List.length_map]; omega)
    (fun r hr' => by
      obtain ⟨a, ha, rfl⟩ := List.mem_map.mp hr'
      refine ⟨rfl, fun n hn => ?_⟩
      obtain ⟨h1, h2, h3⟩ := hr a ha
      simp only [recL, List.mem_cons, List.not_mem_nil, or_false] at hn
      rcases hn with rfl | rfl | rfl
      · exact inR_of_sm h1
      · exact inR_of_sm h2
      · exact inR_of_sm h3)
    ((sortL_perm l).map _) (by
      rw [List.pairwise_map]
      refine (sortL_srt l).imp fun {a b} hab e => hab ?_
      exact cmpLb_lt.mp e) (fun x y hx hy a1 a2 => by
      obtain ⟨a, _, rfl⟩ := List.mem_map.mp hx
      obtain ⟨c, _, rfl⟩ := List.mem_map.mp hy
      rw [cmpLb_anti (x := a) (y := c) a1 a2])
  rw [List.length_map] at key
  intro ι w vs hS hv
  refine (key ι w vs hS hv).mono ?_
  rintro e w' ⟨v, r, h', ι', q1, ⟨q2, q3⟩, q4⟩
  refine ⟨v, r, h', ι', q1, ⟨q2, ?_⟩, q4⟩
  rw [q3, cLs_rows]
  simp [putB]

theorem labels_calls {ns : List Nd} {fl : List Fl} (nk : NetOk ns fl) {l : List Sv} (h49 : St49 l) (hl : l.length ≤ 1500) (h : Heap) :
    ACalls Tryz.prog gW 19 [aNet ns fl, aSts l] h (fun r h' => r = aLs (putsL (allLb ns fl l)) ∧ h' = h) := by
  have hzl : (zS.map AV.i).length = 49 := by rw [List.length_map]; rfl
  have hem : (zS.map AV.i).isEmpty = false := rfl
  refine acalls_pure (rl := []) mixed Tryz.func19 rfl (rs := [.tmp 4]) rfl Tryz.ntmps19 (by simp) ?_
  refine awp_seq_k fun K hK => ?_
  repeat' (first | ((first | refine aops_nil ?_ | refine aqops_nil ?_); (try simp only [NB]); ((repeat ((fail_if_success (refine hK _ ?_)); clear hK K)); refine hK _ ?_; clear hK K)) | ((first | refine aops_k fun K1 hK1 => ?_ | refine aqops_k fun K1 hK1 => ?_ | refine awp_cond_k fun A B hA hB => ?_); simp only [S1, simprocAttr, TTTrP]; first | (refine hK1 _ ?_; clear hK1 K1) | ((first | refine hA ?_ | refine hB ?_); clear hA hB A B) | (((first | (refine ⟨fun hg => hA ?_, fun hg => hB ?_⟩ <;> clear hA hB A B) | refine ⟨fun hg => ?_, fun hg => ?_⟩) <;> (try simp only [BN2] at hg) <;> (try simp only [hg, cond_true, cond_false])) <;> (try (refine hK1 _ ?_; clear hK1 K1)) <;> (try simp only [BN3] at hg))) | (fail) | ((first | refine awp_region ?_ | refine awp_draw (by kernel_rfl) ?_ | refine awp_block ?_ | refine awp_exit ?_ | refine awp_skip ?_ | refine awp_ret ?_); (try simp only [NB, simprocAttr]); (try ((repeat ((fail_if_success (refine hK _ ?_)); clear hK K)); refine hK _ ?_; clear hK K))))
  refine awp_seq_k fun K hK => ?_
  repeat' (first | ((first | refine aops_nil ?_ | refine aqops_nil ?_); (try simp only [NB]); ((repeat ((fail_if_success (refine hK _ ?_)); clear hK K)); refine hK _ ?_; clear hK K)) | ((first | refine aops_k fun K1 hK1 => ?_ | refine aqops_k fun K1 hK1 => ?_ | refine awp_cond_k fun A B hA hB => ?_); simp only [S1, simprocAttr, TTTrP]; first | (refine hK1 _ ?_; clear hK1 K1) | ((first | refine hA ?_ | refine hB ?_); clear hA hB A B) | (((first | (refine ⟨fun hg => hA ?_, fun hg => hB ?_⟩ <;> clear hA hB A B) | refine ⟨fun hg => ?_, fun hg => ?_⟩) <;> (try simp only [BN2] at hg) <;> (try simp only [hg, cond_true, cond_false])) <;> (try (refine hK1 _ ?_; clear hK1 K1)) <;> (try simp only [BN3] at hg))) | (fail) | ((first | refine awp_region ?_ | refine awp_draw (by kernel_rfl) ?_ | refine awp_block ?_ | refine awp_exit ?_ | refine awp_skip ?_ | refine awp_ret ?_); (try simp only [NB, simprocAttr]); (try ((repeat ((fail_if_success (refine hK _ ?_)); clear hK K)); refine hK _ ?_; clear hK K))))
  repeat' (first | ((first | refine aops_nil ?_ | refine aqops_nil ?_); (try simp only [NB])) | ((repeat ((fail_if_success (refine hK _ ?_)); clear hK K)); refine hK _ ?_; clear hK K) | ((first | refine aops_k fun K1 hK1 => ?_ | refine aqops_k fun K1 hK1 => ?_ | refine awp_cond_k fun A B hA hB => ?_); simp only [S1, simprocAttr, TTTrP, List.length_map]; first | (refine hK1 _ ?_; clear hK1 K1) | ((first | refine hA ?_ | refine hB ?_); clear hA hB A B) | (((first | (refine ⟨fun hg => hA ?_, fun hg => hB ?_⟩ <;> clear hA hB A B) | refine ⟨fun hg => ?_, fun hg => ?_⟩) <;> (try simp only [BN2] at hg) <;> (try simp only [hg, cond_true, cond_false])) <;> (try (refine hK1 _ ?_; clear hK1 K1)) <;> (try simp only [BN3] at hg))) | (refine awp_seq_k fun K hK => ?_) | ((first | refine awp_region ?_ | refine awp_draw (by kernel_rfl) ?_ | refine awp_block ?_ | refine awp_exit ?_ | refine awp_skip ?_ | refine awp_ret ?_); (try simp only [NB, simprocAttr])))
  refine awp_forG l.length 39 (fun j => [(12, .i j), (11, .i l.length), (10, aSts l), (5, .ref (h.length + 1) (allLb ns fl (l.take j)).length 0 3 (allLb ns fl (l.take j)).length), (2, .ptr h.length 0 0)])
    (fun j => [some ⟨0, cNet ns fl⟩, some ⟨(allLb ns fl (l.take j)).length, cLs (allLb ns fl (l.take j))⟩]) (fun j => True) ?_ trivial fun j hj hp K hK => ?_
  · refine (Ghost.adopt 5 3 rfl).trans (Sub.ghost ⟨rfl, ⟨[], by simp [cLs, allLb]⟩, ?_, ⟨trivial, trivial, trivial⟩, trivial, trivial⟩)
    simp only [keeps, avlt, upd_get, frL, List.length_cons, List.length_nil]
    simp [allLb]
  rcases Nat.lt_or_ge j l.length with hlt | hge
  · obtain ⟨s, hx⟩ : ∃ k, l[j]? = some k := ⟨_, List.getElem?_eq_getElem hlt⟩
    have hs : s.length = 49 := h49 s (List.mem_of_getElem? hx)
    have hxr : (l.map eSt)[j]? = some (s.map (PV.int .i64)) := by rw [List.getElem?_map, hx]; rfl
    have jl : (j : Int) < (l.length : Int) := by omega
    have j0 : (0 : Int) ≤ (j : Int) := by omega
    have hnx : IntKind.i64.wrap ((j : Int) + 1) = ((j + 1 : Nat) : Int) := by rw [IntWalk.i64_in _ (by omega)]; omega
    have s49 : (s.map AV.i).take 49 = s.map AV.i := List.take_of_length_le (by rw [List.length_map, hs]; exact Nat.le_refl _)
    have hso : over (zS.map AV.i) 0 (s.map AV.i) = s.map AV.i := over_full (n := 49) (by rw [List.length_map, hs]) _ hzl
    have hsm := mapmap s
    have hne := ne_is hs
    have hst := fun h => moves_calls nk hs h
    have hto := stepsG_to (ns := ns) (fl := fl) hs
    have hln := stepsG_len (ns := ns) (fl := fl) (S := s)
    have es := allLb_succ (ns := ns) (fl := fl) hx
    have hol := allLb_le ns fl (l.take j)
    rw [List.length_take] at hol
    have hol : (allLb ns fl (l.take j)).length ≤ 3750000 := by omega
    generalize allLb ns fl (l.take j) = o at *
    generalize stepsG ns fl s = sl at *
    repeat' (first | ((first | refine aops_nil ?_ | refine aqops_nil ?_); (try simp only [NB])) | ((repeat ((fail_if_success (refine hK _ ?_)); clear hK K)); refine hK _ ?_; clear hK K) | ((first | refine aops_k fun K1 hK1 => ?_ | refine aqops_k fun K1 hK1 => ?_ | refine awp_cond_k fun A B hA hB => ?_); simp only [S1, simprocAttr, TTTrP, jl, j0, hnx, hxr, hs, hzl, hem, s49, hso, hsm, hne, TSz, z49_ne, z49_map, zS_len, all_scalar, takeA_arr, takeA_st, List.length_map, Int.toNat_natCast, Nat.zero_add]; first | (refine hK1 _ ?_; clear hK1 K1) | ((first | refine hA ?_ | refine hB ?_); clear hA hB A B) | ((first | apply call_a E38 | apply call_q E38); exact (hst _); (refine hK1 _ ?_; clear hK1 K1)) | (((first | (refine ⟨fun hg => hA ?_, fun hg => hB ?_⟩ <;> clear hA hB A B) | refine ⟨fun hg => ?_, fun hg => ?_⟩) <;> (try simp only [BN2] at hg) <;> (try simp only [hg, cond_true, cond_false])) <;> (try (refine hK1 _ ?_; clear hK1 K1)) <;> (try simp only [BN3] at hg))) | (refine awp_seq_k fun K hK => ?_) | ((first | refine awp_region ?_ | refine awp_draw (by kernel_rfl) ?_ | refine awp_block ?_ | refine awp_exit ?_ | refine awp_skip ?_ | refine awp_ret ?_); (try simp only [NB, simprocAttr])))
    refine awp_for sl.length 39 (fun i => [(20, .i i), (19, .i sl.length), (18, aMvs sl), (12, .i j), (11, .i l.length), (10, aSts l), (5, .ref (h.length + 1) (o ++ seenL (sl.take i)).length 0 3 (o ++ seenL (sl.take i)).length), (2, .ptr h.length 0 0)])
      (fun i => [some ⟨0, cNet ns fl⟩, some ⟨(o ++ seenL (sl.take i)).length, cLs (o ++ seenL (sl.take i))⟩]) (fun i => True) ?_ trivial fun i hi hp2 K hK => ?_
    · have e0 : o ++ seenL (sl.take 0) = o := by simp [seenL]
      simp only [e0]
      refine ⟨rfl, ⟨_, rfl⟩, ?_, ⟨trivial, trivial, trivial⟩, cLs_avl _ _, trivial⟩
      simp only [keeps, avlt, avlts, blksLt, frL, upd_get, S1, simprocAttr, List.length_map, Int.natCast_zero, AV.p.injEq, PV.int.injEq, PV.bool.injEq, PV.sl.injEq] <;> (try and_intros) <;> (try assumption) <;> (try trivial) <;> (try omega)
    rcases Nat.lt_or_ge i sl.length with hlt2 | hge2
    · obtain ⟨y, hy⟩ : ∃ y, sl[i]? = some y := ⟨_, List.getElem?_eq_getElem hlt2⟩
      have hxy : (sl.map eMv)[i]? = some [.int .i64 y.node, .int .i64 y.arg, .int .i64 y.lk, .int .i64 y.ln, .int .i64 y.la] := by rw [List.getElem?_map, hy]; rfl
      have e2 := seenL_succ hy
      have hle := seenL_le sl i
      have jl2 : (i : Int) < (sl.length : Int) := by omega
      have j02 : (0 : Int) ≤ (i : Int) := by omega
      have hnx2 : IntKind.i64.wrap ((i : Int) + 1) = ((i + 1 : Nat) : Int) := by rw [IntWalk.i64_in _ (by omega)]; omega
      have e3 : o ++ seenL (sl.take (i + 1)) = o ++ seenL (sl.take i) ++ if y.lk = 0 then [] else [labS y] := by rw [e2, List.append_assoc]
      have hcap : (o ++ seenL (sl.take i)).length + 1 ≤ maxCount := by rw [List.length_append]; unfold maxCount; omega
      generalize o ++ seenL (sl.take i) = acc at *
      have hacc := cLs_len acc
      by_cases hc : y.lk = 0
      · have f0 : (y.lk != 0) = false := by simp [hc]
        rw [if_pos hc, List.append_nil] at e3
        repeat' (first | ((first | refine aops_nil ?_ | refine aqops_nil ?_); (try simp only [NB])) | ((repeat ((fail_if_success (refine hK _ ?_)); clear hK K)); refine hK _ ?_; clear hK K) | ((first | refine aops_k fun K1 hK1 => ?_ | refine aqops_k fun K1 hK1 => ?_ | refine awp_cond_k fun A B hA hB => ?_); simp only [S1, simprocAttr, TTTrP, jl2, j02, hnx2, hxy, f0, takeA_arr, takeA_st, List.length_map, List.length_cons, List.length_nil, Int.toNat_natCast, Nat.zero_add]; first | (refine hK1 _ ?_; clear hK1 K1) | ((first | refine hA ?_ | refine hB ?_); clear hA hB A B) | (((first | (refine ⟨fun hg => hA ?_, fun hg => hB ?_⟩ <;> clear hA hB A B) | refine ⟨fun hg => ?_, fun hg => ?_⟩) <;> (try simp only [BN2] at hg) <;> (try simp only [hg, cond_true, cond_false])) <;> (try (refine hK1 _ ?_; clear hK1 K1)) <;> (try simp only [BN3] at hg))) | (refine awp_seq_k fun K hK => ?_) | ((first | refine awp_region ?_ | refine awp_draw (by kernel_rfl) ?_ | refine awp_block ?_ | refine awp_exit ?_ | refine awp_skip ?_ | refine awp_ret ?_); (try simp only [NB, simprocAttr])))
        all_goals refine ⟨hlt2, trivial, ?_⟩
        all_goals simp only [e3]
        all_goals refine ⟨rfl, ⟨_, rfl⟩, ?_, ⟨trivial, trivial, trivial⟩, cLs_avl _ _, trivial⟩
        all_goals simp only [keeps, avlt, avlts, blksLt, frL, upd_get, S1, simprocAttr, List.length_map, Int.natCast_zero, AV.p.injEq, PV.int.injEq, PV.bool.injEq, PV.sl.injEq] <;> (try and_intros) <;> (try assumption) <;> (try trivial) <;> (try omega)
      · have f0 : (y.lk != 0) = true := by simp [hc]
        rw [if_neg hc] at e3
        have esn : cLs (acc ++ [labS y]) = cLs acc ++ [.i y.lk, .i y.ln, .i y.la] := cLs_snoc acc (labS y)
        repeat' (first | ((first | refine aops_nil ?_ | refine aqops_nil ?_); (try simp only [NB])) | ((repeat ((fail_if_success (refine hK _ ?_)); clear hK K)); refine hK _ ?_; clear hK K) | ((first | refine aops_k fun K1 hK1 => ?_ | refine aqops_k fun K1 hK1 => ?_ | refine awp_cond_k fun A B hA hB => ?_); simp only [S1, simprocAttr, TTTrP, jl2, j02, hnx2, hxy, f0, hacc, hcap, takeA_arr, takeA_st, List.length_map, List.length_cons, List.length_nil, Nat.mul_one, Nat.zero_add, Nat.add_zero, Int.toNat_natCast]; first | (refine hK1 _ ?_; clear hK1 K1) | ((first | refine hA ?_ | refine hB ?_); clear hA hB A B) | (((first | (refine ⟨fun hg => hA ?_, fun hg => hB ?_⟩ <;> clear hA hB A B) | refine ⟨fun hg => ?_, fun hg => ?_⟩) <;> (try simp only [BN2] at hg) <;> (try simp only [hg, cond_true, cond_false])) <;> (try (refine hK1 _ ?_; clear hK1 K1)) <;> (try simp only [BN3] at hg))) | (refine awp_seq_k fun K hK => ?_) | ((first | refine awp_region ?_ | refine awp_draw (by kernel_rfl) ?_ | refine awp_block ?_ | refine awp_exit ?_ | refine awp_skip ?_ | refine awp_ret ?_); (try simp only [NB, simprocAttr])))
        all_goals refine ⟨hlt2, trivial, ?_⟩
        all_goals simp only [e3, esn, List.length_append, List.length_cons, List.length_nil, Nat.zero_add]
        all_goals refine ⟨rfl, ⟨_, rfl⟩, ?_, ⟨trivial, trivial, trivial⟩, (by rw [← esn]; exact cLs_avl _ _), trivial⟩
        all_goals simp only [keeps, avlt, avlts, blksLt, frL, upd_get, S1, simprocAttr, List.length_map, Int.natCast_zero, AV.p.injEq, PV.int.injEq, PV.bool.injEq, PV.sl.injEq] <;> (try and_intros) <;> (try assumption) <;> (try trivial) <;> (try omega)
    · obtain rfl : i = sl.length := by omega
      rw [List.take_length, ← es]
      repeat' (first | ((first | refine aops_nil ?_ | refine aqops_nil ?_); (try simp only [NB])) | ((repeat ((fail_if_success (refine hK _ ?_)); clear hK K)); refine hK _ ?_; clear hK K) | ((first | refine aops_k fun K1 hK1 => ?_ | refine aqops_k fun K1 hK1 => ?_ | refine awp_cond_k fun A B hA hB => ?_); simp only [S1, simprocAttr, TTTrP, hnx, Int.lt_irrefl]; first | (refine hK1 _ ?_; clear hK1 K1) | ((first | refine hA ?_ | refine hB ?_); clear hA hB A B) | (((first | (refine ⟨fun hg => hA ?_, fun hg => hB ?_⟩ <;> clear hA hB A B) | refine ⟨fun hg => ?_, fun hg => ?_⟩) <;> (try simp only [BN2] at hg) <;> (try simp only [hg, cond_true, cond_false])) <;> (try (refine hK1 _ ?_; clear hK1 K1)) <;> (try simp only [BN3] at hg))) | (refine awp_seq_k fun K hK => ?_) | ((first | refine awp_region ?_ | refine awp_draw (by kernel_rfl) ?_ | refine awp_block ?_ | refine awp_exit ?_ | refine awp_skip ?_ | refine awp_ret ?_); (try simp only [NB, simprocAttr])))
      all_goals refine ⟨hlt, trivial, ?_⟩
      all_goals refine ⟨rfl, ⟨_, rfl⟩, ?_, ⟨trivial, trivial, trivial⟩, cLs_avl _ _, trivial⟩
      all_goals simp only [keeps, avlt, avlts, blksLt, frL, upd_get, S1, simprocAttr, List.length_map, Int.natCast_zero, AV.p.injEq, PV.int.injEq, PV.bool.injEq, PV.sl.injEq] <;> (try and_intros) <;> (try assumption) <;> (try trivial) <;> (try omega)
  · obtain rfl : j = l.length := by omega
    rw [List.take_length]
    have hsm := allLb_sm (ns := ns) (fl := fl) h49
    have hol := allLb_le ns fl l
    have hol : (allLb ns fl l).length ≤ 3750000 := by omega
    obtain ⟨o, ho⟩ : ∃ o, o = allLb ns fl l := ⟨_, rfl⟩
    rw [← ho] at hsm hol ⊢
    have hget : ∀ (A : Option Blk) (g : Nat) (m : List Lb), (h ++ [A, some ⟨g, cLs m⟩])[h.length + 1]? = some (some ⟨g, cLs m⟩) := fun A g m => by rw [get_app]; rfl
    have hput : ∀ (A B : Option Blk) (g : Nat) (m : List Lb), putB (h ++ [A, B]) (h.length + 1) g m = h ++ [A, some ⟨g, cLs m⟩] := fun A B g m => by unfold putB; rw [set_app]; rfl
    have hlen : (sortL o).length = o.length := (sortL_perm o).length_eq
    have hsrt := sortT_calls (G := gW) (l := o) (by omega) hsm (hget (some ⟨0, cNet ns fl⟩) o.length o)
    rw [hput] at hsrt
    have hcmp := compact_calls (G := gW) (l := sortL o) (by omega) (hget (some ⟨0, cNet ns fl⟩) o.length (sortL o))
    rw [hput, hlen, once_sort] at hcmp
    repeat' (first | ((first | refine aops_nil ?_ | refine aqops_nil ?_); (try simp only [NB])) | ((repeat ((fail_if_success (refine hK _ ?_)); clear hK K)); refine hK _ ?_; clear hK K) | ((first | refine aops_k fun K1 hK1 => ?_ | refine aqops_k fun K1 hK1 => ?_ | refine awp_cond_k fun A B hA hB => ?_); simp only [S1, simprocAttr, TTTrP, Int.lt_irrefl]; first | (refine hK1 _ ?_; clear hK1 K1) | ((first | refine hA ?_ | refine hB ?_); clear hA hB A B) | ((first | apply call_a E39 | apply call_q E39); exact hsrt; (refine hK1 _ ?_; clear hK1 K1)) | ((first | apply call_a E41 | apply call_q E41); exact hcmp; (refine hK1 _ ?_; clear hK1 K1)) | (((first | (refine ⟨fun hg => hA ?_, fun hg => hB ?_⟩ <;> clear hA hB A B) | refine ⟨fun hg => ?_, fun hg => ?_⟩) <;> (try simp only [BN2] at hg) <;> (try simp only [hg, cond_true, cond_false])) <;> (try (refine hK1 _ ?_; clear hK1 K1)) <;> (try simp only [BN3] at hg))) | (refine awp_seq_k fun K hK => ?_) | ((first | refine awp_region ?_ | refine awp_draw (by kernel_rfl) ?_ | refine awp_block ?_ | refine awp_exit ?_ | refine awp_skip ?_ | refine awp_ret ?_); (try simp only [NB, simprocAttr])))
    all_goals exact EndP_lbs (b := h.length + 1) (g := o.length) (l := putsL o) (rest := cLs (List.replicate (o.length - (putsL o).length) (0, 0, 0))) (.inr rfl) rfl rfl (by simp only [blkAt, get_app, List.getElem?_cons_succ, List.getElem?_cons_zero, if_true, cLs_app]) (by omega) (by simp) (by simp) (by rw [ho])
end Go.Proofs.YtbbmfemplmelhaaGreatDoor.AM
end

section
set_option linter.unusedVariables false
set_option linter.unusedSimpArgs false
set_option maxRecDepth 4000
set_option maxHeartbeats 4000000
namespace Go.Proofs.YtbbmfemplmelhaaGreatDoor.AM
open Go Go.Proofs

def ns0 : List Nd := [⟨1, 0, .mk 0 0 []⟩, ⟨3, 0, .mk 0 0 []⟩, ⟨2, 0, .mk 0 0 []⟩]
def fl0 : List Fl := [⟨0, 1, false, .mk 0 0 []⟩, ⟨1, 2, false, .mk 0 0 []⟩]
theorem rch_f : rchL (edgeB false fl0) 3 0 = [true, true, true] := (rounds_rch (by decide) (by decide)).symm.trans (by decide)
theorem rch_b : rchL (edgeB true fl0) 3 2 = [true, true, true] := (rounds_rch (by decide) (by decide)).symm.trans (by decide)
theorem first_1 : (firstN ns0 1).toNat = 0 := by kernel_rfl
theorem first_2 : (firstN ns0 2).toNat = 2 := by kernel_rfl
theorem bad4_0 : plF 4 (bad4 ns0 fl0) ns0.length = [] := by
  have h : ∀ i, i < 3 → bad4 ns0 fl0 i = false := by
    intro i hi
    have hl : ns0.length = 3 := rfl
    unfold bad4
    rw [first_1, first_2, hl, rch_f, rch_b]
    match i, hi with
    | 0, _ => rfl
    | 1, _ => rfl
    | 2, _ => rfl
  unfold plF
  rw [List.map_eq_nil_iff, List.filter_eq_nil_iff]
  intro i hi
  rw [h i (by simpa [ns0] using hi)]
  decide
theorem net0 : (netN ns0 fl0).1 = 0 := by
  have p1 : plF 1 (bad1 ns0) ns0.length = [] := by kernel_rfl
  have p2 : plF 2 (bad2 ns0 fl0) fl0.length = [] := by kernel_rfl
  have p3 : thirdN ns0 fl0 = [] := by kernel_rfl
  unfold netN allN
  rw [if_neg (by decide), if_neg (by rw [p1]; simp), if_neg (by rw [p2]; simp), if_neg (by rw [p3]; simp), bad4_0]
  rfl
def stepC (S : Sv) : List Sp := if (if okS fl0.length S = true then (0 : Int) else 1) ≠ 0 ∨ mdS S ≠ 0 then [] else nodesG ns0 fl0 S 3 ++ sendsG ns0 S 4
theorem stC0 (S : Sv) : stC ns0 fl0 S = if okS fl0.length S = true then 0 else 1 := by unfold stC; rw [if_neg (by simpa using net0)]
theorem steps0 (S : Sv) : stepsG ns0 fl0 S = stepC S := by
  unfold stepsG
  rw [stC0]
  rfl
def nxC (S : Sv) : List Sv := ledF (stepC S) (0, 0, 0)
def closedC (l : List Sv) : List Sv × Int := if (closeW nxC 1500 l).length ≤ 1500 then (closeW nxC 1500 l, 0) else ([], 5)
theorem closed0 (l : List Sv) : closedW ns0 fl0 l = closedC l := by
  have e : nxW ns0 fl0 = nxC := funext fun S => by unfold nxW ledW nxC; rw [steps0]
  unfold closedW closedC
  rw [e]
def Sa0 : Sv := zS.set 0 1
def Sb0 : Sv := (zS.set 1 1).set 40 1
def Sc0 : Sv := (zS.set 40 1).set 48 1
theorem begin0 : beginG ns0 fl0 = ([Sa0], 0) := by
  have e : (startG ns0 fl0).1 = Sa0 := by unfold startG; rw [if_neg (by simpa using net0)]; exact (by kernel_rfl : zS.set ((outsN fl0 (firstN ns0 1)).headD 0).toNat 1 = Sa0)
  unfold beginG
  rw [if_neg (by simpa using net0), closed0, e]
  exact (by kernel_rfl : closedC [Sa0] = ([Sa0], 0))
theorem lab0 : putsL (allLb ns0 fl0 [Sa0]) = [(1, 1, 0), (1, 1, 1)] := by
  unfold allLb
  simp only [steps0]
  kernel_rfl
theorem wrong0 {S : Sv} (h : okS fl0.length S = true) : wrongW ns0 fl0 [S] = 0 := by
  unfold wrongW
  rw [if_neg (by simpa using net0)]
  unfold wrongL
  rw [stC0, if_pos h]
  rfl
theorem after0 {S : Sv} {x : Lb} {r : List Sv × Int} (h : okS fl0.length S = true) (hx : x.1 ≠ 0) (hr : closedC ([S].flatMap fun s => ledF (stepC s) x) = r) : afterG ns0 fl0 [S] x = r := by
  unfold afterG ledsW ledW
  rw [if_neg (by simp [wrong0 h]), if_neg hx, closed0]
  simp only [steps0]
  exact hr
theorem acc_0 : afterG ns0 fl0 [Sa0] (1, 1, 1) = ([Sb0], 0) := after0 (by kernel_rfl) (by decide) (by kernel_rfl)
theorem acc_1 : afterG ns0 fl0 [Sb0] (7, 0, 0) = ([Sc0], 0) := after0 (by kernel_rfl) (by decide) (by kernel_rfl)
theorem acc_2 : afterG ns0 fl0 [Sc0] (7, 0, 0) = ([], 0) := after0 (by kernel_rfl) (by decide) (by kernel_rfl)
theorem accept0 : acceptG ns0 fl0 [(1, 1, 1), (7, 0, 0), (7, 0, 0)] = (2, 0) := by
  unfold acceptG
  rw [begin0]
  simp [accF, acc_0, acc_1, acc_2]
theorem netok0 : NetOk ns0 fl0 := by
  have h1 : ∀ k ∈ ns0, k.term = .mk 0 0 [] := by
    intro k hk
    simp only [ns0, List.mem_cons, List.not_mem_nil, or_false] at hk
    rcases hk with rfl | rfl | rfl <;> rfl
  have h2 : ∀ k ∈ fl0, k.cond = .mk 0 0 [] := by
    intro k hk
    simp only [fl0, List.mem_cons, List.not_mem_nil, or_false] at hk
    rcases hk with rfl | rfl <;> rfl
  have h3 : Tm.Ok 30 (.mk 0 0 []) := .mk _ _ (by decide) (fun k hk => by cases hk)
  exact ⟨by decide, by decide, ⟨30, by omega, fun k hk => by rw [h1 k hk]; exact h3⟩, ⟨30, by omega, fun k hk => by rw [h2 k hk]; exact h3⟩⟩
end Go.Proofs.YtbbmfemplmelhaaGreatDoor.AM
end
