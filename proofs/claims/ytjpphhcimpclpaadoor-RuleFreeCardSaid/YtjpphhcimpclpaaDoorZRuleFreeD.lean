/- Proved here, in parts, for one law: Contracts: all places at which a rule is broken; the first. Contracts: the rule that is broken, of the program. Plain: the first place. Contracts: the document's rule that is broken. Plain and heaps: lists of numbers as cells; two blocks of which one bears a list of steps. Contracts: how many tokens there are; whether it is a state, as the document tells it. Plain: tokens that are taken and put; a step. Contracts: a step more, a fault, as the document tells them. Contracts: a step more, wherever it stands; a fault. Contracts: equal lists; one rule more. Plain: what a process is that is right; its rules. Contract: all rules of a process. Contract: all rules of a process, as the document tells them. Contract of the bound of what is gone through: a term is not larger. Contract of the bound of what is gone through: a process is not larger. The abstract machine, part N: what a row's arguments read as; laws. The abstract machine, part O: a law is a function that always answers true. The abstract machine, part S: what typed cells are, told by the facts of their types. What the listed variable gives; processes as arguments. Conditions: none. -/
import Derived.Test.YtjpphhcimpclpaaDoorZRuleFreeC
import Derived.ProofKit
import Derived.LaidMore
import Derived.OpenShut
import Derived.Stop.Joined
import Derived.Test.YtjpphhcimpclpaaDoorRows

section
set_option linter.unusedVariables false
set_option linter.unusedSimpArgs false
set_option maxRecDepth 4000


set_option maxHeartbeats 4000000
namespace Go.Proofs.YtjpphhcimpclpaaDoor.AM
open Go Go.Proofs
set_option linter.defProp false in
def TTNeR := And.intro T2 (And.intro T3 (And.intro T4 (And.intro T22 (And.intro T23 (And.intro T25 (And.intro T40 (And.intro T56 (And.intro T58 (And.intro T60 (And.intro T71 (And.intro T89 (And.intro T100 (And.intro T103 T122)))))))))))))
attribute [local irreducible] awp aops aqops aeops arun arunT
variable {G : Nat → Option (List PV)}

theorem len_pos {α : Type} {l : List α} (h : l ≠ []) : decide ((0 : Int) < (l.length : Int)) = true := by
  have : 0 < l.length := List.length_pos_iff.mpr h
  exact decide_eq_true (by omega)
theorem len_zero {α : Type} {l : List α} (h : l = []) : decide ((0 : Int) < (l.length : Int)) = false := by subst h; rfl

theorem All_calls (ns : List Nd) (fl : List Fl) (ok : NetOk ns fl) (h : Heap) : ACalls Tryd.prog gW 36 [aNet ns fl] h (fun r h' => r = aQ (allN ns fl) ∧ h' = h) := by
  have a3 : h.length + 3 + 1 = h.length + 4 := rfl
  have hn := ok.n
  have hl := ok.f
  have p1 := places_calls (G := gW) (f := 56) E56 (caps := [.ptr h.length 0 0]) (p := bad1 ns) 1 ns.length ok.n (h ++ [some ⟨0, cNet ns fl⟩]) (by simp [avlts, avlt])
    (fun L i hi => all1_calls ns fl ok i hi _ (b := h.length) (app_get (by simp [get_app0]) L))
  have p2 := fun b1 : Option Blk => places_calls (G := gW) (f := 58) E58 (caps := [.ptr h.length 0 0]) (p := bad2 ns fl) 2 fl.length ok.f (h ++ [some ⟨0, cNet ns fl⟩, b1]) (by simp [avlts, avlt])
    (fun L i hi => all2_calls ns fl ok i hi _ (b := h.length) (app_get (by simp [get_app0]) L))
  have p4 := fun b1 b2 : Option Blk => places_calls (G := gW) (f := 63) E63 (caps := [.ptr (h.length + 3) 1 0, .ptr (h.length + 4) 1 0]) (p := bad4 ns fl) 4 ns.length ok.n (h ++ [some ⟨0, cNet ns fl⟩, b1, b2, some ⟨1, [aBl (rchL (edgeB false fl) ns.length (firstN ns 1).toNat)]⟩, some ⟨1, [aBl (rchL (edgeB true fl) ns.length (firstN ns 2).toNat)]⟩]) (by simp [avlts, avlt])
    (fun L i hi => all3_calls ns fl i hi _ (app_get (by simp [get_app]) L) (app_get (by simp [get_app]) L))
  simp only [List.length_append, List.length_cons, List.length_nil, Nat.zero_add, Nat.reduceAdd, List.append_assoc, List.cons_append, List.nil_append] at p1 p2 p4
  by_cases hsz : (decide (24 < (ns.length : Int)) || decide (40 < (fl.length : Int))) = true
  · have e : allN ns fl = [(1, 0)] := by unfold allN; rw [if_pos hsz]
    rw [e]
    refine acalls_pure (rl := []) mixed Tryd.func36 rfl (rs := [.tmp 2]) rfl Tryd.ntmps36 (by simp) ?_
    repeat' (first | ((first | refine aops_nil ?_ | refine aqops_nil ?_); (try simp only [NB])) | ((repeat ((fail_if_success (refine hK _ ?_)); clear hK K)); refine hK _ ?_; clear hK K) | ((first | refine aops_k fun K1 hK1 => ?_ | refine aqops_k fun K1 hK1 => ?_ | refine awp_cond_k fun A B hA hB => ?_); simp only [S1, simprocAttr, TTNeR, List.length_map, hsz]; first | (refine hK1 _ ?_; clear hK1 K1) | ((first | refine hA ?_ | refine hB ?_); clear hA hB A B) | (refine join_x (v := ?_) (fun hg hk9 => ?_) ?_; rotate_left; (focus (try ((try simp only [BN] at hg); simp only [S1, simprocAttr, TTNeR, List.length_map, hsz, hg] at hk9 ⊢)); first | exact hk9); (refine hK1 _ ?_; clear hK1 K1)) | (((first | (refine ⟨fun hg => hA ?_, fun hg => hB ?_⟩ <;> clear hA hB A B) | refine ⟨fun hg => ?_, fun hg => ?_⟩) <;> (try simp only [BN2] at hg) <;> (try simp only [hg, cond_true, cond_false])) <;> (try (refine hK1 _ ?_; clear hK1 K1)) <;> (try simp only [BN3] at hg))) | (refine awp_seq_k fun K hK => ?_) | ((first | refine awp_region ?_ | refine awp_draw (by kernel_rfl) ?_ | refine awp_block ?_ | refine awp_exit ?_ | refine awp_skip ?_ | refine awp_ret ?_); (try simp only [NB, simprocAttr])))
    all_goals simp only [EndP, FinP, resA, resL, resA1, lastV, lastA, lastAs, pur, purs, take_app, List.take_length, S1, simprocAttr, TTNeR, Nat.le_add_right, Nat.le_refl]
    all_goals rfl
  rw [Bool.not_eq_true] at hsz
  by_cases h1 : plF 1 (bad1 ns) ns.length = []
  case neg =>
    have e : allN ns fl = plF 1 (bad1 ns) ns.length := by unfold allN; rw [if_neg (by rw [hsz]; decide), if_pos h1]
    rw [e]
    have c1 := len_pos h1
    refine acalls_pure (rl := []) mixed Tryd.func36 rfl (rs := [.tmp 2]) rfl Tryd.ntmps36 (by simp) ?_
    repeat' (first | ((first | refine aops_nil ?_ | refine aqops_nil ?_); (try simp only [NB])) | ((repeat ((fail_if_success (refine hK _ ?_)); clear hK K)); refine hK _ ?_; clear hK K) | ((first | refine aops_k fun K1 hK1 => ?_ | refine aqops_k fun K1 hK1 => ?_ | refine awp_cond_k fun A B hA hB => ?_); simp only [S1, simprocAttr, TTNeR, List.length_map, hsz, c1]; first | (refine hK1 _ ?_; clear hK1 K1) | ((first | refine hA ?_ | refine hB ?_); clear hA hB A B) | ((first | apply call_a E55 | apply call_q E55); exact p1; (refine hK1 _ ?_; clear hK1 K1)) | (refine join_x (v := ?_) (fun hg hk9 => ?_) ?_; rotate_left; (focus (try ((try simp only [BN] at hg); simp only [S1, simprocAttr, TTNeR, List.length_map, hsz, c1, hg] at hk9 ⊢)); first | exact hk9 | ((first | apply call_a E55 | apply call_q E55); exact p1; exact hk9)); (refine hK1 _ ?_; clear hK1 K1)) | (((first | (refine ⟨fun hg => hA ?_, fun hg => hB ?_⟩ <;> clear hA hB A B) | refine ⟨fun hg => ?_, fun hg => ?_⟩) <;> (try simp only [BN2] at hg) <;> (try simp only [hg, cond_true, cond_false])) <;> (try (refine hK1 _ ?_; clear hK1 K1)) <;> (try simp only [BN3] at hg))) | (refine awp_seq_k fun K hK => ?_) | ((first | refine awp_region ?_ | refine awp_draw (by kernel_rfl) ?_ | refine awp_block ?_ | refine awp_exit ?_ | refine awp_skip ?_ | refine awp_ret ?_); (try simp only [NB, simprocAttr])))
    exact EndP_pairs (.inr rfl) rfl rfl (by simp only [blkAt, get_app, List.getElem?_cons_succ, List.getElem?_cons_zero, if_true]) (by omega) (by simp) (by simp) rfl
  have c1 := len_zero h1
  by_cases h2 : plF 2 (bad2 ns fl) fl.length = []
  case neg =>
    have e : allN ns fl = plF 2 (bad2 ns fl) fl.length := by unfold allN; rw [if_neg (by rw [hsz]; decide), if_neg (by simpa using h1), if_pos h2]
    rw [e]
    have c2 := len_pos h2
    refine acalls_pure (rl := []) mixed Tryd.func36 rfl (rs := [.tmp 2]) rfl Tryd.ntmps36 (by simp) ?_
    repeat' (first | ((first | refine aops_nil ?_ | refine aqops_nil ?_); (try simp only [NB])) | ((repeat ((fail_if_success (refine hK _ ?_)); clear hK K)); refine hK _ ?_; clear hK K) | ((first | refine aops_k fun K1 hK1 => ?_ | refine aqops_k fun K1 hK1 => ?_ | refine awp_cond_k fun A B hA hB => ?_); simp only [S1, simprocAttr, TTNeR, List.length_map, hsz, c1, c2]; first | (refine hK1 _ ?_; clear hK1 K1) | ((first | refine hA ?_ | refine hB ?_); clear hA hB A B) | ((first | apply call_a E55 | apply call_q E55); exact p1; (refine hK1 _ ?_; clear hK1 K1)) | ((first | apply call_a E55 | apply call_q E55); exact (p2 _); (refine hK1 _ ?_; clear hK1 K1)) | (refine join_x (v := ?_) (fun hg hk9 => ?_) ?_; rotate_left; (focus (try ((try simp only [BN] at hg); simp only [S1, simprocAttr, TTNeR, List.length_map, hsz, c1, c2, hg] at hk9 ⊢)); first | exact hk9 | ((first | apply call_a E55 | apply call_q E55); exact p1; exact hk9) | ((first | apply call_a E55 | apply call_q E55); exact (p2 _); exact hk9)); (refine hK1 _ ?_; clear hK1 K1)) | (((first | (refine ⟨fun hg => hA ?_, fun hg => hB ?_⟩ <;> clear hA hB A B) | refine ⟨fun hg => ?_, fun hg => ?_⟩) <;> (try simp only [BN2] at hg) <;> (try simp only [hg, cond_true, cond_false])) <;> (try (refine hK1 _ ?_; clear hK1 K1)) <;> (try simp only [BN3] at hg))) | (refine awp_seq_k fun K hK => ?_) | ((first | refine awp_region ?_ | refine awp_draw (by kernel_rfl) ?_ | refine awp_block ?_ | refine awp_exit ?_ | refine awp_skip ?_ | refine awp_ret ?_); (try simp only [NB, simprocAttr])))
    exact EndP_pairs (.inr rfl) rfl rfl (by simp only [blkAt, get_app, List.getElem?_cons_succ, List.getElem?_cons_zero, if_true]) (by omega) (by simp) (by simp) rfl
  have c2 := len_zero h2
  have hd := bad2_in h2
  by_cases h3 : thirdN ns fl = []
  case neg =>
    have e : allN ns fl = thirdN ns fl := by unfold allN; rw [if_neg (by rw [hsz]; decide), if_neg (by simpa using h1), if_neg (by simpa using h2), if_pos h3]
    rw [e]
    have c3 := len_pos h3
    refine acalls_pure (rl := []) mixed Tryd.func36 rfl (rs := [.tmp 2]) rfl Tryd.ntmps36 (by simp) ?_
    repeat' (first | ((first | refine aops_nil ?_ | refine aqops_nil ?_); (try simp only [NB])) | ((repeat ((fail_if_success (refine hK _ ?_)); clear hK K)); refine hK _ ?_; clear hK K) | ((first | refine aops_k fun K1 hK1 => ?_ | refine aqops_k fun K1 hK1 => ?_ | refine awp_cond_k fun A B hA hB => ?_); simp only [S1, simprocAttr, TTNeR, List.length_map, hsz, c1, c2, c3]; first | (refine hK1 _ ?_; clear hK1 K1) | ((first | refine hA ?_ | refine hB ?_); clear hA hB A B) | ((first | apply call_a E55 | apply call_q E55); exact p1; (refine hK1 _ ?_; clear hK1 K1)) | ((first | apply call_a E55 | apply call_q E55); exact (p2 _); (refine hK1 _ ?_; clear hK1 K1)) | ((first | apply call_a E60 | apply call_q E60); exact (third_calls ns fl ok hd _); (refine hK1 _ ?_; clear hK1 K1)) | (refine join_x (v := ?_) (fun hg hk9 => ?_) ?_; rotate_left; (focus (try ((try simp only [BN] at hg); simp only [S1, simprocAttr, TTNeR, List.length_map, hsz, c1, c2, c3, hg] at hk9 ⊢)); first | exact hk9 | ((first | apply call_a E55 | apply call_q E55); exact p1; exact hk9) | ((first | apply call_a E55 | apply call_q E55); exact (p2 _); exact hk9) | ((first | apply call_a E60 | apply call_q E60); exact (third_calls ns fl ok hd _); exact hk9)); (refine hK1 _ ?_; clear hK1 K1)) | (((first | (refine ⟨fun hg => hA ?_, fun hg => hB ?_⟩ <;> clear hA hB A B) | refine ⟨fun hg => ?_, fun hg => ?_⟩) <;> (try simp only [BN2] at hg) <;> (try simp only [hg, cond_true, cond_false])) <;> (try (refine hK1 _ ?_; clear hK1 K1)) <;> (try simp only [BN3] at hg))) | (refine awp_seq_k fun K hK => ?_) | ((first | refine awp_region ?_ | refine awp_draw (by kernel_rfl) ?_ | refine awp_block ?_ | refine awp_exit ?_ | refine awp_skip ?_ | refine awp_ret ?_); (try simp only [NB, simprocAttr])))
    all_goals simp only [EndP, FinP, resA, resL, resA1, lastV, lastA, lastAs, pur, purs, take_app, List.take_length, S1, simprocAttr, TTNeR, Nat.le_add_right, Nat.le_refl]
  have c3 := len_zero h3
  have e : allN ns fl = plF 4 (bad4 ns fl) ns.length := by unfold allN; rw [if_neg (by rw [hsz]; decide), if_neg (by simpa using h1), if_neg (by simpa using h2), if_neg (by simpa using h3)]
  rw [e]
  have hne : noEnds ns = false := by
    unfold thirdN at h3
    cases hx : noEnds ns with
    | false => rfl
    | true => rw [hx] at h3; simp at h3
  obtain ⟨⟨s0, s1⟩, e0, e1⟩ := ends_in hne
  refine acalls_pure (rl := []) mixed Tryd.func36 rfl (rs := [.tmp 2]) rfl Tryd.ntmps36 (by simp) ?_
  repeat' (first | ((first | refine aops_nil ?_ | refine aqops_nil ?_ | refine arun_nil ?_ | refine arunT_nil ?_); (try simp only [NB])) | ((repeat ((fail_if_success (refine hK _ ?_)); clear hK K)); refine hK _ ?_; clear hK K) | ((first | refine aops_k fun K1 hK1 => ?_ | refine aqops_k fun K1 hK1 => ?_ | refine arun_eff rfl rfl rfl fun K1 hK1 => ?_ | refine awp_cond_k fun A B hA hB => ?_); simp only [S1, simprocAttr, TTNeR, List.length_map, hsz, c1, c2, c3, a3]; first | (refine hK1 _ ?_; clear hK1 K1) | ((first | refine hA ?_ | refine hB ?_); clear hA hB A B) | ((first | apply call_a E55 | apply call_q E55); exact p1; (refine hK1 _ ?_; clear hK1 K1)) | ((first | apply call_a E55 | apply call_q E55); exact (p2 _); (refine hK1 _ ?_; clear hK1 K1)) | ((first | apply call_a E55 | apply call_q E55); exact (p4 _ _); (refine hK1 _ ?_; clear hK1 K1)) | ((first | apply call_a E60 | apply call_q E60); exact (third_calls ns fl ok hd _); (refine hK1 _ ?_; clear hK1 K1)) | ((first | apply call_a E35 | apply call_q E35); exact (start_calls ns hn _ _); (refine hK1 _ ?_; clear hK1 K1)) | ((first | apply call_a E62 | apply call_q E62); exact (end_calls ns hn _ _); (refine hK1 _ ?_; clear hK1 K1)) | ((first | apply call_a E61 | apply call_q E61); exact (met_calls ns hn fl hl hd _ s0 s1 false _); (refine hK1 _ ?_; clear hK1 K1)) | ((first | apply call_a E61 | apply call_q E61); exact (met_calls ns hn fl hl hd _ e0 e1 true _); (refine hK1 _ ?_; clear hK1 K1)) | (refine join_x (v := ?_) (fun hg hk9 => ?_) ?_; rotate_left; (focus (try ((try simp only [BN] at hg); simp only [S1, simprocAttr, TTNeR, List.length_map, hsz, c1, c2, c3, a3, hg] at hk9 ⊢)); first | exact hk9 | ((first | apply call_a E55 | apply call_q E55); exact p1; exact hk9) | ((first | apply call_a E55 | apply call_q E55); exact (p2 _); exact hk9) | ((first | apply call_a E55 | apply call_q E55); exact (p4 _ _); exact hk9) | ((first | apply call_a E60 | apply call_q E60); exact (third_calls ns fl ok hd _); exact hk9) | ((first | apply call_a E35 | apply call_q E35); exact (start_calls ns hn _ _); exact hk9) | ((first | apply call_a E62 | apply call_q E62); exact (end_calls ns hn _ _); exact hk9) | ((first | apply call_a E61 | apply call_q E61); exact (met_calls ns hn fl hl hd _ s0 s1 false _); exact hk9) | ((first | apply call_a E61 | apply call_q E61); exact (met_calls ns hn fl hl hd _ e0 e1 true _); exact hk9)); (refine hK1 _ ?_; clear hK1 K1)) | (((first | (refine ⟨fun hg => hA ?_, fun hg => hB ?_⟩ <;> clear hA hB A B) | refine ⟨fun hg => ?_, fun hg => ?_⟩) <;> (try simp only [BN2] at hg) <;> (try simp only [hg, cond_true, cond_false])) <;> (try (refine hK1 _ ?_; clear hK1 K1)) <;> (try simp only [BN3] at hg))) | ((first | refine arun_q (v := ?_) rfl rfl rfl rfl (by decide) (fun R1 K1 hK1 => ?_) ?_ | refine arun_f (v := ?_) rfl rfl rfl (by decide) (fun K1 hK1 => ?_) ?_ | refine arunT_f (v := ?_) rfl rfl rfl (by decide) (fun K1 hK1 => ?_) ?_); rotate_left; (focus (simp only [S1, simprocAttr, TTNeR, List.length_map, hsz, c1, c2, c3, a3]; first | (exact hK1 _ _ _) | ((first | apply call_a E55 | apply call_q E55); exact p1; exact hK1 _ _ _) | ((first | apply call_a E55 | apply call_q E55); exact (p2 _); exact hK1 _ _ _) | ((first | apply call_a E55 | apply call_q E55); exact (p4 _ _); exact hK1 _ _ _) | ((first | apply call_a E60 | apply call_q E60); exact (third_calls ns fl ok hd _); exact hK1 _ _ _) | ((first | apply call_a E35 | apply call_q E35); exact (start_calls ns hn _ _); exact hK1 _ _ _) | ((first | apply call_a E62 | apply call_q E62); exact (end_calls ns hn _ _); exact hK1 _ _ _) | ((first | apply call_a E61 | apply call_q E61); exact (met_calls ns hn fl hl hd _ s0 s1 false _); exact hK1 _ _ _) | ((first | apply call_a E61 | apply call_q E61); exact (met_calls ns hn fl hl hd _ e0 e1 true _); exact hK1 _ _ _)))) | (refine arun_tail rfl rfl rfl ?_) | ((first | refine arun_allocj (z := ?_) 0 rfl rfl rfl rfl (by decide) rfl ?_ ?_ | refine arun_allocj (z := ?_) 1 rfl rfl rfl rfl (by decide) rfl ?_ ?_ | refine arun_allocj (z := ?_) 2 rfl rfl rfl rfl (by decide) rfl ?_ ?_); rotate_left; (focus (simp only [S1, simprocAttr, TTNeR, List.length_map, hsz, c1, c2, c3, a3, zeroB]; rfl))) | (refine awp_seq_k fun K hK => ?_) | (refine awp_drawR [0, 1, 2, 3, 4, 5, 6, 7, 8, 9, 10, 11] 2 rfl (by kernel_rfl) (by kernel_rfl) ?_) | ((first | refine awp_region ?_ | refine awp_draw (by kernel_rfl) ?_ | refine awp_block ?_ | refine awp_exit ?_ | refine awp_skip ?_ | refine awp_ret ?_); (try simp only [NB, simprocAttr])))
  exact EndP_pairs (.inr rfl) rfl rfl (by simp only [blkAt, get_app, List.getElem?_cons_succ, List.getElem?_cons_zero, if_true]) (by omega) (by simp) (by simp) rfl
end Go.Proofs.YtjpphhcimpclpaaDoor.AM
end

section
set_option linter.unusedVariables false
set_option linter.unusedSimpArgs false
set_option maxRecDepth 4000
set_option maxHeartbeats 4000000
namespace Go.Proofs.YtjpphhcimpclpaaDoor.AM
open Go Go.Proofs
set_option linter.defProp false in
def TTNeS := And.intro T2 (And.intro T3 (And.intro T4 (And.intro T22 (And.intro T23 (And.intro T25 (And.intro T40 (And.intro T56 (And.intro T58 (And.intro T60 (And.intro T71 (And.intro T100 (And.intro T103 T122))))))))))))
attribute [local irreducible] awp aops aqops aeops arun arunT
variable {G : Nat → Option (List PV)}

/-- The rule that is broken, and where; 0: none is. -/
noncomputable def netN (ns : List Nd) (fl : List Fl) : Int × Int := (allN ns fl).head?.getD (0, 0)

theorem ne_of_head {α : Type} {l : List α} {x : α} (h : l.head? = some x) : l ≠ [] := by rintro rfl; cases h

theorem Check_calls (ns : List Nd) (fl : List Fl) (ok : NetOk ns fl) (h : Heap) : ACalls Tryd.prog gW 21 [aNet ns fl] h (fun r h' => r = .tup [.i (netN ns fl).1, .i (netN ns fl).2] ∧ h' = h) := by
  have ha := fun h => All_calls ns fl ok h
  unfold netN
  generalize allN ns fl = l at *
  cases hx : l.head? with
  | none =>
    have e : l = [] := by cases l with
      | nil => rfl
      | cons => cases hx
    have c : decide ((0 : Int) < 0) = false := rfl
    subst e
    refine acalls_pure (rl := []) mixed Tryd.func21 rfl (rs := [.tmp 2, .tmp 3]) rfl Tryd.ntmps21 (by simp) ?_
    repeat' (first | ((first | refine aops_nil ?_ | refine aqops_nil ?_); (try simp only [NB])) | ((repeat ((fail_if_success (refine hK _ ?_)); clear hK K)); refine hK _ ?_; clear hK K) | ((first | refine aops_k fun K1 hK1 => ?_ | refine aqops_k fun K1 hK1 => ?_ | refine awp_cond_k fun A B hA hB => ?_); simp only [S1, simprocAttr, TTNeS, List.length_map, List.length_nil, c]; first | (refine hK1 _ ?_; clear hK1 K1) | ((first | refine hA ?_ | refine hB ?_); clear hA hB A B) | ((first | apply call_a E36 | apply call_q E36); exact (ha _); (refine hK1 _ ?_; clear hK1 K1)) | (((first | (refine ⟨fun hg => hA ?_, fun hg => hB ?_⟩ <;> clear hA hB A B) | refine ⟨fun hg => ?_, fun hg => ?_⟩) <;> (try simp only [BN2] at hg) <;> (try simp only [hg, cond_true, cond_false])) <;> (try (refine hK1 _ ?_; clear hK1 K1)) <;> (try simp only [BN3] at hg))) | (refine awp_seq_k fun K hK => ?_) | ((first | refine awp_region ?_ | refine awp_draw (by kernel_rfl) ?_ | refine awp_block ?_ | refine awp_exit ?_ | refine awp_skip ?_ | refine awp_ret ?_); (try simp only [NB, simprocAttr])))
    all_goals simp only [EndP, FinP, resA, resL, resA1, lastV, lastA, lastAs, pur, purs, take_app, List.take_length, S1, simprocAttr, TTNeS, Nat.le_add_right, Nat.le_refl]
    all_goals rfl
  | some x =>
    have c := len_pos (ne_of_head hx)
    have c0 : (0 : Int) ≤ 0 := Int.le_refl 0
    have hr : (l.map eQ)[0]? = some [.int .i64 x.1, .int .i64 x.2] := by rw [← List.head?_eq_getElem?, List.head?_map, hx]; rfl
    refine acalls_pure (rl := []) mixed Tryd.func21 rfl (rs := [.tmp 2, .tmp 3]) rfl Tryd.ntmps21 (by simp) ?_
    repeat' (first | ((first | refine aops_nil ?_ | refine aqops_nil ?_); (try simp only [NB])) | ((repeat ((fail_if_success (refine hK _ ?_)); clear hK K)); refine hK _ ?_; clear hK K) | ((first | refine aops_k fun K1 hK1 => ?_ | refine aqops_k fun K1 hK1 => ?_ | refine awp_cond_k fun A B hA hB => ?_); simp only [S1, simprocAttr, TTNeS, List.length_map, c, c0, hr]; first | (refine hK1 _ ?_; clear hK1 K1) | ((first | refine hA ?_ | refine hB ?_); clear hA hB A B) | ((first | apply call_a E36 | apply call_q E36); exact (ha _); (refine hK1 _ ?_; clear hK1 K1)) | (((first | (refine ⟨fun hg => hA ?_, fun hg => hB ?_⟩ <;> clear hA hB A B) | refine ⟨fun hg => ?_, fun hg => ?_⟩) <;> (try simp only [BN2] at hg) <;> (try simp only [hg, cond_true, cond_false])) <;> (try (refine hK1 _ ?_; clear hK1 K1)) <;> (try simp only [BN3] at hg))) | (refine awp_seq_k fun K hK => ?_) | ((first | refine awp_region ?_ | refine awp_draw (by kernel_rfl) ?_ | refine awp_block ?_ | refine awp_exit ?_ | refine awp_skip ?_ | refine awp_ret ?_); (try simp only [NB, simprocAttr])))
    all_goals simp only [EndP, FinP, resA, resL, resA1, lastV, lastA, lastAs, pur, purs, take_app, List.take_length, S1, simprocAttr, TTNeS, Nat.le_add_right, Nat.le_refl]
    all_goals rfl

theorem find_first {p : Nat → Bool} {n j : Nat} (h1 : ∀ i, i < j → p i = false) (h2 : p j = true) (hj : j < n) : (List.range n).find? p = some j := by
  rw [List.find?_range_eq_some]
  exact ⟨h2, List.mem_range.mpr hj, fun i hi => by rw [h1 i hi]; rfl⟩

theorem plF_first {rule : Int} {p : Nat → Bool} {n j : Nat} (h1 : ∀ i, i < j → p i = false) (h2 : p j = true) (hj : j < n) : (plF rule p n).head? = some (rule, (j : Int)) := by
  rw [plF_head, find_first h1 h2 hj]; rfl
theorem plF_none {rule : Int} {p : Nat → Bool} {n : Nat} (h1 : ∀ i, i < n → p i = false) : plF rule p n = [] := by
  unfold plF
  rw [List.filter_eq_nil_iff.mpr (fun i hi => by rw [h1 i (List.mem_range.mp hi)]; decide)]
  rfl
end Go.Proofs.YtjpphhcimpclpaaDoor.AM
end

section
set_option linter.unusedVariables false
set_option linter.unusedSimpArgs false
set_option maxRecDepth 4000
set_option maxHeartbeats 4000000
namespace Go.Proofs.YtjpphhcimpclpaaDoor.AM
open Go Go.Proofs
set_option linter.defProp false in
def TTNeU := And.intro T2 (And.intro T3 (And.intro T4 (And.intro T22 (And.intro T23 (And.intro T25 (And.intro T40 (And.intro T56 (And.intro T58 (And.intro T60 (And.intro T71 (And.intro T106 T122)))))))))))
attribute [local irreducible] awp aops aqops aeops arun arunT
variable {G : Nat → Option (List PV)}

theorem findG_le {α : Type} {p : α → Bool} : ∀ {l : List α} {i j : Nat} {k : α}, l[j]? = some k → p k = true → findG p l i ≤ ((i + j : Nat) : Int) ∧ (i : Int) ≤ findG p l i
  | [], i, j, k, h, hp => by simp at h
  | x :: r, i, 0, k, h, hp => by
    simp at h; subst h
    unfold findG; rw [if_pos hp]; omega
  | x :: r, i, j + 1, k, h, hp => by
    unfold findG
    split
    · omega
    · have := findG_le (l := r) (i := i + 1) (j := j) (by simpa using h) hp
      omega

theorem first_le {ns : List Nd} {i : Nat} {k : Nd} {kind : Int} (h : ns[i]? = some k) (hk : (k.kind == kind) = true) : firstN ns kind ≤ (i : Int) := by
  have := (findG_le (p := fun x : Nd => x.kind == kind) (i := 0) h hk).1
  unfold firstN; omega

/-- Rule 3 at a place, as the document says it. -/
theorem bad3_eq {ns : List Nd} {fl : List Fl} {i : Nat} {k : Nd} (h : ns[i]? = some k) : bad3 ns fl i = ((!(threeB ns fl i) || (k.kind == 1 && decide (firstN ns 1 < (i : Int)))) || (k.kind == 2 && decide (firstN ns 2 < (i : Int)))) := by
  have e : kindAt ns i = k.kind := by unfold kindAt; rw [Int.toNat_natCast, h]
  have key : ∀ kind : Int, (k.kind == kind && ((i : Int) != firstN ns kind)) = (k.kind == kind && decide (firstN ns kind < (i : Int))) := by
    intro kind
    cases hk : (k.kind == kind) with
    | false => rfl
    | true =>
      have := first_le h hk
      simp only [Bool.true_and]
      rw [Bool.eq_iff_iff]; simp only [bne_iff_ne, decide_eq_true_eq]; omega
  unfold bad3
  rw [e, key, key]

theorem edge_true (fl : List Fl) : edgeB true fl = (esF fl).map Prod.swap := rfl
theorem edge_false (fl : List Fl) : edgeB false fl = esF fl := rfl

theorem bad4_eq {ns : List Nd} {fl : List Fl} {i : Nat} (hi : i < ns.length) (h2 : (firstN ns 2).toNat < ns.length) :
    bad4 ns fl i = (!((rchL (esF fl) ns.length (firstN ns 1).toNat)[i]?.getD false) || !((rchL (esF fl) ns.length i)[(firstN ns 2).toNat]?.getD false)) := by
  unfold bad4
  rw [edge_true, edge_false]
  congr 2
  have a := rchL_get (es := (esF fl).map Prod.swap) (n := ns.length) (a := (firstN ns 2).toNat) hi
  have b := rchL_get (es := esF fl) (n := ns.length) (a := i) h2
  rw [Rch.rev] at a
  have la := rchL_len ((esF fl).map Prod.swap) ns.length (firstN ns 2).toNat
  have lb := rchL_len (esF fl) ns.length i
  rw [List.getElem?_eq_getElem (by omega)] at a b ⊢
  rw [List.getElem?_eq_getElem (by omega)]
  simp only [Option.some.injEq, Option.getD_some] at a b ⊢
  rw [Bool.eq_iff_iff, a, b]

theorem netN_1 {ns : List Nd} {fl : List Fl} (h : (decide (24 < (ns.length : Int)) || decide (40 < (fl.length : Int))) = true) : netN ns fl = (1, 0) := by
  unfold netN allN; rw [if_pos h]; rfl
theorem netN_a {ns : List Nd} {fl : List Fl} (h : (decide (24 < (ns.length : Int)) || decide (40 < (fl.length : Int))) = false) {j : Nat} (h1 : ∀ i, i < j → bad1 ns i = false) (h2 : bad1 ns j = true) (hj : j < ns.length) : netN ns fl = (1, (j : Int)) := by
  have e := plF_first (rule := 1) h1 h2 hj
  unfold netN allN
  rw [if_neg (by rw [h]; decide), if_pos (ne_of_head e), e]; rfl
theorem netN_b {ns : List Nd} {fl : List Fl} (h : (decide (24 < (ns.length : Int)) || decide (40 < (fl.length : Int))) = false) (n1 : ∀ i, i < ns.length → bad1 ns i = false) {j : Nat} (h1 : ∀ i, i < j → bad2 ns fl i = false) (h2 : bad2 ns fl j = true) (hj : j < fl.length) : netN ns fl = (2, (j : Int)) := by
  have e := plF_first (rule := 2) h1 h2 hj
  unfold netN allN
  rw [if_neg (by rw [h]; decide), if_neg (by rw [plF_none n1]; simp), if_pos (ne_of_head e), e]; rfl
theorem netN_c {ns : List Nd} {fl : List Fl} (h : (decide (24 < (ns.length : Int)) || decide (40 < (fl.length : Int))) = false) (n1 : ∀ i, i < ns.length → bad1 ns i = false) (n2 : ∀ i, i < fl.length → bad2 ns fl i = false) {j : Nat} (h1 : ∀ i, i < j → bad3 ns fl i = false) (h2 : bad3 ns fl j = true) (hj : j < ns.length) : netN ns fl = (3, (j : Int)) := by
  have e := plF_first (rule := 3) h1 h2 hj
  have e2 : (thirdN ns fl).head? = some (3, (j : Int)) := by
    unfold thirdN; rw [List.head?_append, e]; rfl
  unfold netN allN
  rw [if_neg (by rw [h]; decide), if_neg (by rw [plF_none n1]; simp), if_neg (by rw [plF_none n2]; simp), if_pos (ne_of_head e2), e2]; rfl
theorem netN_d {ns : List Nd} {fl : List Fl} (h : (decide (24 < (ns.length : Int)) || decide (40 < (fl.length : Int))) = false) (n1 : ∀ i, i < ns.length → bad1 ns i = false) (n2 : ∀ i, i < fl.length → bad2 ns fl i = false) (n3 : ∀ i, i < ns.length → bad3 ns fl i = false) (hE : noEnds ns = true) : netN ns fl = (3, (ns.length : Int)) := by
  have e2 : thirdN ns fl = [(3, (ns.length : Int))] := by
    unfold thirdN; rw [plF_none n3, if_pos hE]; rfl
  unfold netN allN
  rw [if_neg (by rw [h]; decide), if_neg (by rw [plF_none n1]; simp), if_neg (by rw [plF_none n2]; simp), e2]; rfl
theorem netN_e {ns : List Nd} {fl : List Fl} (h : (decide (24 < (ns.length : Int)) || decide (40 < (fl.length : Int))) = false) (n1 : ∀ i, i < ns.length → bad1 ns i = false) (n2 : ∀ i, i < fl.length → bad2 ns fl i = false) (n3 : ∀ i, i < ns.length → bad3 ns fl i = false) (hE : noEnds ns = false) : netN ns fl = (plF 4 (bad4 ns fl) ns.length).head?.getD (0, 0) := by
  have e2 : thirdN ns fl = [] := by
    unfold thirdN; rw [plF_none n3, hE]; rfl
  unfold netN allN
  rw [if_neg (by rw [h]; decide), if_neg (by rw [plF_none n1]; simp), if_neg (by rw [plF_none n2]; simp), if_neg (by rw [e2]; simp)]

theorem stepF {p : Nat → Bool} {j : Nat} (h : ∀ i, i < j → p i = false) (hj : p j = false) : ∀ i, i < j + 1 → p i = false := fun i hi => by
  rcases Nat.lt_or_ge i j with h1 | h1
  · exact h i h1
  · obtain rfl : i = j := by omega
    exact hj

theorem rCheck_calls (ns : List Nd) (fl : List Fl) (ok : NetOk ns fl) (h : Heap) : ACalls Tryd.prog G 41 [aNet ns fl] h (fun r h' => r = .agg [.i (netN ns fl).1, .i (netN ns fl).2] ∧ h' = h) := by
  have hn := ok.n
  have hl := ok.f
  obtain ⟨m1, hm1, ht1⟩ := ok.tn
  obtain ⟨m2, hm2, ht2⟩ := ok.tf
  refine acalls_pure (rl := []) mixed Tryd.func41 rfl (rs := [.cell 2 106]) rfl Tryd.ntmps41 (by simp) ?_
  refine awp_seq_k fun K hK => ?_
  repeat' (first | ((first | refine aops_nil ?_ | refine aqops_nil ?_); (try simp only [NB]); ((repeat ((fail_if_success (refine hK _ ?_)); clear hK K)); refine hK _ ?_; clear hK K)) | ((first | refine aops_k fun K1 hK1 => ?_ | refine aqops_k fun K1 hK1 => ?_ | refine awp_cond_k fun A B hA hB => ?_); simp only [S1, simprocAttr, TTNeU]; first | (refine hK1 _ ?_; clear hK1 K1) | ((first | refine hA ?_ | refine hB ?_); clear hA hB A B) | (refine join_x (v := ?_) (fun hg hk9 => ?_) ?_; rotate_left; (focus (try ((try simp only [BN] at hg); simp only [S1, simprocAttr, TTNeU, hg] at hk9 ⊢)); first | exact hk9); (refine hK1 _ ?_; clear hK1 K1)) | (((first | (refine ⟨fun hg => hA ?_, fun hg => hB ?_⟩ <;> clear hA hB A B) | refine ⟨fun hg => ?_, fun hg => ?_⟩) <;> (try simp only [BN2] at hg) <;> (try simp only [hg, cond_true, cond_false])) <;> (try (refine hK1 _ ?_; clear hK1 K1)) <;> (try simp only [BN3] at hg))) | (fail) | ((first | refine awp_region ?_ | refine awp_draw (by kernel_rfl) ?_ | refine awp_block ?_ | refine awp_exit ?_ | refine awp_skip ?_ | refine awp_ret ?_); (try simp only [NB, simprocAttr]); (try ((repeat ((fail_if_success (refine hK _ ?_)); clear hK K)); refine hK _ ?_; clear hK K))))
  cases hsz : (decide (24 < (ns.length : Int)) || decide (40 < (fl.length : Int))) with
  | true =>
    rw [netN_1 hsz]
    repeat' (first | ((first | refine aops_nil ?_ | refine aqops_nil ?_); (try simp only [NB])) | ((repeat ((fail_if_success (refine hK _ ?_)); clear hK K)); refine hK _ ?_; clear hK K) | ((first | refine aops_k fun K1 hK1 => ?_ | refine aqops_k fun K1 hK1 => ?_ | refine awp_cond_k fun A B hA hB => ?_); simp only [S1, simprocAttr, TTNeU, List.length_map, hsz]; first | (refine hK1 _ ?_; clear hK1 K1) | ((first | refine hA ?_ | refine hB ?_); clear hA hB A B) | (refine join_x (v := ?_) (fun hg hk9 => ?_) ?_; rotate_left; (focus (try ((try simp only [BN] at hg); simp only [S1, simprocAttr, TTNeU, List.length_map, hsz, hg] at hk9 ⊢)); first | exact hk9); (refine hK1 _ ?_; clear hK1 K1)) | (((first | (refine ⟨fun hg => hA ?_, fun hg => hB ?_⟩ <;> clear hA hB A B) | refine ⟨fun hg => ?_, fun hg => ?_⟩) <;> (try simp only [BN2] at hg) <;> (try simp only [hg, cond_true, cond_false])) <;> (try (refine hK1 _ ?_; clear hK1 K1)) <;> (try simp only [BN3] at hg))) | (refine awp_seq_k fun K hK => ?_) | ((first | refine awp_region ?_ | refine awp_draw (by kernel_rfl) ?_ | refine awp_block ?_ | refine awp_exit ?_ | refine awp_skip ?_ | refine awp_ret ?_); (try simp only [NB, simprocAttr])))
    all_goals simp only [EndP, FinP, resA, resL, resA1, lastV, lastA, lastAs, pur, purs, take_app, List.take_length, S1, simprocAttr, TTNeU, Nat.le_add_right, Nat.le_refl]
  | false =>
    repeat' (first | ((first | refine aops_nil ?_ | refine aqops_nil ?_); (try simp only [NB])) | ((repeat ((fail_if_success (refine hK _ ?_)); clear hK K)); refine hK _ ?_; clear hK K) | ((first | refine aops_k fun K1 hK1 => ?_ | refine aqops_k fun K1 hK1 => ?_ | refine awp_cond_k fun A B hA hB => ?_); simp only [S1, simprocAttr, TTNeU, List.length_map, hsz]; first | (refine hK1 _ ?_; clear hK1 K1) | ((first | refine hA ?_ | refine hB ?_); clear hA hB A B) | (refine join_x (v := ?_) (fun hg hk9 => ?_) ?_; rotate_left; (focus (try ((try simp only [BN] at hg); simp only [S1, simprocAttr, TTNeU, List.length_map, hsz, hg] at hk9 ⊢)); first | exact hk9); (refine hK1 _ ?_; clear hK1 K1)) | (((first | (refine ⟨fun hg => hA ?_, fun hg => hB ?_⟩ <;> clear hA hB A B) | refine ⟨fun hg => ?_, fun hg => ?_⟩) <;> (try simp only [BN2] at hg) <;> (try simp only [hg, cond_true, cond_false])) <;> (try (refine hK1 _ ?_; clear hK1 K1)) <;> (try simp only [BN3] at hg))) | (refine awp_seq_k fun K hK => ?_) | ((first | refine awp_region ?_ | refine awp_draw (by kernel_rfl) ?_ | refine awp_block ?_ | refine awp_exit ?_ | refine awp_skip ?_ | refine awp_ret ?_); (try simp only [NB, simprocAttr])))
    refine awp_for ns.length 131 (fun j => [(28, .i j), (27, .i ns.length), (26, .p (.sl (ns.map eN))), (2, .ptr (h.length + 1) 0 0), (1, .ptr h.length 0 0)])
      (fun j => [some ⟨0, cNet ns fl⟩, some ⟨0, [.i 0, .i 0]⟩]) (fun j => ∀ i, i < j → bad1 ns i = false) ?_ (fun i hi => by omega) fun j hj hp K hK => ?_
    · (refine ⟨rfl, (by first | exact ⟨_, rfl⟩ | exact ⟨[], by simp⟩), ?_, ?_⟩ <;> simp only [keeps, avlt, avlts, blksLt, frL, upd_get, S1, simprocAttr, List.length_map, Int.natCast_zero, AV.p.injEq, PV.int.injEq, PV.bool.injEq, PV.sl.injEq] <;> (try and_intros) <;> (try assumption) <;> (try trivial) <;> (try omega))
    rcases Nat.lt_or_ge j ns.length with hlt | hge
    · obtain ⟨k, hx⟩ : ∃ k, ns[j]? = some k := ⟨_, List.getElem?_eq_getElem hlt⟩
      have e : bad1 ns j = !(oneB k.kind k.a k.term) := by unfold bad1; rw [hx]
      have ho := fun h => one_calls (G := G) (ht1 k (List.mem_of_getElem? hx)) hm1 k.kind k.a h
      cases hq : oneB k.kind k.a k.term with
      | true =>
        rw [hq] at ho e
        repeat' (first | ((first | refine aops_nil ?_ | refine aqops_nil ?_); (try simp only [NB])) | ((repeat ((fail_if_success (refine hK _ ?_)); clear hK K)); refine hK _ ?_; clear hK K) | ((first | refine aops_k fun K1 hK1 => ?_ | refine aqops_k fun K1 hK1 => ?_ | refine awp_cond_k fun A B hA hB => ?_); simp only [S1, simprocAttr, TTNeU, rowN hx, hitN hlt, nextN hn hlt, eN, List.length_map]; first | (refine hK1 _ ?_; clear hK1 K1) | ((first | refine hA ?_ | refine hB ?_); clear hA hB A B) | ((first | apply call_a E64 | apply call_q E64); exact (ho _); (refine hK1 _ ?_; clear hK1 K1)) | (refine join_x (v := ?_) (fun hg hk9 => ?_) ?_; rotate_left; (focus (try ((try simp only [BN] at hg); simp only [S1, simprocAttr, TTNeU, rowN hx, hitN hlt, nextN hn hlt, eN, List.length_map, hg] at hk9 ⊢)); first | exact hk9 | ((first | apply call_a E64 | apply call_q E64); exact (ho _); exact hk9)); (refine hK1 _ ?_; clear hK1 K1)) | (((first | (refine ⟨fun hg => hA ?_, fun hg => hB ?_⟩ <;> clear hA hB A B) | refine ⟨fun hg => ?_, fun hg => ?_⟩) <;> (try simp only [BN2] at hg) <;> (try simp only [hg, cond_true, cond_false])) <;> (try (refine hK1 _ ?_; clear hK1 K1)) <;> (try simp only [BN3] at hg))) | (refine awp_seq_k fun K hK => ?_) | ((first | refine awp_region ?_ | refine awp_draw (by kernel_rfl) ?_ | refine awp_block ?_ | refine awp_exit ?_ | refine awp_skip ?_ | refine awp_ret ?_); (try simp only [NB, simprocAttr])))
        all_goals exact ⟨hlt, stepF hp e, by (refine ⟨rfl, (by first | exact ⟨_, rfl⟩ | exact ⟨[], by simp⟩), ?_, ?_⟩ <;> simp only [keeps, avlt, avlts, blksLt, frL, upd_get, S1, simprocAttr, List.length_map, Int.natCast_zero, AV.p.injEq, PV.int.injEq, PV.bool.injEq, PV.sl.injEq] <;> (try and_intros) <;> (try assumption) <;> (try trivial) <;> (try omega))⟩
      | false =>
        rw [hq] at ho e
        rw [netN_a hsz hp e hlt]
        repeat' (first | ((first | refine aops_nil ?_ | refine aqops_nil ?_); (try simp only [NB])) | ((repeat ((fail_if_success (refine hK _ ?_)); clear hK K)); refine hK _ ?_; clear hK K) | ((first | refine aops_k fun K1 hK1 => ?_ | refine aqops_k fun K1 hK1 => ?_ | refine awp_cond_k fun A B hA hB => ?_); simp only [S1, simprocAttr, TTNeU, rowN hx, hitN hlt, nextN hn hlt, eN, List.length_map]; first | (refine hK1 _ ?_; clear hK1 K1) | ((first | refine hA ?_ | refine hB ?_); clear hA hB A B) | ((first | apply call_a E64 | apply call_q E64); exact (ho _); (refine hK1 _ ?_; clear hK1 K1)) | (refine join_x (v := ?_) (fun hg hk9 => ?_) ?_; rotate_left; (focus (try ((try simp only [BN] at hg); simp only [S1, simprocAttr, TTNeU, rowN hx, hitN hlt, nextN hn hlt, eN, List.length_map, hg] at hk9 ⊢)); first | exact hk9 | ((first | apply call_a E64 | apply call_q E64); exact (ho _); exact hk9)); (refine hK1 _ ?_; clear hK1 K1)) | (((first | (refine ⟨fun hg => hA ?_, fun hg => hB ?_⟩ <;> clear hA hB A B) | refine ⟨fun hg => ?_, fun hg => ?_⟩) <;> (try simp only [BN2] at hg) <;> (try simp only [hg, cond_true, cond_false])) <;> (try (refine hK1 _ ?_; clear hK1 K1)) <;> (try simp only [BN3] at hg))) | (refine awp_seq_k fun K hK => ?_) | ((first | refine awp_region ?_ | refine awp_draw (by kernel_rfl) ?_ | refine awp_block ?_ | refine awp_exit ?_ | refine awp_skip ?_ | refine awp_ret ?_); (try simp only [NB, simprocAttr])))
        all_goals simp only [EndP, FinP, resA, resL, resA1, lastV, lastA, lastAs, pur, purs, take_app, List.take_length, S1, simprocAttr, TTNeU, Nat.le_add_right, Nat.le_refl]
    have n1 : ∀ i, i < ns.length → bad1 ns i = false := fun i hi => hp i (by omega)
    obtain rfl : j = ns.length := by omega
    repeat' (first | ((first | refine aops_nil ?_ | refine aqops_nil ?_); (try simp only [NB])) | ((repeat ((fail_if_success (refine hK _ ?_)); clear hK K)); refine hK _ ?_; clear hK K) | ((first | refine aops_k fun K1 hK1 => ?_ | refine aqops_k fun K1 hK1 => ?_ | refine awp_cond_k fun A B hA hB => ?_); simp only [S1, simprocAttr, TTNeU, endN, List.length_map]; first | (refine hK1 _ ?_; clear hK1 K1) | ((first | refine hA ?_ | refine hB ?_); clear hA hB A B) | (refine join_x (v := ?_) (fun hg hk9 => ?_) ?_; rotate_left; (focus (try ((try simp only [BN] at hg); simp only [S1, simprocAttr, TTNeU, endN, List.length_map, hg] at hk9 ⊢)); first | exact hk9); (refine hK1 _ ?_; clear hK1 K1)) | (((first | (refine ⟨fun hg => hA ?_, fun hg => hB ?_⟩ <;> clear hA hB A B) | refine ⟨fun hg => ?_, fun hg => ?_⟩) <;> (try simp only [BN2] at hg) <;> (try simp only [hg, cond_true, cond_false])) <;> (try (refine hK1 _ ?_; clear hK1 K1)) <;> (try simp only [BN3] at hg))) | (refine awp_seq_k fun K hK => ?_) | ((first | refine awp_region ?_ | refine awp_draw (by kernel_rfl) ?_ | refine awp_block ?_ | refine awp_exit ?_ | refine awp_skip ?_ | refine awp_ret ?_); (try simp only [NB, simprocAttr])))
    refine awp_for fl.length 131 (fun j => [(42, .i j), (41, .i fl.length), (40, .p (.sl (fl.map eF))), (2, .ptr (h.length + 1) 0 0), (1, .ptr h.length 0 0)])
      (fun j => [some ⟨0, cNet ns fl⟩, some ⟨0, [.i 0, .i 0]⟩]) (fun j => ∀ i, i < j → bad2 ns fl i = false) ?_ (fun i hi => by omega) fun j hj hp K hK => ?_
    · (refine ⟨rfl, (by first | exact ⟨_, rfl⟩ | exact ⟨[], by simp⟩), ?_, ?_⟩ <;> simp only [keeps, avlt, avlts, blksLt, frL, upd_get, S1, simprocAttr, List.length_map, Int.natCast_zero, AV.p.injEq, PV.int.injEq, PV.bool.injEq, PV.sl.injEq] <;> (try and_intros) <;> (try assumption) <;> (try trivial) <;> (try omega))
    rcases Nat.lt_or_ge j fl.length with hlt | hge
    · obtain ⟨k, hx⟩ : ∃ k, fl[j]? = some k := ⟨_, List.getElem?_eq_getElem hlt⟩
      have e : bad2 ns fl j = !(twoB ns fl k) := by unfold bad2; rw [hx]
      have ho := fun h => two_calls (G := G) ns hn fl hl k (ht2 k (List.mem_of_getElem? hx)) hm2 h
      cases hq : twoB ns fl k with
      | true =>
        rw [hq] at ho e
        repeat' (first | ((first | refine aops_nil ?_ | refine aqops_nil ?_); (try simp only [NB])) | ((repeat ((fail_if_success (refine hK _ ?_)); clear hK K)); refine hK _ ?_; clear hK K) | ((first | refine aops_k fun K1 hK1 => ?_ | refine aqops_k fun K1 hK1 => ?_ | refine awp_cond_k fun A B hA hB => ?_); simp only [S1, simprocAttr, TTNeU, rowF hx, hitF hlt, nextF hl hlt, eF, List.length_map]; first | (refine hK1 _ ?_; clear hK1 K1) | ((first | refine hA ?_ | refine hB ?_); clear hA hB A B) | ((first | apply call_a E65 | apply call_q E65); exact (ho _); (refine hK1 _ ?_; clear hK1 K1)) | (refine join_x (v := ?_) (fun hg hk9 => ?_) ?_; rotate_left; (focus (try ((try simp only [BN] at hg); simp only [S1, simprocAttr, TTNeU, rowF hx, hitF hlt, nextF hl hlt, eF, List.length_map, hg] at hk9 ⊢)); first | exact hk9 | ((first | apply call_a E65 | apply call_q E65); exact (ho _); exact hk9)); (refine hK1 _ ?_; clear hK1 K1)) | (((first | (refine ⟨fun hg => hA ?_, fun hg => hB ?_⟩ <;> clear hA hB A B) | refine ⟨fun hg => ?_, fun hg => ?_⟩) <;> (try simp only [BN2] at hg) <;> (try simp only [hg, cond_true, cond_false])) <;> (try (refine hK1 _ ?_; clear hK1 K1)) <;> (try simp only [BN3] at hg))) | (refine awp_seq_k fun K hK => ?_) | ((first | refine awp_region ?_ | refine awp_draw (by kernel_rfl) ?_ | refine awp_block ?_ | refine awp_exit ?_ | refine awp_skip ?_ | refine awp_ret ?_); (try simp only [NB, simprocAttr])))
        all_goals exact ⟨hlt, stepF hp e, by (refine ⟨rfl, (by first | exact ⟨_, rfl⟩ | exact ⟨[], by simp⟩), ?_, ?_⟩ <;> simp only [keeps, avlt, avlts, blksLt, frL, upd_get, S1, simprocAttr, List.length_map, Int.natCast_zero, AV.p.injEq, PV.int.injEq, PV.bool.injEq, PV.sl.injEq] <;> (try and_intros) <;> (try assumption) <;> (try trivial) <;> (try omega))⟩
      | false =>
        rw [hq] at ho e
        rw [netN_b hsz n1 hp e hlt]
        repeat' (first | ((first | refine aops_nil ?_ | refine aqops_nil ?_); (try simp only [NB])) | ((repeat ((fail_if_success (refine hK _ ?_)); clear hK K)); refine hK _ ?_; clear hK K) | ((first | refine aops_k fun K1 hK1 => ?_ | refine aqops_k fun K1 hK1 => ?_ | refine awp_cond_k fun A B hA hB => ?_); simp only [S1, simprocAttr, TTNeU, rowF hx, hitF hlt, nextF hl hlt, eF, List.length_map]; first | (refine hK1 _ ?_; clear hK1 K1) | ((first | refine hA ?_ | refine hB ?_); clear hA hB A B) | ((first | apply call_a E65 | apply call_q E65); exact (ho _); (refine hK1 _ ?_; clear hK1 K1)) | (refine join_x (v := ?_) (fun hg hk9 => ?_) ?_; rotate_left; (focus (try ((try simp only [BN] at hg); simp only [S1, simprocAttr, TTNeU, rowF hx, hitF hlt, nextF hl hlt, eF, List.length_map, hg] at hk9 ⊢)); first | exact hk9 | ((first | apply call_a E65 | apply call_q E65); exact (ho _); exact hk9)); (refine hK1 _ ?_; clear hK1 K1)) | (((first | (refine ⟨fun hg => hA ?_, fun hg => hB ?_⟩ <;> clear hA hB A B) | refine ⟨fun hg => ?_, fun hg => ?_⟩) <;> (try simp only [BN2] at hg) <;> (try simp only [hg, cond_true, cond_false])) <;> (try (refine hK1 _ ?_; clear hK1 K1)) <;> (try simp only [BN3] at hg))) | (refine awp_seq_k fun K hK => ?_) | ((first | refine awp_region ?_ | refine awp_draw (by kernel_rfl) ?_ | refine awp_block ?_ | refine awp_exit ?_ | refine awp_skip ?_ | refine awp_ret ?_); (try simp only [NB, simprocAttr])))
        all_goals simp only [EndP, FinP, resA, resL, resA1, lastV, lastA, lastAs, pur, purs, take_app, List.take_length, S1, simprocAttr, TTNeU, Nat.le_add_right, Nat.le_refl]
    have n2 : ∀ i, i < fl.length → bad2 ns fl i = false := fun i hi => hp i (by omega)
    have hd := bad2_in (plF_none (rule := 2) n2)
    obtain rfl : j = fl.length := by omega
    repeat' (first | ((first | refine aops_nil ?_ | refine aqops_nil ?_); (try simp only [NB])) | ((repeat ((fail_if_success (refine hK _ ?_)); clear hK K)); refine hK _ ?_; clear hK K) | ((first | refine aops_k fun K1 hK1 => ?_ | refine aqops_k fun K1 hK1 => ?_ | refine awp_cond_k fun A B hA hB => ?_); simp only [S1, simprocAttr, TTNeU, endF, List.length_map]; first | (refine hK1 _ ?_; clear hK1 K1) | ((first | refine hA ?_ | refine hB ?_); clear hA hB A B) | ((first | apply call_a E66 | apply call_q E66); exact (first_calls ns hn _ _ _); (refine hK1 _ ?_; clear hK1 K1)) | (refine join_x (v := ?_) (fun hg hk9 => ?_) ?_; rotate_left; (focus (try ((try simp only [BN] at hg); simp only [S1, simprocAttr, TTNeU, endF, List.length_map, hg] at hk9 ⊢)); first | exact hk9 | ((first | apply call_a E66 | apply call_q E66); exact (first_calls ns hn _ _ _); exact hk9)); (refine hK1 _ ?_; clear hK1 K1)) | (((first | (refine ⟨fun hg => hA ?_, fun hg => hB ?_⟩ <;> clear hA hB A B) | refine ⟨fun hg => ?_, fun hg => ?_⟩) <;> (try simp only [BN2] at hg) <;> (try simp only [hg, cond_true, cond_false])) <;> (try (refine hK1 _ ?_; clear hK1 K1)) <;> (try simp only [BN3] at hg))) | (refine awp_seq_k fun K hK => ?_) | ((first | refine awp_region ?_ | refine awp_draw (by kernel_rfl) ?_ | refine awp_block ?_ | refine awp_exit ?_ | refine awp_skip ?_ | refine awp_ret ?_); (try simp only [NB, simprocAttr])))
    refine awp_for ns.length 131 (fun j => [(61, .i j), (60, .i ns.length), (59, .p (.sl (ns.map eN))), (8, .i (firstN ns 2)), (7, .i (firstN ns 1)), (2, .ptr (h.length + 1) 0 0), (1, .ptr h.length 0 0)])
      (fun j => [some ⟨0, cNet ns fl⟩, some ⟨0, [.i 0, .i 0]⟩]) (fun j => ∀ i, i < j → bad3 ns fl i = false) ?_ (fun i hi => by omega) fun j hj hp K hK => ?_
    · (refine ⟨rfl, (by first | exact ⟨_, rfl⟩ | exact ⟨[], by simp⟩), ?_, ?_⟩ <;> simp only [keeps, avlt, avlts, blksLt, frL, upd_get, S1, simprocAttr, List.length_map, Int.natCast_zero, AV.p.injEq, PV.int.injEq, PV.bool.injEq, PV.sl.injEq] <;> (try and_intros) <;> (try assumption) <;> (try trivial) <;> (try omega))
    rcases Nat.lt_or_ge j ns.length with hlt | hge
    · obtain ⟨k, hx⟩ : ∃ k, ns[j]? = some k := ⟨_, List.getElem?_eq_getElem hlt⟩
      have e := bad3_eq (fl := fl) hx
      have ho := fun h => three_calls (G := G) ns hn fl hl (fun f hf => (hd f hf).2) j (by omega) (by omega) h
      cases hq : bad3 ns fl j with
      | false =>
        rw [hq] at e
        repeat' (first | ((first | refine aops_nil ?_ | refine aqops_nil ?_); (try simp only [NB])) | ((repeat ((fail_if_success (refine hK _ ?_)); clear hK K)); refine hK _ ?_; clear hK K) | ((first | refine aops_k fun K1 hK1 => ?_ | refine aqops_k fun K1 hK1 => ?_ | refine awp_cond_k fun A B hA hB => ?_); simp only [S1, simprocAttr, TTNeU, rowN hx, hitN hlt, nextN hn hlt, eN, List.length_map, e.symm]; first | (refine hK1 _ ?_; clear hK1 K1) | ((first | refine hA ?_ | refine hB ?_); clear hA hB A B) | ((first | apply call_a E67 | apply call_q E67); exact (ho _); (refine hK1 _ ?_; clear hK1 K1)) | (refine join_x (v := ?_) (fun hg hk9 => ?_) ?_; rotate_left; (focus (try ((try simp only [BN] at hg); simp only [S1, simprocAttr, TTNeU, rowN hx, hitN hlt, nextN hn hlt, eN, List.length_map, e.symm, hg] at hk9 ⊢)); first | exact hk9 | ((first | apply call_a E67 | apply call_q E67); exact (ho _); exact hk9)); (refine hK1 _ ?_; clear hK1 K1)) | (((first | (refine ⟨fun hg => hA ?_, fun hg => hB ?_⟩ <;> clear hA hB A B) | refine ⟨fun hg => ?_, fun hg => ?_⟩) <;> (try simp only [BN2] at hg) <;> (try simp only [hg, cond_true, cond_false])) <;> (try (refine hK1 _ ?_; clear hK1 K1)) <;> (try simp only [BN3] at hg))) | (refine awp_seq_k fun K hK => ?_) | ((first | refine awp_region ?_ | refine awp_draw (by kernel_rfl) ?_ | refine awp_block ?_ | refine awp_exit ?_ | refine awp_skip ?_ | refine awp_ret ?_); (try simp only [NB, simprocAttr])))
        all_goals exact ⟨hlt, stepF hp hq, by (refine ⟨rfl, (by first | exact ⟨_, rfl⟩ | exact ⟨[], by simp⟩), ?_, ?_⟩ <;> simp only [keeps, avlt, avlts, blksLt, frL, upd_get, S1, simprocAttr, List.length_map, Int.natCast_zero, AV.p.injEq, PV.int.injEq, PV.bool.injEq, PV.sl.injEq] <;> (try and_intros) <;> (try assumption) <;> (try trivial) <;> (try omega))⟩
      | true =>
        rw [hq] at e
        rw [netN_c hsz n1 n2 hp hq hlt]
        repeat' (first | ((first | refine aops_nil ?_ | refine aqops_nil ?_); (try simp only [NB])) | ((repeat ((fail_if_success (refine hK _ ?_)); clear hK K)); refine hK _ ?_; clear hK K) | ((first | refine aops_k fun K1 hK1 => ?_ | refine aqops_k fun K1 hK1 => ?_ | refine awp_cond_k fun A B hA hB => ?_); simp only [S1, simprocAttr, TTNeU, rowN hx, hitN hlt, nextN hn hlt, eN, List.length_map, e.symm]; first | (refine hK1 _ ?_; clear hK1 K1) | ((first | refine hA ?_ | refine hB ?_); clear hA hB A B) | ((first | apply call_a E67 | apply call_q E67); exact (ho _); (refine hK1 _ ?_; clear hK1 K1)) | (refine join_x (v := ?_) (fun hg hk9 => ?_) ?_; rotate_left; (focus (try ((try simp only [BN] at hg); simp only [S1, simprocAttr, TTNeU, rowN hx, hitN hlt, nextN hn hlt, eN, List.length_map, e.symm, hg] at hk9 ⊢)); first | exact hk9 | ((first | apply call_a E67 | apply call_q E67); exact (ho _); exact hk9)); (refine hK1 _ ?_; clear hK1 K1)) | (((first | (refine ⟨fun hg => hA ?_, fun hg => hB ?_⟩ <;> clear hA hB A B) | refine ⟨fun hg => ?_, fun hg => ?_⟩) <;> (try simp only [BN2] at hg) <;> (try simp only [hg, cond_true, cond_false])) <;> (try (refine hK1 _ ?_; clear hK1 K1)) <;> (try simp only [BN3] at hg))) | (refine awp_seq_k fun K hK => ?_) | ((first | refine awp_region ?_ | refine awp_draw (by kernel_rfl) ?_ | refine awp_block ?_ | refine awp_exit ?_ | refine awp_skip ?_ | refine awp_ret ?_); (try simp only [NB, simprocAttr])))
        all_goals simp only [EndP, FinP, resA, resL, resA1, lastV, lastA, lastAs, pur, purs, take_app, List.take_length, S1, simprocAttr, TTNeU, Nat.le_add_right, Nat.le_refl]
    have n3 : ∀ i, i < ns.length → bad3 ns fl i = false := fun i hi => hp i (by omega)
    obtain rfl : j = ns.length := by omega
    cases hE : noEnds ns with
    | true =>
      have er := netN_d hsz n1 n2 n3 hE
      unfold noEnds at hE
      repeat' (first | ((first | refine aops_nil ?_ | refine aqops_nil ?_); (try simp only [NB])) | ((repeat ((fail_if_success (refine hK _ ?_)); clear hK K)); refine hK _ ?_; clear hK K) | ((first | refine aops_k fun K1 hK1 => ?_ | refine aqops_k fun K1 hK1 => ?_ | refine awp_cond_k fun A B hA hB => ?_); simp only [S1, simprocAttr, TTNeU, endN, hE, List.length_map]; first | (refine hK1 _ ?_; clear hK1 K1) | ((first | refine hA ?_ | refine hB ?_); clear hA hB A B) | (refine join_x (v := ?_) (fun hg hk9 => ?_) ?_; rotate_left; (focus (try ((try simp only [BN] at hg); simp only [S1, simprocAttr, TTNeU, endN, hE, List.length_map, hg] at hk9 ⊢)); first | exact hk9); (refine hK1 _ ?_; clear hK1 K1)) | (((first | (refine ⟨fun hg => hA ?_, fun hg => hB ?_⟩ <;> clear hA hB A B) | refine ⟨fun hg => ?_, fun hg => ?_⟩) <;> (try simp only [BN2] at hg) <;> (try simp only [hg, cond_true, cond_false])) <;> (try (refine hK1 _ ?_; clear hK1 K1)) <;> (try simp only [BN3] at hg))) | (refine awp_seq_k fun K hK => ?_) | ((first | refine awp_region ?_ | refine awp_draw (by kernel_rfl) ?_ | refine awp_block ?_ | refine awp_exit ?_ | refine awp_skip ?_ | refine awp_ret ?_); (try simp only [NB, simprocAttr])))
      all_goals simp only [EndP, FinP, resA, resL, resA1, lastV, lastA, lastAs, pur, purs, take_app, List.take_length, S1, simprocAttr, TTNeU, Nat.le_add_right, Nat.le_refl]
      all_goals rw [er]
    | false =>
      have hen := netN_e hsz n1 n2 n3 hE
      obtain ⟨⟨s0, s1⟩, e0, e1⟩ := ends_in hE
      unfold noEnds at hE
      repeat' (first | ((first | refine aops_nil ?_ | refine aqops_nil ?_); (try simp only [NB])) | ((repeat ((fail_if_success (refine hK _ ?_)); clear hK K)); refine hK _ ?_; clear hK K) | ((first | refine aops_k fun K1 hK1 => ?_ | refine aqops_k fun K1 hK1 => ?_ | refine awp_cond_k fun A B hA hB => ?_); simp only [S1, simprocAttr, TTNeU, endN, hE, List.length_map]; first | (refine hK1 _ ?_; clear hK1 K1) | ((first | refine hA ?_ | refine hB ?_); clear hA hB A B) | ((first | apply call_a E68 | apply call_q E68); exact (Reach_calls ns hn fl hl hd _ s0 s1 _); (refine hK1 _ ?_; clear hK1 K1)) | (refine join_x (v := ?_) (fun hg hk9 => ?_) ?_; rotate_left; (focus (try ((try simp only [BN] at hg); simp only [S1, simprocAttr, TTNeU, endN, hE, List.length_map, hg] at hk9 ⊢)); first | exact hk9 | ((first | apply call_a E68 | apply call_q E68); exact (Reach_calls ns hn fl hl hd _ s0 s1 _); exact hk9)); (refine hK1 _ ?_; clear hK1 K1)) | (((first | (refine ⟨fun hg => hA ?_, fun hg => hB ?_⟩ <;> clear hA hB A B) | refine ⟨fun hg => ?_, fun hg => ?_⟩) <;> (try simp only [BN2] at hg) <;> (try simp only [hg, cond_true, cond_false])) <;> (try (refine hK1 _ ?_; clear hK1 K1)) <;> (try simp only [BN3] at hg))) | (refine awp_seq_k fun K hK => ?_) | ((first | refine awp_region ?_ | refine awp_draw (by kernel_rfl) ?_ | refine awp_block ?_ | refine awp_exit ?_ | refine awp_skip ?_ | refine awp_ret ?_); (try simp only [NB, simprocAttr])))
      refine awp_for ns.length 131 (fun j => [(109, .i j), (108, .i ns.length), (107, .p (.sl (ns.map eN))), (11, aBl (rchL (esF fl) ns.length (firstN ns 1).toNat)), (8, .i (firstN ns 2)), (7, .i (firstN ns 1)), (2, .ptr (h.length + 1) 0 0), (1, .ptr h.length 0 0)])
        (fun j => [some ⟨0, cNet ns fl⟩, some ⟨0, [.i 0, .i 0]⟩]) (fun j => ∀ i, i < j → bad4 ns fl i = false) ?_ (fun i hi => by omega) fun j hj hp K hK => ?_
      · (refine ⟨rfl, (by first | exact ⟨_, rfl⟩ | exact ⟨[], by simp⟩), ?_, ?_⟩ <;> simp only [keeps, avlt, avlts, blksLt, frL, upd_get, S1, simprocAttr, List.length_map, Int.natCast_zero, AV.p.injEq, PV.int.injEq, PV.bool.injEq, PV.sl.injEq] <;> (try and_intros) <;> (try assumption) <;> (try trivial) <;> (try omega))
      rcases Nat.lt_or_ge j ns.length with hlt | hge
      · have e := bad4_eq (fl := fl) hlt (by omega)
        have la := rchL_len (esF fl) ns.length (firstN ns 1).toNat
        have lb := rchL_len (esF fl) ns.length j
        have j0 : (0 : Int) ≤ (j : Int) := by omega
        have ho := fun h => Reach_calls (G := G) ns hn fl hl hd j j0 (by omega) h
        rw [Int.toNat_natCast] at ho
        obtain ⟨x, hx⟩ : ∃ x, (rchL (esF fl) ns.length (firstN ns 1).toNat)[j]? = some x := ⟨_, List.getElem?_eq_getElem (by omega)⟩
        obtain ⟨y, hy⟩ : ∃ x, (rchL (esF fl) ns.length j)[(firstN ns 2).toNat]? = some x := ⟨_, List.getElem?_eq_getElem (by omega)⟩
        rw [hx, hy] at e
        simp only [Option.getD_some] at e
        have hx' : ((rchL (esF fl) ns.length (firstN ns 1).toNat).map eB)[j]? = some [.bool x] := by simp [hx, eB]
        have hy' : ((rchL (esF fl) ns.length j).map eB)[(firstN ns 2).toNat]? = some [.bool y] := by simp [hy, eB]
        cases hq : bad4 ns fl j with
        | false =>
          rw [hq] at e
          repeat' (first | ((first | refine aops_nil ?_ | refine aqops_nil ?_); (try simp only [NB])) | ((repeat ((fail_if_success (refine hK _ ?_)); clear hK K)); refine hK _ ?_; clear hK K) | ((first | refine aops_k fun K1 hK1 => ?_ | refine aqops_k fun K1 hK1 => ?_ | refine awp_cond_k fun A B hA hB => ?_); simp only [S1, simprocAttr, TTNeU, hitN hlt, nextN hn hlt, hx', hy', j0, e0, Int.toNat_natCast, List.length_map, e.symm]; first | (refine hK1 _ ?_; clear hK1 K1) | ((first | refine hA ?_ | refine hB ?_); clear hA hB A B) | ((first | apply call_a E68 | apply call_q E68); exact (ho _); (refine hK1 _ ?_; clear hK1 K1)) | (refine join_x (v := ?_) (fun hg hk9 => ?_) ?_; rotate_left; (focus (try ((try simp only [BN] at hg); simp only [S1, simprocAttr, TTNeU, hitN hlt, nextN hn hlt, hx', hy', j0, e0, Int.toNat_natCast, List.length_map, e.symm, hg] at hk9 ⊢)); first | exact hk9 | ((first | apply call_a E68 | apply call_q E68); exact (ho _); exact hk9)); (refine hK1 _ ?_; clear hK1 K1)) | (((first | (refine ⟨fun hg => hA ?_, fun hg => hB ?_⟩ <;> clear hA hB A B) | refine ⟨fun hg => ?_, fun hg => ?_⟩) <;> (try simp only [BN2] at hg) <;> (try simp only [hg, cond_true, cond_false])) <;> (try (refine hK1 _ ?_; clear hK1 K1)) <;> (try simp only [BN3] at hg))) | (refine awp_seq_k fun K hK => ?_) | ((first | refine awp_region ?_ | refine awp_draw (by kernel_rfl) ?_ | refine awp_block ?_ | refine awp_exit ?_ | refine awp_skip ?_ | refine awp_ret ?_); (try simp only [NB, simprocAttr])))
          all_goals exact ⟨hlt, stepF hp hq, by (refine ⟨rfl, (by first | exact ⟨_, rfl⟩ | exact ⟨[], by simp⟩), ?_, ?_⟩ <;> simp only [keeps, avlt, avlts, blksLt, frL, upd_get, S1, simprocAttr, List.length_map, Int.natCast_zero, AV.p.injEq, PV.int.injEq, PV.bool.injEq, PV.sl.injEq] <;> (try and_intros) <;> (try assumption) <;> (try trivial) <;> (try omega))⟩
        | true =>
          have er : netN ns fl = (4, (j : Int)) := by rw [hen, plF_first hp hq hlt]; rfl
          rw [hq] at e
          rw [er]
          repeat' (first | ((first | refine aops_nil ?_ | refine aqops_nil ?_); (try simp only [NB])) | ((repeat ((fail_if_success (refine hK _ ?_)); clear hK K)); refine hK _ ?_; clear hK K) | ((first | refine aops_k fun K1 hK1 => ?_ | refine aqops_k fun K1 hK1 => ?_ | refine awp_cond_k fun A B hA hB => ?_); simp only [S1, simprocAttr, TTNeU, hitN hlt, nextN hn hlt, hx', hy', j0, e0, Int.toNat_natCast, List.length_map, e.symm]; first | (refine hK1 _ ?_; clear hK1 K1) | ((first | refine hA ?_ | refine hB ?_); clear hA hB A B) | ((first | apply call_a E68 | apply call_q E68); exact (ho _); (refine hK1 _ ?_; clear hK1 K1)) | (refine join_x (v := ?_) (fun hg hk9 => ?_) ?_; rotate_left; (focus (try ((try simp only [BN] at hg); simp only [S1, simprocAttr, TTNeU, hitN hlt, nextN hn hlt, hx', hy', j0, e0, Int.toNat_natCast, List.length_map, e.symm, hg] at hk9 ⊢)); first | exact hk9 | ((first | apply call_a E68 | apply call_q E68); exact (ho _); exact hk9)); (refine hK1 _ ?_; clear hK1 K1)) | (((first | (refine ⟨fun hg => hA ?_, fun hg => hB ?_⟩ <;> clear hA hB A B) | refine ⟨fun hg => ?_, fun hg => ?_⟩) <;> (try simp only [BN2] at hg) <;> (try simp only [hg, cond_true, cond_false])) <;> (try (refine hK1 _ ?_; clear hK1 K1)) <;> (try simp only [BN3] at hg))) | (refine awp_seq_k fun K hK => ?_) | ((first | refine awp_region ?_ | refine awp_draw (by kernel_rfl) ?_ | refine awp_block ?_ | refine awp_exit ?_ | refine awp_skip ?_ | refine awp_ret ?_); (try simp only [NB, simprocAttr])))
          all_goals simp only [EndP, FinP, resA, resL, resA1, lastV, lastA, lastAs, pur, purs, take_app, List.take_length, S1, simprocAttr, TTNeU, Nat.le_add_right, Nat.le_refl]
      obtain rfl : j = ns.length := by omega
      have er : netN ns fl = (0, 0) := by rw [hen, plF_none hp]; rfl
      repeat' (first | ((first | refine aops_nil ?_ | refine aqops_nil ?_); (try simp only [NB])) | ((repeat ((fail_if_success (refine hK _ ?_)); clear hK K)); refine hK _ ?_; clear hK K) | ((first | refine aops_k fun K1 hK1 => ?_ | refine aqops_k fun K1 hK1 => ?_ | refine awp_cond_k fun A B hA hB => ?_); simp only [S1, simprocAttr, TTNeU, endN]; first | (refine hK1 _ ?_; clear hK1 K1) | ((first | refine hA ?_ | refine hB ?_); clear hA hB A B) | (refine join_x (v := ?_) (fun hg hk9 => ?_) ?_; rotate_left; (focus (try ((try simp only [BN] at hg); simp only [S1, simprocAttr, TTNeU, endN, hg] at hk9 ⊢)); first | exact hk9); (refine hK1 _ ?_; clear hK1 K1)) | (((first | (refine ⟨fun hg => hA ?_, fun hg => hB ?_⟩ <;> clear hA hB A B) | refine ⟨fun hg => ?_, fun hg => ?_⟩) <;> (try simp only [BN2] at hg) <;> (try simp only [hg, cond_true, cond_false])) <;> (try (refine hK1 _ ?_; clear hK1 K1)) <;> (try simp only [BN3] at hg))) | (refine awp_seq_k fun K hK => ?_) | ((first | refine awp_region ?_ | refine awp_draw (by kernel_rfl) ?_ | refine awp_block ?_ | refine awp_exit ?_ | refine awp_skip ?_ | refine awp_ret ?_); (try simp only [NB, simprocAttr])))
      all_goals simp only [EndP, FinP, resA, resL, resA1, lastV, lastA, lastAs, pur, purs, take_app, List.take_length, S1, simprocAttr, TTNeU, Nat.le_add_right, Nat.le_refl]
      all_goals rw [er]
end Go.Proofs.YtjpphhcimpclpaaDoor.AM
end

section
set_option linter.unusedVariables false
set_option linter.unusedSimpArgs false
set_option maxRecDepth 4000
namespace Go.Proofs.YtjpphhcimpclpaaDoor.AM
open Go Go.Proofs

/-! ### Numbers as cells. -/
theorem dropI {S : List Int} {k : Nat} {x : Int} (h : S[k]? = some x) : (S.map AV.i).drop k = .p (.int .i64 x) :: (S.drop (k + 1)).map AV.i := by
  obtain ⟨hk, e⟩ := List.getElem?_eq_some_iff.mp h
  rw [← List.map_drop, List.drop_eq_getElem_cons hk, e]; rfl
theorem takeA_arr (n e sz by' : Nat) (z : Option (List PV)) (cells : List AV) : takeA ⟨.array n e, sz, by', z⟩ cells = if sz ≤ cells.length then some (.agg (cells.take sz)) else none := by unfold takeA; rfl
theorem takeA_st (fs : List (Nat × Nat × Nat)) (sz by' : Nat) (z : Option (List PV)) (cells : List AV) : takeA ⟨.struct fs, sz, by', z⟩ cells = if sz ≤ cells.length then some (.agg (cells.take sz)) else none := by unfold takeA; rfl
theorem setI_c (S : List Int) (k : Nat) (v : Int) : (S.map AV.i).set k (.p (.int .i64 v)) = (S.set k v).map AV.i := by
  rw [List.map_set]
theorem avlts_is (m : Nat) (S : List Int) : avlts m (S.map AV.i) := by
  induction S with
  | nil => trivial
  | cons x r ih => exact ⟨trivial, ih⟩
theorem all_scalar (S : List Int) : (S.map AV.i).all AV.scalar = true := by
  induction S with
  | nil => rfl
  | cons x r ih => simp only [List.map_cons, List.all_cons, ih]; rfl
theorem ne_is {S : List Int} {n : Nat} (h : S.length = n + 1) : (S.map AV.i).isEmpty = false := by
  cases S with
  | nil => cases h
  | cons => rfl
theorem over_is : ∀ (T S : List Int) (k : Nat), k + T.length ≤ S.length → over (S.map AV.i) k (T.map AV.i) = (S.take k ++ T ++ S.drop (k + T.length)).map AV.i
  | [], S, k, h => by simp [over]
  | x :: r, S, k, h => by
    simp only [List.length_cons] at h
    simp only [List.map_cons, over]
    rw [show (S.map AV.i).set k (AV.i x) = (S.set k x).map AV.i by rw [List.map_set], over_is r (S.set k x) (k + 1) (by simp; omega)]
    congr 1
    rw [List.take_add_one, List.getElem?_set_self (by omega), List.take_set_of_le (Nat.le_refl k), List.drop_set_of_lt (by omega)]
    simp only [Option.toList_some, List.length_cons, List.append_assoc, List.cons_append, List.nil_append]
    congr 4
    omega
/-! ### Steps. -/
structure Sp where
  node : Int
  arg : Int
  lk : Int
  ln : Int
  la : Int
  to : List Int

/-- A state: 40 tokens, 4 variables, 4 queues, a mode. -/
abbrev aS (S : List Int) : AV := .agg (S.map AV.i)
def cSp (x : Sp) : List Int := [x.node, x.arg, x.lk, x.ln, x.la] ++ x.to
abbrev aSp (x : Sp) : AV := .agg ((cSp x).map AV.i)
def eSp (x : Sp) : List PV := (cSp x).map (PV.int .i64)
/-- The cells of steps. -/
def cSps (l : List Sp) : List AV := (l.flatMap cSp).map AV.i
theorem cSp_len {x : Sp} (h : x.to.length = 49) : (cSp x).length = 54 := by simp [cSp, h]
theorem cSps_len : ∀ {l : List Sp}, (∀ x ∈ l, x.to.length = 49) → (cSps l).length = l.length * 54
  | [], _ => rfl
  | x :: r, h => by
    have := cSps_len (l := r) fun y hy => h y (by simp [hy])
    unfold cSps at this ⊢
    rw [List.length_map] at this ⊢
    rw [List.flatMap_cons, List.length_append, this, cSp_len (h x (by simp)), List.length_cons]; omega
theorem cSps_app (l : List Sp) (x : Sp) : cSps (l ++ [x]) = cSps l ++ (cSp x).map AV.i := by
  unfold cSps; rw [List.flatMap_append, List.map_append]; simp

/-- A block with a process, a state and a list of steps; the block of the steps. -/
def gmC (ns : List Nd) (fl : List Fl) (S : List Int) (lb n : Nat) : List AV := .p (.sl (ns.map eN)) :: .p (.sl (fl.map eF)) :: (S.map AV.i ++ [.ref lb n 0 54 n])
def gmB (ns : List Nd) (fl : List Fl) (S : List Int) (lb : Nat) (l : List Sp) : Option Blk := some ⟨0, gmC ns fl S lb l.length⟩

section
variable {ns : List Nd} {fl : List Fl} {S : List Int} {lb n m : Nat}
theorem gmC_len (hS : S.length = 49) : (gmC ns fl S lb n).length = 52 := by simp [gmC, hS]
theorem gmC_1 : (gmC ns fl S lb n).drop 1 = .p (.sl (fl.map eF)) :: (S.map AV.i ++ [.ref lb n 0 54 n]) := rfl
theorem gmC_net : (gmC ns fl S lb n).take 2 = [.p (.sl (ns.map eN)), .p (.sl (fl.map eF))] := rfl
theorem gmC_S (k : Nat) (hk : k ≤ S.length) : (gmC ns fl S lb n).drop (2 + k) = (S.drop k).map AV.i ++ [.ref lb n 0 54 n] := by
  unfold gmC
  rw [show 2 + k = k + 1 + 1 by omega, List.drop_succ_cons, List.drop_succ_cons, List.drop_append_of_le_length (by simpa using hk), List.map_drop]
theorem gmC_at {k : Nat} {x : Int} (h : S[k]? = some x) : (gmC ns fl S lb n).drop (2 + k) = .p (.int .i64 x) :: ((S.drop (k + 1)).map AV.i ++ [.ref lb n 0 54 n]) := by
  have hk := (List.getElem?_eq_some_iff.mp h).1
  rw [gmC_S k (by omega), List.map_drop, dropI h]; rfl
theorem gmC_ref (hS : S.length = 49) : (gmC ns fl S lb n).drop 51 = [.ref lb n 0 54 n] := by
  rw [show 51 = 2 + 49 by rfl, gmC_S 49 (by omega), List.drop_of_length_le (by omega)]; rfl
theorem gmC_take (k c : Nat) (hk : k + c ≤ S.length) : ((gmC ns fl S lb n).drop (2 + k)).take c = ((S.drop k).take c).map AV.i := by
  rw [gmC_S k (by omega), List.take_append_of_le_length (by rw [List.length_map, List.length_drop]; omega), List.map_take]
theorem gmC_set (hS : S.length = 49) : (gmC ns fl S lb n).set 51 (.ref lb m 0 54 m) = gmC ns fl S lb m := by
  unfold gmC
  rw [show (51 : Nat) = 49 + 1 + 1 by rfl, List.set_cons_succ, List.set_cons_succ, List.set_append_right _ _ (by simp [hS])]
  simp [hS]
end
def spB (l : List Sp) : Option Blk := some ⟨l.length, cSps l⟩

/-- A heap in which so many steps stand. -/
def putG (h : Heap) (b lb : Nat) (ns : List Nd) (fl : List Fl) (S : List Int) (l : List Sp) : Heap := (h.set b (gmB ns fl S lb l)).set lb (spB l)

section
variable {h : Heap} {b lb : Nat} {ns : List Nd} {fl : List Fl} {S : List Int} {l l' : List Sp}
theorem pg_len : (putG h b lb ns fl S l).length = h.length := by simp [putG]
theorem pg_b (hb : b < h.length) (hne : b ≠ lb) (L : Heap) : (putG h b lb ns fl S l ++ L)[b]? = some (gmB ns fl S lb l) := by
  rw [List.getElem?_append_left (by rw [pg_len]; exact hb)]
  unfold putG
  rw [List.getElem?_set_ne (fun e => hne e.symm), List.getElem?_set]; simp [hb]
theorem pg_lb (hl : lb < h.length) (L : Heap) : (putG h b lb ns fl S l ++ L)[lb]? = some (spB l) := by
  rw [List.getElem?_append_left (by rw [pg_len]; exact hl)]
  unfold putG
  rw [List.getElem?_set]; simp [hl]
theorem pg_b0 (hb : b < h.length) (hne : b ≠ lb) : (putG h b lb ns fl S l)[b]? = some (gmB ns fl S lb l) := by have := pg_b (ns := ns) (fl := fl) (S := S) (l := l) hb hne []; rwa [List.append_nil] at this
theorem pg_lb0 (hl : lb < h.length) : (putG h b lb ns fl S l)[lb]? = some (spB l) := by have := pg_lb (b := b) (ns := ns) (fl := fl) (S := S) (l := l) hl []; rwa [List.append_nil] at this
theorem pg_app (hb : b < h.length) (hl : lb < h.length) (L : Heap) : putG (h ++ L) b lb ns fl S l = putG h b lb ns fl S l ++ L := by
  unfold putG
  rw [List.set_append_left _ _ hb, List.set_append_left _ _ (by simpa using hl)]
theorem pg_get0 (L : Heap) : (putG h b lb ns fl S l ++ L)[h.length]? = L[0]? := by rw [List.getElem?_append_right (by rw [pg_len]; omega), pg_len]; congr 1; omega
theorem pg_geti (L : Heap) (i : Nat) : (putG h b lb ns fl S l ++ L)[h.length + i]? = L[i]? := by rw [List.getElem?_append_right (by rw [pg_len]; omega), pg_len]; congr 1; omega
theorem pg_set0 (L : Heap) (x : Option Blk) : (putG h b lb ns fl S l ++ L).set h.length x = putG h b lb ns fl S l ++ L.set 0 x := by rw [List.set_append_right _ _ (by rw [pg_len]; omega), pg_len]; congr 2; omega
theorem pg_seti (L : Heap) (i : Nat) (x : Option Blk) : (putG h b lb ns fl S l ++ L).set (h.length + i) x = putG h b lb ns fl S l ++ L.set i x := by rw [List.set_append_right _ _ (by rw [pg_len]; omega), pg_len]; congr 2; omega
theorem pg_take (L : Heap) : (putG h b lb ns fl S l ++ L).take h.length = putG h b lb ns fl S l := by
  have := pg_len (h := h) (b := b) (lb := lb) (ns := ns) (fl := fl) (S := S) (l := l)
  rw [← this, List.take_left']; rfl
theorem pg_take0 : (putG h b lb ns fl S l).take h.length = putG h b lb ns fl S l := by
  have := pg_len (h := h) (b := b) (lb := lb) (ns := ns) (fl := fl) (S := S) (l := l)
  rw [← this, List.take_length]
theorem pg_set_lb (hl : lb < h.length) (L : Heap) (x : Option Blk) : (putG h b lb ns fl S l ++ L).set lb x = (h.set b (gmB ns fl S lb l)).set lb x ++ L := by
  rw [List.set_append_left _ _ (by rw [pg_len]; exact hl)]
  unfold putG; rw [List.set_set]
theorem pg_avl (hl : lb < h.length) : avlts h.length (gmC ns fl S lb l.length) := by
  have : ∀ (m : Nat) (a c : List AV), avlts m a → avlts m c → avlts m (a ++ c) := by
    intro m a c ha hc
    induction a with
    | nil => exact hc
    | cons x r ih => exact ⟨ha.1, ih ha.2⟩
  exact ⟨trivial, trivial, this _ _ _ (avlts_is _ S) ⟨hl, trivial⟩⟩
theorem pg_keep {l0 : List Sp} (hl : lb < h.length) : ∀ (i : Nat) (bk : Blk), (putG h b lb ns fl S l)[i]? = some (some bk) → (putG h b lb ns fl S l0)[i]? = some (some bk) ∨ avlts (putG h b lb ns fl S l0).length bk.cells := by
  intro i bk hi
  rw [pg_len]
  unfold putG at hi ⊢
  rw [List.getElem?_set] at hi
  split at hi
  · split at hi
    · cases hi; exact .inr (avlts_is _ _)
    · cases hi
  · rename_i e
    rw [List.getElem?_set] at hi
    split at hi
    · split at hi
      · cases hi; exact .inr (pg_avl hl)
      · cases hi
    · rename_i e2
      left
      rw [List.getElem?_set_ne e, List.getElem?_set_ne e2]; exact hi
theorem pg_keep' {l0 : List Sp} (hl : lb < h.length) (i : Nat) (bk : Blk) (hi : (putG h b lb ns fl S l)[i]? = some (some bk)) : (putG h b lb ns fl S l0)[i]? = some (some bk) ∨ ∀ x, x ∈ bk.cells → AVlt h.length x :=
  (pg_keep hl i bk hi).imp id fun hx => by rw [pg_len] at hx; exact avlts_lt _ hx
end
end Go.Proofs.YtjpphhcimpclpaaDoor.AM
end

section
set_option linter.unusedVariables false
set_option linter.unusedSimpArgs false
set_option maxRecDepth 4000
set_option maxHeartbeats 4000000
namespace Go.Proofs.YtjpphhcimpclpaaDoor.AM
open Go Go.Proofs
set_option linter.defProp false in
def TTToB := And.intro T2 (And.intro T3 (And.intro T4 (And.intro T22 (And.intro T23 (And.intro T25 (And.intro T26 (And.intro T27 (And.intro T39 (And.intro T56 (And.intro T58 (And.intro T60 (And.intro T71 T106))))))))))))
attribute [local irreducible] awp aops aqops aeops arun arunT
variable {G : Nat → Option (List PV)}

def sumW (l : List Int) : Int := l.foldl (fun n x => IntKind.i64.wrap (n + x)) 0

theorem sumW_step {l : List Int} {i : Nat} {x : Int} (h : l[i]? = some x) : sumW (l.take (i + 1)) = IntKind.i64.wrap (sumW (l.take i) + x) := by
  unfold sumW; rw [List.take_add_one, h]; simp

theorem hit40 {i n : Nat} {m : Int} (h : i < n) (hm : m = n) : decide ((i : Int) < m) = true := by subst hm; simp; omega
theorem next40 {i n : Nat} (hn : n ≤ 1000) (h : i < n) : IntKind.i64.wrap ((i : Int) + 1) = ((i + 1 : Nat) : Int) := by rw [IntWalk.i64_in _ (by omega)]; omega

theorem rTokens_calls (S : List Int) (hS : S.length = 49) (h : Heap) : ACalls Tryd.prog G 45 [aS S] h (fun r h' => r = .i (sumW (S.take 40)) ∧ h' = h) := by
  have hne := ne_is hS
  refine acalls_pure (rl := []) mixed Tryd.func45 rfl (rs := [.tmp 2]) rfl Tryd.ntmps45 (by simp) ?_
  repeat' (first | ((first | refine aops_nil ?_ | refine aqops_nil ?_); (try simp only [NB])) | ((repeat ((fail_if_success (refine hK _ ?_)); clear hK K)); refine hK _ ?_; clear hK K) | ((first | refine aops_k fun K1 hK1 => ?_ | refine aqops_k fun K1 hK1 => ?_ | refine awp_cond_k fun A B hA hB => ?_); simp only [S1, simprocAttr, TTToB, List.length_map, hS, hne, all_scalar]; first | (refine hK1 _ ?_; clear hK1 K1) | ((first | refine hA ?_ | refine hB ?_); clear hA hB A B) | (((first | (refine ⟨fun hg => hA ?_, fun hg => hB ?_⟩ <;> clear hA hB A B) | refine ⟨fun hg => ?_, fun hg => ?_⟩) <;> (try simp only [BN2] at hg) <;> (try simp only [hg, cond_true, cond_false])) <;> (try (refine hK1 _ ?_; clear hK1 K1)) <;> (try simp only [BN3] at hg))) | (refine awp_seq_k fun K hK => ?_) | ((first | refine awp_region ?_ | refine awp_draw (by kernel_rfl) ?_ | refine awp_block ?_ | refine awp_exit ?_ | refine awp_skip ?_ | refine awp_ret ?_); (try simp only [NB, simprocAttr])))
  refine awp_for 40 16 (fun i => [(4, .i i), (3, .i (sumW (S.take i))), (1, .ptr h.length 0 0)]) (fun i => [some ⟨0, S.map AV.i⟩]) (fun i => True) ?_ trivial fun i hi hp K hK => ?_
  · refine ⟨rfl, ⟨[], by simp only [List.append_nil]⟩, ?_, avlts_is _ _, trivial⟩
    simp only [List.take_zero, sumW, List.foldl_nil]
    simp only [keeps, avlt, avlts, blksLt, frL, upd_get, S1, simprocAttr, List.length_map, Int.natCast_zero, AV.p.injEq, PV.int.injEq, PV.bool.injEq, PV.sl.injEq] <;> (try and_intros) <;> (try assumption) <;> (try trivial) <;> (try omega)
  rcases Nat.lt_or_ge i 40 with hlt | hge
  · obtain ⟨x, hx⟩ : ∃ x, S[i]? = some x := ⟨_, List.getElem?_eq_getElem (by omega)⟩
    have i0 : (0 : Int) ≤ (i : Int) := by omega
    have i40 : (i : Int) < 40 := by omega
    have hst := sumW_step hx
    repeat' (first | ((first | refine aops_nil ?_ | refine aqops_nil ?_); (try simp only [NB])) | ((repeat ((fail_if_success (refine hK _ ?_)); clear hK K)); refine hK _ ?_; clear hK K) | ((first | refine aops_k fun K1 hK1 => ?_ | refine aqops_k fun K1 hK1 => ?_ | refine awp_cond_k fun A B hA hB => ?_); simp only [S1, simprocAttr, TTToB, hit40 hlt rfl, next40 (n := 40) (by omega) hlt, i0, i40, dropI hx, Int.toNat_natCast, Nat.mul_one, Nat.zero_add]; first | (refine hK1 _ ?_; clear hK1 K1) | ((first | refine hA ?_ | refine hB ?_); clear hA hB A B) | (((first | (refine ⟨fun hg => hA ?_, fun hg => hB ?_⟩ <;> clear hA hB A B) | refine ⟨fun hg => ?_, fun hg => ?_⟩) <;> (try simp only [BN2] at hg) <;> (try simp only [hg, cond_true, cond_false])) <;> (try (refine hK1 _ ?_; clear hK1 K1)) <;> (try simp only [BN3] at hg))) | (refine awp_seq_k fun K hK => ?_) | ((first | refine awp_region ?_ | refine awp_draw (by kernel_rfl) ?_ | refine awp_block ?_ | refine awp_exit ?_ | refine awp_skip ?_ | refine awp_ret ?_); (try simp only [NB, simprocAttr])))
    all_goals refine ⟨hlt, trivial, ?_⟩
    all_goals simp only [hst]
    all_goals refine ⟨rfl, ⟨_, rfl⟩, ?_, avlts_is _ _, trivial⟩
    all_goals simp only [keeps, avlt, avlts, blksLt, frL, upd_get, S1, simprocAttr, List.length_map, Int.natCast_zero, AV.p.injEq, PV.int.injEq, PV.bool.injEq, PV.sl.injEq] <;> (try and_intros) <;> (try assumption) <;> (try trivial) <;> (try omega)
  · obtain rfl : i = 40 := by omega
    repeat' (first | ((first | refine aops_nil ?_ | refine aqops_nil ?_); (try simp only [NB])) | ((repeat ((fail_if_success (refine hK _ ?_)); clear hK K)); refine hK _ ?_; clear hK K) | ((first | refine aops_k fun K1 hK1 => ?_ | refine aqops_k fun K1 hK1 => ?_ | refine awp_cond_k fun A B hA hB => ?_); simp only [S1, simprocAttr, TTToB]; first | (refine hK1 _ ?_; clear hK1 K1) | ((first | refine hA ?_ | refine hB ?_); clear hA hB A B) | (((first | (refine ⟨fun hg => hA ?_, fun hg => hB ?_⟩ <;> clear hA hB A B) | refine ⟨fun hg => ?_, fun hg => ?_⟩) <;> (try simp only [BN2] at hg) <;> (try simp only [hg, cond_true, cond_false])) <;> (try (refine hK1 _ ?_; clear hK1 K1)) <;> (try simp only [BN3] at hg))) | (refine awp_seq_k fun K hK => ?_) | ((first | refine awp_region ?_ | refine awp_draw (by kernel_rfl) ?_ | refine awp_block ?_ | refine awp_exit ?_ | refine awp_skip ?_ | refine awp_ret ?_); (try simp only [NB, simprocAttr])))
    all_goals simp only [EndP, FinP, resA, resL, resA1, lastV, lastA, lastAs, pur, purs, take_app, List.take_length, S1, simprocAttr, TTToB, Nat.le_add_right, Nat.le_refl]
end Go.Proofs.YtjpphhcimpclpaaDoor.AM
end

section
set_option linter.unusedVariables false
set_option linter.unusedSimpArgs false
set_option maxRecDepth 4000
set_option maxHeartbeats 4000000
namespace Go.Proofs.YtjpphhcimpclpaaDoor.AM
open Go Go.Proofs
set_option linter.defProp false in
def TTToC := And.intro T2 (And.intro T3 (And.intro T4 (And.intro T25 (And.intro T26 (And.intro T27 (And.intro T37 (And.intro T39 (And.intro T40 (And.intro T46 (And.intro T48 (And.intro T83 T85)))))))))))
attribute [local irreducible] awp aops aqops aeops arun arunT
variable {G : Nat → Option (List PV)}

def tk (S : List Int) (f : Int) : Int := S.getD f.toNat 0
def stepT (S : List Int) (f : Int) : Option (List Int) := if tk S f < 1 then none else some (S.set f.toNat (tk S f - 1))
def stepP (S : List Int) (f : Int) : Option (List Int) := if 2 < tk S f then none else some (S.set f.toNat (tk S f + 1))
def runO (step : List Int → Int → Option (List Int)) (l : List Int) (S : List Int) : Option (List Int) := l.foldlM step S

theorem run_step {step : List Int → Int → Option (List Int)} {l S T : List Int} {i : Nat} {f : Int} (h : l[i]? = some f) (hr : runO step (l.take i) S = some T) : runO step (l.take (i + 1)) S = step T f := by
  unfold runO at *
  rw [List.take_add_one, h, List.foldlM_append, hr]
  simp
theorem run_stop {step : List Int → Int → Option (List Int)} {l S T : List Int} {i : Nat} {f : Int} (h : l[i]? = some f) (hr : runO step (l.take i) S = some T) (hs : step T f = none) : runO step l S = none := by
  have h1 := run_step h hr
  rw [hs] at h1
  have e : l = l.take (i + 1) ++ l.drop (i + 1) := (List.take_append_drop _ _).symm
  unfold runO at *
  rw [e, List.foldlM_append, h1]; rfl

/-- Tokens within their bounds. -/
def Held (S : List Int) : Prop := S.length = 49 ∧ ∀ i x, i < 40 → S[i]? = some x → 0 ≤ x ∧ x ≤ 3

theorem Held.at {S : List Int} (h : Held S) {k : Nat} (hk : k < 40) : S[k]? = some (tk S k) ∧ 0 ≤ tk S k ∧ tk S k ≤ 3 := by
  have hl := h.1
  have e : S[k]? = some (tk S k) := by
    unfold tk
    rw [Int.toNat_natCast, List.getD_eq_getElem?_getD, List.getElem?_eq_getElem (by omega)]; rfl
  exact ⟨e, h.2 k _ hk e⟩
theorem Held.set {S : List Int} (h : Held S) {k : Nat} (hk : k < 40) {v : Int} (h0 : 0 ≤ v) (h3 : v ≤ 3) : Held (S.set k v) := by
  refine ⟨by rw [List.length_set]; exact h.1, fun i x hi hx => ?_⟩
  rw [List.getElem?_set] at hx
  split at hx
  · split at hx
    · cases hx; exact ⟨h0, h3⟩
    · cases hx
  · exact h.2 i x hi hx

/-- The tokens of one state, all else of another. -/
def joinS (S T : List Int) : List Int := S.take 40 ++ T.drop 40
theorem joinS_held {S T : List Int} (hS : Held S) (hT : T.length = 49) : Held (joinS S T) := by
  have hl := hS.1
  refine ⟨by simp [joinS]; omega, fun i x hi hx => ?_⟩
  unfold joinS at hx
  rw [List.getElem?_append_left (by rw [List.length_take]; omega), List.getElem?_take_of_lt hi] at hx
  exact hS.2 i x hi hx

/-- A step that takes tokens from flows and puts some on others, if that can be. -/
def moveG (S : List Int) (x : Sp) (fr to : List Int) : List Sp :=
  match runO stepT fr (joinS S x.to) with
  | none => []
  | some T => match runO stepP to T with
    | none => []
    | some U => [{ x with to := U }]

def InF (l : List Int) : Prop := l.length ≤ 100 ∧ ∀ f ∈ l, 0 ≤ f ∧ f < 40

theorem cSp_at {x : Sp} {k : Nat} {v : Int} (h : x.to[k]? = some v) : (cSp x)[5 + k]? = some v := by
  unfold cSp; rw [List.getElem?_append_right (by simp)]; simpa using h
theorem cSp_drop {x : Sp} {k : Nat} {v : Int} (h : x.to[k]? = some v) : ((cSp x).map AV.i).drop (5 + k) = .p (.int .i64 v) :: ((cSp x).drop (5 + k + 1)).map AV.i := dropI (cSp_at h)
theorem cSp_set (x : Sp) (k : Nat) (v : Int) : ((cSp x).map AV.i).set (5 + k) (.p (.int .i64 v)) = (cSp { x with to := x.to.set k v }).map AV.i := by
  rw [setI_c]
  congr 1
  unfold cSp
  rw [List.set_append_right _ _ (by simp)]
  simp
theorem cSp_over {x : Sp} {S : List Int} (hS : S.length = 49) (hx : x.to.length = 49) : over ((cSp x).map AV.i) 5 ((S.take 40).map AV.i) = (cSp { x with to := joinS S x.to }).map AV.i := by
  rw [over_is (S.take 40) (cSp x) 5 (by rw [cSp_len hx, List.length_take]; omega)]
  congr 1
  have e : (S.take 40).length = 40 := by rw [List.length_take]; omega
  rw [e]
  unfold cSp joinS
  simp
theorem cSp_take {x : Sp} (hx : x.to.length = 49) : ((cSp x).map AV.i).take 54 = (cSp x).map AV.i := List.take_of_length_le (by rw [List.length_map, cSp_len hx]; exact Nat.le_refl _)
theorem cSp_ne (x : Sp) : ((cSp x).map AV.i).isEmpty = false := rfl
structure Qt where
  i : Nat
  T : List Int

theorem pvs_is : ∀ S : List Int, pvs (S.map AV.i) = some (S.map (PV.int .i64))
  | [] => rfl
  | x :: r => by simp only [List.map_cons, pvs, pvs_is r, Option.map_some]
theorem chunk_all {α : Type} (n : Nat) (l : List α) (h : l.length = n) : chunk n 1 l = [l] := by
  simp only [chunk]; rw [List.take_of_length_le (by omega)]

/-- Steps in a heap: where they may stand. -/
structure GmOk (h : Heap) (b lb : Nat) (S : List Int) (l : List Sp) : Prop where
  hb : b < h.length
  hl : lb < h.length
  ne : b ≠ lb
  held : Held S
  len : ∀ x ∈ l, x.to.length = 49
  few : l.length ≤ 1000000

theorem mapmap (S : List Int) : (S.map (PV.int .i64)).map AV.p = S.map AV.i := by rw [List.map_map]; rfl
theorem pg_fin {h : Heap} {b lb : Nat} {ns : List Nd} {fl : List Fl} {S : List Int} {l l' : List Sp} (hb : b < h.length) (hl : lb < h.length) (hne : b ≠ lb) (L : Heap) : ((putG h b lb ns fl S l ++ L).set lb (spB l')).set b (gmB ns fl S lb l') = putG h b lb ns fl S l' ++ L := by
  rw [pg_set_lb hl, List.set_append_left _ _ (by simpa using hb)]
  unfold putG
  rw [List.set_comm _ _ hne.symm, List.set_set]
theorem pg_gb {h : Heap} {b lb : Nat} {ns : List Nd} {fl : List Fl} {S : List Int} {l : List Sp} (hb : b < h.length) (hne : b ≠ lb) (X : Option Blk) (L : Heap) : ((putG h b lb ns fl S l ++ L).set lb X)[b]? = some (gmB ns fl S lb l) := by
  rw [List.getElem?_set_ne hne.symm, pg_b hb hne]
theorem over_full {cs : List AV} {n : Nat} (hc : cs.length = n) (c : List AV) (h : c.length = n) : over c 0 cs = cs := by
  rw [over_at cs c 0 (by omega)]; rfl

theorem add_calls {h : Heap} {b lb : Nat} {ns : List Nd} {fl : List Fl} {S : List Int} {l : List Sp} (ok : GmOk h b lb S l) (x : Sp) (hx : x.to.length = 49) (fr to : List Int) (hfr : InF fr) (hto : InF to) :
    ACalls Tryd.prog G 30 [.ptr b 0 0, aSp x, aI fr, aI to] (putG h b lb ns fl S l) (fun r h' => r = .undef ∧ h' = putG h b lb ns fl S (l ++ moveG S x fr to)) := by
  have hb := ok.hb
  have hl := ok.hl
  have hne := ok.ne
  have hS := ok.held.1
  have hmax : l.length + 1 ≤ maxCount := by have := ok.few; unfold maxCount; omega
  have e0 : (cSp x).length = 54 := cSp_len hx
  have t40 := gmC_take (ns := ns) (fl := fl) (lb := lb) (n := l.length) (S := S) 0 40 (by omega)
  have gl := gmC_len (ns := ns) (fl := fl) (lb := lb) (n := l.length) hS
  have ov := cSp_over (x := x) hS hx
  have ne := cSp_ne x
  simp only [Nat.add_zero, List.drop_zero] at t40
  refine acalls_heap (rl := []) mixed Tryd.func30 rfl (rs := []) rfl Tryd.ntmps30 (by simp) ?_
  repeat' (first | ((first | refine aops_nil ?_ | refine aqops_nil ?_); (try simp only [NB])) | ((repeat ((fail_if_success (refine hK _ ?_)); clear hK K)); refine hK _ ?_; clear hK K) | ((first | refine aops_k fun K1 hK1 => ?_ | refine aqops_k fun K1 hK1 => ?_ | refine awp_cond_k fun A B hA hB => ?_); simp only [S1, simprocAttr, TTToC, takeA_arr, takeA_st, List.length_map, List.length_take, List.length_drop, e0, hS, ne, all_scalar, pg_len, pg_b hb hne, pg_lb hl, pg_get0, pg_geti, pg_set0, pg_seti, gmB, gl, t40, ov, Nat.mul_one, Nat.zero_add, Nat.add_zero]; first | (refine hK1 _ ?_; clear hK1 K1) | ((first | refine hA ?_ | refine hB ?_); clear hA hB A B) | (((first | (refine ⟨fun hg => hA ?_, fun hg => hB ?_⟩ <;> clear hA hB A B) | refine ⟨fun hg => ?_, fun hg => ?_⟩) <;> (try simp only [BN2] at hg) <;> (try simp only [hg, cond_true, cond_false])) <;> (try (refine hK1 _ ?_; clear hK1 K1)) <;> (try simp only [BN3] at hg))) | (refine awp_seq_k fun K hK => ?_) | ((first | refine awp_region ?_ | refine awp_draw (by kernel_rfl) ?_ | refine awp_block ?_ | refine awp_exit ?_ | refine awp_skip ?_ | refine awp_ret ?_); (try simp only [NB, simprocAttr])))
  have hmG0 : moveG S x fr to = (match runO stepT fr (joinS S x.to) with
      | none => []
      | some T => match runO stepP to T with
        | none => []
        | some U => [{ x with to := U }]) := rfl
  refine awp_while (σ := Qt) (fun q => fr.length - q.i) 75 (fun q => [(21, .i q.i), (20, .i fr.length), (19, aI fr), (5, .ptr h.length 0 0), (3, aI to), (0, .ptr b 0 0)]) (fun q => [some ⟨0, (cSp { x with to := q.T }).map AV.i⟩])
    (fun q => q.i ≤ fr.length ∧ Held q.T ∧ runO stepT (fr.take q.i) (joinS S x.to) = some q.T) ⟨0, joinS S x.to⟩ ?_ ⟨Nat.zero_le _, joinS_held ok.held hx, rfl⟩ fun q hq K hK => ?_
  · refine ⟨rfl, ⟨[], by simp only [List.append_nil]⟩, ?_, avlts_is _ _, trivial⟩
    simp only [keeps, avlt, avlts, blksLt, frL, upd_get, pg_len, S1, simprocAttr, List.length_map, List.length_cons, List.length_nil, Int.natCast_zero, AV.p.injEq, PV.int.injEq, PV.bool.injEq, PV.sl.injEq] <;> (try and_intros) <;> (try assumption) <;> (try trivial) <;> (try omega)
  obtain ⟨i, T⟩ := q
  obtain ⟨hi, hT, hrun⟩ := hq
  simp only at hi hT hrun
  rcases Nat.lt_or_ge i fr.length with hlt | hge
  · obtain ⟨f, hf⟩ : ∃ f, fr[i]? = some f := ⟨_, List.getElem?_eq_getElem hlt⟩
    obtain ⟨f0, f40⟩ := hfr.2 f (List.mem_of_getElem? hf)
    obtain ⟨k, rfl⟩ := Int.eq_ofNat_of_zero_le f0
    have k40 : k < 40 := by omega
    obtain ⟨hv, v0, v3⟩ := hT.at k40
    have hst := run_step hf hrun
    have hdr := cSp_drop (x := { x with to := T }) hv
    have hse := fun v => cSp_set { x with to := T } k v
    have hln : (cSp { x with to := T }).length = 54 := cSp_len hT.1
    have hk54 : 5 + k + 1 ≤ 54 := by omega
    simp only at hdr hse
    generalize hvv : tk T (k : Int) = v at *
    by_cases h1 : v < 1
    · have hno : stepT T (k : Int) = none := by unfold stepT; rw [hvv, if_pos h1]
      have hmv : moveG S x fr to = [] := by rw [hmG0, run_stop hf hrun hno]
      have h1' : decide (v < 1) = true := decide_eq_true h1
      rw [hmv, List.append_nil]
      repeat' (first | ((first | refine aops_nil ?_ | refine aqops_nil ?_); (try simp only [NB])) | ((repeat ((fail_if_success (refine hK _ ?_)); clear hK K)); refine hK _ ?_; clear hK K) | ((first | refine aops_k fun K1 hK1 => ?_ | refine aqops_k fun K1 hK1 => ?_ | refine awp_cond_k fun A B hA hB => ?_); simp only [S1, simprocAttr, TTToC, rowI hf, hitI hlt, nextI (by have := hfr.1; omega) hlt, f0, f40, hdr, h1', takeA_arr, takeA_st, List.length_map, List.length_take, List.length_drop, pg_len, pg_get0, pg_geti, pg_set0, pg_seti, Nat.mul_one, Nat.zero_add, Nat.add_zero, Int.toNat_natCast]; first | (refine hK1 _ ?_; clear hK1 K1) | ((first | refine hA ?_ | refine hB ?_); clear hA hB A B) | (((first | (refine ⟨fun hg => hA ?_, fun hg => hB ?_⟩ <;> clear hA hB A B) | refine ⟨fun hg => ?_, fun hg => ?_⟩) <;> (try simp only [BN2] at hg) <;> (try simp only [hg, cond_true, cond_false])) <;> (try (refine hK1 _ ?_; clear hK1 K1)) <;> (try simp only [BN3] at hg))) | (refine awp_seq_k fun K hK => ?_) | ((first | refine awp_region ?_ | refine awp_draw (by kernel_rfl) ?_ | refine awp_block ?_ | refine awp_exit ?_ | refine awp_skip ?_ | refine awp_ret ?_); (try simp only [NB, simprocAttr])))
      all_goals simp only [EndH, FinH, resA, resL, resA1, lastV, lastA, lastAs, pur, purs, pg_len, pg_take, pg_take0, List.length_append, S1, simprocAttr, TTToC, Nat.le_add_right, Nat.le_refl]
      all_goals first | exact pg_keep' hl | exact ⟨pg_keep' hl, rfl⟩ | exact ⟨pg_keep' hl, rfl, rfl⟩
    · have h1' : decide (v < 1) = false := decide_eq_false h1
      have hyes : stepT T (k : Int) = some (T.set k (v - 1)) := by unfold stepT; rw [hvv, if_neg h1, Int.toNat_natCast]
      have hw : IntKind.i64.wrap (v - 1) = v - 1 := IntWalk.i64_in _ (by omega)
      rw [hyes] at hst
      repeat' (first | ((first | refine aops_nil ?_ | refine aqops_nil ?_); (try simp only [NB])) | ((repeat ((fail_if_success (refine hK _ ?_)); clear hK K)); refine hK _ ?_; clear hK K) | ((first | refine aops_k fun K1 hK1 => ?_ | refine aqops_k fun K1 hK1 => ?_ | refine awp_cond_k fun A B hA hB => ?_); simp only [S1, simprocAttr, TTToC, rowI hf, hitI hlt, nextI (by have := hfr.1; omega) hlt, f0, f40, hdr, hse, h1', hw, hln, hk54, takeA_arr, takeA_st, List.length_map, List.length_take, List.length_drop, pg_len, pg_get0, pg_geti, pg_set0, pg_seti, Nat.mul_one, Nat.zero_add, Nat.add_zero, Int.toNat_natCast]; first | (refine hK1 _ ?_; clear hK1 K1) | ((first | refine hA ?_ | refine hB ?_); clear hA hB A B) | (((first | (refine ⟨fun hg => hA ?_, fun hg => hB ?_⟩ <;> clear hA hB A B) | refine ⟨fun hg => ?_, fun hg => ?_⟩) <;> (try simp only [BN2] at hg) <;> (try simp only [hg, cond_true, cond_false])) <;> (try (refine hK1 _ ?_; clear hK1 K1)) <;> (try simp only [BN3] at hg))) | (refine awp_seq_k fun K hK => ?_) | ((first | refine awp_region ?_ | refine awp_draw (by kernel_rfl) ?_ | refine awp_block ?_ | refine awp_exit ?_ | refine awp_skip ?_ | refine awp_ret ?_); (try simp only [NB, simprocAttr])))
      all_goals refine ⟨⟨i + 1, T.set k (v - 1)⟩, by simp only; omega, ⟨hlt, hT.set k40 (by omega) (by omega), hst⟩, ?_⟩
      all_goals refine ⟨rfl, ⟨_, rfl⟩, ?_, avlts_is _ _, trivial⟩
      all_goals simp only [keeps, avlt, avlts, blksLt, frL, upd_get, pg_len, S1, simprocAttr, List.length_map, List.length_cons, List.length_nil, Int.natCast_zero, AV.p.injEq, PV.int.injEq, PV.bool.injEq, PV.sl.injEq] <;> (try and_intros) <;> (try assumption) <;> (try trivial) <;> (try omega)
  · obtain rfl : i = fr.length := by omega
    rw [List.take_length] at hrun
    repeat' (first | ((first | refine aops_nil ?_ | refine aqops_nil ?_); (try simp only [NB])) | ((repeat ((fail_if_success (refine hK _ ?_)); clear hK K)); refine hK _ ?_; clear hK K) | ((first | refine aops_k fun K1 hK1 => ?_ | refine aqops_k fun K1 hK1 => ?_ | refine awp_cond_k fun A B hA hB => ?_); simp only [S1, simprocAttr, TTToC, endI, takeA_arr, takeA_st, List.length_map, List.length_take, List.length_drop, pg_len, pg_get0, pg_geti, pg_set0, pg_seti, Nat.mul_one, Nat.zero_add, Nat.add_zero, Int.toNat_natCast]; first | (refine hK1 _ ?_; clear hK1 K1) | ((first | refine hA ?_ | refine hB ?_); clear hA hB A B) | (((first | (refine ⟨fun hg => hA ?_, fun hg => hB ?_⟩ <;> clear hA hB A B) | refine ⟨fun hg => ?_, fun hg => ?_⟩) <;> (try simp only [BN2] at hg) <;> (try simp only [hg, cond_true, cond_false])) <;> (try (refine hK1 _ ?_; clear hK1 K1)) <;> (try simp only [BN3] at hg))) | (refine awp_seq_k fun K hK => ?_) | ((first | refine awp_region ?_ | refine awp_draw (by kernel_rfl) ?_ | refine awp_block ?_ | refine awp_exit ?_ | refine awp_skip ?_ | refine awp_ret ?_); (try simp only [NB, simprocAttr])))
    have hmG1 : moveG S x fr to = (match runO stepP to T with
        | none => []
        | some U => [{ x with to := U }]) := by rw [hmG0, hrun]
    refine awp_while (σ := Qt) (fun q => to.length - q.i) 75 (fun q => [(44, .i q.i), (43, .i to.length), (42, aI to), (5, .ptr h.length 0 0), (0, .ptr b 0 0)]) (fun q => [some ⟨0, (cSp { x with to := q.T }).map AV.i⟩])
      (fun q => q.i ≤ to.length ∧ Held q.T ∧ runO stepP (to.take q.i) T = some q.T) ⟨0, T⟩ ?_ ⟨Nat.zero_le _, hT, rfl⟩ fun q hq K hK => ?_
    · refine ⟨rfl, ⟨[], by simp only [List.append_nil]⟩, ?_, avlts_is _ _, trivial⟩
      simp only [keeps, avlt, avlts, blksLt, frL, upd_get, pg_len, S1, simprocAttr, List.length_map, List.length_cons, List.length_nil, Int.natCast_zero, AV.p.injEq, PV.int.injEq, PV.bool.injEq, PV.sl.injEq] <;> (try and_intros) <;> (try assumption) <;> (try trivial) <;> (try omega)
    obtain ⟨j, U⟩ := q
    obtain ⟨hj, hU, hrun2⟩ := hq
    simp only at hj hU hrun2
    rcases Nat.lt_or_ge j to.length with hlt | hge
    · obtain ⟨f, hf⟩ : ∃ f, to[j]? = some f := ⟨_, List.getElem?_eq_getElem hlt⟩
      obtain ⟨f0, f40⟩ := hto.2 f (List.mem_of_getElem? hf)
      obtain ⟨k, rfl⟩ := Int.eq_ofNat_of_zero_le f0
      have k40 : k < 40 := by omega
      obtain ⟨hv, v0, v3⟩ := hU.at k40
      have hst := run_step hf hrun2
      have hdr := cSp_drop (x := { x with to := U }) hv
      have hse := fun v => cSp_set { x with to := U } k v
      have hln : (cSp { x with to := U }).length = 54 := cSp_len hU.1
      have hk54 : 5 + k + 1 ≤ 54 := by omega
      simp only at hdr hse
      generalize hvv : tk U (k : Int) = v at *
      by_cases h1 : 2 < v
      · have hno : stepP U (k : Int) = none := by unfold stepP; rw [hvv, if_pos h1]
        have hmv : moveG S x fr to = [] := by rw [hmG1, run_stop hf hrun2 hno]
        have h1' : decide (2 < v) = true := decide_eq_true h1
        rw [hmv, List.append_nil]
        repeat' (first | ((first | refine aops_nil ?_ | refine aqops_nil ?_); (try simp only [NB])) | ((repeat ((fail_if_success (refine hK _ ?_)); clear hK K)); refine hK _ ?_; clear hK K) | ((first | refine aops_k fun K1 hK1 => ?_ | refine aqops_k fun K1 hK1 => ?_ | refine awp_cond_k fun A B hA hB => ?_); simp only [S1, simprocAttr, TTToC, rowI hf, hitI hlt, nextI (by have := hto.1; omega) hlt, f0, f40, hdr, h1', takeA_arr, takeA_st, List.length_map, List.length_take, List.length_drop, pg_len, pg_get0, pg_geti, pg_set0, pg_seti, Nat.mul_one, Nat.zero_add, Nat.add_zero, Int.toNat_natCast]; first | (refine hK1 _ ?_; clear hK1 K1) | ((first | refine hA ?_ | refine hB ?_); clear hA hB A B) | (((first | (refine ⟨fun hg => hA ?_, fun hg => hB ?_⟩ <;> clear hA hB A B) | refine ⟨fun hg => ?_, fun hg => ?_⟩) <;> (try simp only [BN2] at hg) <;> (try simp only [hg, cond_true, cond_false])) <;> (try (refine hK1 _ ?_; clear hK1 K1)) <;> (try simp only [BN3] at hg))) | (refine awp_seq_k fun K hK => ?_) | ((first | refine awp_region ?_ | refine awp_draw (by kernel_rfl) ?_ | refine awp_block ?_ | refine awp_exit ?_ | refine awp_skip ?_ | refine awp_ret ?_); (try simp only [NB, simprocAttr])))
        all_goals simp only [EndH, FinH, resA, resL, resA1, lastV, lastA, lastAs, pur, purs, pg_len, pg_take, pg_take0, List.length_append, S1, simprocAttr, TTToC, Nat.le_add_right, Nat.le_refl]
        all_goals first | exact pg_keep' hl | exact ⟨pg_keep' hl, rfl⟩ | exact ⟨pg_keep' hl, rfl, rfl⟩
      · have h1' : decide (2 < v) = false := decide_eq_false h1
        have hyes : stepP U (k : Int) = some (U.set k (v + 1)) := by unfold stepP; rw [hvv, if_neg h1, Int.toNat_natCast]
        have hw : IntKind.i64.wrap (v + 1) = v + 1 := IntWalk.i64_in _ (by omega)
        rw [hyes] at hst
        repeat' (first | ((first | refine aops_nil ?_ | refine aqops_nil ?_); (try simp only [NB])) | ((repeat ((fail_if_success (refine hK _ ?_)); clear hK K)); refine hK _ ?_; clear hK K) | ((first | refine aops_k fun K1 hK1 => ?_ | refine aqops_k fun K1 hK1 => ?_ | refine awp_cond_k fun A B hA hB => ?_); simp only [S1, simprocAttr, TTToC, rowI hf, hitI hlt, nextI (by have := hto.1; omega) hlt, f0, f40, hdr, hse, h1', hw, hln, hk54, takeA_arr, takeA_st, List.length_map, List.length_take, List.length_drop, pg_len, pg_get0, pg_geti, pg_set0, pg_seti, Nat.mul_one, Nat.zero_add, Nat.add_zero, Int.toNat_natCast]; first | (refine hK1 _ ?_; clear hK1 K1) | ((first | refine hA ?_ | refine hB ?_); clear hA hB A B) | (((first | (refine ⟨fun hg => hA ?_, fun hg => hB ?_⟩ <;> clear hA hB A B) | refine ⟨fun hg => ?_, fun hg => ?_⟩) <;> (try simp only [BN2] at hg) <;> (try simp only [hg, cond_true, cond_false])) <;> (try (refine hK1 _ ?_; clear hK1 K1)) <;> (try simp only [BN3] at hg))) | (refine awp_seq_k fun K hK => ?_) | ((first | refine awp_region ?_ | refine awp_draw (by kernel_rfl) ?_ | refine awp_block ?_ | refine awp_exit ?_ | refine awp_skip ?_ | refine awp_ret ?_); (try simp only [NB, simprocAttr])))
        all_goals refine ⟨⟨j + 1, U.set k (v + 1)⟩, by simp only; omega, ⟨hlt, hU.set k40 (by omega) (by omega), hst⟩, ?_⟩
        all_goals refine ⟨rfl, ⟨_, rfl⟩, ?_, avlts_is _ _, trivial⟩
        all_goals simp only [keeps, avlt, avlts, blksLt, frL, upd_get, pg_len, S1, simprocAttr, List.length_map, List.length_cons, List.length_nil, Int.natCast_zero, AV.p.injEq, PV.int.injEq, PV.bool.injEq, PV.sl.injEq] <;> (try and_intros) <;> (try assumption) <;> (try trivial) <;> (try omega)
    · obtain rfl : j = to.length := by omega
      rw [List.take_length] at hrun2
      have hmv : moveG S x fr to = [{ x with to := U }] := by rw [hmG1, hrun2]
      have hln : (cSp { x with to := U }).length = 54 := cSp_len hU.1
      have htk := cSp_take (x := { x with to := U }) hU.1
      have hov := over_full (cs := (cSp { x with to := U }).map AV.i) (n := 54) (by rw [List.length_map, hln])
      have hpv := pvs_is (cSp { x with to := U })
      have hch := chunk_all 54 ((cSp { x with to := U }).map (PV.int .i64)) (by rw [List.length_map, hln])
      have hmm := mapmap (cSp { x with to := U })
      have hti : ((cSp { x with to := U }).map (PV.int .i64)).take 54 = (cSp { x with to := U }).map (PV.int .i64) := List.take_of_length_le (by rw [List.length_map, hln]; exact Nat.le_refl _)
      have hsl := cSps_len ok.len
      have hrf := gmC_ref (ns := ns) (fl := fl) (lb := lb) (n := l.length) hS
      have hgs := gmC_set (ns := ns) (fl := fl) (lb := lb) (n := l.length) (m := l.length + 1) hS
      have hgb := pg_gb (ns := ns) (fl := fl) (S := S) (l := l) hb hne
      have hfn : ∀ L : Heap, ((putG h b lb ns fl S l ++ L).set lb (some ⟨l.length + 1, cSps l ++ (cSp { x with to := U }).map AV.i⟩)).set b (some ⟨0, gmC ns fl S lb (l.length + 1)⟩) = putG h b lb ns fl S (l ++ [{ x with to := U }]) ++ L := fun L => by
        have := pg_fin (ns := ns) (fl := fl) (S := S) (l := l) (l' := l ++ [{ x with to := U }]) hb hl hne L
        simpa only [spB, gmB, List.length_append, List.length_cons, List.length_nil, Nat.zero_add, cSps_app] using this
      rw [hmv]
      repeat' (first | ((first | refine aops_nil ?_ | refine aqops_nil ?_ | refine arun_nil ?_ | refine arunT_nil ?_); (try simp only [NB])) | ((repeat ((fail_if_success (refine hK _ ?_)); clear hK K)); refine hK _ ?_; clear hK K) | ((first | refine aops_k fun K1 hK1 => ?_ | refine aqops_k fun K1 hK1 => ?_ | refine arun_eff rfl rfl rfl fun K1 hK1 => ?_ | refine awp_cond_k fun A B hA hB => ?_); simp only [S1, simprocAttr, TTToC, endI, hln, htk, hov, hpv, hch, hti, hmm, hsl, hrf, hgs, hgb, hfn, hmax, all_scalar, pg_b hb hne, pg_lb hl, gmB, spB, gl, cSp_ne, takeA_arr, takeA_st, List.length_map, List.length_take, List.length_drop, pg_len, pg_get0, pg_geti, pg_set0, pg_seti, Nat.mul_one, Nat.zero_add, Nat.add_zero, Int.toNat_natCast]; first | (refine hK1 _ ?_; clear hK1 K1) | ((first | refine hA ?_ | refine hB ?_); clear hA hB A B) | (((first | (refine ⟨fun hg => hA ?_, fun hg => hB ?_⟩ <;> clear hA hB A B) | refine ⟨fun hg => ?_, fun hg => ?_⟩) <;> (try simp only [BN2] at hg) <;> (try simp only [hg, cond_true, cond_false])) <;> (try (refine hK1 _ ?_; clear hK1 K1)) <;> (try simp only [BN3] at hg))) | ((first | refine arun_q (v := ?_) rfl rfl rfl rfl (by decide) (fun R1 K1 hK1 => ?_) ?_ | refine arun_f (v := ?_) rfl rfl rfl (by decide) (fun K1 hK1 => ?_) ?_ | refine arunT_f (v := ?_) rfl rfl rfl (by decide) (fun K1 hK1 => ?_) ?_); rotate_left; (focus (simp only [S1, simprocAttr, TTToC, endI, hln, htk, hov, hpv, hch, hti, hmm, hsl, hrf, hgs, hgb, hfn, hmax, all_scalar, pg_b hb hne, pg_lb hl, gmB, spB, gl, cSp_ne, takeA_arr, takeA_st, List.length_map, List.length_take, List.length_drop, pg_len, pg_get0, pg_geti, pg_set0, pg_seti, Nat.mul_one, Nat.zero_add, Nat.add_zero, Int.toNat_natCast]; first | (exact hK1 _ _ _)))) | (refine arun_tail rfl rfl rfl ?_) | ((first | refine arun_allocj (z := ?_) 0 rfl rfl rfl rfl (by decide) rfl ?_ ?_ | refine arun_allocj (z := ?_) 1 rfl rfl rfl rfl (by decide) rfl ?_ ?_ | refine arun_allocj (z := ?_) 2 rfl rfl rfl rfl (by decide) rfl ?_ ?_); rotate_left; (focus (simp only [S1, simprocAttr, TTToC, endI, hln, htk, hov, hpv, hch, hti, hmm, hsl, hrf, hgs, hgb, hfn, hmax, all_scalar, pg_b hb hne, pg_lb hl, gmB, spB, gl, cSp_ne, takeA_arr, takeA_st, List.length_map, List.length_take, List.length_drop, pg_len, pg_get0, pg_geti, pg_set0, pg_seti, Nat.mul_one, Nat.zero_add, Nat.add_zero, Int.toNat_natCast, zeroB]; rfl))) | (refine awp_seq_k fun K hK => ?_) | (refine awp_drawR [0, 1, 2, 3, 4, 5, 6, 7, 8, 9, 10] 0 rfl (by kernel_rfl) (by kernel_rfl) ?_) | ((first | refine awp_region ?_ | refine awp_draw (by kernel_rfl) ?_ | refine awp_block ?_ | refine awp_exit ?_ | refine awp_skip ?_ | refine awp_ret ?_); (try simp only [NB, simprocAttr])))
      all_goals simp only [EndH, FinH, resA, resL, resA1, lastV, lastA, lastAs, pur, purs, pg_len, pg_take, pg_take0, List.length_append, S1, simprocAttr, TTToC, Nat.le_add_right, Nat.le_refl]
      all_goals exact ⟨pg_keep' hl, by rw [hmv]⟩
end Go.Proofs.YtjpphhcimpclpaaDoor.AM
end

section
set_option linter.unusedVariables false
set_option linter.unusedSimpArgs false
set_option maxRecDepth 4000
set_option maxHeartbeats 4000000
namespace Go.Proofs.YtjpphhcimpclpaaDoor.AM
open Go Go.Proofs
set_option linter.defProp false in
def TTToD := And.intro T2 (And.intro T3 (And.intro T4 (And.intro T25 (And.intro T26 (And.intro T27 (And.intro T37 (And.intro T39 (And.intro T40 (And.intro T46 (And.intro T48 (And.intro T83 T85)))))))))))
attribute [local irreducible] awp aops aqops aeops arun arunT
variable {G : Nat → Option (List PV)}

theorem GmOk.ext {h : Heap} {b lb : Nat} {S : List Int} {l : List Sp} (ok : GmOk h b lb S l) (L : Heap) : GmOk (h ++ L) b lb S l :=
  ⟨by have := ok.hb; simp; omega, by have := ok.hl; simp; omega, ok.ne, ok.held, ok.len, ok.few⟩
theorem moveG_len (S : List Int) (x : Sp) (fr to : List Int) : (moveG S x fr to).length ≤ 1 := by
  unfold moveG
  split
  · simp
  · split <;> simp

theorem add_at {h : Heap} {b lb : Nat} {ns : List Nd} {fl : List Fl} {S : List Int} {l : List Sp} (ok : GmOk h b lb S l) (x : Sp) (hx : x.to.length = 49) (fr to : List Int) (hfr : InF fr) (hto : InF to) (L : Heap) :
    ACalls Tryd.prog G 30 [.ptr b 0 0, aSp x, aI fr, aI to] (putG h b lb ns fl S l ++ L) (fun r h' => r = .undef ∧ h' = putG h b lb ns fl S (l ++ moveG S x fr to) ++ L) := by
  have := add_calls (G := G) (ns := ns) (fl := fl) (ok.ext L) x hx fr to hfr hto
  rwa [pg_app ok.hb ok.hl, pg_app ok.hb ok.hl] at this

theorem over_tail {S : List Int} {n : Nat} (hS : S.length = n) (a b c d e : AV) (t : List AV) (ht : t.length = n) : over (a :: b :: c :: d :: e :: t) 5 (S.map AV.i) = a :: b :: c :: d :: e :: S.map AV.i := by
  rw [over_at (S.map AV.i) _ 5 (by simp [hS, ht]; omega)]; rfl

theorem gmC_state {ns : List Nd} {fl : List Fl} {S : List Int} {lb n : Nat} (hS : S.length = 49) : ((gmC ns fl S lb n).drop 2).take 49 = S.map AV.i := by
  have := gmC_take (ns := ns) (fl := fl) (lb := lb) (n := n) (S := S) 0 49 (by omega)
  simp only [Nat.add_zero, List.drop_zero] at this
  rw [this, List.take_of_length_le (by omega)]

/-- The step of a fault. -/
def faultS (S : List Int) (i e : Int) : Sp := ⟨i, 0, 6, i, e, S.set 48 2⟩

theorem cSp_eq (x : Sp) : (cSp x).map AV.i = .p (.int .i64 x.node) :: .p (.int .i64 x.arg) :: .p (.int .i64 x.lk) :: .p (.int .i64 x.ln) :: .p (.int .i64 x.la) :: x.to.map AV.i := rfl

theorem fault_calls {h : Heap} {b lb : Nat} {ns : List Nd} {fl : List Fl} {S : List Int} {l : List Sp} (ok : GmOk h b lb S l) (i e : Int) :
    ACalls Tryd.prog G 70 [.ptr b 0 0, .i i, .i e] (putG h b lb ns fl S l) (fun r h' => r = .undef ∧ h' = putG h b lb ns fl S (l ++ [faultS S i e])) := by
  have hb := ok.hb
  have hl := ok.hl
  have hne := ok.ne
  have hS := ok.held.1
  have hmax : l.length + 1 ≤ maxCount := by have := ok.few; unfold maxCount; omega
  have gl := gmC_len (ns := ns) (fl := fl) (lb := lb) (n := l.length) hS
  have t49 := gmC_state (ns := ns) (fl := fl) (lb := lb) (n := l.length) hS
  have hov := over_full (cs := S.map AV.i) (n := 49) (by rw [List.length_map, hS])
  have hset := fun v => setI_c S 48 v
  have hS2 : (S.set 48 2).length = 49 := by rw [List.length_set, hS]
  have htl := over_tail hS2
  have htk : ((S.set 48 2).map AV.i).take 49 = (S.set 48 2).map AV.i := List.take_of_length_le (by rw [List.length_map, hS2]; exact Nat.le_refl _)
  have hx : (faultS S i e).to.length = 49 := hS2
  have hln : (cSp (faultS S i e)).length = 54 := cSp_len hx
  have heq : (AV.p (.int .i64 i) :: .p (.int .i64 0) :: .p (.int .i64 6) :: .p (.int .i64 i) :: .p (.int .i64 e) :: (S.set 48 2).map AV.i) = (cSp (faultS S i e)).map AV.i := rfl
  have hov2 := over_full (cs := (cSp (faultS S i e)).map AV.i) (n := 54) (by rw [List.length_map, hln])
  have hpv := pvs_is (cSp (faultS S i e))
  have hti : ((cSp (faultS S i e)).map (PV.int .i64)).take 54 = (cSp (faultS S i e)).map (PV.int .i64) := List.take_of_length_le (by rw [List.length_map, hln]; exact Nat.le_refl _)
  have hmm := mapmap (cSp (faultS S i e))
  have hsl := cSps_len ok.len
  have hrf := gmC_ref (ns := ns) (fl := fl) (lb := lb) (n := l.length) hS
  have hgs := gmC_set (ns := ns) (fl := fl) (lb := lb) (n := l.length) (m := l.length + 1) hS
  have hgb := pg_gb (ns := ns) (fl := fl) (S := S) (l := l) hb hne
  have hfn : ∀ L : Heap, ((putG h b lb ns fl S l ++ L).set lb (some ⟨l.length + 1, cSps l ++ (cSp (faultS S i e)).map AV.i⟩)).set b (some ⟨0, gmC ns fl S lb (l.length + 1)⟩) = putG h b lb ns fl S (l ++ [faultS S i e]) ++ L := fun L => by
    have := pg_fin (ns := ns) (fl := fl) (S := S) (l := l) (l' := l ++ [faultS S i e]) hb hl hne L
    simpa only [spB, gmB, List.length_append, List.length_cons, List.length_nil, Nat.zero_add, cSps_app] using this
  refine acalls_heap (rl := []) mixed Tryd.func70 rfl (rs := []) rfl Tryd.ntmps70 (by simp) ?_
  repeat' (first | ((first | refine aops_nil ?_ | refine aqops_nil ?_ | refine arun_nil ?_ | refine arunT_nil ?_); (try simp only [NB])) | ((repeat ((fail_if_success (refine hK _ ?_)); clear hK K)); refine hK _ ?_; clear hK K) | ((first | refine aops_k fun K1 hK1 => ?_ | refine aqops_k fun K1 hK1 => ?_ | refine arun_eff rfl rfl rfl fun K1 hK1 => ?_ | refine awp_cond_k fun A B hA hB => ?_); simp only [S1, simprocAttr, TTToD, t49, hov, hset, hS, hS2, htl, htk, heq, hln, hov2, hpv, hti, hmm, hsl, hrf, hgs, hgb, hfn, hmax, all_scalar, pg_b hb hne, pg_lb hl, pg_b0 hb hne, pg_lb0 hl, gmB, spB, gl, takeA_arr, takeA_st, List.length_map, List.length_take, List.length_drop, List.length_cons, List.length_nil, pg_len, pg_get0, pg_geti, pg_set0, pg_seti, Nat.mul_one, Nat.zero_add, Nat.add_zero, Int.toNat_natCast]; first | (refine hK1 _ ?_; clear hK1 K1) | ((first | refine hA ?_ | refine hB ?_); clear hA hB A B) | (((first | (refine ⟨fun hg => hA ?_, fun hg => hB ?_⟩ <;> clear hA hB A B) | refine ⟨fun hg => ?_, fun hg => ?_⟩) <;> (try simp only [BN2] at hg) <;> (try simp only [hg, cond_true, cond_false])) <;> (try (refine hK1 _ ?_; clear hK1 K1)) <;> (try simp only [BN3] at hg))) | ((first | refine arun_q (v := ?_) rfl rfl rfl rfl (by decide) (fun R1 K1 hK1 => ?_) ?_ | refine arun_f (v := ?_) rfl rfl rfl (by decide) (fun K1 hK1 => ?_) ?_ | refine arunT_f (v := ?_) rfl rfl rfl (by decide) (fun K1 hK1 => ?_) ?_); rotate_left; (focus (simp only [S1, simprocAttr, TTToD, t49, hov, hset, hS, hS2, htl, htk, heq, hln, hov2, hpv, hti, hmm, hsl, hrf, hgs, hgb, hfn, hmax, all_scalar, pg_b hb hne, pg_lb hl, pg_b0 hb hne, pg_lb0 hl, gmB, spB, gl, takeA_arr, takeA_st, List.length_map, List.length_take, List.length_drop, List.length_cons, List.length_nil, pg_len, pg_get0, pg_geti, pg_set0, pg_seti, Nat.mul_one, Nat.zero_add, Nat.add_zero, Int.toNat_natCast]; first | (exact hK1 _ _ _)))) | (refine arun_tail rfl rfl rfl ?_) | ((first | refine arun_allocj (z := ?_) 0 rfl rfl rfl rfl (by decide) rfl ?_ ?_ | refine arun_allocj (z := ?_) 1 rfl rfl rfl rfl (by decide) rfl ?_ ?_ | refine arun_allocj (z := ?_) 2 rfl rfl rfl rfl (by decide) rfl ?_ ?_); rotate_left; (focus (simp only [S1, simprocAttr, TTToD, t49, hov, hset, hS, hS2, htl, htk, heq, hln, hov2, hpv, hti, hmm, hsl, hrf, hgs, hgb, hfn, hmax, all_scalar, pg_b hb hne, pg_lb hl, pg_b0 hb hne, pg_lb0 hl, gmB, spB, gl, takeA_arr, takeA_st, List.length_map, List.length_take, List.length_drop, List.length_cons, List.length_nil, pg_len, pg_get0, pg_geti, pg_set0, pg_seti, Nat.mul_one, Nat.zero_add, Nat.add_zero, Int.toNat_natCast, zeroB]; rfl))) | (refine awp_seq_k fun K hK => ?_) | (refine awp_drawR [0, 1, 2, 3, 4, 5, 6, 7, 8, 9, 10, 11, 12, 13, 14, 15] 0 rfl (by kernel_rfl) (by kernel_rfl) ?_) | ((first | refine awp_region ?_ | refine awp_draw (by kernel_rfl) ?_ | refine awp_block ?_ | refine awp_exit ?_ | refine awp_skip ?_ | refine awp_ret ?_); (try simp only [NB, simprocAttr])))
  all_goals simp only [EndH, FinH, resA, resL, resA1, lastV, lastA, lastAs, pur, purs, pg_len, pg_take, pg_take0, List.length_append, List.length_cons, List.length_nil, S1, simprocAttr, Nat.le_add_right, Nat.le_refl] <;> first | exact pg_keep' hl | exact ⟨pg_keep' hl, rfl⟩ | exact ⟨pg_keep' hl, rfl, rfl⟩

theorem fault_at {h : Heap} {b lb : Nat} {ns : List Nd} {fl : List Fl} {S : List Int} {l : List Sp} (ok : GmOk h b lb S l) (i e : Int) (L : Heap) :
    ACalls Tryd.prog G 70 [.ptr b 0 0, .i i, .i e] (putG h b lb ns fl S l ++ L) (fun r h' => r = .undef ∧ h' = putG h b lb ns fl S (l ++ [faultS S i e]) ++ L) := by
  have := fault_calls (G := G) (ns := ns) (fl := fl) (ok.ext L) i e
  rwa [pg_app ok.hb ok.hl, pg_app ok.hb ok.hl] at this
end Go.Proofs.YtjpphhcimpclpaaDoor.AM
end

section
set_option linter.unusedVariables false
set_option linter.unusedSimpArgs false
set_option maxRecDepth 4000
set_option maxHeartbeats 4000000
namespace Go.Proofs.YtjpphhcimpclpaaDoor.AM
open Go Go.Proofs
set_option linter.defProp false in
def TTRuA := And.intro T2 (And.intro T3 (And.intro T4 (And.intro T34 (And.intro T40 (And.intro T42 (And.intro T77 T79))))))
attribute [local irreducible] awp aops aqops aeops arun arunT
variable {G : Nat → Option (List PV)}

/- left out: not in this program -/

structure Ru where
  kind : Int
  node : Int
  needs : List Int
  gives : List Int

def eRu (r : Ru) : List PV := [.int .i64 r.kind, .int .i64 r.node, .sl (r.needs.map eI), .sl (r.gives.map eI)]
abbrev aRu (r : Ru) : AV := .agg [.i r.kind, .i r.node, aI r.needs, aI r.gives]
theorem eRu_len (r : Ru) : (eRu r).length = 4 := rfl
theorem eRu_ok (r : Ru) : ∀ x ∈ eRu r, x ≠ .nils := by
  intro x hx
  simp only [eRu, List.mem_cons, List.not_mem_nil, or_false] at hx
  rcases hx with rfl | rfl | rfl | rfl <;> exact fun e => by cases e
/-- The cells of rules. -/
def cRu (l : List Ru) : List AV := (flatE eRu l).map AV.p
theorem cRu_len (l : List Ru) : (cRu l).length = l.length * 4 := by unfold cRu; rw [List.length_map, flatE_len eRu_len]
theorem cRu_app (l : List Ru) (r : Ru) : cRu (l ++ [r]) = cRu l ++ [.i r.kind, .i r.node, aI r.needs, aI r.gives] := by
  unfold cRu; rw [flatE_app, List.map_append]; rfl
theorem avlts_cRu (m : Nat) (l : List Ru) : avlts m (cRu l) := avlts_p _ _

/-- A maker, and its rules so far. -/
def mkB (lb : Nat) (l : List Ru) : Option Blk := some ⟨0, [.ref lb l.length 0 4 l.length]⟩
def ruB (l : List Ru) : Option Blk := some ⟨l.length, cRu l⟩

theorem maker_calls (l : List Ru) (hl : l.length ≤ 100000) (r : Ru) (h : Heap) (A : Option Blk) (L : Heap) :
    ACalls Tryd.prog G 27 [.ptr (h.length + 1) 0 0, .i r.kind, .i r.node, aI r.needs, aI r.gives] (h ++ (A :: mkB (h.length + 2) l :: ruB l :: L)) (fun x h' => x = .undef ∧ h' = h ++ (A :: mkB (h.length + 2) (l ++ [r]) :: ruB (l ++ [r]) :: L)) := by
  refine Sim.evoKeep (rl := []) mixed Tryd.func27 rfl (by rw [Tryd.ntmps27]; simp) ?_
  rw [Tryd.ntmps27]
  have hmax : l.length + 1 ≤ maxCount := by unfold maxCount; omega
  have e1 : (l ++ [r]).length = l.length + 1 := by simp
  unfold mkB ruB
  repeat' (first | ((first | refine aops_nil ?_ | refine aqops_nil ?_); (try simp only [NB])) | ((repeat ((fail_if_success (refine hK _ ?_)); clear hK K)); refine hK _ ?_; clear hK K) | ((first | refine aops_k fun K1 hK1 => ?_ | refine aqops_k fun K1 hK1 => ?_ | refine awp_cond_k fun A B hA hB => ?_); simp only [S1, simprocAttr, TTRuA, cRu_len, hmax, Nat.zero_add]; first | (refine hK1 _ ?_; clear hK1 K1) | ((first | refine hA ?_ | refine hB ?_); clear hA hB A B) | (refine join_x (v := ?_) (fun hg hk9 => ?_) ?_; rotate_left; (focus (try ((try simp only [BN] at hg); simp only [S1, simprocAttr, TTRuA, cRu_len, hmax, Nat.zero_add, hg] at hk9 ⊢)); first | exact hk9); (refine hK1 _ ?_; clear hK1 K1)) | (((first | (refine ⟨fun hg => hA ?_, fun hg => hB ?_⟩ <;> clear hA hB A B) | refine ⟨fun hg => ?_, fun hg => ?_⟩) <;> (try simp only [BN2] at hg) <;> (try simp only [hg, cond_true, cond_false])) <;> (try (refine hK1 _ ?_; clear hK1 K1)) <;> (try simp only [BN3] at hg))) | (refine awp_seq_k fun K hK => ?_) | ((first | refine awp_region ?_ | refine awp_draw (by kernel_rfl) ?_ | refine awp_block ?_ | refine awp_exit ?_ | refine awp_skip ?_ | refine awp_ret ?_); (try simp only [NB, simprocAttr])))
  refine ⟨.inl trivial, FinK_none (by simp) ⟨rfl, ?_⟩⟩
  rw [e1, cRu_app]
end Go.Proofs.YtjpphhcimpclpaaDoor.AM
end

section
set_option linter.unusedVariables false
set_option linter.unusedSimpArgs false
namespace Go.Proofs.YtjpphhcimpclpaaDoor.AM
open Go Go.Proofs

/-- No rule is broken. -/
structure Right (ns : List Nd) (fl : List Fl) : Prop where
  n : ns.length ≤ 24
  f : fl.length ≤ 40
  b1 : ∀ i, i < ns.length → bad1 ns i = false
  b2 : ∀ i, i < fl.length → bad2 ns fl i = false
  b3 : ∀ i, i < ns.length → bad3 ns fl i = false
  ends : noEnds ns = false
  b4 : ∀ i, i < ns.length → bad4 ns fl i = false

theorem plF_fst {rule : Int} {p : Nat → Bool} {n : Nat} {x : Int × Int} (h : (plF rule p n).head? = some x) : x.1 = rule := by
  have hm := List.mem_of_head? h
  unfold plF at hm
  obtain ⟨i, _, rfl⟩ := List.mem_map.mp hm
  rfl
theorem head_none {α : Type} {l : List α} (h : l.head? = none) : l = [] := by
  cases l with
  | nil => rfl
  | cons => cases h

theorem Right.of {ns : List Nd} {fl : List Fl} (h : (netN ns fl).1 = 0) : Right ns fl := by
  have key : ∀ (rule : Int) (l : List (Int × Int)), rule ≠ 0 → (∀ x, l.head? = some x → x.1 = rule) → (l.head?.getD (0, 0)).1 = 0 → l = [] := by
    intro rule l hr hl h0
    cases hx : l.head? with
    | none => exact head_none hx
    | some x =>
      rw [hx] at h0
      have := hl x hx
      simp only [Option.getD_some] at h0
      omega
  unfold netN allN at h
  split at h
  · simp at h
  rename_i hs
  split at h
  · rename_i h1; exact absurd (key 1 _ (by decide) (fun x hx => plF_fst hx) h) h1
  rename_i h1
  split at h
  · rename_i h2; exact absurd (key 2 _ (by decide) (fun x hx => plF_fst hx) h) h2
  rename_i h2
  split at h
  · rename_i h3
    refine absurd (key 3 _ (by decide) (fun x hx => ?_) h) h3
    unfold thirdN at hx
    rw [List.head?_append] at hx
    cases hq : (plF 3 (bad3 ns fl) ns.length).head? with
    | some y => rw [hq] at hx; cases hx; exact plF_fst hq
    | none =>
      rw [hq] at hx
      split at hx
      · cases hx; rfl
      · cases hx
  rename_i h3
  have h4 := key 4 _ (by decide) (fun x hx => plF_fst hx) h
  rw [Decidable.not_not] at h1 h2 h3
  have h3' : plF 3 (bad3 ns fl) ns.length = [] ∧ noEnds ns = false := by
    unfold thirdN at h3
    rw [List.append_eq_nil_iff] at h3
    refine ⟨h3.1, ?_⟩
    cases hq : noEnds ns with
    | false => rfl
    | true => rw [hq] at h3; simp at h3
  simp only [Bool.or_eq_true, decide_eq_true_eq, not_or] at hs
  exact ⟨by omega, by omega, plF_nil h1, plF_nil h2, plF_nil h3'.1, h3'.2, plF_nil h4⟩

theorem Right.isIn {ns : List Nd} {fl : List Fl} (h : Right ns fl) : InN ns.length fl := bad2_in (plF_none (rule := 2) h.b2)
theorem Right.three {ns : List Nd} {fl : List Fl} (h : Right ns fl) {i : Nat} (hi : i < ns.length) : threeB ns fl i = true := by
  have := h.b3 i hi
  unfold bad3 at this
  simp only [Bool.or_eq_false_iff, Bool.not_eq_false'] at this
  exact this.1.1
def dstAt (fl : List Fl) (x : Int) : Int := match fl[x.toNat]? with | some f => f.dst | none => 0

def ruOf (fl : List Fl) (i : Nat) (kind : Int) : List Ru :=
  if kind = 1 then []
  else if kind = 7 then (outsN fl i).map fun f => ⟨3, i, insN fl i, outsN fl (dstAt fl f)⟩
  else if kind = 8 then [⟨3, i, insN fl i, outsN fl i⟩]
  else if kind = 5 then (if 1 < (outsN fl i).length then (outsN fl i).map fun f => ⟨2, i, insN fl i, [f]⟩ else (insN fl i).map fun f => ⟨1, i, [f], [(outsN fl i).headD 0]⟩)
  else [⟨1, i, insN fl i, outsN fl i⟩]

/-- The rules of the first nodes. -/
def ruTo (ns : List Nd) (fl : List Fl) : Nat → List Ru
  | 0 => []
  | j + 1 => ruTo ns fl j ++ ruOf fl j (kindAt ns j)

theorem insN_le (fl : List Fl) (i : Int) : (insN fl i).length ≤ fl.length := pickF_le _ _ _
theorem outsN_le (fl : List Fl) (i : Int) : (outsN fl i).length ≤ fl.length := pickF_le _ _ _

theorem ruOf_le (fl : List Fl) (i : Nat) (kind : Int) : (ruOf fl i kind).length ≤ fl.length + 1 := by
  have a := insN_le fl i
  have b := outsN_le fl i
  unfold ruOf
  repeat' split
  all_goals simp only [List.length_nil, List.length_map, List.length_cons]
  all_goals omega
theorem ruTo_le (ns : List Nd) (fl : List Fl) : ∀ j, (ruTo ns fl j).length ≤ j * (fl.length + 1)
  | 0 => by simp [ruTo]
  | j + 1 => by
    have a := ruTo_le ns fl j
    have b := ruOf_le fl j (kindAt ns j)
    rw [ruTo, List.length_append, Nat.add_mul]
    omega

theorem kind_of {ns : List Nd} {i : Nat} {k : Nd} (h : ns[i]? = some k) : kindAt ns i = k.kind := by unfold kindAt; rw [Int.toNat_natCast, h]

/-- What an Xor of a right process has. -/
theorem Right.xor {ns : List Nd} {fl : List Fl} (h : Right ns fl) {i : Nat} (hi : i < ns.length) (hk : kindAt ns i = 5) : ((insN fl i).length = 1 ∧ 2 ≤ (outsN fl i).length) ∨ (2 ≤ (insN fl i).length ∧ (outsN fl i).length = 1) := by
  have := h.three hi
  unfold threeB at this
  simp only [hk] at this
  simp only [Int.reduceEq, reduceIte, Bool.or_eq_true, Bool.and_eq_true, beq_iff_eq, decide_eq_true_eq] at this
  omega
end Go.Proofs.YtjpphhcimpclpaaDoor.AM
end

section
set_option linter.unusedVariables false
set_option linter.unusedSimpArgs false
set_option maxRecDepth 4000
set_option maxHeartbeats 4000000
namespace Go.Proofs.YtjpphhcimpclpaaDoor.AM
open Go Go.Proofs
set_option linter.defProp false in
def TTRuC := And.intro T2 (And.intro T3 (And.intro T4 (And.intro T22 (And.intro T23 (And.intro T25 (And.intro T31 (And.intro T34 (And.intro T40 (And.intro T42 (And.intro T56 (And.intro T58 (And.intro T60 (And.intro T71 (And.intro T77 T79))))))))))))))
attribute [local irreducible] awp aops aqops aeops arun arunT
variable {G : Nat → Option (List PV)}

abbrev aRus (l : List Ru) : AV := .p (.sl (l.map eRu))
noncomputable def allRu (ns : List Nd) (fl : List Fl) : List Ru × Int := if (netN ns fl).1 = 0 then (ruTo ns fl ns.length, 0) else ([], 4)


theorem Ghost.maker {P : Program} {h : Heap} {s : St} {A : Option Blk} (hh : s.heap = h ++ [A, some ⟨0, [.p .nils]⟩]) : Ghost P G h s ⟨s.fr, s.nt, h ++ [A, mkB (h.length + 2) [], ruB []]⟩ := by
  have := Ghost.adoptCell (P := P) (G := G) (h0 := h) (s := s) (b := h.length + 1) (j := 0) (bk := ⟨0, [.p .nils]⟩) 4 (by rw [hh]; simp [get_app]) rfl (by omega)
  rw [hh] at this
  simp only [List.length_append, List.length_cons, List.length_nil, List.append_assoc, List.cons_append, List.nil_append, set_app, List.set_cons_succ, List.set_cons_zero, Nat.zero_add, Nat.reduceAdd] at this
  exact this

theorem rAll_calls (ns : List Nd) (fl : List Fl) (ok : NetOk ns fl) (h : Heap) : ACalls Tryd.prog gW 11 [aNet ns fl] h (fun r h' => r = .tup [aRus (allRu ns fl).1, .i (allRu ns fl).2] ∧ h' = h) := by
  have hc := fun h => Check_calls ns fl ok h
  by_cases h0 : (netN ns fl).1 = 0
  case neg =>
    have e : allRu ns fl = ([], 4) := by unfold allRu; rw [if_neg h0]
    have f0 : ((netN ns fl).1 != 0) = true := by simpa using h0
    rw [e]
    refine acalls_pure (rl := []) mixed Tryd.func11 rfl (rs := [.tmp 2, .tmp 3]) rfl Tryd.ntmps11 (by simp) ?_
    repeat' (first | ((first | refine aops_nil ?_ | refine aqops_nil ?_); (try simp only [NB])) | ((repeat ((fail_if_success (refine hK _ ?_)); clear hK K)); refine hK _ ?_; clear hK K) | ((first | refine aops_k fun K1 hK1 => ?_ | refine aqops_k fun K1 hK1 => ?_ | refine awp_cond_k fun A B hA hB => ?_); simp only [S1, simprocAttr, TTRuC, f0]; first | (refine hK1 _ ?_; clear hK1 K1) | ((first | refine hA ?_ | refine hB ?_); clear hA hB A B) | ((first | apply call_a E21 | apply call_q E21); exact (hc _); (refine hK1 _ ?_; clear hK1 K1)) | (refine join_x (v := ?_) (fun hg hk9 => ?_) ?_; rotate_left; (focus (try ((try simp only [BN] at hg); simp only [S1, simprocAttr, TTRuC, f0, hg] at hk9 ⊢)); first | exact hk9 | ((first | apply call_a E21 | apply call_q E21); exact (hc _); exact hk9)); (refine hK1 _ ?_; clear hK1 K1)) | (((first | (refine ⟨fun hg => hA ?_, fun hg => hB ?_⟩ <;> clear hA hB A B) | refine ⟨fun hg => ?_, fun hg => ?_⟩) <;> (try simp only [BN2] at hg) <;> (try simp only [hg, cond_true, cond_false])) <;> (try (refine hK1 _ ?_; clear hK1 K1)) <;> (try simp only [BN3] at hg))) | (refine awp_seq_k fun K hK => ?_) | ((first | refine awp_region ?_ | refine awp_draw (by kernel_rfl) ?_ | refine awp_block ?_ | refine awp_exit ?_ | refine awp_skip ?_ | refine awp_ret ?_); (try simp only [NB, simprocAttr])))
    all_goals simp only [EndP, FinP, resA, resL, resA1, lastV, lastA, lastAs, pur, purs, take_app, List.take_length, S1, simprocAttr, TTRuC, Nat.le_add_right, Nat.le_refl]
    all_goals rfl
  have e : allRu ns fl = (ruTo ns fl ns.length, 0) := by unfold allRu; rw [if_pos h0]
  have f0 : ((netN ns fl).1 != 0) = false := by simpa using h0
  have hR := Right.of h0
  have hd := hR.isIn
  have hn := ok.n
  have hl := ok.f
  rw [e]
  refine acalls_pure (rl := []) mixed Tryd.func11 rfl (rs := [.tmp 2, .tmp 3]) rfl Tryd.ntmps11 (by simp) ?_
  repeat' (first | ((first | refine aops_nil ?_ | refine aqops_nil ?_); (try simp only [NB])) | ((repeat ((fail_if_success (refine hK _ ?_)); clear hK K)); refine hK _ ?_; clear hK K) | ((first | refine aops_k fun K1 hK1 => ?_ | refine aqops_k fun K1 hK1 => ?_ | refine awp_cond_k fun A B hA hB => ?_); simp only [S1, simprocAttr, TTRuC, f0, List.length_map]; first | (refine hK1 _ ?_; clear hK1 K1) | ((first | refine hA ?_ | refine hB ?_); clear hA hB A B) | ((first | apply call_a E21 | apply call_q E21); exact (hc _); (refine hK1 _ ?_; clear hK1 K1)) | (refine join_x (v := ?_) (fun hg hk9 => ?_) ?_; rotate_left; (focus (try ((try simp only [BN] at hg); simp only [S1, simprocAttr, TTRuC, f0, List.length_map, hg] at hk9 ⊢)); first | exact hk9 | ((first | apply call_a E21 | apply call_q E21); exact (hc _); exact hk9)); (refine hK1 _ ?_; clear hK1 K1)) | (((first | (refine ⟨fun hg => hA ?_, fun hg => hB ?_⟩ <;> clear hA hB A B) | refine ⟨fun hg => ?_, fun hg => ?_⟩) <;> (try simp only [BN2] at hg) <;> (try simp only [hg, cond_true, cond_false])) <;> (try (refine hK1 _ ?_; clear hK1 K1)) <;> (try simp only [BN3] at hg))) | (refine awp_seq_k fun K hK => ?_) | ((first | refine awp_region ?_ | refine awp_draw (by kernel_rfl) ?_ | refine awp_block ?_ | refine awp_exit ?_ | refine awp_skip ?_ | refine awp_ret ?_); (try simp only [NB, simprocAttr])))
  refine awp_forG ns.length 132 (fun j => [(29, .i j), (28, .i ns.length), (27, .p (.sl (ns.map eN))), (6, .ptr (h.length + 1) 0 0), (1, .ptr h.length 0 0)])
    (fun j => [some ⟨0, cNet ns fl⟩, mkB (h.length + 2) (ruTo ns fl j), ruB (ruTo ns fl j)]) (fun j => True) ?_ trivial fun j hj hp K hK => ?_
  · refine (Ghost.maker (A := some ⟨0, cNet ns fl⟩) rfl).trans (Sub.ghost ⟨rfl, ⟨[], by simp only [List.append_nil]; rfl⟩, ?_, ⟨trivial, trivial, trivial⟩, ⟨by simp only [avlt, List.length_cons, List.length_nil]; omega, trivial⟩, avlts_cRu _ _, trivial⟩)
    simp only [keeps, avlt, avlts, blksLt, frL, upd_get, S1, simprocAttr, List.length_map, Int.natCast_zero, AV.p.injEq, PV.int.injEq, PV.bool.injEq, PV.sl.injEq] <;> (try and_intros) <;> (try assumption) <;> (try trivial) <;> (try omega)
  rcases Nat.lt_or_ge j ns.length with hlt | hge
  · obtain ⟨k, hx⟩ : ∃ k, ns[j]? = some k := ⟨_, List.getElem?_eq_getElem hlt⟩
    have ek := kind_of hx
    have ej : ruTo ns fl (j + 1) = ruTo ns fl j ++ ruOf fl j k.kind := by rw [ruTo, ek]
    have hol := outsN_le fl j
    have hil := insN_le fl j
    have hl0 : (ruTo ns fl j).length ≤ 100000 := by
      have h1 := ruTo_le ns fl j
      have h2 : j * (fl.length + 1) ≤ 100 * 101 := Nat.mul_le_mul (by omega) (by omega)
      omega
    let FE := fun x : Int => (⟨3, j, insN fl j, outsN fl (dstAt fl x)⟩ : Ru)
    let FS := fun x : Int => (⟨2, j, insN fl j, [x]⟩ : Ru)
    by_cases k1 : k.kind = 1
    · have ro : ruOf fl j k.kind = [] := by unfold ruOf; rw [if_pos k1]
      repeat' (first | ((first | refine aops_nil ?_ | refine aqops_nil ?_); (try simp only [NB])) | ((repeat ((fail_if_success (refine hK _ ?_)); clear hK K)); refine hK _ ?_; clear hK K) | ((first | refine aops_k fun K1 hK1 => ?_ | refine aqops_k fun K1 hK1 => ?_ | refine awp_cond_k fun A B hA hB => ?_); simp only [S1, simprocAttr, TTRuC, rowN hx, hitN hlt, nextN hn hlt, eN, k1, List.length_map]; first | (refine hK1 _ ?_; clear hK1 K1) | ((first | refine hA ?_ | refine hB ?_); clear hA hB A B) | ((first | apply call_a E25 | apply call_q E25); exact (ins_calls _ fl hl _ _); (refine hK1 _ ?_; clear hK1 K1)) | ((first | apply call_a E26 | apply call_q E26); exact (outs_calls _ fl hl _ _); (refine hK1 _ ?_; clear hK1 K1)) | (refine join_x (v := ?_) (fun hg hk9 => ?_) ?_; rotate_left; (focus (try ((try simp only [BN] at hg); simp only [S1, simprocAttr, TTRuC, rowN hx, hitN hlt, nextN hn hlt, eN, k1, List.length_map, hg] at hk9 ⊢)); first | exact hk9 | ((first | apply call_a E25 | apply call_q E25); exact (ins_calls _ fl hl _ _); exact hk9) | ((first | apply call_a E26 | apply call_q E26); exact (outs_calls _ fl hl _ _); exact hk9)); (refine hK1 _ ?_; clear hK1 K1)) | (((first | (refine ⟨fun hg => hA ?_, fun hg => hB ?_⟩ <;> clear hA hB A B) | refine ⟨fun hg => ?_, fun hg => ?_⟩) <;> (try simp only [BN2] at hg) <;> (try simp only [hg, cond_true, cond_false])) <;> (try (refine hK1 _ ?_; clear hK1 K1)) <;> (try simp only [BN3] at hg))) | (refine awp_seq_k fun K hK => ?_) | ((first | refine awp_region ?_ | refine awp_draw (by kernel_rfl) ?_ | refine awp_block ?_ | refine awp_exit ?_ | refine awp_skip ?_ | refine awp_ret ?_); (try simp only [NB, simprocAttr])))
      all_goals refine ⟨hlt, trivial, ?_⟩
      all_goals simp only [ej, ro, List.append_nil]
      all_goals refine ⟨rfl, ⟨_, rfl⟩, ?_, ⟨trivial, trivial, trivial⟩, ⟨by simp only [avlt, List.length_cons, List.length_nil]; omega, trivial⟩, avlts_cRu _ _, trivial⟩
      all_goals simp only [keeps, avlt, avlts, blksLt, frL, upd_get, S1, simprocAttr, List.length_map, Int.natCast_zero, AV.p.injEq, PV.int.injEq, PV.bool.injEq, PV.sl.injEq] <;> (try and_intros) <;> (try assumption) <;> (try trivial) <;> (try omega)
    have f1 : (k.kind == 1) = false := by simp [k1]
    by_cases k7 : k.kind = 7
    · have ro : ruOf fl j k.kind = (outsN fl j).map FE := by unfold ruOf; rw [if_neg k1, if_pos k7]
      repeat' (first | ((first | refine aops_nil ?_ | refine aqops_nil ?_); (try simp only [NB])) | ((repeat ((fail_if_success (refine hK _ ?_)); clear hK K)); refine hK _ ?_; clear hK K) | ((first | refine aops_k fun K1 hK1 => ?_ | refine aqops_k fun K1 hK1 => ?_ | refine awp_cond_k fun A B hA hB => ?_); simp only [S1, simprocAttr, TTRuC, rowN hx, hitN hlt, nextN hn hlt, eN, k7, List.length_map]; first | (refine hK1 _ ?_; clear hK1 K1) | ((first | refine hA ?_ | refine hB ?_); clear hA hB A B) | ((first | apply call_a E25 | apply call_q E25); exact (ins_calls _ fl hl _ _); (refine hK1 _ ?_; clear hK1 K1)) | ((first | apply call_a E26 | apply call_q E26); exact (outs_calls _ fl hl _ _); (refine hK1 _ ?_; clear hK1 K1)) | (refine join_x (v := ?_) (fun hg hk9 => ?_) ?_; rotate_left; (focus (try ((try simp only [BN] at hg); simp only [S1, simprocAttr, TTRuC, rowN hx, hitN hlt, nextN hn hlt, eN, k7, List.length_map, hg] at hk9 ⊢)); first | exact hk9 | ((first | apply call_a E25 | apply call_q E25); exact (ins_calls _ fl hl _ _); exact hk9) | ((first | apply call_a E26 | apply call_q E26); exact (outs_calls _ fl hl _ _); exact hk9)); (refine hK1 _ ?_; clear hK1 K1)) | (((first | (refine ⟨fun hg => hA ?_, fun hg => hB ?_⟩ <;> clear hA hB A B) | refine ⟨fun hg => ?_, fun hg => ?_⟩) <;> (try simp only [BN2] at hg) <;> (try simp only [hg, cond_true, cond_false])) <;> (try (refine hK1 _ ?_; clear hK1 K1)) <;> (try simp only [BN3] at hg))) | (refine awp_seq_k fun K hK => ?_) | ((first | refine awp_region ?_ | refine awp_draw (by kernel_rfl) ?_ | refine awp_block ?_ | refine awp_exit ?_ | refine awp_skip ?_ | refine awp_ret ?_); (try simp only [NB, simprocAttr])))
      refine awp_for (outsN fl j).length 132 (fun i => [(55, .i i), (54, .i (outsN fl j).length), (53, aI (outsN fl j))] ++ [(29, .i j), (28, .i ns.length), (27, .p (.sl (ns.map eN))), (7, .i j), (6, .ptr (h.length + 1) 0 0), (1, .ptr h.length 0 0)])
        (fun i => [some ⟨0, cNet ns fl⟩, mkB (h.length + 2) (ruTo ns fl j ++ ((outsN fl j).take i).map FE), ruB (ruTo ns fl j ++ ((outsN fl j).take i).map FE)]) (fun i => True) ?_ trivial fun i hi hp K hK => ?_
      · simp only [List.take_zero, List.map_nil, List.append_nil]
        refine ⟨rfl, ⟨_, rfl⟩, ?_, ⟨trivial, trivial, trivial⟩, ⟨by simp only [avlt, List.length_cons, List.length_nil]; omega, trivial⟩, avlts_cRu _ _, trivial⟩
        simp only [keeps, avlt, avlts, blksLt, frL, upd_get, S1, simprocAttr, List.length_map, Int.natCast_zero, AV.p.injEq, PV.int.injEq, PV.bool.injEq, PV.sl.injEq] <;> (try and_intros) <;> (try assumption) <;> (try trivial) <;> (try omega)
      rcases Nat.lt_or_ge i (outsN fl j).length with hlti | hgei
      · obtain ⟨x, hxi⟩ : ∃ x, (outsN fl j)[i]? = some x := ⟨_, List.getElem?_eq_getElem hlti⟩
        have et : ((outsN fl j).take (i + 1)).map FE = ((outsN fl j).take i).map FE ++ [FE x] := by rw [List.take_add_one, hxi, List.map_append]; rfl
        have hll : (ruTo ns fl j ++ ((outsN fl j).take i).map FE).length ≤ 100000 := by
          have h1 := ruTo_le ns fl j
          have h2 : j * (fl.length + 1) ≤ 100 * 101 := Nat.mul_le_mul (by omega) (by omega)
          rw [List.length_append, List.length_map, List.length_take]; omega
        obtain ⟨xi, f, hxl, rfl, hf, _⟩ := pickF_mem (List.mem_of_getElem? hxi)
        have x0 : (0 : Int) ≤ (xi : Int) := by omega
        have hf' := rowF hf
        have ed : dstAt fl (xi : Int) = f.dst := by unfold dstAt; rw [Int.toNat_natCast, hf]
        have eF1 : FE (xi : Int) = ⟨3, j, insN fl j, outsN fl f.dst⟩ := by simp only [FE, ed]
        rw [eF1] at et
        repeat' (first | ((first | refine aops_nil ?_ | refine aqops_nil ?_ | refine arun_nil ?_ | refine arunT_nil ?_); (try simp only [NB])) | ((repeat ((fail_if_success (refine hK _ ?_)); clear hK K)); refine hK _ ?_; clear hK K) | ((first | refine aops_k fun K1 hK1 => ?_ | refine aqops_k fun K1 hK1 => ?_ | refine arun_eff rfl rfl rfl fun K1 hK1 => ?_ | refine awp_cond_k fun A B hA hB => ?_); simp only [S1, simprocAttr, TTRuC, rowI hxi, hitI hlti, nextI (by omega) hlti, hf', eF, x0, Int.toNat_natCast, List.length_map]; first | (refine hK1 _ ?_; clear hK1 K1) | ((first | refine hA ?_ | refine hB ?_); clear hA hB A B) | ((first | apply call_a E25 | apply call_q E25); exact (ins_calls _ fl hl _ _); (refine hK1 _ ?_; clear hK1 K1)) | ((first | apply call_a E26 | apply call_q E26); exact (outs_calls _ fl hl _ _); (refine hK1 _ ?_; clear hK1 K1)) | ((first | apply call_a E27 | apply call_q E27); exact (maker_calls _ hll ⟨3, j, insN fl j, outsN fl f.dst⟩ h _ _); (refine hK1 _ ?_; clear hK1 K1)) | (refine join_x (v := ?_) (fun hg hk9 => ?_) ?_; rotate_left; (focus (try ((try simp only [BN] at hg); simp only [S1, simprocAttr, TTRuC, rowI hxi, hitI hlti, nextI (by omega) hlti, hf', eF, x0, Int.toNat_natCast, List.length_map, hg] at hk9 ⊢)); first | exact hk9 | ((first | apply call_a E25 | apply call_q E25); exact (ins_calls _ fl hl _ _); exact hk9) | ((first | apply call_a E26 | apply call_q E26); exact (outs_calls _ fl hl _ _); exact hk9) | ((first | apply call_a E27 | apply call_q E27); exact (maker_calls _ hll ⟨3, j, insN fl j, outsN fl f.dst⟩ h _ _); exact hk9)); (refine hK1 _ ?_; clear hK1 K1)) | (((first | (refine ⟨fun hg => hA ?_, fun hg => hB ?_⟩ <;> clear hA hB A B) | refine ⟨fun hg => ?_, fun hg => ?_⟩) <;> (try simp only [BN2] at hg) <;> (try simp only [hg, cond_true, cond_false])) <;> (try (refine hK1 _ ?_; clear hK1 K1)) <;> (try simp only [BN3] at hg))) | ((first | refine arun_q (v := ?_) rfl rfl rfl rfl (by decide) (fun R1 K1 hK1 => ?_) ?_ | refine arun_f (v := ?_) rfl rfl rfl (by decide) (fun K1 hK1 => ?_) ?_ | refine arunT_f (v := ?_) rfl rfl rfl (by decide) (fun K1 hK1 => ?_) ?_); rotate_left; (focus (simp only [S1, simprocAttr, TTRuC, rowI hxi, hitI hlti, nextI (by omega) hlti, hf', eF, x0, Int.toNat_natCast, List.length_map]; first | (exact hK1 _ _ _) | ((first | apply call_a E25 | apply call_q E25); exact (ins_calls _ fl hl _ _); exact hK1 _ _ _) | ((first | apply call_a E26 | apply call_q E26); exact (outs_calls _ fl hl _ _); exact hK1 _ _ _) | ((first | apply call_a E27 | apply call_q E27); exact (maker_calls _ hll ⟨3, j, insN fl j, outsN fl f.dst⟩ h _ _); exact hK1 _ _ _)))) | (refine arun_tail rfl rfl rfl ?_) | ((first | refine arun_allocj (z := ?_) 0 rfl rfl rfl rfl (by decide) rfl ?_ ?_ | refine arun_allocj (z := ?_) 1 rfl rfl rfl rfl (by decide) rfl ?_ ?_ | refine arun_allocj (z := ?_) 2 rfl rfl rfl rfl (by decide) rfl ?_ ?_); rotate_left; (focus (simp only [S1, simprocAttr, TTRuC, rowI hxi, hitI hlti, nextI (by omega) hlti, hf', eF, x0, Int.toNat_natCast, List.length_map, zeroB]; rfl))) | (refine awp_seq_k fun K hK => ?_) | (refine awp_drawR [0, 1, 2, 3, 4, 5, 6, 7, 8, 9, 10, 11, 12, 13] 0 rfl (by kernel_rfl) (by kernel_rfl) ?_) | ((first | refine awp_region ?_ | refine awp_draw (by kernel_rfl) ?_ | refine awp_block ?_ | refine awp_exit ?_ | refine awp_skip ?_ | refine awp_ret ?_); (try simp only [NB, simprocAttr])))
        all_goals refine ⟨hlti, trivial, ?_⟩
        all_goals simp only [et, ← List.append_assoc]
        all_goals refine ⟨rfl, ⟨_, rfl⟩, ?_, ⟨trivial, trivial, trivial⟩, ⟨by simp only [avlt, List.length_cons, List.length_nil]; omega, trivial⟩, avlts_cRu _ _, trivial⟩
        all_goals simp only [keeps, avlt, avlts, blksLt, frL, upd_get, S1, simprocAttr, List.length_map, Int.natCast_zero, AV.p.injEq, PV.int.injEq, PV.bool.injEq, PV.sl.injEq] <;> (try and_intros) <;> (try assumption) <;> (try trivial) <;> (try omega)
      · obtain rfl : i = (outsN fl j).length := by omega
        repeat' (first | ((first | refine aops_nil ?_ | refine aqops_nil ?_); (try simp only [NB])) | ((repeat ((fail_if_success (refine hK _ ?_)); clear hK K)); refine hK _ ?_; clear hK K) | ((first | refine aops_k fun K1 hK1 => ?_ | refine aqops_k fun K1 hK1 => ?_ | refine awp_cond_k fun A B hA hB => ?_); simp only [S1, simprocAttr, TTRuC, endI, nextN hn hlt]; first | (refine hK1 _ ?_; clear hK1 K1) | ((first | refine hA ?_ | refine hB ?_); clear hA hB A B) | (refine join_x (v := ?_) (fun hg hk9 => ?_) ?_; rotate_left; (focus (try ((try simp only [BN] at hg); simp only [S1, simprocAttr, TTRuC, endI, nextN hn hlt, hg] at hk9 ⊢)); first | exact hk9); (refine hK1 _ ?_; clear hK1 K1)) | (((first | (refine ⟨fun hg => hA ?_, fun hg => hB ?_⟩ <;> clear hA hB A B) | refine ⟨fun hg => ?_, fun hg => ?_⟩) <;> (try simp only [BN2] at hg) <;> (try simp only [hg, cond_true, cond_false])) <;> (try (refine hK1 _ ?_; clear hK1 K1)) <;> (try simp only [BN3] at hg))) | (refine awp_seq_k fun K hK => ?_) | ((first | refine awp_region ?_ | refine awp_draw (by kernel_rfl) ?_ | refine awp_block ?_ | refine awp_exit ?_ | refine awp_skip ?_ | refine awp_ret ?_); (try simp only [NB, simprocAttr])))
        all_goals refine ⟨hlt, trivial, ?_⟩
        all_goals simp only [ej, ro, List.take_length]
        all_goals refine ⟨rfl, ⟨_, rfl⟩, ?_, ⟨trivial, trivial, trivial⟩, ⟨by simp only [avlt, List.length_cons, List.length_nil]; omega, trivial⟩, avlts_cRu _ _, trivial⟩
        all_goals simp only [keeps, avlt, avlts, blksLt, frL, upd_get, S1, simprocAttr, List.length_map, Int.natCast_zero, AV.p.injEq, PV.int.injEq, PV.bool.injEq, PV.sl.injEq] <;> (try and_intros) <;> (try assumption) <;> (try trivial) <;> (try omega)
    have f7 : (k.kind == 7) = false := by simp [k7]
    by_cases k8 : k.kind = 8
    · have ro : ruOf fl j k.kind = [⟨3, j, insN fl j, outsN fl j⟩] := by unfold ruOf; rw [if_neg k1, if_neg k7, if_pos k8]
      repeat' (first | ((first | refine aops_nil ?_ | refine aqops_nil ?_); (try simp only [NB])) | ((repeat ((fail_if_success (refine hK _ ?_)); clear hK K)); refine hK _ ?_; clear hK K) | ((first | refine aops_k fun K1 hK1 => ?_ | refine aqops_k fun K1 hK1 => ?_ | refine awp_cond_k fun A B hA hB => ?_); simp only [S1, simprocAttr, TTRuC, rowN hx, hitN hlt, nextN hn hlt, eN, k8, List.length_map]; first | (refine hK1 _ ?_; clear hK1 K1) | ((first | refine hA ?_ | refine hB ?_); clear hA hB A B) | ((first | apply call_a E25 | apply call_q E25); exact (ins_calls _ fl hl _ _); (refine hK1 _ ?_; clear hK1 K1)) | ((first | apply call_a E26 | apply call_q E26); exact (outs_calls _ fl hl _ _); (refine hK1 _ ?_; clear hK1 K1)) | ((first | apply call_a E27 | apply call_q E27); exact (maker_calls _ hl0 ⟨3, j, insN fl j, outsN fl j⟩ h _ _); (refine hK1 _ ?_; clear hK1 K1)) | (refine join_x (v := ?_) (fun hg hk9 => ?_) ?_; rotate_left; (focus (try ((try simp only [BN] at hg); simp only [S1, simprocAttr, TTRuC, rowN hx, hitN hlt, nextN hn hlt, eN, k8, List.length_map, hg] at hk9 ⊢)); first | exact hk9 | ((first | apply call_a E25 | apply call_q E25); exact (ins_calls _ fl hl _ _); exact hk9) | ((first | apply call_a E26 | apply call_q E26); exact (outs_calls _ fl hl _ _); exact hk9) | ((first | apply call_a E27 | apply call_q E27); exact (maker_calls _ hl0 ⟨3, j, insN fl j, outsN fl j⟩ h _ _); exact hk9)); (refine hK1 _ ?_; clear hK1 K1)) | (((first | (refine ⟨fun hg => hA ?_, fun hg => hB ?_⟩ <;> clear hA hB A B) | refine ⟨fun hg => ?_, fun hg => ?_⟩) <;> (try simp only [BN2] at hg) <;> (try simp only [hg, cond_true, cond_false])) <;> (try (refine hK1 _ ?_; clear hK1 K1)) <;> (try simp only [BN3] at hg))) | (refine awp_seq_k fun K hK => ?_) | ((first | refine awp_region ?_ | refine awp_draw (by kernel_rfl) ?_ | refine awp_block ?_ | refine awp_exit ?_ | refine awp_skip ?_ | refine awp_ret ?_); (try simp only [NB, simprocAttr])))
      all_goals refine ⟨hlt, trivial, ?_⟩
      all_goals simp only [ej, ro]
      all_goals refine ⟨rfl, ⟨_, rfl⟩, ?_, ⟨trivial, trivial, trivial⟩, ⟨by simp only [avlt, List.length_cons, List.length_nil]; omega, trivial⟩, avlts_cRu _ _, trivial⟩
      all_goals simp only [keeps, avlt, avlts, blksLt, frL, upd_get, S1, simprocAttr, List.length_map, Int.natCast_zero, AV.p.injEq, PV.int.injEq, PV.bool.injEq, PV.sl.injEq] <;> (try and_intros) <;> (try assumption) <;> (try trivial) <;> (try omega)
    have f8 : (k.kind == 8) = false := by simp [k8]
    by_cases k5 : k.kind = 5
    · by_cases hs : 1 < (outsN fl j).length
      · have ro : ruOf fl j k.kind = (outsN fl j).map FS := by unfold ruOf; rw [if_neg k1, if_neg k7, if_neg k8, if_pos k5, if_pos hs]
        have hs' : decide ((1 : Int) < ((outsN fl j).length : Int)) = true := decide_eq_true (by omega)
        repeat' (first | ((first | refine aops_nil ?_ | refine aqops_nil ?_); (try simp only [NB])) | ((repeat ((fail_if_success (refine hK _ ?_)); clear hK K)); refine hK _ ?_; clear hK K) | ((first | refine aops_k fun K1 hK1 => ?_ | refine aqops_k fun K1 hK1 => ?_ | refine awp_cond_k fun A B hA hB => ?_); simp only [S1, simprocAttr, TTRuC, rowN hx, hitN hlt, nextN hn hlt, eN, k5, hs', List.length_map]; first | (refine hK1 _ ?_; clear hK1 K1) | ((first | refine hA ?_ | refine hB ?_); clear hA hB A B) | ((first | apply call_a E25 | apply call_q E25); exact (ins_calls _ fl hl _ _); (refine hK1 _ ?_; clear hK1 K1)) | ((first | apply call_a E26 | apply call_q E26); exact (outs_calls _ fl hl _ _); (refine hK1 _ ?_; clear hK1 K1)) | (refine join_x (v := ?_) (fun hg hk9 => ?_) ?_; rotate_left; (focus (try ((try simp only [BN] at hg); simp only [S1, simprocAttr, TTRuC, rowN hx, hitN hlt, nextN hn hlt, eN, k5, hs', List.length_map, hg] at hk9 ⊢)); first | exact hk9 | ((first | apply call_a E25 | apply call_q E25); exact (ins_calls _ fl hl _ _); exact hk9) | ((first | apply call_a E26 | apply call_q E26); exact (outs_calls _ fl hl _ _); exact hk9)); (refine hK1 _ ?_; clear hK1 K1)) | (((first | (refine ⟨fun hg => hA ?_, fun hg => hB ?_⟩ <;> clear hA hB A B) | refine ⟨fun hg => ?_, fun hg => ?_⟩) <;> (try simp only [BN2] at hg) <;> (try simp only [hg, cond_true, cond_false])) <;> (try (refine hK1 _ ?_; clear hK1 K1)) <;> (try simp only [BN3] at hg))) | (refine awp_seq_k fun K hK => ?_) | ((first | refine awp_region ?_ | refine awp_draw (by kernel_rfl) ?_ | refine awp_block ?_ | refine awp_exit ?_ | refine awp_skip ?_ | refine awp_ret ?_); (try simp only [NB, simprocAttr])))
        refine awp_for (outsN fl j).length 132 (fun i => [(94, .i i), (93, .i (outsN fl j).length), (92, aI (outsN fl j))] ++ [(29, .i j), (28, .i ns.length), (27, .p (.sl (ns.map eN))), (7, .i j), (6, .ptr (h.length + 1) 0 0), (1, .ptr h.length 0 0)])
          (fun i => [some ⟨0, cNet ns fl⟩, mkB (h.length + 2) (ruTo ns fl j ++ ((outsN fl j).take i).map FS), ruB (ruTo ns fl j ++ ((outsN fl j).take i).map FS)]) (fun i => True) ?_ trivial fun i hi hp K hK => ?_
        · simp only [List.take_zero, List.map_nil, List.append_nil]
          refine ⟨rfl, ⟨_, rfl⟩, ?_, ⟨trivial, trivial, trivial⟩, ⟨by simp only [avlt, List.length_cons, List.length_nil]; omega, trivial⟩, avlts_cRu _ _, trivial⟩
          simp only [keeps, avlt, avlts, blksLt, frL, upd_get, S1, simprocAttr, List.length_map, Int.natCast_zero, AV.p.injEq, PV.int.injEq, PV.bool.injEq, PV.sl.injEq] <;> (try and_intros) <;> (try assumption) <;> (try trivial) <;> (try omega)
        rcases Nat.lt_or_ge i (outsN fl j).length with hlti | hgei
        · obtain ⟨x, hxi⟩ : ∃ x, (outsN fl j)[i]? = some x := ⟨_, List.getElem?_eq_getElem hlti⟩
          have et : ((outsN fl j).take (i + 1)).map FS = ((outsN fl j).take i).map FS ++ [FS x] := by rw [List.take_add_one, hxi, List.map_append]; rfl
          have hll : (ruTo ns fl j ++ ((outsN fl j).take i).map FS).length ≤ 100000 := by
            have h1 := ruTo_le ns fl j
            have h2 : j * (fl.length + 1) ≤ 100 * 101 := Nat.mul_le_mul (by omega) (by omega)
            rw [List.length_append, List.length_map, List.length_take]; omega
          repeat' (first | ((first | refine aops_nil ?_ | refine aqops_nil ?_); (try simp only [NB])) | ((repeat ((fail_if_success (refine hK _ ?_)); clear hK K)); refine hK _ ?_; clear hK K) | ((first | refine aops_k fun K1 hK1 => ?_ | refine aqops_k fun K1 hK1 => ?_ | refine awp_cond_k fun A B hA hB => ?_); simp only [S1, simprocAttr, TTRuC, rowI hxi, hitI hlti, nextI (by omega) hlti, List.length_map]; first | (refine hK1 _ ?_; clear hK1 K1) | ((first | refine hA ?_ | refine hB ?_); clear hA hB A B) | ((first | apply call_a E25 | apply call_q E25); exact (ins_calls _ fl hl _ _); (refine hK1 _ ?_; clear hK1 K1)) | ((first | apply call_a E26 | apply call_q E26); exact (outs_calls _ fl hl _ _); (refine hK1 _ ?_; clear hK1 K1)) | ((first | apply call_a E27 | apply call_q E27); exact (maker_calls _ hll ⟨2, j, insN fl j, [x]⟩ h _ _); (refine hK1 _ ?_; clear hK1 K1)) | (refine join_x (v := ?_) (fun hg hk9 => ?_) ?_; rotate_left; (focus (try ((try simp only [BN] at hg); simp only [S1, simprocAttr, TTRuC, rowI hxi, hitI hlti, nextI (by omega) hlti, List.length_map, hg] at hk9 ⊢)); first | exact hk9 | ((first | apply call_a E25 | apply call_q E25); exact (ins_calls _ fl hl _ _); exact hk9) | ((first | apply call_a E26 | apply call_q E26); exact (outs_calls _ fl hl _ _); exact hk9) | ((first | apply call_a E27 | apply call_q E27); exact (maker_calls _ hll ⟨2, j, insN fl j, [x]⟩ h _ _); exact hk9)); (refine hK1 _ ?_; clear hK1 K1)) | (((first | (refine ⟨fun hg => hA ?_, fun hg => hB ?_⟩ <;> clear hA hB A B) | refine ⟨fun hg => ?_, fun hg => ?_⟩) <;> (try simp only [BN2] at hg) <;> (try simp only [hg, cond_true, cond_false])) <;> (try (refine hK1 _ ?_; clear hK1 K1)) <;> (try simp only [BN3] at hg))) | (refine awp_seq_k fun K hK => ?_) | ((first | refine awp_region ?_ | refine awp_draw (by kernel_rfl) ?_ | refine awp_block ?_ | refine awp_exit ?_ | refine awp_skip ?_ | refine awp_ret ?_); (try simp only [NB, simprocAttr])))
          all_goals refine ⟨hlti, trivial, ?_⟩
          all_goals simp only [et, ← List.append_assoc]
          all_goals refine ⟨rfl, ⟨_, rfl⟩, ?_, ⟨trivial, trivial, trivial⟩, ⟨by simp only [avlt, List.length_cons, List.length_nil]; omega, trivial⟩, avlts_cRu _ _, trivial⟩
          all_goals simp only [keeps, avlt, avlts, blksLt, frL, upd_get, S1, simprocAttr, List.length_map, Int.natCast_zero, AV.p.injEq, PV.int.injEq, PV.bool.injEq, PV.sl.injEq] <;> (try and_intros) <;> (try assumption) <;> (try trivial) <;> (try omega)
        · obtain rfl : i = (outsN fl j).length := by omega
          repeat' (first | ((first | refine aops_nil ?_ | refine aqops_nil ?_); (try simp only [NB])) | ((repeat ((fail_if_success (refine hK _ ?_)); clear hK K)); refine hK _ ?_; clear hK K) | ((first | refine aops_k fun K1 hK1 => ?_ | refine aqops_k fun K1 hK1 => ?_ | refine awp_cond_k fun A B hA hB => ?_); simp only [S1, simprocAttr, TTRuC, endI, nextN hn hlt]; first | (refine hK1 _ ?_; clear hK1 K1) | ((first | refine hA ?_ | refine hB ?_); clear hA hB A B) | (refine join_x (v := ?_) (fun hg hk9 => ?_) ?_; rotate_left; (focus (try ((try simp only [BN] at hg); simp only [S1, simprocAttr, TTRuC, endI, nextN hn hlt, hg] at hk9 ⊢)); first | exact hk9); (refine hK1 _ ?_; clear hK1 K1)) | (((first | (refine ⟨fun hg => hA ?_, fun hg => hB ?_⟩ <;> clear hA hB A B) | refine ⟨fun hg => ?_, fun hg => ?_⟩) <;> (try simp only [BN2] at hg) <;> (try simp only [hg, cond_true, cond_false])) <;> (try (refine hK1 _ ?_; clear hK1 K1)) <;> (try simp only [BN3] at hg))) | (refine awp_seq_k fun K hK => ?_) | ((first | refine awp_region ?_ | refine awp_draw (by kernel_rfl) ?_ | refine awp_block ?_ | refine awp_exit ?_ | refine awp_skip ?_ | refine awp_ret ?_); (try simp only [NB, simprocAttr])))
          all_goals refine ⟨hlt, trivial, ?_⟩
          all_goals simp only [ej, ro, List.take_length]
          all_goals refine ⟨rfl, ⟨_, rfl⟩, ?_, ⟨trivial, trivial, trivial⟩, ⟨by simp only [avlt, List.length_cons, List.length_nil]; omega, trivial⟩, avlts_cRu _ _, trivial⟩
          all_goals simp only [keeps, avlt, avlts, blksLt, frL, upd_get, S1, simprocAttr, List.length_map, Int.natCast_zero, AV.p.injEq, PV.int.injEq, PV.bool.injEq, PV.sl.injEq] <;> (try and_intros) <;> (try assumption) <;> (try trivial) <;> (try omega)
      · have hxor := hR.xor hlt (by rw [ek]; exact k5)
        have hs' : decide ((1 : Int) < ((outsN fl j).length : Int)) = false := decide_eq_false (by omega)
        obtain ⟨o, ho⟩ : ∃ o, (outsN fl j)[0]? = some o := ⟨_, List.getElem?_eq_getElem (by omega)⟩
        have ho1 : ((outsN fl j).map eI)[0]? = some [.int .i64 o] := by simp [ho, eI]
        have o0 : (0 : Int) ≤ 0 := Int.le_refl 0
        have ohd : (outsN fl j).headD 0 = o := by rw [List.headD_eq_head?_getD, List.head?_eq_getElem?, ho]; rfl
        let FJ := fun x : Int => (⟨1, j, [x], [o]⟩ : Ru)
        have ro : ruOf fl j k.kind = (insN fl j).map FJ := by unfold ruOf; rw [if_neg k1, if_neg k7, if_neg k8, if_pos k5, if_neg hs, ohd]
        repeat' (first | ((first | refine aops_nil ?_ | refine aqops_nil ?_); (try simp only [NB])) | ((repeat ((fail_if_success (refine hK _ ?_)); clear hK K)); refine hK _ ?_; clear hK K) | ((first | refine aops_k fun K1 hK1 => ?_ | refine aqops_k fun K1 hK1 => ?_ | refine awp_cond_k fun A B hA hB => ?_); simp only [S1, simprocAttr, TTRuC, rowN hx, hitN hlt, nextN hn hlt, eN, k5, hs', List.length_map]; first | (refine hK1 _ ?_; clear hK1 K1) | ((first | refine hA ?_ | refine hB ?_); clear hA hB A B) | ((first | apply call_a E25 | apply call_q E25); exact (ins_calls _ fl hl _ _); (refine hK1 _ ?_; clear hK1 K1)) | ((first | apply call_a E26 | apply call_q E26); exact (outs_calls _ fl hl _ _); (refine hK1 _ ?_; clear hK1 K1)) | (refine join_x (v := ?_) (fun hg hk9 => ?_) ?_; rotate_left; (focus (try ((try simp only [BN] at hg); simp only [S1, simprocAttr, TTRuC, rowN hx, hitN hlt, nextN hn hlt, eN, k5, hs', List.length_map, hg] at hk9 ⊢)); first | exact hk9 | ((first | apply call_a E25 | apply call_q E25); exact (ins_calls _ fl hl _ _); exact hk9) | ((first | apply call_a E26 | apply call_q E26); exact (outs_calls _ fl hl _ _); exact hk9)); (refine hK1 _ ?_; clear hK1 K1)) | (((first | (refine ⟨fun hg => hA ?_, fun hg => hB ?_⟩ <;> clear hA hB A B) | refine ⟨fun hg => ?_, fun hg => ?_⟩) <;> (try simp only [BN2] at hg) <;> (try simp only [hg, cond_true, cond_false])) <;> (try (refine hK1 _ ?_; clear hK1 K1)) <;> (try simp only [BN3] at hg))) | (refine awp_seq_k fun K hK => ?_) | ((first | refine awp_region ?_ | refine awp_draw (by kernel_rfl) ?_ | refine awp_block ?_ | refine awp_exit ?_ | refine awp_skip ?_ | refine awp_ret ?_); (try simp only [NB, simprocAttr])))
        refine awp_for (insN fl j).length 132 (fun i => [(113, .i i), (112, .i (insN fl j).length), (111, aI (insN fl j))] ++ [(10, aI (outsN fl j))] ++ [(29, .i j), (28, .i ns.length), (27, .p (.sl (ns.map eN))), (7, .i j), (6, .ptr (h.length + 1) 0 0), (1, .ptr h.length 0 0)])
          (fun i => [some ⟨0, cNet ns fl⟩, mkB (h.length + 2) (ruTo ns fl j ++ ((insN fl j).take i).map FJ), ruB (ruTo ns fl j ++ ((insN fl j).take i).map FJ)]) (fun i => True) ?_ trivial fun i hi hp K hK => ?_
        · simp only [List.take_zero, List.map_nil, List.append_nil]
          refine ⟨rfl, ⟨_, rfl⟩, ?_, ⟨trivial, trivial, trivial⟩, ⟨by simp only [avlt, List.length_cons, List.length_nil]; omega, trivial⟩, avlts_cRu _ _, trivial⟩
          simp only [keeps, avlt, avlts, blksLt, frL, upd_get, S1, simprocAttr, List.length_map, Int.natCast_zero, AV.p.injEq, PV.int.injEq, PV.bool.injEq, PV.sl.injEq] <;> (try and_intros) <;> (try assumption) <;> (try trivial) <;> (try omega)
        rcases Nat.lt_or_ge i (insN fl j).length with hlti | hgei
        · obtain ⟨x, hxi⟩ : ∃ x, (insN fl j)[i]? = some x := ⟨_, List.getElem?_eq_getElem hlti⟩
          have et : ((insN fl j).take (i + 1)).map FJ = ((insN fl j).take i).map FJ ++ [FJ x] := by rw [List.take_add_one, hxi, List.map_append]; rfl
          have hll : (ruTo ns fl j ++ ((insN fl j).take i).map FJ).length ≤ 100000 := by
            have h1 := ruTo_le ns fl j
            have h2 : j * (fl.length + 1) ≤ 100 * 101 := Nat.mul_le_mul (by omega) (by omega)
            rw [List.length_append, List.length_map, List.length_take]; omega
          repeat' (first | ((first | refine aops_nil ?_ | refine aqops_nil ?_); (try simp only [NB])) | ((repeat ((fail_if_success (refine hK _ ?_)); clear hK K)); refine hK _ ?_; clear hK K) | ((first | refine aops_k fun K1 hK1 => ?_ | refine aqops_k fun K1 hK1 => ?_ | refine awp_cond_k fun A B hA hB => ?_); simp only [S1, simprocAttr, TTRuC, rowI hxi, hitI hlti, nextI (by omega) hlti, List.length_map, ho1, o0]; first | (refine hK1 _ ?_; clear hK1 K1) | ((first | refine hA ?_ | refine hB ?_); clear hA hB A B) | ((first | apply call_a E27 | apply call_q E27); exact (maker_calls _ hll ⟨1, j, [x], [o]⟩ h _ _); (refine hK1 _ ?_; clear hK1 K1)) | (refine join_x (v := ?_) (fun hg hk9 => ?_) ?_; rotate_left; (focus (try ((try simp only [BN] at hg); simp only [S1, simprocAttr, TTRuC, rowI hxi, hitI hlti, nextI (by omega) hlti, List.length_map, ho1, o0, hg] at hk9 ⊢)); first | exact hk9 | ((first | apply call_a E27 | apply call_q E27); exact (maker_calls _ hll ⟨1, j, [x], [o]⟩ h _ _); exact hk9)); (refine hK1 _ ?_; clear hK1 K1)) | (((first | (refine ⟨fun hg => hA ?_, fun hg => hB ?_⟩ <;> clear hA hB A B) | refine ⟨fun hg => ?_, fun hg => ?_⟩) <;> (try simp only [BN2] at hg) <;> (try simp only [hg, cond_true, cond_false])) <;> (try (refine hK1 _ ?_; clear hK1 K1)) <;> (try simp only [BN3] at hg))) | (refine awp_seq_k fun K hK => ?_) | ((first | refine awp_region ?_ | refine awp_draw (by kernel_rfl) ?_ | refine awp_block ?_ | refine awp_exit ?_ | refine awp_skip ?_ | refine awp_ret ?_); (try simp only [NB, simprocAttr])))
          all_goals refine ⟨hlti, trivial, ?_⟩
          all_goals simp only [et, ← List.append_assoc]
          all_goals refine ⟨rfl, ⟨_, rfl⟩, ?_, ⟨trivial, trivial, trivial⟩, ⟨by simp only [avlt, List.length_cons, List.length_nil]; omega, trivial⟩, avlts_cRu _ _, trivial⟩
          all_goals simp only [keeps, avlt, avlts, blksLt, frL, upd_get, S1, simprocAttr, List.length_map, Int.natCast_zero, AV.p.injEq, PV.int.injEq, PV.bool.injEq, PV.sl.injEq] <;> (try and_intros) <;> (try assumption) <;> (try trivial) <;> (try omega)
        · obtain rfl : i = (insN fl j).length := by omega
          repeat' (first | ((first | refine aops_nil ?_ | refine aqops_nil ?_); (try simp only [NB])) | ((repeat ((fail_if_success (refine hK _ ?_)); clear hK K)); refine hK _ ?_; clear hK K) | ((first | refine aops_k fun K1 hK1 => ?_ | refine aqops_k fun K1 hK1 => ?_ | refine awp_cond_k fun A B hA hB => ?_); simp only [S1, simprocAttr, TTRuC, endI, nextN hn hlt]; first | (refine hK1 _ ?_; clear hK1 K1) | ((first | refine hA ?_ | refine hB ?_); clear hA hB A B) | (refine join_x (v := ?_) (fun hg hk9 => ?_) ?_; rotate_left; (focus (try ((try simp only [BN] at hg); simp only [S1, simprocAttr, TTRuC, endI, nextN hn hlt, hg] at hk9 ⊢)); first | exact hk9); (refine hK1 _ ?_; clear hK1 K1)) | (((first | (refine ⟨fun hg => hA ?_, fun hg => hB ?_⟩ <;> clear hA hB A B) | refine ⟨fun hg => ?_, fun hg => ?_⟩) <;> (try simp only [BN2] at hg) <;> (try simp only [hg, cond_true, cond_false])) <;> (try (refine hK1 _ ?_; clear hK1 K1)) <;> (try simp only [BN3] at hg))) | (refine awp_seq_k fun K hK => ?_) | ((first | refine awp_region ?_ | refine awp_draw (by kernel_rfl) ?_ | refine awp_block ?_ | refine awp_exit ?_ | refine awp_skip ?_ | refine awp_ret ?_); (try simp only [NB, simprocAttr])))
          all_goals refine ⟨hlt, trivial, ?_⟩
          all_goals simp only [ej, ro, List.take_length]
          all_goals refine ⟨rfl, ⟨_, rfl⟩, ?_, ⟨trivial, trivial, trivial⟩, ⟨by simp only [avlt, List.length_cons, List.length_nil]; omega, trivial⟩, avlts_cRu _ _, trivial⟩
          all_goals simp only [keeps, avlt, avlts, blksLt, frL, upd_get, S1, simprocAttr, List.length_map, Int.natCast_zero, AV.p.injEq, PV.int.injEq, PV.bool.injEq, PV.sl.injEq] <;> (try and_intros) <;> (try assumption) <;> (try trivial) <;> (try omega)
    have f5 : (k.kind == 5) = false := by simp [k5]
    · have ro : ruOf fl j k.kind = [⟨1, j, insN fl j, outsN fl j⟩] := by unfold ruOf; rw [if_neg k1, if_neg k7, if_neg k8, if_neg k5]
      repeat' (first | ((first | refine aops_nil ?_ | refine aqops_nil ?_); (try simp only [NB])) | ((repeat ((fail_if_success (refine hK _ ?_)); clear hK K)); refine hK _ ?_; clear hK K) | ((first | refine aops_k fun K1 hK1 => ?_ | refine aqops_k fun K1 hK1 => ?_ | refine awp_cond_k fun A B hA hB => ?_); simp only [S1, simprocAttr, TTRuC, rowN hx, hitN hlt, nextN hn hlt, eN, f1, f7, f8, f5, List.length_map]; first | (refine hK1 _ ?_; clear hK1 K1) | ((first | refine hA ?_ | refine hB ?_); clear hA hB A B) | ((first | apply call_a E25 | apply call_q E25); exact (ins_calls _ fl hl _ _); (refine hK1 _ ?_; clear hK1 K1)) | ((first | apply call_a E26 | apply call_q E26); exact (outs_calls _ fl hl _ _); (refine hK1 _ ?_; clear hK1 K1)) | ((first | apply call_a E27 | apply call_q E27); exact (maker_calls _ hl0 ⟨1, j, insN fl j, outsN fl j⟩ h _ _); (refine hK1 _ ?_; clear hK1 K1)) | (refine join_x (v := ?_) (fun hg hk9 => ?_) ?_; rotate_left; (focus (try ((try simp only [BN] at hg); simp only [S1, simprocAttr, TTRuC, rowN hx, hitN hlt, nextN hn hlt, eN, f1, f7, f8, f5, List.length_map, hg] at hk9 ⊢)); first | exact hk9 | ((first | apply call_a E25 | apply call_q E25); exact (ins_calls _ fl hl _ _); exact hk9) | ((first | apply call_a E26 | apply call_q E26); exact (outs_calls _ fl hl _ _); exact hk9) | ((first | apply call_a E27 | apply call_q E27); exact (maker_calls _ hl0 ⟨1, j, insN fl j, outsN fl j⟩ h _ _); exact hk9)); (refine hK1 _ ?_; clear hK1 K1)) | (((first | (refine ⟨fun hg => hA ?_, fun hg => hB ?_⟩ <;> clear hA hB A B) | refine ⟨fun hg => ?_, fun hg => ?_⟩) <;> (try simp only [BN2] at hg) <;> (try simp only [hg, cond_true, cond_false])) <;> (try (refine hK1 _ ?_; clear hK1 K1)) <;> (try simp only [BN3] at hg))) | (refine awp_seq_k fun K hK => ?_) | ((first | refine awp_region ?_ | refine awp_draw (by kernel_rfl) ?_ | refine awp_block ?_ | refine awp_exit ?_ | refine awp_skip ?_ | refine awp_ret ?_); (try simp only [NB, simprocAttr])))
      all_goals refine ⟨hlt, trivial, ?_⟩
      all_goals simp only [ej, ro]
      all_goals refine ⟨rfl, ⟨_, rfl⟩, ?_, ⟨trivial, trivial, trivial⟩, ⟨by simp only [avlt, List.length_cons, List.length_nil]; omega, trivial⟩, avlts_cRu _ _, trivial⟩
      all_goals simp only [keeps, avlt, avlts, blksLt, frL, upd_get, S1, simprocAttr, List.length_map, Int.natCast_zero, AV.p.injEq, PV.int.injEq, PV.bool.injEq, PV.sl.injEq] <;> (try and_intros) <;> (try assumption) <;> (try trivial) <;> (try omega)
  · obtain rfl : j = ns.length := by omega
    repeat' (first | ((first | refine aops_nil ?_ | refine aqops_nil ?_); (try simp only [NB])) | ((repeat ((fail_if_success (refine hK _ ?_)); clear hK K)); refine hK _ ?_; clear hK K) | ((first | refine aops_k fun K1 hK1 => ?_ | refine aqops_k fun K1 hK1 => ?_ | refine awp_cond_k fun A B hA hB => ?_); simp only [S1, simprocAttr, TTRuC, endN]; first | (refine hK1 _ ?_; clear hK1 K1) | ((first | refine hA ?_ | refine hB ?_); clear hA hB A B) | (refine join_x (v := ?_) (fun hg hk9 => ?_) ?_; rotate_left; (focus (try ((try simp only [BN] at hg); simp only [S1, simprocAttr, TTRuC, endN, hg] at hk9 ⊢)); first | exact hk9); (refine hK1 _ ?_; clear hK1 K1)) | (((first | (refine ⟨fun hg => hA ?_, fun hg => hB ?_⟩ <;> clear hA hB A B) | refine ⟨fun hg => ?_, fun hg => ?_⟩) <;> (try simp only [BN2] at hg) <;> (try simp only [hg, cond_true, cond_false])) <;> (try (refine hK1 _ ?_; clear hK1 K1)) <;> (try simp only [BN3] at hg))) | (refine awp_seq_k fun K hK => ?_) | ((first | refine awp_region ?_ | refine awp_draw (by kernel_rfl) ?_ | refine awp_block ?_ | refine awp_exit ?_ | refine awp_skip ?_ | refine awp_ret ?_); (try simp only [NB, simprocAttr])))
    exact EndP_rows2 eRu_len eRu_ok (.inr rfl) (l := ruTo ns fl ns.length) rfl rfl rfl (by simp only [ruB, cRu, blkAt, get_app, List.getElem?_cons_succ, List.getElem?_cons_zero, if_true]) (by omega) (by simp) (by simp) rfl
end Go.Proofs.YtjpphhcimpclpaaDoor.AM
end

section
set_option linter.unusedVariables false
set_option linter.unusedSimpArgs false
set_option maxRecDepth 4000
set_option maxHeartbeats 4000000
namespace Go.Proofs.YtjpphhcimpclpaaDoor.AM
open Go Go.Proofs
set_option linter.defProp false in
attribute [local irreducible] awp aops aqops aeops arun arunT
variable {G : Nat → Option (List PV)}

structure Qg where
  j : Nat
  g : Nat

/- left out: not in this program -/

end Go.Proofs.YtjpphhcimpclpaaDoor.AM
end

section
set_option linter.unusedVariables false
set_option linter.unusedSimpArgs false
set_option maxRecDepth 4000
set_option maxHeartbeats 4000000
namespace Go.Proofs.YtjpphhcimpclpaaDoor.AM
open Go Go.Proofs
set_option linter.defProp false in
def TTRuX := And.intro T2 (And.intro T3 (And.intro T4 (And.intro T56 (And.intro T58 (And.intro T66 T68)))))
attribute [local irreducible] awp aops aqops
variable {G : Nat → Option (List PV)}

mutual
def lgT : Tm → Int → Int → Bool × Int
  | .mk _ _ ks, d, n => if n - 1 < 0 ∨ 40 < d ∨ 50 < (ks.length : Int) then (true, n - 1) else lgS ks (d + 1) (n - 1)
def lgS : List Tm → Int → Int → Bool × Int
  | [], _, n => (false, n)
  | k :: r, d, n => if (lgT k d n).1 = true then lgT k d n else lgS r d (lgT k d n).2
end

theorem lgT_eq (t : Tm) (d n : Int) : lgT t d n = if n - 1 < 0 ∨ 40 < d ∨ 50 < (t.kids.length : Int) then (true, n - 1) else lgS t.kids (d + 1) (n - 1) := by
  cases t; rw [lgT]; rfl

theorem lgS_app : ∀ (a b : List Tm) (d n : Int), lgS (a ++ b) d n = if (lgS a d n).1 = true then lgS a d n else lgS b d (lgS a d n).2
  | [], b, d, n => by simp [lgS]
  | k :: r, b, d, n => by
    simp only [List.cons_append, lgS]
    by_cases h : (lgT k d n).1 = true
    · simp [h]
    · simp only [h, if_false]
      exact lgS_app r b d _

theorem lgS_take {l : List Tm} {i : Nat} {k : Tm} (hk : l[i]? = some k) {d n : Int} (hp : (lgS (l.take i) d n).1 = false) :
    lgS (l.take (i + 1)) d n = lgT k d (lgS (l.take i) d n).2 := by
  rw [List.take_add_one, hk, lgS_app]
  simp only [hp, Bool.false_eq_true, if_false, Option.toList_some, lgS]
  split
  · rfl
  · rename_i h
    have : (lgT k d (lgS (List.take i l) d n).2).1 = false := by simpa using h
    rw [Prod.ext_iff]; exact ⟨this.symm, rfl⟩

theorem lgS_stop {l : List Tm} {i : Nat} {k : Tm} (hk : l[i]? = some k) {d n : Int} (hp : (lgS (l.take i) d n).1 = false) (ht : (lgT k d (lgS (l.take i) d n).2).1 = true) :
    lgS l d n = lgT k d (lgS (l.take i) d n).2 := by
  have h := lgS_take hk hp
  conv => lhs; rw [← List.take_append_drop (i + 1) l]
  rw [lgS_app, h, if_pos ht]

/-- What is left of the room. -/
theorem lg_room : ∀ t : Tm, ∀ d n : Int, 0 ≤ n → -1 ≤ (lgT t d n).2 ∧ (lgT t d n).2 ≤ n ∧ ((lgT t d n).1 = false → 0 ≤ (lgT t d n).2) := by
  intro t
  refine Tm.ind (p := fun t => ∀ d n : Int, 0 ≤ n → -1 ≤ (lgT t d n).2 ∧ (lgT t d n).2 ≤ n ∧ ((lgT t d n).1 = false → 0 ≤ (lgT t d n).2)) (fun t ih => ?_) t
  have hs : ∀ l : List Tm, (∀ k ∈ l, k ∈ t.kids) → ∀ d n : Int, 0 ≤ n → -1 ≤ (lgS l d n).2 ∧ (lgS l d n).2 ≤ n ∧ ((lgS l d n).1 = false → 0 ≤ (lgS l d n).2) := by
    intro l
    induction l with
    | nil => intro _ d n hn; simp [lgS]; omega
    | cons k r ihr =>
      intro hm d n hn
      have h1 := ih k (hm k (by simp)) d n hn
      simp only [lgS]
      split
      · exact h1
      · rename_i h
        have h2 := h1.2.2 (by simpa using h)
        have h3 := ihr (fun x hx => hm x (by simp [hx])) d _ h2
        exact ⟨by omega, by omega, h3.2.2⟩
  intro d n hn
  rw [lgT_eq]
  split
  · simp; omega
  · rename_i h
    have := hs t.kids (fun _ h => h) (d + 1) (n - 1) (by omega)
    exact ⟨by omega, by omega, this.2.2⟩

theorem lgS_room {l : List Tm} {d n : Int} (hn : 0 ≤ n) : -1 ≤ (lgS l d n).2 ∧ (lgS l d n).2 ≤ n ∧ ((lgS l d n).1 = false → 0 ≤ (lgS l d n).2) := by
  induction l generalizing n with
  | nil => simp [lgS]; omega
  | cons k r ih =>
    have h1 := lg_room k d n hn
    simp only [lgS]
    split
    · exact h1
    · rename_i h
      have h2 := h1.2.2 (by simpa using h)
      have h3 := ih h2
      exact ⟨by omega, by omega, h3.2.2⟩

/-- What is not larger. -/
theorem lg_ok : ∀ t : Tm, ∀ d n : Int, (lgT t d n).1 = false → 1 ≤ d → Tm.Ok (41 - d).toNat t := by
  intro t
  refine Tm.ind (p := fun t => ∀ d n : Int, (lgT t d n).1 = false → 1 ≤ d → Tm.Ok (41 - d).toNat t) (fun t ih => ?_) t
  intro d n hf hd
  rw [lgT_eq] at hf
  split at hf
  · cases hf
  · rename_i h
    have hs : ∀ l : List Tm, ∀ d n : Int, (lgS l d n).1 = false → ∀ k ∈ l, ∃ m, (lgT k d m).1 = false := by
      intro l
      induction l with
      | nil => intro d n _ k hk; simp at hk
      | cons x r ihr =>
        intro d n hf k hk
        simp only [lgS] at hf
        split at hf
        · rename_i h2; rw [h2] at hf; cases hf
        · rename_i h2
          rcases List.mem_cons.mp hk with rfl | hk
          · exact ⟨n, by simpa using h2⟩
          · exact ihr _ _ hf k hk
    have e : (41 - d).toNat = (41 - (d + 1)).toNat + 1 := by omega
    rw [e]
    refine .mk _ t (by omega) fun k hk => ?_
    obtain ⟨m, hm⟩ := hs _ _ _ hf k hk
    exact ih k hk _ _ hm (by omega)

/-- A heap whose block b was changed. -/
def withB (h : Heap) (b : Nat) (c : Option Blk) : Heap := h.set b c

section
variable {h : Heap} {b : Nat} {c c' : Option Blk}
theorem wb_self (hb : h[b]? = some c) : withB h b c = h := by
  apply List.ext_getElem?
  intro i
  unfold withB
  rw [List.getElem?_set]
  split
  · rename_i e; subst e; split
    · exact hb.symm
    · rename_i hn; rw [List.getElem?_eq_none (by omega)] at hb; cases hb
  · rfl
theorem wb_len : (withB h b c).length = h.length := by unfold withB; rw [List.length_set]
theorem wb_at (hb : b < h.length) : (withB h b c)[b]? = some c := by unfold withB; rw [List.getElem?_set]; simp [hb]
theorem wb_get (hb : b < h.length) (L : Heap) : (withB h b c ++ L)[b]? = some c := by rw [List.getElem?_append_left (by rw [wb_len]; exact hb), wb_at hb]
theorem wb_put : (withB h b c).set b c' = withB h b c' := by unfold withB; rw [List.set_set]
theorem wb_set (hb : b < h.length) (L : Heap) : (withB h b c ++ L).set b c' = withB h b c' ++ L := by rw [List.set_append_left _ _ (by rw [wb_len]; exact hb), wb_put]
theorem wb_get0 (L : Heap) : (withB h b c ++ L)[h.length]? = L[0]? := by rw [List.getElem?_append_right (by rw [wb_len]; omega), wb_len]; congr 1; omega
theorem wb_geti (L : Heap) (i : Nat) : (withB h b c ++ L)[h.length + i]? = L[i]? := by rw [List.getElem?_append_right (by rw [wb_len]; omega), wb_len]; congr 1; omega
theorem wb_set0 (L : Heap) (x : Option Blk) : (withB h b c ++ L).set h.length x = withB h b c ++ L.set 0 x := by rw [List.set_append_right _ _ (by rw [wb_len]; omega), wb_len]; congr 2; omega
theorem wb_seti (L : Heap) (i : Nat) (x : Option Blk) : (withB h b c ++ L).set (h.length + i) x = withB h b c ++ L.set i x := by rw [List.set_append_right _ _ (by rw [wb_len]; omega), wb_len]; congr 2; omega
theorem wb_take (L : Heap) : (withB h b c ++ L).take h.length = withB h b c := by
  have := wb_len (h := h) (b := b) (c := c)
  rw [← this, List.take_left']; rfl
theorem wb_app (L : Heap) (hb : b < h.length) : withB (withB h b c ++ L) b c' = withB h b c' ++ L := by
  show (withB h b c ++ L).set b c' = _
  exact wb_set hb L
theorem wb_keep {c0 : Option Blk} {g : Nat} {n : Int} : ∀ (i : Nat) (bk : Blk), (withB h b (some ⟨g, [.i n]⟩))[i]? = some (some bk) → (withB h b c0)[i]? = some (some bk) ∨ avlts (withB h b c0).length bk.cells := by
  intro i bk hi
  unfold withB at hi ⊢
  rw [List.getElem?_set] at hi ⊢
  split at hi
  · rename_i e
    split at hi
    · cases hi; exact .inr (by simp [avlts, avlt])
    · cases hi
  · rename_i e; rw [if_neg e]; exact .inl hi
theorem wb_keep' {c0 : Option Blk} {g : Nat} {n : Int} (i : Nat) (bk : Blk) (hi : (withB h b (some ⟨g, [.i n]⟩))[i]? = some (some bk)) : (withB h b c0)[i]? = some (some bk) ∨ ∀ x, x ∈ bk.cells → AVlt h.length x :=
  (wb_keep i bk hi).imp id fun hx => by rw [wb_len] at hx; exact avlts_lt _ hx
theorem wb_wb : withB (withB h b c) b c' = withB h b c' := wb_put
theorem wb_take0 : (withB h b c).take h.length = withB h b c := by
  rw [← wb_len (h := h) (b := b) (c := c), List.take_length]
end

abbrev rB (g : Nat) (n : Int) : Option Blk := some ⟨g, [.i n]⟩

theorem deepL_calls (t : Tm) : ∀ (d n : Int) (b g : Nat) (h : Heap), 0 ≤ n → n ≤ 3000 → 1 ≤ d → d ≤ 41 → h[b]? = some (rB g n) →
    ACalls Tryd.prog G 20 [aT t, .ptr b g 0, .i d] h (fun r h' => r = .b (lgT t d n).1 ∧ h' = withB h b (rB g (lgT t d n).2)) := by
  refine Tm.ind (p := fun t => ∀ (d n : Int) (b g : Nat) (h : Heap), 0 ≤ n → n ≤ 3000 → 1 ≤ d → d ≤ 41 → h[b]? = some (rB g n) →
    ACalls Tryd.prog G 20 [aT t, .ptr b g 0, .i d] h (fun r h' => r = .b (lgT t d n).1 ∧ h' = withB h b (rB g (lgT t d n).2))) (fun t ih => ?_) t
  intro d n b g h hn hn2 hd hd2 hb
  have hlt : b < h.length := (List.getElem?_eq_some_iff.mp hb).1
  have hself := wb_self hb
  have hw : IntKind.i64.wrap (n - 1) = n - 1 := IntWalk.i64_in _ (by omega)
  rw [lgT_eq]
  refine acalls_heap (rl := []) mixed Tryd.func20 rfl (rs := [.tmp 6]) rfl Tryd.ntmps20 (by simp) ?_
  rw [← hself]
  by_cases hbig : n - 1 < 0 ∨ 40 < d ∨ 50 < (t.kids.length : Int)
  · rw [if_pos hbig]
    have f1 : ((decide (n - 1 < 0) || decide (40 < d)) || decide (50 < (t.kids.length : Int))) = true := by
      simp; omega
    repeat' (first | ((first | refine aops_nil ?_ | refine aqops_nil ?_); (try simp only [NB])) | ((repeat ((fail_if_success (refine hK _ ?_)); clear hK K)); refine hK _ ?_; clear hK K) | ((first | refine aops_k fun K1 hK1 => ?_ | refine aqops_k fun K1 hK1 => ?_ | refine awp_cond_k fun A B hA hB => ?_); simp only [S1, simprocAttr, TTRuX, f1, hw, List.length_map, wb_get hlt, wb_at hlt, wb_put, wb_set hlt, wb_get0, wb_geti, wb_len]; first | (refine hK1 _ ?_; clear hK1 K1) | ((first | refine hA ?_ | refine hB ?_); clear hA hB A B) | (refine join_x (v := ?_) (fun hg hk9 => ?_) ?_; rotate_left; (focus (try ((try simp only [BN] at hg); simp only [S1, simprocAttr, TTRuX, f1, hw, List.length_map, wb_get hlt, wb_at hlt, wb_put, wb_set hlt, wb_get0, wb_geti, wb_len, hg] at hk9 ⊢)); first | exact hk9); (refine hK1 _ ?_; clear hK1 K1)) | (((first | (refine ⟨fun hg => hA ?_, fun hg => hB ?_⟩ <;> clear hA hB A B) | refine ⟨fun hg => ?_, fun hg => ?_⟩) <;> (try simp only [BN2] at hg) <;> (try simp only [hg, cond_true, cond_false])) <;> (try (refine hK1 _ ?_; clear hK1 K1)) <;> (try simp only [BN3] at hg))) | (refine awp_seq_k fun K hK => ?_) | ((first | refine awp_region ?_ | refine awp_draw (by kernel_rfl) ?_ | refine awp_block ?_ | refine awp_exit ?_ | refine awp_skip ?_ | refine awp_ret ?_); (try simp only [NB, simprocAttr])))
    all_goals simp only [EndH, FinH, resA, resL, resA1, lastV, lastA, lastAs, pur, purs, wb_len, wb_take, wb_take0, wb_wb, S1, simprocAttr, TTRuX, Nat.le_add_right, Nat.le_refl]
    all_goals first | exact wb_keep' | exact ⟨wb_keep', rfl⟩ | exact ⟨wb_keep', rfl, rfl⟩
  · rw [if_neg hbig]
    have f1 : ((decide (n - 1 < 0) || decide (40 < d)) || decide (50 < (t.kids.length : Int))) = false := by
      simp; omega
    have hkl : t.kids.length ≤ 100 := by omega
    have hm0 : 0 ≤ n - 1 := by omega
    have hd3 : IntKind.i64.wrap (d + 1) = d + 1 := IntWalk.i64_in _ (by omega)
    let m := fun i => (lgS (t.kids.take i) (d + 1) (n - 1)).2
    refine awp_seq_k fun K hK => ?_
    repeat' (first | ((first | refine aops_nil ?_ | refine aqops_nil ?_); (try simp only [NB])) | ((repeat ((fail_if_success (refine hK _ ?_)); clear hK K)); refine hK _ ?_; clear hK K) | ((first | refine aops_k fun K1 hK1 => ?_ | refine aqops_k fun K1 hK1 => ?_ | refine awp_cond_k fun A B hA hB => ?_); simp only [S1, simprocAttr, TTRuX, f1, hw, List.length_map, wb_get hlt, wb_at hlt, wb_put, wb_set hlt, wb_get0, wb_geti, wb_len]; first | (refine hK1 _ ?_; clear hK1 K1) | ((first | refine hA ?_ | refine hB ?_); clear hA hB A B) | (refine join_x (v := ?_) (fun hg hk9 => ?_) ?_; rotate_left; (focus (try ((try simp only [BN] at hg); simp only [S1, simprocAttr, TTRuX, f1, hw, List.length_map, wb_get hlt, wb_at hlt, wb_put, wb_set hlt, wb_get0, wb_geti, wb_len, hg] at hk9 ⊢)); first | exact hk9); (refine hK1 _ ?_; clear hK1 K1)) | (((first | (refine ⟨fun hg => hA ?_, fun hg => hB ?_⟩ <;> clear hA hB A B) | refine ⟨fun hg => ?_, fun hg => ?_⟩) <;> (try simp only [BN2] at hg) <;> (try simp only [hg, cond_true, cond_false])) <;> (try (refine hK1 _ ?_; clear hK1 K1)) <;> (try simp only [BN3] at hg))) | (refine awp_seq_k fun K hK => ?_) | ((first | refine awp_region ?_ | refine awp_draw (by kernel_rfl) ?_ | refine awp_block ?_ | refine awp_exit ?_ | refine awp_skip ?_ | refine awp_ret ?_); (try simp only [NB, simprocAttr])))
    refine awp_forH t.kids.length 45 (fun i => withB h b (rB g (m i))) (fun i => [(35, .i i), (34, .i t.kids.length), (33, .p (.sl (t.kids.map eT))), (1, .ptr b g 0), (2, .i d)]) (fun i => []) (fun i => (lgS (t.kids.take i) (d + 1) (n - 1)).1 = false)
      (fun i => ⟨by rw [wb_len, wb_len], wb_keep⟩) ?_ (by simp [lgS]) fun i hi hp K hK => ?_
    · have e0 : m 0 = n - 1 := by simp [m, lgS]
      simp only [e0]
      refine ⟨rfl, ⟨_, rfl⟩, ?_, ?_⟩
      · simp [keeps, avlt, upd_get, wb_len]; omega
      · simp [blksLt]
    rcases Nat.lt_or_ge i t.kids.length with hlti | hge
    · obtain ⟨k, hx⟩ : ∃ k, t.kids[i]? = some k := ⟨_, List.getElem?_eq_getElem hlti⟩
      have hmem := List.mem_of_getElem? hx
      have hmi : 0 ≤ m i ∧ m i ≤ n - 1 := by
        have := lgS_room (l := t.kids.take i) (d := d + 1) hm0
        exact ⟨this.2.2 hp, this.2.1⟩
      have hr : ∀ L : Heap, ACalls Tryd.prog G 20 [aT k, .ptr b g 0, .i (d + 1)] (withB h b (rB g (m i)) ++ L) (fun r h' => r = .b (lgT k (d + 1) (m i)).1 ∧ h' = withB h b (rB g (lgT k (d + 1) (m i)).2) ++ L) := fun L => by
        have := ih k hmem (d + 1) (m i) b g (withB h b (rB g (m i)) ++ L) hmi.1 (by omega) (by omega) (by omega) (wb_get hlt L)
        rwa [wb_app L hlt] at this
      cases hb1 : (lgT k (d + 1) (m i)).1 with
      | false =>
        rw [hb1] at hr
        have hs := lgS_take hx hp
        repeat' (first | ((first | refine aops_nil ?_ | refine aqops_nil ?_); (try simp only [NB])) | ((repeat ((fail_if_success (refine hK _ ?_)); clear hK K)); refine hK _ ?_; clear hK K) | ((first | refine aops_k fun K1 hK1 => ?_ | refine aqops_k fun K1 hK1 => ?_ | refine awp_cond_k fun A B hA hB => ?_); simp only [S1, simprocAttr, TTRuX, row_of hx, idx_hit hlti, idx_next hkl hlti, eT_eq, hd3, List.length_map, wb_get hlt, wb_at hlt, wb_put, wb_set hlt, wb_get0, wb_geti, wb_len, wb_set0, wb_seti]; first | (refine hK1 _ ?_; clear hK1 K1) | ((first | refine hA ?_ | refine hB ?_); clear hA hB A B) | ((first | apply call_a E20 | apply call_q E20); exact (hr _); (refine hK1 _ ?_; clear hK1 K1)) | (refine join_x (v := ?_) (fun hg hk9 => ?_) ?_; rotate_left; (focus (try ((try simp only [BN] at hg); simp only [S1, simprocAttr, TTRuX, row_of hx, idx_hit hlti, idx_next hkl hlti, eT_eq, hd3, List.length_map, wb_get hlt, wb_at hlt, wb_put, wb_set hlt, wb_get0, wb_geti, wb_len, wb_set0, wb_seti, hg] at hk9 ⊢)); first | exact hk9 | ((first | apply call_a E20 | apply call_q E20); exact (hr _); exact hk9)); (refine hK1 _ ?_; clear hK1 K1)) | (((first | (refine ⟨fun hg => hA ?_, fun hg => hB ?_⟩ <;> clear hA hB A B) | refine ⟨fun hg => ?_, fun hg => ?_⟩) <;> (try simp only [BN2] at hg) <;> (try simp only [hg, cond_true, cond_false])) <;> (try (refine hK1 _ ?_; clear hK1 K1)) <;> (try simp only [BN3] at hg))) | (refine awp_seq_k fun K hK => ?_) | ((first | refine awp_region ?_ | refine awp_draw (by kernel_rfl) ?_ | refine awp_block ?_ | refine awp_exit ?_ | refine awp_skip ?_ | refine awp_ret ?_); (try simp only [NB, simprocAttr])))
        refine ⟨hlti, by rw [hs]; exact hb1, ?_⟩
        have em : m (i + 1) = (lgT k (d + 1) (m i)).2 := by simp only [m, hs]
        rw [em]
        refine ⟨rfl, ⟨_, rfl⟩, ?_, ?_⟩
        · simp [keeps, avlt, upd_get, frL, wb_len]; omega
        · simp [blksLt]
      | true =>
        rw [hb1] at hr
        have hs := lgS_stop hx hp hb1
        repeat' (first | ((first | refine aops_nil ?_ | refine aqops_nil ?_); (try simp only [NB])) | ((repeat ((fail_if_success (refine hK _ ?_)); clear hK K)); refine hK _ ?_; clear hK K) | ((first | refine aops_k fun K1 hK1 => ?_ | refine aqops_k fun K1 hK1 => ?_ | refine awp_cond_k fun A B hA hB => ?_); simp only [S1, simprocAttr, TTRuX, row_of hx, idx_hit hlti, idx_next hkl hlti, eT_eq, hd3, List.length_map, wb_get hlt, wb_at hlt, wb_put, wb_set hlt, wb_get0, wb_geti, wb_len, wb_set0, wb_seti]; first | (refine hK1 _ ?_; clear hK1 K1) | ((first | refine hA ?_ | refine hB ?_); clear hA hB A B) | ((first | apply call_a E20 | apply call_q E20); exact (hr _); (refine hK1 _ ?_; clear hK1 K1)) | (refine join_x (v := ?_) (fun hg hk9 => ?_) ?_; rotate_left; (focus (try ((try simp only [BN] at hg); simp only [S1, simprocAttr, TTRuX, row_of hx, idx_hit hlti, idx_next hkl hlti, eT_eq, hd3, List.length_map, wb_get hlt, wb_at hlt, wb_put, wb_set hlt, wb_get0, wb_geti, wb_len, wb_set0, wb_seti, hg] at hk9 ⊢)); first | exact hk9 | ((first | apply call_a E20 | apply call_q E20); exact (hr _); exact hk9)); (refine hK1 _ ?_; clear hK1 K1)) | (((first | (refine ⟨fun hg => hA ?_, fun hg => hB ?_⟩ <;> clear hA hB A B) | refine ⟨fun hg => ?_, fun hg => ?_⟩) <;> (try simp only [BN2] at hg) <;> (try simp only [hg, cond_true, cond_false])) <;> (try (refine hK1 _ ?_; clear hK1 K1)) <;> (try simp only [BN3] at hg))) | (refine awp_seq_k fun K hK => ?_) | ((first | refine awp_region ?_ | refine awp_draw (by kernel_rfl) ?_ | refine awp_block ?_ | refine awp_exit ?_ | refine awp_skip ?_ | refine awp_ret ?_); (try simp only [NB, simprocAttr])))
        rw [hs, hb1]
        simp only [EndH, FinH, resA, resL, resA1, lastV, lastA, lastAs, pur, purs, wb_len, wb_take, wb_take0, wb_wb, S1, simprocAttr, TTRuX, Nat.le_add_right, Nat.le_refl]
        first | exact wb_keep' | exact ⟨wb_keep', rfl⟩ | exact ⟨wb_keep', rfl, rfl⟩
    · obtain rfl : i = t.kids.length := by omega
      repeat' (first | ((first | refine aops_nil ?_ | refine aqops_nil ?_); (try simp only [NB])) | ((repeat ((fail_if_success (refine hK _ ?_)); clear hK K)); refine hK _ ?_; clear hK K) | ((first | refine aops_k fun K1 hK1 => ?_ | refine aqops_k fun K1 hK1 => ?_ | refine awp_cond_k fun A B hA hB => ?_); simp only [S1, simprocAttr, TTRuX, idx_end]; first | (refine hK1 _ ?_; clear hK1 K1) | ((first | refine hA ?_ | refine hB ?_); clear hA hB A B) | (refine join_x (v := ?_) (fun hg hk9 => ?_) ?_; rotate_left; (focus (try ((try simp only [BN] at hg); simp only [S1, simprocAttr, TTRuX, idx_end, hg] at hk9 ⊢)); first | exact hk9); (refine hK1 _ ?_; clear hK1 K1)) | (((first | (refine ⟨fun hg => hA ?_, fun hg => hB ?_⟩ <;> clear hA hB A B) | refine ⟨fun hg => ?_, fun hg => ?_⟩) <;> (try simp only [BN2] at hg) <;> (try simp only [hg, cond_true, cond_false])) <;> (try (refine hK1 _ ?_; clear hK1 K1)) <;> (try simp only [BN3] at hg))) | (refine awp_seq_k fun K hK => ?_) | ((first | refine awp_region ?_ | refine awp_draw (by kernel_rfl) ?_ | refine awp_block ?_ | refine awp_exit ?_ | refine awp_skip ?_ | refine awp_ret ?_); (try simp only [NB, simprocAttr])))
      have e : t.kids.take t.kids.length = t.kids := List.take_length
      rw [e] at hp
      have em : m t.kids.length = (lgS t.kids (d + 1) (n - 1)).2 := by simp only [m, e]
      rw [em, hp]
      simp only [EndH, FinH, resA, resL, resA1, lastV, lastA, lastAs, pur, purs, wb_len, wb_take, wb_take0, wb_wb, S1, simprocAttr, TTRuX, Nat.le_add_right, Nat.le_refl]
      first | exact wb_keep' | exact ⟨wb_keep', rfl⟩ | exact ⟨wb_keep', rfl, rfl⟩
end Go.Proofs.YtjpphhcimpclpaaDoor.AM
end

section
set_option linter.unusedVariables false
set_option linter.unusedSimpArgs false
set_option maxRecDepth 4000
set_option maxHeartbeats 4000000
namespace Go.Proofs.YtjpphhcimpclpaaDoor.AM
open Go Go.Proofs
set_option linter.defProp false in
def TTRuY := And.intro T2 (And.intro T3 (And.intro T4 (And.intro T22 (And.intro T23 (And.intro T25 (And.intro T56 (And.intro T58 (And.intro T60 (And.intro T66 (And.intro T68 T71))))))))))
attribute [local irreducible] awp aops aqops aeops arun arunT
variable {G : Nat → Option (List PV)}

/-- All terms of a process. -/
def termsN (ns : List Nd) (fl : List Fl) : List Tm := ns.map (·.term) ++ fl.map (·.cond)
def largeN (ns : List Nd) (fl : List Fl) : Bool := (decide (30 < (ns.length : Int)) || decide (50 < (fl.length : Int))) || (lgS (termsN ns fl) 1 1500).1

theorem lgS_all {l : List Tm} : ∀ {d n : Int}, 1 ≤ d → (lgS l d n).1 = false → ∀ k ∈ l, Tm.Ok (41 - d).toNat k := by
  induction l with
  | nil => intro d n _ _ k hk; simp at hk
  | cons x r ih =>
    intro d n hd hf k hk
    simp only [lgS] at hf
    split at hf
    · rename_i h2; rw [h2] at hf; cases hf
    · rename_i h2
      rcases List.mem_cons.mp hk with rfl | hk
      · exact lg_ok _ _ _ (by simpa using h2) hd
      · exact ih hd hf k hk

theorem large_ok {ns : List Nd} {fl : List Fl} (h : largeN ns fl = false) : NetOk ns fl := by
  unfold largeN at h
  simp only [Bool.or_eq_false_iff, decide_eq_false_iff_not] at h
  obtain ⟨⟨h1, h2⟩, h3⟩ := h
  have ha := lgS_all (by omega) h3
  refine ⟨by omega, by omega, ⟨40, by omega, fun k hk => ha _ ?_⟩, ⟨40, by omega, fun k hk => ha _ ?_⟩⟩
  · unfold termsN; exact List.mem_append_left _ (List.mem_map.mpr ⟨k, hk, rfl⟩)
  · unfold termsN; exact List.mem_append_right _ (List.mem_map.mpr ⟨k, hk, rfl⟩)

theorem deepL_at (k : Tm) (n : Int) (hn : 0 ≤ n) (hn2 : n ≤ 3000) (h : Heap) (A : Option Blk) (L : Heap) :
    ACalls Tryd.prog G 20 [aT k, .ptr (h.length + 1) 0 0, .i 1] (h ++ (A :: some ⟨0, [.i n]⟩ :: L)) (fun r h' => r = .b (lgT k 1 n).1 ∧ h' = h ++ (A :: some ⟨0, [.i (lgT k 1 n).2]⟩ :: L)) := by
  have := deepL_calls (G := G) k 1 n (h.length + 1) 0 (h ++ (A :: some ⟨0, [.i n]⟩ :: L)) hn hn2 (by omega) (by omega) (by simp [get_app])
  simpa only [withB, set_app, List.set_cons_succ, List.set_cons_zero] using this

theorem large_calls (ns : List Nd) (fl : List Fl) (h : Heap) : ACalls Tryd.prog G 8 [aNet ns fl] h (fun r h' => r = .b (largeN ns fl) ∧ h' = h) := by
  cases hsz : (decide (30 < (ns.length : Int)) || decide (50 < (fl.length : Int))) with
  | true =>
    have e : largeN ns fl = true := by unfold largeN; rw [hsz]; rfl
    rw [e]
    refine acalls_pure (rl := []) mixed Tryd.func8 rfl (rs := [.tmp 2]) rfl Tryd.ntmps8 (by simp) ?_
    repeat' (first | ((first | refine aops_nil ?_ | refine aqops_nil ?_); (try simp only [NB])) | ((repeat ((fail_if_success (refine hK _ ?_)); clear hK K)); refine hK _ ?_; clear hK K) | ((first | refine aops_k fun K1 hK1 => ?_ | refine aqops_k fun K1 hK1 => ?_ | refine awp_cond_k fun A B hA hB => ?_); simp only [S1, simprocAttr, TTRuY, List.length_map, hsz]; first | (refine hK1 _ ?_; clear hK1 K1) | ((first | refine hA ?_ | refine hB ?_); clear hA hB A B) | (refine join_x (v := ?_) (fun hg hk9 => ?_) ?_; rotate_left; (focus (try ((try simp only [BN] at hg); simp only [S1, simprocAttr, TTRuY, List.length_map, hsz, hg] at hk9 ⊢)); first | exact hk9); (refine hK1 _ ?_; clear hK1 K1)) | (((first | (refine ⟨fun hg => hA ?_, fun hg => hB ?_⟩ <;> clear hA hB A B) | refine ⟨fun hg => ?_, fun hg => ?_⟩) <;> (try simp only [BN2] at hg) <;> (try simp only [hg, cond_true, cond_false])) <;> (try (refine hK1 _ ?_; clear hK1 K1)) <;> (try simp only [BN3] at hg))) | (refine awp_seq_k fun K hK => ?_) | ((first | refine awp_region ?_ | refine awp_draw (by kernel_rfl) ?_ | refine awp_block ?_ | refine awp_exit ?_ | refine awp_skip ?_ | refine awp_ret ?_); (try simp only [NB, simprocAttr])))
    all_goals simp only [EndP, FinP, resA, resL, resA1, lastV, lastA, lastAs, pur, purs, take_app, List.take_length, S1, simprocAttr, TTRuY, Nat.le_add_right, Nat.le_refl]
  | false =>
    have e : largeN ns fl = (lgS (termsN ns fl) 1 1500).1 := by unfold largeN; rw [hsz]; rfl
    have hn : ns.length ≤ 100 := by simp at hsz; omega
    have hl : fl.length ≤ 100 := by simp at hsz; omega
    rw [e]
    let m := fun j => (lgS ((ns.map (·.term)).take j) 1 1500)
    let m2 := fun j => (lgS (ns.map (·.term) ++ (fl.map (·.cond)).take j) 1 1500)
    refine acalls_pure (rl := []) mixed Tryd.func8 rfl (rs := [.tmp 2]) rfl Tryd.ntmps8 (by simp) ?_
    repeat' (first | ((first | refine aops_nil ?_ | refine aqops_nil ?_); (try simp only [NB])) | ((repeat ((fail_if_success (refine hK _ ?_)); clear hK K)); refine hK _ ?_; clear hK K) | ((first | refine aops_k fun K1 hK1 => ?_ | refine aqops_k fun K1 hK1 => ?_ | refine awp_cond_k fun A B hA hB => ?_); simp only [S1, simprocAttr, TTRuY, List.length_map, hsz]; first | (refine hK1 _ ?_; clear hK1 K1) | ((first | refine hA ?_ | refine hB ?_); clear hA hB A B) | (refine join_x (v := ?_) (fun hg hk9 => ?_) ?_; rotate_left; (focus (try ((try simp only [BN] at hg); simp only [S1, simprocAttr, TTRuY, List.length_map, hsz, hg] at hk9 ⊢)); first | exact hk9); (refine hK1 _ ?_; clear hK1 K1)) | (((first | (refine ⟨fun hg => hA ?_, fun hg => hB ?_⟩ <;> clear hA hB A B) | refine ⟨fun hg => ?_, fun hg => ?_⟩) <;> (try simp only [BN2] at hg) <;> (try simp only [hg, cond_true, cond_false])) <;> (try (refine hK1 _ ?_; clear hK1 K1)) <;> (try simp only [BN3] at hg))) | (refine awp_seq_k fun K hK => ?_) | ((first | refine awp_region ?_ | refine awp_draw (by kernel_rfl) ?_ | refine awp_block ?_ | refine awp_exit ?_ | refine awp_skip ?_ | refine awp_ret ?_); (try simp only [NB, simprocAttr])))
    refine awp_for ns.length 44 (fun j => [(23, .i j), (22, .i ns.length), (21, .p (.sl (ns.map eN))), (3, .ptr (h.length + 1) 0 0), (1, .ptr h.length 0 0)])
      (fun j => [some ⟨0, cNet ns fl⟩, some ⟨0, [.i (m j).2]⟩]) (fun j => (m j).1 = false) ?_ (by simp [m, lgS]) fun j hj hp K hK => ?_
    · have e0 : (m 0).2 = 1500 := by simp [m, lgS]
      simp only [e0]
      (refine ⟨rfl, (by first | exact ⟨_, rfl⟩ | exact ⟨[], by simp⟩), ?_, ?_⟩ <;> simp only [keeps, avlt, avlts, blksLt, frL, upd_get, S1, simprocAttr, List.length_map, Int.natCast_zero, AV.p.injEq, PV.int.injEq, PV.bool.injEq, PV.sl.injEq] <;> (try and_intros) <;> (try assumption) <;> (try trivial) <;> (try omega))
    rcases Nat.lt_or_ge j ns.length with hlt | hge
    · obtain ⟨k, hx⟩ : ∃ k, ns[j]? = some k := ⟨_, List.getElem?_eq_getElem hlt⟩
      have hx2 : (ns.map (·.term))[j]? = some k.term := by simp [hx]
      have hr := lgS_room (l := (ns.map (·.term)).take j) (d := 1) (n := 1500) (by omega)
      have hd := fun A L => deepL_at (G := G) k.term (m j).2 (hr.2.2 hp) (by have := hr.2.1; show (lgS _ _ _).2 ≤ 3000; omega) h A L
      cases hq : (lgT k.term 1 (m j).2).1 with
      | false =>
        have hs := lgS_take hx2 hp
        rw [hq] at hd
        repeat' (first | ((first | refine aops_nil ?_ | refine aqops_nil ?_); (try simp only [NB])) | ((repeat ((fail_if_success (refine hK _ ?_)); clear hK K)); refine hK _ ?_; clear hK K) | ((first | refine aops_k fun K1 hK1 => ?_ | refine aqops_k fun K1 hK1 => ?_ | refine awp_cond_k fun A B hA hB => ?_); simp only [S1, simprocAttr, TTRuY, rowN hx, hitN hlt, nextN hn hlt, eN, List.length_map]; first | (refine hK1 _ ?_; clear hK1 K1) | ((first | refine hA ?_ | refine hB ?_); clear hA hB A B) | ((first | apply call_a E20 | apply call_q E20); exact (hd _ _); (refine hK1 _ ?_; clear hK1 K1)) | (refine join_x (v := ?_) (fun hg hk9 => ?_) ?_; rotate_left; (focus (try ((try simp only [BN] at hg); simp only [S1, simprocAttr, TTRuY, rowN hx, hitN hlt, nextN hn hlt, eN, List.length_map, hg] at hk9 ⊢)); first | exact hk9 | ((first | apply call_a E20 | apply call_q E20); exact (hd _ _); exact hk9)); (refine hK1 _ ?_; clear hK1 K1)) | (((first | (refine ⟨fun hg => hA ?_, fun hg => hB ?_⟩ <;> clear hA hB A B) | refine ⟨fun hg => ?_, fun hg => ?_⟩) <;> (try simp only [BN2] at hg) <;> (try simp only [hg, cond_true, cond_false])) <;> (try (refine hK1 _ ?_; clear hK1 K1)) <;> (try simp only [BN3] at hg))) | (refine awp_seq_k fun K hK => ?_) | ((first | refine awp_region ?_ | refine awp_draw (by kernel_rfl) ?_ | refine awp_block ?_ | refine awp_exit ?_ | refine awp_skip ?_ | refine awp_ret ?_); (try simp only [NB, simprocAttr])))
        refine ⟨hlt, by show (lgS _ _ _).1 = false; rw [hs]; exact hq, ?_⟩
        have em : m (j + 1) = lgT k.term 1 (m j).2 := hs
        rw [em]
        (refine ⟨rfl, (by first | exact ⟨_, rfl⟩ | exact ⟨[], by simp⟩), ?_, ?_⟩ <;> simp only [keeps, avlt, avlts, blksLt, frL, upd_get, S1, simprocAttr, List.length_map, Int.natCast_zero, AV.p.injEq, PV.int.injEq, PV.bool.injEq, PV.sl.injEq] <;> (try and_intros) <;> (try assumption) <;> (try trivial) <;> (try omega))
      | true =>
        have hs : (lgS (termsN ns fl) 1 1500).1 = true := by
          unfold termsN
          rw [lgS_app, lgS_stop hx2 hp hq, if_pos hq]; exact hq
        rw [hq] at hd
        repeat' (first | ((first | refine aops_nil ?_ | refine aqops_nil ?_); (try simp only [NB])) | ((repeat ((fail_if_success (refine hK _ ?_)); clear hK K)); refine hK _ ?_; clear hK K) | ((first | refine aops_k fun K1 hK1 => ?_ | refine aqops_k fun K1 hK1 => ?_ | refine awp_cond_k fun A B hA hB => ?_); simp only [S1, simprocAttr, TTRuY, rowN hx, hitN hlt, nextN hn hlt, eN, List.length_map]; first | (refine hK1 _ ?_; clear hK1 K1) | ((first | refine hA ?_ | refine hB ?_); clear hA hB A B) | ((first | apply call_a E20 | apply call_q E20); exact (hd _ _); (refine hK1 _ ?_; clear hK1 K1)) | (refine join_x (v := ?_) (fun hg hk9 => ?_) ?_; rotate_left; (focus (try ((try simp only [BN] at hg); simp only [S1, simprocAttr, TTRuY, rowN hx, hitN hlt, nextN hn hlt, eN, List.length_map, hg] at hk9 ⊢)); first | exact hk9 | ((first | apply call_a E20 | apply call_q E20); exact (hd _ _); exact hk9)); (refine hK1 _ ?_; clear hK1 K1)) | (((first | (refine ⟨fun hg => hA ?_, fun hg => hB ?_⟩ <;> clear hA hB A B) | refine ⟨fun hg => ?_, fun hg => ?_⟩) <;> (try simp only [BN2] at hg) <;> (try simp only [hg, cond_true, cond_false])) <;> (try (refine hK1 _ ?_; clear hK1 K1)) <;> (try simp only [BN3] at hg))) | (refine awp_seq_k fun K hK => ?_) | ((first | refine awp_region ?_ | refine awp_draw (by kernel_rfl) ?_ | refine awp_block ?_ | refine awp_exit ?_ | refine awp_skip ?_ | refine awp_ret ?_); (try simp only [NB, simprocAttr])))
        all_goals simp only [EndP, FinP, resA, resL, resA1, lastV, lastA, lastAs, pur, purs, take_app, List.take_length, S1, simprocAttr, TTRuY, Nat.le_add_right, Nat.le_refl]
        all_goals rw [hs]
    obtain rfl : j = ns.length := by omega
    have ef : (ns.map (·.term)).take ns.length = ns.map (·.term) := List.take_of_length_le (by simp)
    have hp0 : (lgS (ns.map (·.term)) 1 1500).1 = false := by have := hp; simp only [m, ef] at this; exact this
    have m0 : m2 0 = m ns.length := by simp only [m, m2, ef, List.take_zero, List.append_nil]
    repeat' (first | ((first | refine aops_nil ?_ | refine aqops_nil ?_); (try simp only [NB])) | ((repeat ((fail_if_success (refine hK _ ?_)); clear hK K)); refine hK _ ?_; clear hK K) | ((first | refine aops_k fun K1 hK1 => ?_ | refine aqops_k fun K1 hK1 => ?_ | refine awp_cond_k fun A B hA hB => ?_); simp only [S1, simprocAttr, TTRuY, endN, List.length_map]; first | (refine hK1 _ ?_; clear hK1 K1) | ((first | refine hA ?_ | refine hB ?_); clear hA hB A B) | (refine join_x (v := ?_) (fun hg hk9 => ?_) ?_; rotate_left; (focus (try ((try simp only [BN] at hg); simp only [S1, simprocAttr, TTRuY, endN, List.length_map, hg] at hk9 ⊢)); first | exact hk9); (refine hK1 _ ?_; clear hK1 K1)) | (((first | (refine ⟨fun hg => hA ?_, fun hg => hB ?_⟩ <;> clear hA hB A B) | refine ⟨fun hg => ?_, fun hg => ?_⟩) <;> (try simp only [BN2] at hg) <;> (try simp only [hg, cond_true, cond_false])) <;> (try (refine hK1 _ ?_; clear hK1 K1)) <;> (try simp only [BN3] at hg))) | (refine awp_seq_k fun K hK => ?_) | ((first | refine awp_region ?_ | refine awp_draw (by kernel_rfl) ?_ | refine awp_block ?_ | refine awp_exit ?_ | refine awp_skip ?_ | refine awp_ret ?_); (try simp only [NB, simprocAttr])))
    refine awp_for fl.length 44 (fun j => [(35, .i j), (34, .i fl.length), (33, .p (.sl (fl.map eF))), (3, .ptr (h.length + 1) 0 0), (1, .ptr h.length 0 0)])
      (fun j => [some ⟨0, cNet ns fl⟩, some ⟨0, [.i (m2 j).2]⟩]) (fun j => (m2 j).1 = false) ?_ (by rw [m0]; exact hp) fun j hj hp K hK => ?_
    · simp only [m0]
      (refine ⟨rfl, (by first | exact ⟨_, rfl⟩ | exact ⟨[], by simp⟩), ?_, ?_⟩ <;> simp only [keeps, avlt, avlts, blksLt, frL, upd_get, S1, simprocAttr, List.length_map, Int.natCast_zero, AV.p.injEq, PV.int.injEq, PV.bool.injEq, PV.sl.injEq] <;> (try and_intros) <;> (try assumption) <;> (try trivial) <;> (try omega))
    rcases Nat.lt_or_ge j fl.length with hlt | hge
    · obtain ⟨k, hx⟩ : ∃ k, fl[j]? = some k := ⟨_, List.getElem?_eq_getElem hlt⟩
      have hx2 : (termsN ns fl)[ns.length + j]? = some k.cond := by
        unfold termsN
        rw [List.getElem?_append_right (by simp)]
        simp [hx]
      have et : ∀ i, i ≤ fl.length → (termsN ns fl).take (ns.length + i) = ns.map (·.term) ++ (fl.map (·.cond)).take i := by
        intro i hi
        unfold termsN
        have : ns.length = (ns.map (·.term)).length := by simp
        rw [this, List.take_length_add_append]
      have hp' : (lgS ((termsN ns fl).take (ns.length + j)) 1 1500).1 = false := by rw [et j hj]; exact hp
      have em2 : (lgS ((termsN ns fl).take (ns.length + j)) 1 1500) = m2 j := by rw [et j hj]
      have hr := lgS_room (l := ns.map (·.term) ++ (fl.map (·.cond)).take j) (d := 1) (n := 1500) (by omega)
      have hd := fun A L => deepL_at (G := G) k.cond (m2 j).2 (hr.2.2 hp) (by have := hr.2.1; show (lgS _ _ _).2 ≤ 3000; omega) h A L
      cases hq : (lgT k.cond 1 (m2 j).2).1 with
      | false =>
        have hs := lgS_take hx2 hp'
        rw [em2] at hs
        have em : m2 (j + 1) = lgT k.cond 1 (m2 j).2 := by
          rw [← hs, Nat.add_assoc, et (j + 1) hlt]
        rw [hq] at hd
        repeat' (first | ((first | refine aops_nil ?_ | refine aqops_nil ?_); (try simp only [NB])) | ((repeat ((fail_if_success (refine hK _ ?_)); clear hK K)); refine hK _ ?_; clear hK K) | ((first | refine aops_k fun K1 hK1 => ?_ | refine aqops_k fun K1 hK1 => ?_ | refine awp_cond_k fun A B hA hB => ?_); simp only [S1, simprocAttr, TTRuY, rowF hx, hitF hlt, nextF hl hlt, eF, List.length_map]; first | (refine hK1 _ ?_; clear hK1 K1) | ((first | refine hA ?_ | refine hB ?_); clear hA hB A B) | ((first | apply call_a E20 | apply call_q E20); exact (hd _ _); (refine hK1 _ ?_; clear hK1 K1)) | (refine join_x (v := ?_) (fun hg hk9 => ?_) ?_; rotate_left; (focus (try ((try simp only [BN] at hg); simp only [S1, simprocAttr, TTRuY, rowF hx, hitF hlt, nextF hl hlt, eF, List.length_map, hg] at hk9 ⊢)); first | exact hk9 | ((first | apply call_a E20 | apply call_q E20); exact (hd _ _); exact hk9)); (refine hK1 _ ?_; clear hK1 K1)) | (((first | (refine ⟨fun hg => hA ?_, fun hg => hB ?_⟩ <;> clear hA hB A B) | refine ⟨fun hg => ?_, fun hg => ?_⟩) <;> (try simp only [BN2] at hg) <;> (try simp only [hg, cond_true, cond_false])) <;> (try (refine hK1 _ ?_; clear hK1 K1)) <;> (try simp only [BN3] at hg))) | (refine awp_seq_k fun K hK => ?_) | ((first | refine awp_region ?_ | refine awp_draw (by kernel_rfl) ?_ | refine awp_block ?_ | refine awp_exit ?_ | refine awp_skip ?_ | refine awp_ret ?_); (try simp only [NB, simprocAttr])))
        refine ⟨hlt, by rw [em]; exact hq, ?_⟩
        rw [em]
        (refine ⟨rfl, (by first | exact ⟨_, rfl⟩ | exact ⟨[], by simp⟩), ?_, ?_⟩ <;> simp only [keeps, avlt, avlts, blksLt, frL, upd_get, S1, simprocAttr, List.length_map, Int.natCast_zero, AV.p.injEq, PV.int.injEq, PV.bool.injEq, PV.sl.injEq] <;> (try and_intros) <;> (try assumption) <;> (try trivial) <;> (try omega))
      | true =>
        have hs : (lgS (termsN ns fl) 1 1500).1 = true := by
          rw [lgS_stop hx2 hp' (by rw [em2]; exact hq), em2]; exact hq
        rw [hq] at hd
        repeat' (first | ((first | refine aops_nil ?_ | refine aqops_nil ?_); (try simp only [NB])) | ((repeat ((fail_if_success (refine hK _ ?_)); clear hK K)); refine hK _ ?_; clear hK K) | ((first | refine aops_k fun K1 hK1 => ?_ | refine aqops_k fun K1 hK1 => ?_ | refine awp_cond_k fun A B hA hB => ?_); simp only [S1, simprocAttr, TTRuY, rowF hx, hitF hlt, nextF hl hlt, eF, List.length_map]; first | (refine hK1 _ ?_; clear hK1 K1) | ((first | refine hA ?_ | refine hB ?_); clear hA hB A B) | ((first | apply call_a E20 | apply call_q E20); exact (hd _ _); (refine hK1 _ ?_; clear hK1 K1)) | (refine join_x (v := ?_) (fun hg hk9 => ?_) ?_; rotate_left; (focus (try ((try simp only [BN] at hg); simp only [S1, simprocAttr, TTRuY, rowF hx, hitF hlt, nextF hl hlt, eF, List.length_map, hg] at hk9 ⊢)); first | exact hk9 | ((first | apply call_a E20 | apply call_q E20); exact (hd _ _); exact hk9)); (refine hK1 _ ?_; clear hK1 K1)) | (((first | (refine ⟨fun hg => hA ?_, fun hg => hB ?_⟩ <;> clear hA hB A B) | refine ⟨fun hg => ?_, fun hg => ?_⟩) <;> (try simp only [BN2] at hg) <;> (try simp only [hg, cond_true, cond_false])) <;> (try (refine hK1 _ ?_; clear hK1 K1)) <;> (try simp only [BN3] at hg))) | (refine awp_seq_k fun K hK => ?_) | ((first | refine awp_region ?_ | refine awp_draw (by kernel_rfl) ?_ | refine awp_block ?_ | refine awp_exit ?_ | refine awp_skip ?_ | refine awp_ret ?_); (try simp only [NB, simprocAttr])))
        all_goals simp only [EndP, FinP, resA, resL, resA1, lastV, lastA, lastAs, pur, purs, take_app, List.take_length, S1, simprocAttr, TTRuY, Nat.le_add_right, Nat.le_refl]
        all_goals rw [hs]
    obtain rfl : j = fl.length := by omega
    have ef2 : (fl.map (·.cond)).take fl.length = fl.map (·.cond) := List.take_of_length_le (by simp)
    have hs : (lgS (termsN ns fl) 1 1500).1 = false := by have := hp; simp only [m2, ef2] at this; exact this
    repeat' (first | ((first | refine aops_nil ?_ | refine aqops_nil ?_); (try simp only [NB])) | ((repeat ((fail_if_success (refine hK _ ?_)); clear hK K)); refine hK _ ?_; clear hK K) | ((first | refine aops_k fun K1 hK1 => ?_ | refine aqops_k fun K1 hK1 => ?_ | refine awp_cond_k fun A B hA hB => ?_); simp only [S1, simprocAttr, TTRuY, endF]; first | (refine hK1 _ ?_; clear hK1 K1) | ((first | refine hA ?_ | refine hB ?_); clear hA hB A B) | (refine join_x (v := ?_) (fun hg hk9 => ?_) ?_; rotate_left; (focus (try ((try simp only [BN] at hg); simp only [S1, simprocAttr, TTRuY, endF, hg] at hk9 ⊢)); first | exact hk9); (refine hK1 _ ?_; clear hK1 K1)) | (((first | (refine ⟨fun hg => hA ?_, fun hg => hB ?_⟩ <;> clear hA hB A B) | refine ⟨fun hg => ?_, fun hg => ?_⟩) <;> (try simp only [BN2] at hg) <;> (try simp only [hg, cond_true, cond_false])) <;> (try (refine hK1 _ ?_; clear hK1 K1)) <;> (try simp only [BN3] at hg))) | (refine awp_seq_k fun K hK => ?_) | ((first | refine awp_region ?_ | refine awp_draw (by kernel_rfl) ?_ | refine awp_block ?_ | refine awp_exit ?_ | refine awp_skip ?_ | refine awp_ret ?_); (try simp only [NB, simprocAttr])))
    all_goals simp only [EndP, FinP, resA, resL, resA1, lastV, lastA, lastAs, pur, purs, take_app, List.take_length, S1, simprocAttr, TTRuY, Nat.le_add_right, Nat.le_refl]
    all_goals rw [hs]
end Go.Proofs.YtjpphhcimpclpaaDoor.AM
end

section
set_option linter.unusedVariables false
set_option linter.unusedSimpArgs false
namespace Go.Proofs.YtjpphhcimpclpaaDoor.AM
open Go Go.ChangeShapes Go.WideShapes Go.RowKit

mutual
/-- The cells of a datum. -/
def cellsD {H : Type} : DataW H → List PV
  | .lit (.bool b) => [.bool b]
  | .lit (.int k n) => [.int k n]
  | .lit (.string l) => [.str ⟨l.toArray⟩]
  | .lit _ => []
  | .nil => [.sl []]
  | .slice elems _ => [.sl (rowsD elems)]
  | .agg parts => partsD parts
  | .ptr _ => []
  | .iface _ _ => []
  | .map _ => []
  | .held _ => []
def rowsD {H : Type} : List (DataW H) → List (List PV)
  | [] => []
  | d :: r => cellsD d :: rowsD r
def partsD {H : Type} : List (DataW H) → List PV
  | [] => []
  | d :: r => cellsD d ++ partsD r
end

/-- Types that are read as plain data, and lie in a row. -/
def plainT (P : Program) (S : List Nat) (t : Nat) : Bool :=
  match P.underlying t with
  | some .bool | some (.int _) | some .string => P.cellsOf t == 1
  | some (.slice e) => S.contains e && decide (0 < P.cellsOf e) && P.cellsOf t == 1
  | some (.array n e) => S.contains e && P.cellsOf t == n * P.cellsOf e
  | some (.struct fs) => fs.toList.all (fun f => S.contains f.type) &&
      (fs.toList.foldl (fun (acc : Option Nat) f => acc.bind fun o => if f.offset == o then some (o + P.cellsOf f.type) else none) (some 0) == some (P.cellsOf t))
  | _ => false

def plainB (P : Program) (S : List Nat) : Bool := S.all (plainT P S)

/-- Typed cells. -/
def Ty (P : Program) : Nat → Nat → List PV → Prop
  | 0, _, _ => False
  | fuel + 1, t, xs =>
    match P.underlying t with
    | some .bool => ∃ b, xs = [.bool b]
    | some (.int k) => ∃ n, InRange k n ∧ xs = [.int k n]
    | some .string => ∃ s, xs = [.str s]
    | some (.slice e) => ∃ rows, xs = [.sl rows] ∧ ∀ row ∈ rows, Ty P fuel e row
    | some (.array n e) => ∃ rows : List (List PV), rows.length = n ∧ xs = rows.flatMap id ∧ ∀ row ∈ rows, Ty P fuel e row
    | some (.struct fs) => ∃ rows : List (List PV), rows.length = fs.size ∧ xs = rows.flatMap id ∧ ∀ (i : Nat) f row, fs[i]? = some f → rows[i]? = some row → Ty P fuel f.type row
    | _ => False

def LR (w : World) (xs : List PV) (cs : List Value) : Prop := xs.length = cs.length ∧ ∀ (i : Nat) x v, xs[i]? = some x → cs[i]? = some v → PRel w (fun _ => False) x v

section
variable {P : Program} {w : World} {H : Type} {enc : TypeId × Value → H} {spare : Nat → Bool} {held : Bool}

theorem mapM_some' {α β : Type} {f : α → Option β} : ∀ {l : List α} {r : List β}, l.mapM f = some r → r.length = l.length ∧ ∀ (i : Nat) x y, l[i]? = some x → r[i]? = some y → f x = some y
  | [], r, h => by simp at h; subst h; simp
  | a :: l, r, h => by
    simp only [List.mapM_cons] at h
    cases ha : f a with
    | none => simp [ha] at h
    | some b =>
      cases hl : l.mapM f with
      | none => simp [ha, hl] at h
      | some bs =>
        simp [ha, hl] at h
        subst h
        obtain ⟨l1, l2⟩ := mapM_some' hl
        refine ⟨by simp [l1], fun i x y hx hy => ?_⟩
        cases i with
        | zero => simp at hx hy; rw [← hx, ← hy]; exact ha
        | succ i => simp at hx hy; exact l2 i x y hx hy

theorem LR.append {xs ys : List PV} {cs ds : List Value} (h1 : LR w xs cs) (h2 : LR w ys ds) : LR w (xs ++ ys) (cs ++ ds) := by
  refine ⟨by simp [h1.1, h2.1], fun i x v hx hv => ?_⟩
  by_cases hi : i < xs.length
  · rw [List.getElem?_append_left hi] at hx
    rw [List.getElem?_append_left (by rw [← h1.1]; exact hi)] at hv
    exact h1.2 i x v hx hv
  · rw [List.getElem?_append_right (by omega)] at hx
    rw [List.getElem?_append_right (by rw [← h1.1]; omega), ← h1.1] at hv
    exact h2.2 _ x v hx hv

theorem rowsD_get (ds : List (DataW H)) : ∀ i : Nat, (rowsD ds)[i]? = (ds[i]?).map cellsD := by
  induction ds with
  | nil => intro i; simp [rowsD]
  | cons d r ih => intro i; cases i with
    | zero => simp [rowsD]
    | succ i => simp [rowsD, ih]

theorem rowsD_length (ds : List (DataW H)) : (rowsD ds).length = ds.length := by
  induction ds with
  | nil => rfl
  | cons d r ih => simp [rowsD, ih]

theorem partsD_eq (ds : List (DataW H)) : partsD ds = (rowsD ds).flatMap id := by
  induction ds with
  | nil => rfl
  | cons d r ih => simp [partsD, rowsD, ih]

/-- Rows that lie behind each other. -/
theorem LR.rows : ∀ (rows : List (List PV)) (sizes : List Nat) (cs : List Value), rows.length = sizes.length → cs.length = sizes.foldl (· + ·) 0 →
    (∀ (i : Nat) row n, rows[i]? = some row → sizes[i]? = some n → LR w row ((cs.drop ((sizes.take i).foldl (· + ·) 0)).take n)) → LR w (rows.flatMap id) cs := by
  have hf : ∀ (l : List Nat) (a : Nat), l.foldl (· + ·) a = a + l.foldl (· + ·) 0 := by
    intro l
    induction l with
    | nil => intro a; rfl
    | cons x r ih => intro a; simp only [List.foldl_cons]; rw [ih, ih (0 + x)]; omega
  intro rows
  induction rows with
  | nil =>
    intro sizes cs hl hc _
    cases sizes with
    | nil => simp at hc; subst hc; exact ⟨rfl, fun i x v hx => by simp at hx⟩
    | cons => simp at hl
  | cons row rest ih =>
    intro sizes cs hl hc h
    cases sizes with
    | nil => simp at hl
    | cons n ns =>
      simp only [List.foldl_cons] at hc
      rw [hf] at hc
      have h0 := h 0 row n rfl rfl
      simp at h0
      have hrest : LR w (rest.flatMap id) (cs.drop n) := by
        refine ih ns (cs.drop n) (by simpa using hl) (by simp; omega) fun i r m hr hm => ?_
        have := h (i + 1) r m (by simpa using hr) (by simpa using hm)
        simp only [List.take_succ_cons, List.foldl_cons] at this
        rw [hf] at this
        rw [List.drop_drop]
        simpa using this
      have := h0.append hrest
      simpa using this

theorem cells?_some {a : Addr} {n : Nat} {cs : List Value} (h : w.cells? 0 a n = some cs) : cs.length = n ∧ ∀ (i : Nat) v, cs[i]? = some v → w.cell? (a.add i) = some v := by
  unfold World.cells? at h
  simp only [Nat.zero_le, if_true] at h
  obtain ⟨l1, l2⟩ := mapM_some' h
  refine ⟨by simpa using l1, fun i v hv => ?_⟩
  have hi : i < n := by have := getElem?_lt hv; simp at l1; omega
  exact l2 i i v (by simp [hi]) hv

theorem trodPV {S : List Nat} (hS : plainB P S = true) : ∀ (fuel t : Nat) (cs : List Value) (x : DataW H × List MemPlace), t ∈ S → DataW.trod enc P w 0 spare held fuel t cs = some x →
    LR w (cellsD x.1) cs ∧ Ty P fuel t (cellsD x.1) ∧ cs.length = P.cellsOf t := by
  have hpl : ∀ t ∈ S, plainT P S t = true := by simpa [plainB] using hS
  intro fuel
  induction fuel with
  | zero => intro t cs x _ h; simp [DataW.trod] at h
  | succ fuel ih =>
    intro t cs x ht h
    have hp := hpl t ht
    unfold plainT at hp
    unfold Ty
    have one : ∀ (y : PV) (v : Value), PRel w (fun _ => False) y v → LR w [y] [v] := by
      intro y v hy
      refine ⟨rfl, fun i x v hx hv => ?_⟩
      cases i with
      | zero => simp at hx hv; rw [← hx, ← hv]; exact hy
      | succ i => simp at hx
    cases hu : P.underlying t with
    | none => rw [hu] at hp; simp at hp
    | some d =>
      rw [hu] at hp
      cases d with
      | bool =>
        simp only [beq_iff_eq] at hp
        obtain ⟨b, rfl, rfl⟩ := DataW.trod_bool hu h
        exact ⟨one _ _ (.bool b), ⟨b, rfl⟩, hp.symm⟩
      | int k =>
        simp only [beq_iff_eq] at hp
        obtain ⟨n, rfl, rfl, hw⟩ := DataW.trod_int hu h
        have hr : InRange k n := by
          simp only [Lit.wf] at hw
          unfold InRange
          simpa using hw
        exact ⟨one _ _ (.int _ _ hr), ⟨n, hr, rfl⟩, hp.symm⟩
      | string =>
        simp only [beq_iff_eq] at hp
        obtain ⟨s, rfl, rfl, hs⟩ := DataW.trod_string hu h
        have hm : s.size ≤ 9223372036854775807 := by unfold maxLen at hs; omega
        have e : (⟨s.data.toList.toArray⟩ : ByteArray) = s := by simp
        refine ⟨?_, ⟨_, rfl⟩, hp.symm⟩
        simp only [cellsD, e]
        exact one _ _ (.str s hm)
      | slice e =>
        simp only [Bool.and_eq_true, beq_iff_eq, decide_eq_true_eq, List.contains_iff_mem] at hp
        obtain ⟨⟨he, hpos⟩, h1⟩ := hp
        rcases DataW.trod_slice hu h with ⟨rfl, rfl⟩ | ⟨a, len, cap, elems, rest, m, hm, rfl, rfl, _, hlc, hcm, m1, m2, _⟩
        · exact ⟨one _ _ (.slz _ _), ⟨[], rfl, by simp⟩, h1.symm⟩
        · have : m = fuel := by omega
          subst this
          have hrow : ∀ (i : Nat) y, elems[i]? = some y → ∃ rc, w.cells? 0 (a.add (i * P.cellsOf e)) (P.cellsOf e) = some rc ∧ LR w (cellsD y.1) rc ∧ Ty P m e (cellsD y.1) := by
            intro i y hy
            have hi : i < len := by have := getElem?_lt hy; omega
            have := m2 i hi
            rw [hy] at this
            obtain ⟨rc, hrc, ht'⟩ := Option.bind_eq_some_iff.mp this
            obtain ⟨q1, q2, _⟩ := ih e rc y he ht'
            exact ⟨rc, hrc, q1, q2⟩
          have hrg : ∀ i : Nat, (rowsD (elems.map (·.1)))[i]? = (elems[i]?).map fun y => cellsD y.1 := by
            intro i; rw [rowsD_get]; simp
            cases elems[i]? <;> rfl
          have hrl : (rowsD (elems.map (·.1))).length = len := by rw [rowsD_length]; simp [m1]
          have hmem : ∀ row ∈ rowsD (elems.map (·.1)), ∃ (i : Nat) (y : DataW H × List MemPlace), elems[i]? = some y ∧ cellsD y.1 = row := by
            intro row hr
            obtain ⟨i, hi, rfl⟩ := List.getElem_of_mem hr
            have h1 : (rowsD (elems.map (·.1)))[i]? = some ((rowsD (elems.map (·.1)))[i]) := List.getElem?_eq_getElem hi
            rw [hrg] at h1
            obtain ⟨y, hy, hye⟩ := Option.map_eq_some_iff.mp h1
            exact ⟨i, y, hy, hye⟩
          have hcd : cellsD (DataW.slice (elems.map (·.1)) (rest.map (·.1))) = [.sl (rowsD (elems.map (fun y : DataW H × List MemPlace => y.1)))] := by simp only [cellsD]
          show LR w (cellsD (DataW.slice (elems.map (·.1)) (rest.map (·.1)))) _ ∧ (∃ rows, cellsD (DataW.slice (elems.map (·.1)) (rest.map (·.1))) = [.sl rows] ∧ ∀ row ∈ rows, Ty P m e row) ∧ _
          rw [hcd]
          refine ⟨one (.sl (rowsD (elems.map (fun y : DataW H × List MemPlace => y.1)))) _ ?_, ⟨_, rfl, fun row hr => ?_⟩, h1.symm⟩
          · by_cases hz : len = 0
            · have : rowsD (elems.map (·.1)) = [] := List.eq_nil_of_length_eq_zero (by omega)
              rw [this, hz]
              exact .slz _ _
            · obtain ⟨y0, hy0⟩ : ∃ y, elems[0]? = some y := ⟨elems[0]'(by omega), by simp⟩
              obtain ⟨rc0, hrc0, _, _⟩ := hrow 0 y0 hy0
              obtain ⟨c1, c2⟩ := cells?_some hrc0
              have hc0 : w.cell? a = some (rc0[0]'(by omega)) := by
                have := c2 0 (rc0[0]'(by omega)) (by simp)
                simpa [Addr.add] using this
              have hspot : a.spot = none := by
                unfold World.cell? at hc0
                split at hc0
                · split at hc0
                  · cases hc0
                  · rename_i hs; simpa using hs
                · cases hc0
              obtain ⟨blk, off, sp⟩ := a
              simp only at hspot
              subst hspot
              have hb := block_lt_of_cell hc0
              have hf : ∀ q : Nat × Nat, ∃ v, ∀ x, get2 (rowsD (elems.map (·.1))) q.1 q.2 = some x → w.cell? ⟨blk, off + (q.1 * P.cellsOf e + q.2), none⟩ = some v ∧ PRel w (fun _ => False) x v := by
                intro q
                cases hq : get2 (rowsD (elems.map (·.1))) q.1 q.2 with
                | none => exact ⟨undef, fun x hx => by cases hx⟩
                | some x =>
                  unfold get2 at hq
                  obtain ⟨row, hr1, hr2⟩ := Option.bind_eq_some_iff.mp hq
                  rw [hrg] at hr1
                  obtain ⟨y, hy, rfl⟩ := Option.map_eq_some_iff.mp hr1
                  obtain ⟨rc, hrc, ⟨l1, l2⟩, _⟩ := hrow q.1 y hy
                  obtain ⟨d1, d2⟩ := cells?_some hrc
                  have hj : q.2 < rc.length := by have := getElem?_lt hr2; omega
                  refine ⟨rc[q.2], fun x' hx' => ?_⟩
                  cases hx'
                  refine ⟨?_, l2 q.2 x rc[q.2] hr2 (by simp)⟩
                  have := d2 q.2 rc[q.2] (by simp)
                  rw [Addr.add_lit, Addr.add_lit] at this
                  rw [← Nat.add_assoc]
                  exact this
              obtain ⟨f, hf⟩ := Classical.axiomOfChoice hf
              have := PRel.sl (w := w) (own := fun _ => False) (rowsD (elems.map (·.1))) blk off cap (P.cellsOf e) (fun i j => f (i, j)) (by omega) (by unfold maxLen at hcm; omega) (fun h => h) hb
                (fun row hr => by
                  obtain ⟨i, y, hy, hye⟩ := hmem row hr
                  obtain ⟨rc, hrc, ⟨l1, _⟩, _⟩ := hrow i y hy
                  rw [← hye, l1, (cells?_some hrc).1])
                (fun i j x hx => (hf (i, j) x hx).1) (fun i j x hx => (hf (i, j) x hx).2)
              rwa [hrl] at this
          · obtain ⟨i, y, hy, hye⟩ := hmem row hr
            obtain ⟨rc, hrc, _, q⟩ := hrow i y hy
            rw [← hye]; exact q
      | array n e =>
        simp only [Bool.and_eq_true, beq_iff_eq, List.contains_iff_mem] at hp
        obtain ⟨he, hc⟩ := hp
        obtain ⟨xs, m, hm, rfl, hlen, m1, m2⟩ := DataW.trod_array hu h
        have : m = fuel := by omega
        subst this
        have hrg : ∀ i : Nat, (rowsD (xs.map (·.1)))[i]? = (xs[i]?).map fun y => cellsD y.1 := by
          intro i; rw [rowsD_get]; simp
          cases xs[i]? <;> rfl
        have hrl : (rowsD (xs.map (·.1))).length = n := by rw [rowsD_length]; simp [m1]
        have hrow : ∀ (i : Nat) y, xs[i]? = some y → LR w (cellsD y.1) ((cs.drop (i * P.cellsOf e)).take (P.cellsOf e)) ∧ Ty P m e (cellsD y.1) := by
          intro i y hy
          have hi : i < n := by have := getElem?_lt hy; omega
          obtain ⟨q1, q2, _⟩ := ih e _ y he ((m2 i hi).trans hy)
          exact ⟨q1, q2⟩
        refine ⟨?_, ⟨rowsD (xs.map (·.1)), hrl, by simp only [cellsD, partsD_eq], fun row hr => ?_⟩, hlen⟩
        · simp only [cellsD, partsD_eq]
          have hsum : ∀ m : Nat, (List.replicate m (P.cellsOf e)).foldl (· + ·) 0 = m * P.cellsOf e := by
            intro m
            have hf : ∀ (l : List Nat) (a : Nat), l.foldl (· + ·) a = a + l.foldl (· + ·) 0 := by
              intro l
              induction l with
              | nil => intro a; rfl
              | cons x r ih => intro a; simp only [List.foldl_cons]; rw [ih, ih (0 + x)]; omega
            induction m with
            | zero => simp
            | succ m ih => rw [List.replicate_succ, List.foldl_cons, hf, ih, Nat.succ_mul]; omega
          refine LR.rows _ (List.replicate n (P.cellsOf e)) cs (by simp [hrl]) (by rw [hsum, hlen, hc]) fun i row k hr hk => ?_
          rw [hrg] at hr
          obtain ⟨y, hy, rfl⟩ := Option.map_eq_some_iff.mp hr
          have hi : i < n := by have := getElem?_lt hy; omega
          rw [List.getElem?_replicate, if_pos hi] at hk
          cases hk
          rw [List.take_replicate, show min i n = i by omega, hsum]
          exact (hrow i y hy).1
        · obtain ⟨i, hi, rfl⟩ := List.getElem_of_mem hr
          have h1 : (rowsD (xs.map (·.1)))[i]? = some ((rowsD (xs.map (·.1)))[i]) := List.getElem?_eq_getElem hi
          rw [hrg] at h1
          obtain ⟨y, hy, hye⟩ := Option.map_eq_some_iff.mp h1
          rw [← hye]; exact (hrow i y hy).2
      | struct fs =>
        rw [Bool.and_eq_true, List.all_eq_true, beq_iff_eq] at hp
        obtain ⟨hfs0, hoff⟩ := hp
        have hfs : ∀ f ∈ fs.toList, f.type ∈ S := fun f hf => by simpa using hfs0 f hf
        obtain ⟨xs, m, hm, rfl, hlen, m1, m2⟩ := DataW.trod_struct hu h
        have : m = fuel := by omega
        subst this
        have hrg : ∀ i : Nat, (rowsD (xs.map (·.1)))[i]? = (xs[i]?).map fun y => cellsD y.1 := by
          intro i; rw [rowsD_get]; simp
          cases xs[i]? <;> rfl
        have hrl : (rowsD (xs.map (·.1))).length = fs.toList.length := by rw [rowsD_length]; simp [m1]
        have hrow : ∀ (i : Nat) y f, xs[i]? = some y → fs.toList[i]? = some f → LR w (cellsD y.1) ((cs.drop f.offset).take (P.cellsOf f.type)) ∧ Ty P m f.type (cellsD y.1) := by
          intro i y f hy hf
          obtain ⟨q1, q2, _⟩ := ih f.type _ y (hfs f (List.mem_of_getElem? hf)) ((m2 i f (by simpa using hf)).trans hy)
          exact ⟨q1, q2⟩
        -- the offsets are sums
        have hgen : ∀ (l : List Field) (o tot : Nat), l.foldl (fun (acc : Option Nat) f => acc.bind fun o => if f.offset == o then some (o + P.cellsOf f.type) else none) (some o) = some tot →
            tot = o + (l.map fun f => P.cellsOf f.type).foldl (· + ·) 0 ∧ ∀ (i : Nat) f, l[i]? = some f → f.offset = o + ((l.map fun f => P.cellsOf f.type).take i).foldl (· + ·) 0 := by
          have hf : ∀ (l : List Nat) (a : Nat), l.foldl (· + ·) a = a + l.foldl (· + ·) 0 := by
            intro l
            induction l with
            | nil => intro a; rfl
            | cons x r ih => intro a; simp only [List.foldl_cons]; rw [ih, ih (0 + x)]; omega
          have hnone : ∀ l : List Field, l.foldl (fun (acc : Option Nat) f => acc.bind fun o => if f.offset == o then some (o + P.cellsOf f.type) else none) none = none := by
            intro l; induction l with
            | nil => rfl
            | cons f r ih => simpa using ih
          intro l
          induction l with
          | nil => intro o tot h; simp at h; subst h; simp
          | cons f r ihl =>
            intro o tot h
            simp only [List.foldl_cons, Option.bind_some] at h
            split at h
            · rename_i ho
              obtain ⟨e1, e2⟩ := ihl _ _ h
              refine ⟨by simp only [List.map_cons, List.foldl_cons]; rw [hf]; omega, fun i g hg => ?_⟩
              cases i with
              | zero => simp at hg ho; subst hg; simpa using ho
              | succ i =>
                simp at hg
                have := e2 i g hg
                simp only [List.map_cons, List.take_succ_cons, List.foldl_cons]
                rw [hf]; omega
            · rw [hnone] at h; cases h
        obtain ⟨g1, g2⟩ := hgen fs.toList 0 _ hoff
        refine ⟨?_, ⟨rowsD (xs.map (·.1)), by simpa using hrl, by simp only [cellsD, partsD_eq], fun i f row hf hr => ?_⟩, hlen⟩
        · simp only [cellsD, partsD_eq]
          refine LR.rows _ (fs.toList.map fun f => P.cellsOf f.type) cs (by simpa using hrl) (by omega) fun i row k hr hk => ?_
          rw [hrg] at hr
          obtain ⟨y, hy, rfl⟩ := Option.map_eq_some_iff.mp hr
          simp only [List.getElem?_map, Option.map_eq_some_iff] at hk
          obtain ⟨f, hf, rfl⟩ := hk
          have := g2 i f hf
          rw [Nat.zero_add] at this
          rw [← this]
          exact (hrow i y f hy hf).1
        · rw [hrg] at hr
          obtain ⟨y, hy, rfl⟩ := Option.map_eq_some_iff.mp hr
          exact (hrow i y f hy (by simpa using hf)).2
      | _ => simp at hp

end
end Go.Proofs.YtjpphhcimpclpaaDoor.AM
end

section
set_option linter.unusedVariables false
set_option linter.unusedSimpArgs false
namespace Go.Proofs.YtjpphhcimpclpaaDoor.AM
open Go Go.ChangeShapes Go.WideShapes Go.RowKit

def aggT (P : Program) (t : Nat) : Bool := match P.underlying t with | some (.struct _) | some (.array _ _) => true | _ => false

/-- An argument out of its cells. -/
def argA (P : Program) (t : Nat) (xs : List PV) : AV :=
  if aggT P t then .agg (xs.map .p) else match xs with | x :: _ => .p x | [] => .undef

section
variable {P : Program} {G : Nat → Option (List PV)} {H : Type} {enc : TypeId × Value → H}

/-- 'ChangeSpec.post' where all that was there is as it was. (After the guide's 'post_of_below', howto/extra-small.md, section 9.) -/
theorem post_of_below {f : Func} {s : ChangeSpec} {apart fresh handsOn again : Bool} {W W' : World} {args : Array Value} {v : Value} {ds gs : List (DataW H)} {before pa pv : List MemPlace}
    (hW : DataW.Whole enc P f.params.toList s.vars apart W args.toList ds gs before)
    (hres : ∀ (b : Nat) (sp : Nat → Bool) (hd : Bool), DataW.TrodAll enc P W' b sp hd f.resultTypes.toList (v.resultList f.resultTypes.size) (s.fn H (ds ++ gs)).results [])
    (hargs : ∀ sp : Nat → Bool, (∀ p ∈ before, sp p.block = true) → DataW.TrodAll enc P W' 0 sp true f.params.toList args.toList (s.fn H (ds ++ gs)).args pa)
    (hvars : ∀ sp : Nat → Bool, (∀ p ∈ before, sp p.block = true) → DataW.TrodVars enc P W' sp s.vars (s.fn H (ds ++ gs)).vars pv)
    (hps : before = pa ++ pv) (hb : Below W.heap.size W W')
    (hok : ∀ (j : Nat) (t : TypeId) (r : Value), f.resultTypes[j]? = some t → (v.resultList f.resultTypes.size)[j]? = some r → Value.okWide P W' .any 0 t r) :
    s.post enc P f apart fresh handsOn again W args v W' := by
  have hlt : ∀ p ∈ before, p.block < W.heap.size := fun p hp => hW.lt p hp
  have hold : ∀ p ∈ before, (fun b => decide (b < W.heap.size)) p.block = true := fun p hp => by simpa using hlt p hp
  refine ⟨ds, gs, before, [], pa, pv, hW, hres _ _ _, hargs _ hold, hvars _ hold, World.keptBut_mono (fun p hp => ⟨hp, ?_⟩) (hb.frame (· ∈ before)), fun _ => ?_⟩
  · rw [hps, List.mem_append] at hp
    exact Or.inr hp
  · obtain ⟨_, _, _, _, _, hz, hn⟩ := hW
    refine ⟨hok, _, _, ([] ++ pa) ++ pv, ⟨[] ++ pa, pv, trodAll_append (hargs _ (fun _ _ => rfl)) (hres _ _ _), hvars _ (fun _ _ => rfl), rfl, ?_, ?_⟩, ?_⟩
    · intro b off hp
      have hin : MemPlace.cell b off ∈ before := by rw [hps]; simpa using hp
      rw [hb.frozen (hlt _ hin)]
      exact hz b off hin
    · intro ha
      have := hn ha
      rw [hps] at this
      simpa using this
    · intro p hp _
      rw [hps]
      simpa using hp

theorem own_nil {ι : Nat → Nat × Nat} {k : Nat} : ¬ own ι [] k := fun ⟨b, bk, h, _⟩ => by simp at h

theorem PRel.weak {w : World} {o : Nat → Prop} {x : PV} {v : Value} (h : PRel w (fun _ => False) x v) (ho : ∀ k, ¬ o k) : PRel w o x v :=
  h.mono (Nat.le_refl _) fun k _ _ => ⟨rfl, ho k⟩

theorem arg_rel {W : World} {S : List Nat} (hS : plainB P S = true) {t : Nat} (ht : t ∈ S) {sp : Nat → Bool} {held : Bool} {v : Value} {d : DataW H} {ps : List MemPlace} (hd : DataW.Trod enc P W 0 sp held t v d ps)
    {r : Reach} {b0 : Nat} (hok : Value.okWide P W r b0 t v) (ι : Nat → Nat × Nat) : VRel ι [] W (argA P t (cellsD d)) v ∧ ∃ fuel, Ty P fuel t (cellsD d) := by
  obtain ⟨fuel, hf⟩ := hd
  obtain ⟨⟨l1, l2⟩, hty, hlen⟩ := trodPV hS fuel t _ _ ht hf
  refine ⟨?_, fuel, hty⟩
  unfold argA aggT
  unfold Value.okWide at hok
  have hpl : plainT P S t = true := by
    have : ∀ t ∈ S, plainT P S t = true := by simpa [plainB] using hS
    exact this t ht
  unfold plainT at hpl
  have agg : ∀ cs, v = .agg cs → VRel ι [] W (.agg ((cellsD d).map .p)) v := by
    intro cs hc
    subst hc
    refine .agg _ _ (by simpa [Value.cells] using l1) fun i x u hx hu => ?_
    simp only [List.getElem?_map, Option.map_eq_some_iff] at hx
    obtain ⟨y, hy, rfl⟩ := hx
    exact .p _ _ ((l2 i y u hy (by simpa [Value.cells] using hu)).weak fun _ => own_nil)
  cases hu : P.underlying t with
  | none => rw [hu] at hpl; simp at hpl
  | some D =>
    rw [hu] at hok hpl
    have one : P.cellsOf t = 1 → (∀ cs, v ≠ .agg cs) → VRel ι [] W (match cellsD d with | x :: _ => .p x | [] => .undef) v := by
      intro h1 hna
      have hc : v.cells = #[v] := by cases v <;> first | rfl | exact absurd rfl (hna _)
      rw [hc] at l1 l2
      match hq : cellsD d, l1, l2 with
      | [x], l1, l2 => exact .p _ _ ((l2 0 x v rfl rfl).weak fun _ => own_nil)
      | [], l1, _ => simp at l1
      | _ :: _ :: _, l1, _ => simp at l1
    cases D with
    | struct fs => obtain ⟨cs, hc, _⟩ := hok; simpa using agg cs hc
    | array n e => obtain ⟨cs, hc, _⟩ := hok; simpa using agg cs hc
    | bool => simpa using one (by simpa using hpl) (fun cs e => by subst e; simp [Cell.okWide, hu, Cell.ok] at hok)
    | int k => simpa using one (by simpa using hpl) (fun cs e => by subst e; simp [Cell.okWide, hu, Cell.ok] at hok)
    | string => simpa using one (by simpa using hpl) (fun cs e => by subst e; simp [Cell.okWide, hu, Cell.ok] at hok)
    | slice e => 
      have h1 : P.cellsOf t = 1 := by simp only [Bool.and_eq_true, beq_iff_eq] at hpl; exact hpl.2
      simpa using one h1 (fun cs e => by subst e; simp [Cell.okWide, hu, Cell.ok] at hok)
    | _ => simp at hpl

theorem args_rel {W : World} {S : List Nat} (hS : plainB P S = true) {sp : Nat → Bool} {held : Bool} {r : Reach} {b0 : Nat} (ι : Nat → Nat × Nat) :
    ∀ (ts : List Nat) (vs : List Value) (ds : List (DataW H)) (ps : List MemPlace), (∀ t ∈ ts, t ∈ S) → DataW.TrodAll enc P W 0 sp held ts vs ds ps →
      (∀ (j : Nat) t v, ts[j]? = some t → vs[j]? = some v → Value.okWide P W r b0 t v) →
      ds.length = ts.length ∧ vs.length = ts.length ∧ (∀ (j : Nat) t v d, ts[j]? = some t → vs[j]? = some v → ds[j]? = some d → VRel ι [] W (argA P t (cellsD d)) v ∧ ∃ fuel, Ty P fuel t (cellsD d))
  | [], [], [], ps, _, h, _ => ⟨rfl, rfl, fun j t v d ht => by simp at ht⟩
  | t :: ts, v :: vs, d :: ds, ps, hin, h, hok => by
    obtain ⟨p, q, h1, h2, rfl⟩ := h
    obtain ⟨l1, l2, l3⟩ := args_rel hS ι ts vs ds q (fun t ht => hin t (by simp [ht])) h2 (fun j t v ht hv => hok (j + 1) t v (by simpa using ht) (by simpa using hv))
    refine ⟨by simp [l1], by simp [l2], fun j t' v' d' ht hv hd => ?_⟩
    cases j with
    | zero =>
      simp at ht hv hd
      subst ht; subst hv; subst hd
      exact arg_rel hS (hin t (by simp)) h1 (hok 0 t v rfl rfl) ι
    | succ j => simp at ht hv hd; exact l3 j t' v' d' ht hv hd
  | [], [], _ :: _, _, _, h, _ => h.elim
  | [], _ :: _, _, _, _, h, _ => h.elim
  | _ :: _, [], _, _, _, h, _ => h.elim
  | _ :: _, _ :: _, [], _, _, h, _ => h.elim

theorem args_stay {W W' : World} (hl : laidOutB P = true) (hb : Below W.heap.size W W') {sp' : Nat → Bool} : ∀ (ts : List Nat) (vs : List Value) (ds : List (DataW H)) (ps : List MemPlace),
    (∀ t ∈ ts, P.readableRec t = true ∧ t < P.types.size) → DataW.TrodAll enc P W 0 (fun _ => true) true ts vs ds ps → (∀ p ∈ ps, p.block < W.heap.size) → (∀ p ∈ ps, sp' p.block = true) →
      DataW.TrodAll enc P W' 0 sp' true ts vs ds ps
  | [], [], [], ps, _, h, _, _ => h
  | t :: ts, v :: vs, d :: ds, ps, hin, h, hlt, hsp => by
    obtain ⟨p, q, h1, h2, rfl⟩ := h
    obtain ⟨r1, r2⟩ := hin t (by simp)
    exact ⟨p, q, WideElems.Trod_stays hl r1 r2 h1 (fun x hx => hb.same (hlt x (by simp [hx]))) (fun x hx => hsp x (by simp [hx])),
      args_stay hl hb ts vs ds q (fun t ht => hin t (by simp [ht])) h2 (fun x hx => hlt x (by simp [hx])) (fun x hx => hsp x (by simp [hx])), rfl⟩
  | [], [], _ :: _, _, _, h, _, _ => h.elim
  | [], _ :: _, _, _, _, h, _, _ => h.elim
  | _ :: _, [], _, _, _, h, _, _ => h.elim
  | _ :: _, _ :: _, [], _, _, h, _, _ => h.elim

/-- **A LAW**: from what abstract calls of it come to, what its row asks of each call. -/
theorem law_contract {f : FuncId} {fn : Func} {S : List Nat} (hS : plainB P S = true) (hl : laidOutB P = true) {ts : List Nat} (hts : fn.params.toList = ts) (hin : ∀ t ∈ ts, t ∈ S) (hrd : ∀ t ∈ ts, P.readableRec t = true ∧ t < P.types.size)
    {bt : Nat} (hres : fn.resultTypes = #[bt]) (hbt : P.underlying bt = some .bool)
    {s : ChangeSpec} (hsv : s.vars = []) (hsf : ∀ (H : Type) (ds : List (DataW H)), ds.length = ts.length → s.fn H ds = { results := [.lit (.bool true)], args := ds })
    (hlaw : ∀ xss : List (List PV), xss.length = ts.length → (∀ (j : Nat) t xs, ts[j]? = some t → xss[j]? = some xs → ∃ fuel, Ty P fuel t xs) →
      ACalls P G f (List.zipWith (argA P) ts xss) [] fun r h' => r = .b true ∧ h' = [])
    {apart fresh handsOn again : Bool} {W : World} (hG : ∀ g cells, G g = some cells → PinRel W (fun _ => False) cells g 0) {base : Nat} {args : Array Value} {ds gs : List (DataW H)} {before : List MemPlace}
    (hval : ∀ (j : Nat) t v, fn.params[j]? = some t → args[j]? = some v → Value.okWide P W .any base t v)
    (hW : DataW.Whole enc P fn.params.toList s.vars apart W args.toList ds gs before) :
    Calls P f args W fun e W' => ∃ v, e = .returned v ∧ s.post enc P fn apart fresh handsOn again W args v W' := by
  have hW' := hW
  obtain ⟨p, q, hA, hV, hps, hfz, hnd⟩ := hW
  rw [hsv] at hV
  obtain ⟨rfl, rfl⟩ := trodVars_none hV
  rw [hts] at hA
  obtain ⟨l1, l2, l3⟩ := args_rel hS (fun _ => (0, 0)) ts args.toList ds p hin hA (fun j t v ht hv => hval j t v (by rw [← hts] at ht; simpa using ht) (by simpa using hv))
  have hSim : SimH P G (fun _ => (0, 0)) [] W := ⟨⟨fun b bk hb => by simp at hb, fun b b' bk bk' hb => by simp at hb⟩, fun g cells hg => (hG g cells hg).mono (Nat.le_refl _) fun k _ _ => ⟨rfl, own_nil⟩⟩
  have hcall := hlaw (ds.map cellsD) (by simp [l1]) (fun j t xs ht hx => by
    simp only [List.getElem?_map, Option.map_eq_some_iff] at hx
    obtain ⟨d, hd, rfl⟩ := hx
    have hj : j < args.toList.length := by have := getElem?_lt ht; omega
    exact (l3 j t args.toList[j] d ht (List.getElem?_eq_getElem hj) hd).2) (fun _ => (0, 0)) W args hSim ⟨by simp [l1]; simpa using l2.symm, fun i x v hx hv => by
      simp only [List.getElem?_zipWith, List.getElem?_map] at hx
      cases ht : ts[i]? with
      | none => simp [ht] at hx
      | some t =>
        cases hd : ds[i]? with
        | none => simp [ht, hd] at hx
        | some d =>
          simp [ht, hd] at hx
          rw [← hx]
          exact (l3 i t v d ht (by simpa using hv) hd).1⟩
  refine hcall.mono fun e W' ⟨v, r, h', ι', he, ⟨hr, hh⟩, hS', hv, hev⟩ => ⟨v, he, ?_⟩
  subst hr
  subst hh
  have := hv.bool_inv
  subst this
  have hb : Below W.heap.size W W' := ⟨hev.os, hev.tape, hev.output, hev.size, fun k hk => (hev.keep k hk own_nil).1⟩
  have hbefore : before = p := by simpa using hps
  have hfn : s.fn H (ds ++ []) = { results := [.lit (.bool true)], args := ds } := by rw [List.append_nil]; exact hsf H ds l1
  have hlt : ∀ x ∈ before, x.block < W.heap.size := fun x hx => hW'.lt x hx
  refine post_of_below (pa := p) (pv := []) hW' (fun b sp hd => ?_) (fun sp hsp => ?_) (fun sp _ => ?_) (by simpa using hps) hb ?_
  · rw [hfn, hres]
    exact trodAll_mk1 (shut_bool hbt true)
  · rw [hfn, hts]
    exact args_stay hl hb ts args.toList ds p hrd hA (fun x hx => hlt x (by rw [hbefore]; exact hx)) (fun x hx => hsp x (by rw [hbefore]; exact hx))
  · rw [hfn, hsv]; rfl
  · exact ok_one hres rfl (okWide_bool_mk hbt true)

/-- A listed variable, as a place of lasting cells. -/
theorem laid_pin {W : World} {S : List Nat} (hS : plainB P S = true) {name : String} {D : DataW Unit} {g0 t0 : Nat} (hg : P.globalNamed name = some g0) (ht : (P.globals[g0]?).map (·.type) = some t0) (hin : t0 ∈ S)
    (hpos : cellsD D ≠ []) (h : ∃ g t cs fuel sp held p, P.globalNamed name = some g ∧ (P.globals[g]?).map (·.type) = some t ∧ W.var? P name = some cs ∧ DataW.trod (fun _ => ()) P W 0 sp held fuel t cs.toList = some (D, p)) :
    PinRel W (fun _ => False) (cellsD D) g0 0 := by
  obtain ⟨g, t, cs, fuel, sp, held, p, e1, e2, e3, e4⟩ := h
  obtain rfl := Option.some.inj (hg.symm.trans e1)
  obtain rfl := Option.some.inj (ht.symm.trans e2)
  obtain ⟨⟨l1, l2⟩, _, _⟩ := trodPV hS fuel t0 _ _ hin e4
  have hcell : ∀ i : Nat, W.cell? ⟨g0, i, none⟩ = cs[i]? := fun i => World.var?_cell e1 e3 i
  refine ⟨fun h => h, ?_, fun j x hx => ?_⟩
  · have h0 : 0 < cs.toList.length := by
      rw [← l1]; exact List.length_pos_iff.mpr hpos
    have hc : W.cell? ⟨g0, 0, none⟩ = some (cs[0]'(by simpa using h0)) := by rw [hcell]; simp
    exact block_lt_of_cell hc
  · have hj : j < cs.toList.length := Nat.lt_of_lt_of_eq (getElem?_lt hx) l1
    refine ⟨cs.toList[j], by rw [Nat.zero_add, hcell]; simp, l2 j x _ hx (by simp)⟩

end
end Go.Proofs.YtjpphhcimpclpaaDoor.AM
end

section
set_option linter.unusedVariables false
set_option linter.unusedSimpArgs false
namespace Go.Proofs.YtjpphhcimpclpaaDoor.AM
open Go

section
variable {P : Program}

theorem ty_int {k : IntKind} {a b : Nat} {z : Option (List PV)} {t fuel : Nat} {xs : List PV} (ht : tinfo P t = some ⟨.int k, a, b, z⟩) (h : Ty P fuel t xs) : ∃ n, InRange k n ∧ xs = [.int k n] := by
  obtain ⟨_, d, _, h2, h3, _⟩ := tinfo_some ht
  have := kind_int h3; subst this
  cases fuel with
  | zero => exact h.elim
  | succ m => unfold Ty at h; rw [h2] at h; exact h

theorem ty_bool {a b : Nat} {z : Option (List PV)} {t fuel : Nat} {xs : List PV} (ht : tinfo P t = some ⟨.bool, a, b, z⟩) (h : Ty P fuel t xs) : ∃ x, xs = [.bool x] := by
  obtain ⟨_, d, _, h2, h3, _⟩ := tinfo_some ht
  have := kind_bool h3; subst this
  cases fuel with
  | zero => exact h.elim
  | succ m => unfold Ty at h; rw [h2] at h; exact h

theorem ty_slice {e a b : Nat} {z : Option (List PV)} {t fuel : Nat} {xs : List PV} (ht : tinfo P t = some ⟨.slice e, a, b, z⟩) (h : Ty P fuel t xs) : ∃ (m : Nat) (rows : List (List PV)), fuel = m + 1 ∧ xs = [.sl rows] ∧ ∀ row ∈ rows, Ty P m e row := by
  obtain ⟨_, d, _, h2, h3, _⟩ := tinfo_some ht
  have := kind_slice h3; subst this
  cases fuel with
  | zero => exact h.elim
  | succ m => unfold Ty at h; rw [h2] at h; obtain ⟨rows, h1, h2⟩ := h; exact ⟨m, rows, rfl, h1, h2⟩

theorem ty_array {n e a b : Nat} {z : Option (List PV)} {t fuel : Nat} {xs : List PV} (ht : tinfo P t = some ⟨.array n e, a, b, z⟩) (h : Ty P fuel t xs) : ∃ (m : Nat) (rows : List (List PV)), fuel = m + 1 ∧ rows.length = n ∧ xs = rows.flatMap id ∧ ∀ row ∈ rows, Ty P m e row := by
  obtain ⟨_, d, _, h2, h3, _⟩ := tinfo_some ht
  have := kind_array h3; subst this
  cases fuel with
  | zero => exact h.elim
  | succ m => unfold Ty at h; rw [h2] at h; obtain ⟨rows, h1, h2, h3⟩ := h; exact ⟨m, rows, rfl, h1, h2, h3⟩

theorem ty_struct {fs : List (Nat × Nat × Nat)} {a b : Nat} {z : Option (List PV)} {t fuel : Nat} {xs : List PV} (ht : tinfo P t = some ⟨.struct fs, a, b, z⟩) (h : Ty P fuel t xs) :
    ∃ (m : Nat) (rows : List (List PV)), fuel = m + 1 ∧ rows.length = fs.length ∧ xs = rows.flatMap id ∧ ∀ (i : Nat) f row, fs[i]? = some f → rows[i]? = some row → Ty P m f.2.2 row := by
  obtain ⟨_, d, _, h2, h3, _⟩ := tinfo_some ht
  obtain ⟨F, rfl, h4⟩ := kind_struct h3
  cases fuel with
  | zero => exact h.elim
  | succ m =>
    unfold Ty at h
    rw [h2] at h
    obtain ⟨rows, g1, g2, g3⟩ := h
    refine ⟨m, rows, rfl, by rw [h4]; simpa using g1, g2, fun i f row hf hr => ?_⟩
    rw [h4] at hf
    simp only [List.getElem?_map, Option.map_eq_some_iff] at hf
    obtain ⟨fd, hfd, rfl⟩ := hf
    exact g3 i fd row (by simpa using hfd) hr

/-- Rows of numbers. -/
theorem ty_ints {k : IntKind} {a b : Nat} {z : Option (List PV)} {e m : Nat} (ht : tinfo P e = some ⟨.int k, a, b, z⟩) : ∀ (rows : List (List PV)), (∀ row ∈ rows, Ty P m e row) → ∃ l : List Int, l.length = rows.length ∧ (∀ n ∈ l, InRange k n) ∧ rows = l.map fun n => [.int k n]
  | [], _ => ⟨[], rfl, by simp, rfl⟩
  | r :: rows, h => by
    obtain ⟨n, hn, rfl⟩ := ty_int ht (h r (by simp))
    obtain ⟨l, h1, h2, h3⟩ := ty_ints ht rows fun row hr => h row (by simp [hr])
    exact ⟨n :: l, by simp [h1], by simpa using ⟨hn, h2⟩, by simp [h3]⟩

theorem flat_ints {k : IntKind} (l : List Int) : (l.map fun n => [PV.int k n]).flatMap id = l.map (.int k) := by
  induction l with
  | nil => rfl
  | cons x r ih => simp only [List.map_cons, List.flatMap_cons, ih]; rfl

/-- An array of numbers. -/
theorem ty_intarr {k : IntKind} {a b a' b' n e t fuel : Nat} {z z' : Option (List PV)} {xs : List PV} (hta : tinfo P t = some ⟨.array n e, a, b, z⟩) (ht : tinfo P e = some ⟨.int k, a', b', z'⟩) (h : Ty P fuel t xs) :
    ∃ l : List Int, l.length = n ∧ (∀ x ∈ l, InRange k x) ∧ xs = l.map (.int k) := by
  obtain ⟨m, rows, rfl, h1, rfl, h3⟩ := ty_array hta h
  obtain ⟨l, g1, g2, g3⟩ := ty_ints ht rows h3
  exact ⟨l, by omega, g2, by rw [g3, flat_ints]⟩

theorem argA_at {i : TI} {t : Nat} (ht : tinfo P t = some i) (xs : List PV) : argA P t xs = if i.isAgg then .agg (xs.map .p) else match xs with | x :: _ => .p x | [] => .undef := by
  obtain ⟨_, d, _, h2, h3, _⟩ := tinfo_some ht
  have : aggT P t = i.isAgg := by
    unfold aggT TI.isAgg
    rw [h2, ← h3]
    cases d <;> rfl
  unfold argA
  rw [this]
  all_goals (cases xs <;> rfl)
end
end Go.Proofs.YtjpphhcimpclpaaDoor.AM
end

section
set_option linter.unusedVariables false
set_option linter.unusedSimpArgs false
set_option maxRecDepth 4000
namespace Go.Proofs.YtjpphhcimpclpaaDoor.AM
open Go Go.Proofs Go.ChangeShapes Go.WideShapes Go.RowKit

theorem words_plain : plainB Tryd.prog [3, 9, 158, 159] = true := by kernel_rfl

theorem gW_pin {W : World} (h : laidMetH Tryd.prog [("treenail/term.words", Rows.laid_treenail_term_words)] W) : ∀ g cells, gW g = some cells → PinRel W (fun _ => False) cells g 0 := by
  intro g cells hg
  unfold gW at hg
  split at hg
  · rename_i e
    cases hg
    subst e
    rw [MakeChecks.laidMetH_plain _ _ _ (by kernel_rfl)] at h
    obtain ⟨ps, ⟨g0, t0, cs0, f0, p0, q0, hg0, ht0, hv0, hd0, _⟩, _⟩ := h
    have e : cellsD (Rows.laid_treenail_term_words : DataW Unit) = wcells := by kernel_rfl
    rw [← e]
    exact laid_pin words_plain (name := "treenail/term.words") (t0 := 159) (by kernel_rfl) (by kernel_rfl) (by decide) (by rw [e]; unfold wcells; simp) ⟨g0, t0, cs0, f0, _, _, p0, hg0, ht0, hv0, hd0⟩
  · cases hg

/-- Typed cells of a term are a term. -/
theorem term_of : ∀ (fuel : Nat) (xs : List PV), Ty Tryd.prog fuel 58 xs → ∃ t : Tm, xs = eT t
  | 0, xs, h => h.elim
  | fuel + 1, xs, h => by
    obtain ⟨m, rows, e, hl, rfl, hf⟩ := ty_struct T58 h
    match rows, hl with
    | [r0, r1, r2], _ =>
      have h0 : Ty Tryd.prog m 3 r0 := hf 0 _ r0 rfl rfl
      have h1 : Ty Tryd.prog m 3 r1 := hf 1 _ r1 rfl rfl
      have h2 : Ty Tryd.prog m 56 r2 := hf 2 _ r2 rfl rfl
      obtain ⟨o, _, rfl⟩ := ty_int T3 h0
      obtain ⟨n, _, rfl⟩ := ty_int T3 h1
      obtain ⟨m', rows, e2, rfl, hr⟩ := ty_slice T56 h2
      have key : ∀ rows : List (List PV), (∀ row ∈ rows, Ty Tryd.prog m' 58 row) → ∃ ks : List Tm, rows = ks.map eT := by
        intro rows
        induction rows with
        | nil => intro _; exact ⟨[], rfl⟩
        | cons r rs ih =>
          intro hh
          obtain ⟨t, ht⟩ := term_of m' r (hh r (by simp))
          obtain ⟨ks, hks⟩ := ih fun row hrow => hh row (by simp [hrow])
          exact ⟨t :: ks, by rw [ht, hks]; rfl⟩
      obtain ⟨ks, hks⟩ := key rows hr
      refine ⟨.mk o n ks, ?_⟩
      rw [hks]
      simp [eT]
termination_by fuel => fuel
decreasing_by omega

theorem rows_of {α : Type} {e : α → List PV} {p : List PV → Prop} (h : ∀ row, p row → ∃ a, row = e a) : ∀ rows : List (List PV), (∀ row ∈ rows, p row) → ∃ l : List α, rows = l.map e
  | [], _ => ⟨[], rfl⟩
  | r :: rs, hr => by
    obtain ⟨a, ha⟩ := h r (hr r (by simp))
    obtain ⟨l, hl⟩ := rows_of h rs fun row hrow => hr row (by simp [hrow])
    exact ⟨a :: l, by rw [ha, hl]; rfl⟩

theorem node_of {fuel : Nat} {xs : List PV} (h : Ty Tryd.prog fuel 60 xs) : ∃ k : Nd, xs = eN k := by
  obtain ⟨m, rows, e, hl, rfl, hf⟩ := ty_struct T60 h
  match rows, hl with
  | [r0, r1, r2], _ =>
    have h0 : Ty Tryd.prog m 3 r0 := hf 0 _ r0 rfl rfl
    have h1 : Ty Tryd.prog m 3 r1 := hf 1 _ r1 rfl rfl
    have h2 : Ty Tryd.prog m 58 r2 := hf 2 _ r2 rfl rfl
    obtain ⟨o, _, rfl⟩ := ty_int T3 h0
    obtain ⟨n, _, rfl⟩ := ty_int T3 h1
    obtain ⟨t, rfl⟩ := term_of _ _ h2
    exact ⟨⟨o, n, t⟩, by simp [eN, eT_eq]⟩

theorem flow_of {fuel : Nat} {xs : List PV} (h : Ty Tryd.prog fuel 71 xs) : ∃ k : Fl, xs = eF k := by
  obtain ⟨m, rows, e, hl, rfl, hf⟩ := ty_struct T71 h
  match rows, hl with
  | [r0, r1, r2, r3], _ =>
    have h0 : Ty Tryd.prog m 3 r0 := hf 0 _ r0 rfl rfl
    have h1 : Ty Tryd.prog m 3 r1 := hf 1 _ r1 rfl rfl
    have h2 : Ty Tryd.prog m 4 r2 := hf 2 _ r2 rfl rfl
    have h3 : Ty Tryd.prog m 58 r3 := hf 3 _ r3 rfl rfl
    obtain ⟨o, _, rfl⟩ := ty_int T3 h0
    obtain ⟨n, _, rfl⟩ := ty_int T3 h1
    obtain ⟨b, rfl⟩ := ty_bool T4 h2
    obtain ⟨t, rfl⟩ := term_of _ _ h3
    exact ⟨⟨o, n, b, t⟩, by simp [eF, eT_eq]⟩

theorem arg_net {fuel : Nat} {xs : List PV} (h : Ty Tryd.prog fuel 25 xs) : ∃ (ns : List Nd) (fl : List Fl), argA Tryd.prog 25 xs = aNet ns fl := by
  obtain ⟨m, rows, e, hl, rfl, hf⟩ := ty_struct T25 h
  match rows, hl with
  | [r0, r1], _ =>
    have h0 : Ty Tryd.prog m 22 r0 := hf 0 _ r0 rfl rfl
    have h1 : Ty Tryd.prog m 23 r1 := hf 1 _ r1 rfl rfl
    obtain ⟨m0, rows0, _, rfl, hr0⟩ := ty_slice T22 h0
    obtain ⟨m1, rows1, _, rfl, hr1⟩ := ty_slice T23 h1
    obtain ⟨ns, rfl⟩ := rows_of (fun row hrow => node_of hrow) rows0 hr0
    obtain ⟨fl, rfl⟩ := rows_of (fun row hrow => flow_of hrow) rows1 hr1
    exact ⟨ns, fl, by rw [argA_at T25]; rfl⟩
end Go.Proofs.YtjpphhcimpclpaaDoor.AM
end
