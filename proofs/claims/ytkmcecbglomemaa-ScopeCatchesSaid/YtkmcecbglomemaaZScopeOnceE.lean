/- Proved here, in parts, for one law: Contracts: both runs in a heap; a step of both. Contracts: steps behind each other; the law ScopeOnce. Contracts: an empty slice is copied; the order. Contracts: inside; the law ScopeCatches. Conditions: none. -/
import Derived.Test.YtkmcecbglomemaaZScopeOnceD
import Derived.ArgAppend
import Derived.Lib.SliceRun
import Derived.WalkKit

section
set_option linter.unusedVariables false
set_option linter.unusedSimpArgs false
set_option maxRecDepth 4000
set_option maxHeartbeats 4000000
namespace Go.Proofs.Ytkmcecbglomemaa.AM
open Go Go.Proofs
set_option linter.defProp false in
def TTSdA := And.intro T2 (And.intro T3 (And.intro T4 (And.intro T22 (And.intro T23 (And.intro T25 (And.intro T26 (And.intro T29 (And.intro T35 (And.intro T37 (And.intro T41 (And.intro T45 (And.intro T49 (And.intro T54 (And.intro T56 (And.intro T57 (And.intro T59 (And.intro T61 T64)))))))))))))))))
attribute [local irreducible] awp aops aqops aeops arun arunT arunN
variable {G : Nat → Option (List PV)}

/-- Both runs. -/
structure SB where
  g : Rg
  s : Rs
  q : Rw
  o : Ro
def bH (h : Heap) (P : List Sc) (b : SB) (L : Heap) : Heap := rnH h P b.g b.s (wRun (h.length + 4) P b.q b.o :: wPs P b.q b.o :: wAc b.q b.o :: L)
section
variable {h : Heap} {P : List Sc} {b : SB} {L : Heap}
theorem rn0_len {g : Rg} {s : Rs} : (rnH h P g s []).length = h.length + 4 := by simp [rnH]
theorem bH_w (g : Rg) (s : Rs) (q : Rw) (o : Ro) : rwH (rnH h P g s []) P q o L = bH h P ⟨g, s, q, o⟩ L := by
  unfold rwH bH
  rw [rn_app, rn0_len]; rfl
theorem bH_len : (bH h P b L).length = h.length + (L.length + 7) := by unfold bH; rw [rn_len]; simp only [List.length_cons]
theorem bH_app (M : Heap) : bH h P b L ++ M = bH h P b (L ++ M) := by unfold bH; rw [rn_app]; rfl
theorem bH_take : (bH h P b L).take (h.length + (L.length + 7)) = bH h P b L := by rw [← bH_len (h := h) (P := P) (b := b) (L := L), List.take_length]
theorem bH_takeh : (bH h P b L).take h.length = h := by unfold bH; exact rn_takeh
theorem bH_at0 (x : Option Blk) : (bH h P b L ++ [x])[h.length + (L.length + 7)]? = some x := by rw [← bH_len (h := h) (P := P) (b := b) (L := L)]; exact get_app0 ..
theorem bH_keepA {b0 : SB} (i : Nat) (bk : Blk) (hi : (bH h P b L)[i]? = some (some bk)) : (bH h P b0 L)[i]? = some (some bk) ∨ avlts (h.length + (L.length + 7)) bk.cells := by
  unfold bH rnH at hi ⊢
  rcases Nat.lt_or_ge i h.length with hl | hl
  · rw [List.getElem?_append_left hl] at hi ⊢; exact .inl hi
  rw [List.getElem?_append_right hl] at hi ⊢
  generalize i - h.length = j at hi ⊢
  match j, hi with
  | 0, hi => simp [stB] at hi; subst hi; exact .inr (avlts_i _ _)
  | 1, hi => simp [runB] at hi; subst hi; exact .inr ⟨trivial, by simp only [avlt]; omega, by simp only [avlt]; omega, by simp only [avlt]; omega, trivial⟩
  | 2, hi => simp [dnB] at hi; subst hi; exact .inr (cDn_avl _ _ _)
  | 3, hi => simp [acB] at hi; subst hi; exact .inr (cAct_avl _ _)
  | 4, hi => simp [wRun] at hi; subst hi; exact .inr ⟨by simp only [avlt]; omega, trivial, by simp only [avlt]; omega, trivial⟩
  | 5, hi => simp [wPs] at hi; subst hi; exact .inr (cOne_avl _)
  | 6, hi => simp [wAc] at hi; subst hi; exact .inr (cAct_avl _ _)
  | j + 7, hi => exact .inl (by simpa using hi)
theorem bH_keep {b0 : SB} (i : Nat) (bk : Blk) (hi : (bH h P b L)[i]? = some (some bk)) : (bH h P b0 L)[i]? = some (some bk) ∨ ∀ x, x ∈ bk.cells → AVlt (h.length + (L.length + 7)) x :=
  (bH_keepA i bk hi).imp id fun hx => avlts_lt _ hx
end

def faultC (P : List Sc) (g : Rg) (s : Rs) (i : Int) : (Rg × Rs) × List (Int × Nat) × Int :=
  if i < 0 ∨ (P.length : Int) ≤ i then ((g, s), [], 1) else if stA s.st i.toNat ≠ 1 then ((g, s), [], 7)
  else ((gU ⟨g.gd, g.z, g.ga + 1⟩ ⟨s.st, s.dn, []⟩ (faultX P s i.toNat), faultX P s i.toNat), (faultX P s i.toNat).ac, 0)
def faultD (P : List Sc) (q : Rw) (o : Ro) (i : Int) : (Rw × Ro) × List (Int × Nat) × Int :=
  if i < 0 ∨ (P.length : Int) ≤ i then ((q, o), [], 1) else if o.st i.toNat ≠ 1 then ((q, o), [], 7)
  else ((gX q (faultRX P o i.toNat), faultRX P o i.toNat), (faultRX P o i.toNat).ac, 0)
theorem faultC_calls {h : Heap} {P : List Sc} {g : Rg} {s : Rs} {L : Heap} (pl : PlOk P) (ok : RsOk P s) (i : Int) : ACalls Try.prog G 12 [.ptr (h.length + 1) 0 0, .i i] (rnH h P g s L) (fun r h' => r = .tup [aAc (faultC P g s i).2.1, .i (faultC P g s i).2.2] ∧ h' = rnH h P (faultC P g s i).1.1 (faultC P g s i).1.2 L) := by
  unfold faultC
  by_cases c0 : i < 0 ∨ (P.length : Int) ≤ i
  · rw [if_pos c0]; exact Fault_bad ok i 1 (.inl ⟨c0, rfl⟩)
  rw [if_neg c0]
  obtain ⟨k, rfl⟩ : ∃ k : Nat, i = (k : Int) := ⟨i.toNat, by omega⟩
  by_cases c1 : stA s.st (k : Int).toNat ≠ 1
  · rw [if_pos c1]; exact Fault_bad ok k 7 (.inr ⟨⟨by omega, by omega, c1⟩, rfl⟩)
  rw [if_neg c1]
  rw [Int.toNat_natCast] at c1 ⊢
  exact Fault_good pl ok k (by omega) (by omega)

theorem faultC_err {P : List Sc} {g : Rg} {s : Rs} {i : Int} (h : (faultC P g s i).2.2 ≠ 0) : (faultC P g s i).2.1 = [] := by
  unfold faultC at h ⊢
  split
  · rfl
  split
  · rfl
  · rename_i h1 h2
    rw [if_neg h1, if_neg h2] at h
    exact absurd rfl h
theorem act_at : ∀ (l : List (Int × Nat)) (j : Nat) (a : Int × Nat), l[j]? = some a → (cAct l).drop (j * 2) = .i a.1 :: .i (a.2 : Int) :: (cAct l).drop ((j + 1) * 2)
  | [], j, a, h => by simp at h
  | x :: l, 0, a, h => by
    simp at h; subst h
    rfl
  | x :: l, j + 1, a, h => by
    have := act_at l j a h
    rw [show (j + 1 + 1) * 2 = (j + 1) * 2 + 2 by omega, show (j + 1) * 2 = j * 2 + 2 by omega] at *
    exact this
theorem act_at1 {l : List (Int × Nat)} {j : Nat} {a : Int × Nat} (h : l[j]? = some a) : (cAct l).drop (j * 2 + 1) = .i (a.2 : Int) :: (cAct l).drop ((j + 1) * 2) := by rw [← List.drop_drop, act_at l j a h]; rfl
theorem rowAct {l : List (Int × Nat)} {j : Nat} {a : Int × Nat} (h : l[j]? = some a) : (l.map eAct)[j]? = some [.int .i64 a.1, .int .i64 (a.2 : Int)] := by rw [List.getElem?_map, h]; rfl
theorem bH_ac {h : Heap} {P : List Sc} {b : SB} {L : Heap} : (bH h P b L)[h.length + 6]? = some (wAc b.q b.o) := by
  unfold bH
  rw [show h.length + 6 = h.length + (4 + 2) by omega, rn_at]; rfl
theorem takes_eq {α : Type} {a b : List α} (hl : a.length = b.length) {n : Nat} (hn : n = a.length) (h : a.take n = b.take n) : a = b := by
  subst hn
  rw [List.take_length, hl, List.take_length] at h; exact h

def dB (P : List Sc) (b : SB) (w i : Int) : SB :=
  if w = 0 ∨ w = 1 ∨ w = 2 then ⟨b.g, (enterF P b.s i).1, b.q, (enterR P b.o i).1⟩
  else if w = 3 ∨ w = 4 then ⟨(leaveF P b.g b.s i).1, (leaveF P b.g b.s i).2.1, b.q, (leaveR P b.o i).1⟩
  else if w = 5 then ⟨(faultC P b.g b.s i).1.1, (faultC P b.g b.s i).1.2, (faultD P b.q b.o i).1.1, (faultD P b.q b.o i).1.2⟩
  else b
def dR (P : List Sc) (b : SB) (w i : Int) : Bool :=
  if w = 0 ∨ w = 1 ∨ w = 2 then (enterF P b.s i).2 == (enterR P b.o i).2
  else if w = 3 ∨ w = 4 then (leaveF P b.g b.s i).2.2 == (leaveR P b.o i).2
  else if w = 5 then decide ((faultC P b.g b.s i).2 = ((faultD P b.q b.o i).2.1, (faultD P b.q b.o i).2.2))
  else true

theorem does_calls {h : Heap} {P : List Sc} {b : SB} {L : Heap} (pl : PlOk P) (ok : RsOk P b.s) (w i : Int) :
    ACalls Try.prog G 11 [.ptr (h.length + 1) 0 0, .ptr (h.length + 4) 0 0, .agg [.i w, .i i]] (bH h P b L) (fun r h' => r = .b (dR P b w i) ∧ h' = bH h P (dB P b w i) L) := by
  obtain ⟨g, s, q, o⟩ := b
  have ok : RsOk P s := ok
  have hn := pl.n32
  have hdn : s.dn.length ≤ 1000 := Nat.le_trans ok.dnle (by omega)
  have eA : ∀ (q : Rw) (o : Ro), ACalls Try.prog G 16 [.ptr (h.length + 1) 0 0, .i i] (bH h P ⟨g, s, q, o⟩ L) (fun r h' => r = .i (enterF P s i).2 ∧ h' = bH h P ⟨g, (enterF P s i).1, q, o⟩ L) := fun q o => enter_calls pl ok.len i
  have lA : ∀ (q : Rw) (o : Ro), ACalls Try.prog G 17 [.ptr (h.length + 1) 0 0, .i i] (bH h P ⟨g, s, q, o⟩ L) (fun r h' => r = .i (leaveF P g s i).2.2 ∧ h' = bH h P ⟨(leaveF P g s i).1, (leaveF P g s i).2.1, q, o⟩ L) := fun q o => leave_calls hn ok.len hdn i
  have fA : ∀ (q : Rw) (o : Ro), ACalls Try.prog G 12 [.ptr (h.length + 1) 0 0, .i i] (bH h P ⟨g, s, q, o⟩ L) (fun r h' => r = .tup [aAc (faultC P g s i).2.1, .i (faultC P g s i).2.2] ∧ h' = bH h P ⟨(faultC P g s i).1.1, (faultC P g s i).1.2, q, o⟩ L) := fun q o => faultC_calls pl ok i
  have eB : ∀ (g : Rg) (s : Rs), ACalls Try.prog G 19 [.ptr (h.length + 4) 0 0, .i i] (bH h P ⟨g, s, q, o⟩ L) (fun r h' => r = .i (enterR P o i).2 ∧ h' = bH h P ⟨g, s, q, (enterR P o i).1⟩ L) := fun g s => by
    have := enterR_calls (G := G) (h := rnH h P g s []) (P := P) (g := q) (s := o) (L := L) pl i
    rw [bH_w, bH_w, rn0_len] at this; exact this
  have lB : ∀ (g : Rg) (s : Rs), ACalls Try.prog G 20 [.ptr (h.length + 4) 0 0, .i i] (bH h P ⟨g, s, q, o⟩ L) (fun r h' => r = .i (leaveR P o i).2 ∧ h' = bH h P ⟨g, s, q, (leaveR P o i).1⟩ L) := fun g s => by
    have := leaveR_calls (G := G) (h := rnH h P g s []) (P := P) (g := q) (s := o) (L := L) hn i
    rw [bH_w, bH_w, rn0_len] at this; exact this
  have fB : ∀ (g : Rg) (s : Rs) (e : Int), ((i < 0 ∨ (P.length : Int) ≤ i) ∧ e = 1 ∨ (0 ≤ i ∧ i < (P.length : Int) ∧ o.st i.toNat ≠ 1) ∧ e = 7) → ACalls Try.prog G 21 [.ptr (h.length + 4) 0 0, .i i] (bH h P ⟨g, s, q, o⟩ L) (fun r h' => r = .tup [aAc [], .i e] ∧ h' = bH h P ⟨g, s, q, o⟩ L) := fun g s e he => by
    have := FaultR_bad (G := G) (h := rnH h P g s []) (P := P) (g := q) (s := o) (L := L) i e he
    rw [bH_w, rn0_len] at this; exact this
  have fG : ∀ (g : Rg) (s : Rs) (k : Nat), i = (k : Int) → k < P.length → o.st k = 1 → ACalls Try.prog G 21 [.ptr (h.length + 4) 0 0, .i i] (bH h P ⟨g, s, q, o⟩ L) (fun r h' => r = .tup [.ref (h.length + 6) (gX q (faultRX P o k)).gl 0 2 (faultRX P o k).ac.length, .i 0] ∧ h' = bH h P ⟨g, s, gX q (faultRX P o k), faultRX P o k⟩ L) := fun g s k hi hk h1 => by
    subst hi
    have := FaultR_good (G := G) (h := rnH h P g s []) (P := P) (g := q) (s := o) (L := L) pl k hk h1
    rw [bH_w, bH_w, rn0_len] at this; exact this
  have hat0 := fun (g : Rg) (s : Rs) (q : Rw) (o : Ro) (x : Option Blk) => bH_at0 (h := h) (P := P) (b := ⟨g, s, q, o⟩) (L := L) x
  obtain ⟨h1, e1⟩ : ∃ h1, h1 = bH h P (dB P ⟨g, s, q, o⟩ w i) L := ⟨_, rfl⟩
  obtain ⟨r1, e2⟩ : ∃ r1, r1 = dR P ⟨g, s, q, o⟩ w i := ⟨_, rfl⟩
  rw [← e1, ← e2]
  refine acalls_heap (rl := []) mixed Try.func11 rfl (rs := [.tmp 6]) rfl Try.ntmps11 (by simp) ?_
  refine awp_tellG ⟨frL [(5, .pin [.int .i64 w, .int .i64 i]), (6, .b false), (1, .ptr (h.length + 4) 0 0), (0, .ptr (h.length + 1) 0 0)], 95, bH h P ⟨g, s, q, o⟩ L ++ []⟩ (fun K hK => ?_) ?_
  · repeat' (first | ((first | refine aops_nil ?_ | refine aqops_nil ?_); (try simp only [NB]); ((repeat ((fail_if_success (refine hK _ ?_)); clear hK K)); refine hK _ ?_; clear hK K)) | ((first | refine aops_k fun K1 hK1 => ?_ | refine aqops_k fun K1 hK1 => ?_ | refine awp_cond_k fun A B hA hB => ?_); simp only [S1, simprocAttr, TTSdA, bH_len]; first | (refine hK1 _ ?_; clear hK1 K1) | ((first | refine hA ?_ | refine hB ?_); clear hA hB A B) | (refine join_x (v := ?_) (fun hg hk9 => ?_) ?_; rotate_left; (focus (try ((try simp only [BN] at hg); simp only [S1, simprocAttr, TTSdA, bH_len, hg] at hk9 ⊢)); first | exact hk9); (refine hK1 _ ?_; clear hK1 K1)) | (((first | (refine ⟨fun hg => hA ?_, fun hg => hB ?_⟩ <;> clear hA hB A B) | refine ⟨fun hg => ?_, fun hg => ?_⟩) <;> (try simp only [BN2] at hg) <;> (try simp only [hg, cond_true, cond_false])) <;> (try (refine hK1 _ ?_; clear hK1 K1)) <;> (try simp only [BN3] at hg))) | (fail) | ((first | refine awp_region ?_ | refine awp_draw (by kernel_rfl) ?_ | refine awp_block ?_ | refine awp_exit ?_ | refine awp_skip ?_ | refine awp_ret ?_); (try simp only [NB, simprocAttr]); (try ((repeat ((fail_if_success (refine hK _ ?_)); clear hK K)); refine hK _ ?_; clear hK K))))
    all_goals refine (Ghost.freezeP (k := 5) (b := h.length + (L.length + 7)) (bk := ⟨0, [.i w, .i i]⟩) (cells := [.int .i64 w, .int .i64 i]) rfl (bH_at0 _) rfl (by simp)).trans (Sub.ghost (L := []) ⟨rfl, ⟨[none], ?_⟩, ?_, trivial⟩)
    · have := set_app0 (h := bH h P ⟨g, s, q, o⟩ L) [some (⟨0, [.i w, .i i]⟩ : Blk)] none
      rw [bH_len] at this
      simpa using this
    · simp only [keeps, avlt, avlts, blksLt, frL, upd_get, bH_len, S1, simprocAttr, List.length_map, List.length_cons, List.length_nil, Int.natCast_zero, AV.p.injEq, PV.int.injEq, PV.bool.injEq, PV.sl.injEq] <;> (try and_intros) <;> (try assumption) <;> (try trivial) <;> (try omega)
  rw [List.append_nil]
  unfold dB at e1
  unfold dR at e2
  by_cases c0 : w = 0 ∨ w = 1 ∨ w = 2
  · rw [if_pos c0] at e1 e2
    simp only at e1 e2
    rcases c0 with rfl | rfl | rfl
    · repeat' (first | ((first | refine aops_nil ?_ | refine aqops_nil ?_ | refine arun_nil ?_ | refine arunT_nil ?_); (try simp only [NB])) | ((repeat ((fail_if_success (refine hK _ ?_)); clear hK K)); refine hK _ ?_; clear hK K) | ((first | refine aops_k fun K1 hK1 => ?_ | refine aqops_k fun K1 hK1 => ?_ | refine arun_eff rfl rfl rfl fun K1 hK1 => ?_ | refine awp_cond_k fun A B hA hB => ?_); simp only [S1, simprocAttr, TTSdA, bH_len, beq_self_eq_true]; first | (refine hK1 _ ?_; clear hK1 K1) | ((first | refine hA ?_ | refine hB ?_); clear hA hB A B) | ((first | apply call_a E16 | apply call_q E16); exact (eA _ _); (refine hK1 _ ?_; clear hK1 K1)) | ((first | apply call_a E19 | apply call_q E19); exact (eB _ _); (refine hK1 _ ?_; clear hK1 K1)) | (refine join_x (v := ?_) (fun hg hk9 => ?_) ?_; rotate_left; (focus (try ((try simp only [BN] at hg); simp only [S1, simprocAttr, TTSdA, bH_len, beq_self_eq_true, hg] at hk9 ⊢)); first | exact hk9 | ((first | apply call_a E16 | apply call_q E16); exact (eA _ _); exact hk9) | ((first | apply call_a E19 | apply call_q E19); exact (eB _ _); exact hk9)); (refine hK1 _ ?_; clear hK1 K1)) | (((first | (refine ⟨fun hg => hA ?_, fun hg => hB ?_⟩ <;> clear hA hB A B) | refine ⟨fun hg => ?_, fun hg => ?_⟩) <;> (try simp only [BN2] at hg) <;> (try simp only [hg, cond_true, cond_false])) <;> (try (refine hK1 _ ?_; clear hK1 K1)) <;> (try simp only [BN3] at hg))) | ((first | refine arun_q (v := ?_) rfl rfl rfl rfl (by decide) (fun R1 K1 hK1 => ?_) ?_ | refine arun_f (v := ?_) rfl rfl rfl (by decide) (fun K1 hK1 => ?_) ?_ | refine arunT_f (v := ?_) rfl rfl rfl (by decide) (fun K1 hK1 => ?_) ?_ | refine arun_w (v := ?_) rfl rfl rfl rfl (by decide) (fun H1 K1 hK1 => ?_) ?_); rotate_left; (focus (simp only [S1, simprocAttr, TTSdA, bH_len, beq_self_eq_true]; first | (exact hK1 _ _ _) | ((first | apply call_a E16 | apply call_q E16); exact (eA _ _); exact hK1 _ _ _) | ((first | apply call_a E19 | apply call_q E19); exact (eB _ _); exact hK1 _ _ _)))) | (refine arun_tail rfl rfl rfl ?_) | ((first | refine arun_allocj (z := ?_) 0 rfl rfl rfl rfl (by decide) rfl ?_ ?_ | refine arun_allocj (z := ?_) 1 rfl rfl rfl rfl (by decide) rfl ?_ ?_ | refine arun_allocj (z := ?_) 2 rfl rfl rfl rfl (by decide) rfl ?_ ?_); rotate_left; (focus (simp only [S1, simprocAttr, TTSdA, bH_len, beq_self_eq_true, zeroB]; rfl))) | (refine awp_seq_k fun K hK => ?_) | (refine awp_drawR (es := [3, 7, 8]) [0, 1, 2, 4, 5, 6, 3, 7, 8, 9] 0 (fs := [2, 6]) rfl (by kernel_rfl) (by kernel_rfl) ?_) | ((first | refine awp_region ?_ | refine awp_draw (by kernel_rfl) ?_ | refine awp_block ?_ | refine awp_exit ?_ | refine awp_skip ?_ | refine awp_ret ?_); (try simp only [NB, simprocAttr])))
      all_goals simp only [EndH, FinH, resA, resL, resA1, lastV, lastA, lastAs, pur, purs, bH_len, bH_take, S1, simprocAttr, Nat.le_add_right, Nat.le_refl]
      all_goals exact ⟨bH_keep, by rw [e2], e1.symm⟩
    · repeat' (first | ((first | refine aops_nil ?_ | refine aqops_nil ?_ | refine arun_nil ?_ | refine arunT_nil ?_); (try simp only [NB])) | ((repeat ((fail_if_success (refine hK _ ?_)); clear hK K)); refine hK _ ?_; clear hK K) | ((first | refine aops_k fun K1 hK1 => ?_ | refine aqops_k fun K1 hK1 => ?_ | refine arun_eff rfl rfl rfl fun K1 hK1 => ?_ | refine awp_cond_k fun A B hA hB => ?_); simp only [S1, simprocAttr, TTSdA, bH_len, beq_self_eq_true]; first | (refine hK1 _ ?_; clear hK1 K1) | ((first | refine hA ?_ | refine hB ?_); clear hA hB A B) | ((first | apply call_a E16 | apply call_q E16); exact (eA _ _); (refine hK1 _ ?_; clear hK1 K1)) | ((first | apply call_a E19 | apply call_q E19); exact (eB _ _); (refine hK1 _ ?_; clear hK1 K1)) | (refine join_x (v := ?_) (fun hg hk9 => ?_) ?_; rotate_left; (focus (try ((try simp only [BN] at hg); simp only [S1, simprocAttr, TTSdA, bH_len, beq_self_eq_true, hg] at hk9 ⊢)); first | exact hk9 | ((first | apply call_a E16 | apply call_q E16); exact (eA _ _); exact hk9) | ((first | apply call_a E19 | apply call_q E19); exact (eB _ _); exact hk9)); (refine hK1 _ ?_; clear hK1 K1)) | (((first | (refine ⟨fun hg => hA ?_, fun hg => hB ?_⟩ <;> clear hA hB A B) | refine ⟨fun hg => ?_, fun hg => ?_⟩) <;> (try simp only [BN2] at hg) <;> (try simp only [hg, cond_true, cond_false])) <;> (try (refine hK1 _ ?_; clear hK1 K1)) <;> (try simp only [BN3] at hg))) | ((first | refine arun_q (v := ?_) rfl rfl rfl rfl (by decide) (fun R1 K1 hK1 => ?_) ?_ | refine arun_f (v := ?_) rfl rfl rfl (by decide) (fun K1 hK1 => ?_) ?_ | refine arunT_f (v := ?_) rfl rfl rfl (by decide) (fun K1 hK1 => ?_) ?_ | refine arun_w (v := ?_) rfl rfl rfl rfl (by decide) (fun H1 K1 hK1 => ?_) ?_); rotate_left; (focus (simp only [S1, simprocAttr, TTSdA, bH_len, beq_self_eq_true]; first | (exact hK1 _ _ _) | ((first | apply call_a E16 | apply call_q E16); exact (eA _ _); exact hK1 _ _ _) | ((first | apply call_a E19 | apply call_q E19); exact (eB _ _); exact hK1 _ _ _)))) | (refine arun_tail rfl rfl rfl ?_) | ((first | refine arun_allocj (z := ?_) 0 rfl rfl rfl rfl (by decide) rfl ?_ ?_ | refine arun_allocj (z := ?_) 1 rfl rfl rfl rfl (by decide) rfl ?_ ?_ | refine arun_allocj (z := ?_) 2 rfl rfl rfl rfl (by decide) rfl ?_ ?_); rotate_left; (focus (simp only [S1, simprocAttr, TTSdA, bH_len, beq_self_eq_true, zeroB]; rfl))) | (refine awp_seq_k fun K hK => ?_) | (refine awp_drawR (es := [3, 7, 8]) [0, 1, 2, 4, 5, 6, 3, 7, 8, 9] 0 (fs := [2, 6]) rfl (by kernel_rfl) (by kernel_rfl) ?_) | ((first | refine awp_region ?_ | refine awp_draw (by kernel_rfl) ?_ | refine awp_block ?_ | refine awp_exit ?_ | refine awp_skip ?_ | refine awp_ret ?_); (try simp only [NB, simprocAttr])))
      all_goals simp only [EndH, FinH, resA, resL, resA1, lastV, lastA, lastAs, pur, purs, bH_len, bH_take, S1, simprocAttr, Nat.le_add_right, Nat.le_refl]
      all_goals exact ⟨bH_keep, by rw [e2], e1.symm⟩
    · repeat' (first | ((first | refine aops_nil ?_ | refine aqops_nil ?_ | refine arun_nil ?_ | refine arunT_nil ?_); (try simp only [NB])) | ((repeat ((fail_if_success (refine hK _ ?_)); clear hK K)); refine hK _ ?_; clear hK K) | ((first | refine aops_k fun K1 hK1 => ?_ | refine aqops_k fun K1 hK1 => ?_ | refine arun_eff rfl rfl rfl fun K1 hK1 => ?_ | refine awp_cond_k fun A B hA hB => ?_); simp only [S1, simprocAttr, TTSdA, bH_len, beq_self_eq_true]; first | (refine hK1 _ ?_; clear hK1 K1) | ((first | refine hA ?_ | refine hB ?_); clear hA hB A B) | ((first | apply call_a E16 | apply call_q E16); exact (eA _ _); (refine hK1 _ ?_; clear hK1 K1)) | ((first | apply call_a E19 | apply call_q E19); exact (eB _ _); (refine hK1 _ ?_; clear hK1 K1)) | (refine join_x (v := ?_) (fun hg hk9 => ?_) ?_; rotate_left; (focus (try ((try simp only [BN] at hg); simp only [S1, simprocAttr, TTSdA, bH_len, beq_self_eq_true, hg] at hk9 ⊢)); first | exact hk9 | ((first | apply call_a E16 | apply call_q E16); exact (eA _ _); exact hk9) | ((first | apply call_a E19 | apply call_q E19); exact (eB _ _); exact hk9)); (refine hK1 _ ?_; clear hK1 K1)) | (((first | (refine ⟨fun hg => hA ?_, fun hg => hB ?_⟩ <;> clear hA hB A B) | refine ⟨fun hg => ?_, fun hg => ?_⟩) <;> (try simp only [BN2] at hg) <;> (try simp only [hg, cond_true, cond_false])) <;> (try (refine hK1 _ ?_; clear hK1 K1)) <;> (try simp only [BN3] at hg))) | ((first | refine arun_q (v := ?_) rfl rfl rfl rfl (by decide) (fun R1 K1 hK1 => ?_) ?_ | refine arun_f (v := ?_) rfl rfl rfl (by decide) (fun K1 hK1 => ?_) ?_ | refine arunT_f (v := ?_) rfl rfl rfl (by decide) (fun K1 hK1 => ?_) ?_ | refine arun_w (v := ?_) rfl rfl rfl rfl (by decide) (fun H1 K1 hK1 => ?_) ?_); rotate_left; (focus (simp only [S1, simprocAttr, TTSdA, bH_len, beq_self_eq_true]; first | (exact hK1 _ _ _) | ((first | apply call_a E16 | apply call_q E16); exact (eA _ _); exact hK1 _ _ _) | ((first | apply call_a E19 | apply call_q E19); exact (eB _ _); exact hK1 _ _ _)))) | (refine arun_tail rfl rfl rfl ?_) | ((first | refine arun_allocj (z := ?_) 0 rfl rfl rfl rfl (by decide) rfl ?_ ?_ | refine arun_allocj (z := ?_) 1 rfl rfl rfl rfl (by decide) rfl ?_ ?_ | refine arun_allocj (z := ?_) 2 rfl rfl rfl rfl (by decide) rfl ?_ ?_); rotate_left; (focus (simp only [S1, simprocAttr, TTSdA, bH_len, beq_self_eq_true, zeroB]; rfl))) | (refine awp_seq_k fun K hK => ?_) | (refine awp_drawR (es := [3, 7, 8]) [0, 1, 2, 4, 5, 6, 3, 7, 8, 9] 0 (fs := [2, 6]) rfl (by kernel_rfl) (by kernel_rfl) ?_) | ((first | refine awp_region ?_ | refine awp_draw (by kernel_rfl) ?_ | refine awp_block ?_ | refine awp_exit ?_ | refine awp_skip ?_ | refine awp_ret ?_); (try simp only [NB, simprocAttr])))
      all_goals simp only [EndH, FinH, resA, resL, resA1, lastV, lastA, lastAs, pur, purs, bH_len, bH_take, S1, simprocAttr, Nat.le_add_right, Nat.le_refl]
      all_goals exact ⟨bH_keep, by rw [e2], e1.symm⟩
  rw [if_neg c0] at e1 e2
  have b0 : (w == 0) = false := by simp; omega
  have b1 : (w == 1) = false := by simp; omega
  have b2 : (w == 2) = false := by simp; omega
  by_cases c3 : w = 3 ∨ w = 4
  · rw [if_pos c3] at e1 e2
    simp only at e1 e2
    rcases c3 with rfl | rfl
    · repeat' (first | ((first | refine aops_nil ?_ | refine aqops_nil ?_ | refine arun_nil ?_ | refine arunT_nil ?_); (try simp only [NB])) | ((repeat ((fail_if_success (refine hK _ ?_)); clear hK K)); refine hK _ ?_; clear hK K) | ((first | refine aops_k fun K1 hK1 => ?_ | refine aqops_k fun K1 hK1 => ?_ | refine arun_eff rfl rfl rfl fun K1 hK1 => ?_ | refine awp_cond_k fun A B hA hB => ?_); simp only [S1, simprocAttr, TTSdA, b0, b1, b2, bH_len, beq_self_eq_true]; first | (refine hK1 _ ?_; clear hK1 K1) | ((first | refine hA ?_ | refine hB ?_); clear hA hB A B) | ((first | apply call_a E17 | apply call_q E17); exact (lA _ _); (refine hK1 _ ?_; clear hK1 K1)) | ((first | apply call_a E20 | apply call_q E20); exact (lB _ _); (refine hK1 _ ?_; clear hK1 K1)) | (refine join_x (v := ?_) (fun hg hk9 => ?_) ?_; rotate_left; (focus (try ((try simp only [BN] at hg); simp only [S1, simprocAttr, TTSdA, b0, b1, b2, bH_len, beq_self_eq_true, hg] at hk9 ⊢)); first | exact hk9 | ((first | apply call_a E17 | apply call_q E17); exact (lA _ _); exact hk9) | ((first | apply call_a E20 | apply call_q E20); exact (lB _ _); exact hk9)); (refine hK1 _ ?_; clear hK1 K1)) | (((first | (refine ⟨fun hg => hA ?_, fun hg => hB ?_⟩ <;> clear hA hB A B) | refine ⟨fun hg => ?_, fun hg => ?_⟩) <;> (try simp only [BN2] at hg) <;> (try simp only [hg, cond_true, cond_false])) <;> (try (refine hK1 _ ?_; clear hK1 K1)) <;> (try simp only [BN3] at hg))) | ((first | refine arun_q (v := ?_) rfl rfl rfl rfl (by decide) (fun R1 K1 hK1 => ?_) ?_ | refine arun_f (v := ?_) rfl rfl rfl (by decide) (fun K1 hK1 => ?_) ?_ | refine arunT_f (v := ?_) rfl rfl rfl (by decide) (fun K1 hK1 => ?_) ?_ | refine arun_w (v := ?_) rfl rfl rfl rfl (by decide) (fun H1 K1 hK1 => ?_) ?_); rotate_left; (focus (simp only [S1, simprocAttr, TTSdA, b0, b1, b2, bH_len, beq_self_eq_true]; first | (exact hK1 _ _ _) | ((first | apply call_a E17 | apply call_q E17); exact (lA _ _); exact hK1 _ _ _) | ((first | apply call_a E20 | apply call_q E20); exact (lB _ _); exact hK1 _ _ _)))) | (refine arun_tail rfl rfl rfl ?_) | ((first | refine arun_allocj (z := ?_) 0 rfl rfl rfl rfl (by decide) rfl ?_ ?_ | refine arun_allocj (z := ?_) 1 rfl rfl rfl rfl (by decide) rfl ?_ ?_ | refine arun_allocj (z := ?_) 2 rfl rfl rfl rfl (by decide) rfl ?_ ?_); rotate_left; (focus (simp only [S1, simprocAttr, TTSdA, b0, b1, b2, bH_len, beq_self_eq_true, zeroB]; rfl))) | (refine awp_seq_k fun K hK => ?_) | (refine awp_drawR (es := [3, 7, 8]) [0, 1, 2, 4, 5, 6, 3, 7, 8, 9] 0 (fs := [2, 6]) rfl (by kernel_rfl) (by kernel_rfl) ?_) | ((first | refine awp_region ?_ | refine awp_draw (by kernel_rfl) ?_ | refine awp_block ?_ | refine awp_exit ?_ | refine awp_skip ?_ | refine awp_ret ?_); (try simp only [NB, simprocAttr])))
      all_goals simp only [EndH, FinH, resA, resL, resA1, lastV, lastA, lastAs, pur, purs, bH_len, bH_take, S1, simprocAttr, Nat.le_add_right, Nat.le_refl]
      all_goals exact ⟨bH_keep, by rw [e2], e1.symm⟩
    · repeat' (first | ((first | refine aops_nil ?_ | refine aqops_nil ?_ | refine arun_nil ?_ | refine arunT_nil ?_); (try simp only [NB])) | ((repeat ((fail_if_success (refine hK _ ?_)); clear hK K)); refine hK _ ?_; clear hK K) | ((first | refine aops_k fun K1 hK1 => ?_ | refine aqops_k fun K1 hK1 => ?_ | refine arun_eff rfl rfl rfl fun K1 hK1 => ?_ | refine awp_cond_k fun A B hA hB => ?_); simp only [S1, simprocAttr, TTSdA, b0, b1, b2, bH_len, beq_self_eq_true]; first | (refine hK1 _ ?_; clear hK1 K1) | ((first | refine hA ?_ | refine hB ?_); clear hA hB A B) | ((first | apply call_a E17 | apply call_q E17); exact (lA _ _); (refine hK1 _ ?_; clear hK1 K1)) | ((first | apply call_a E20 | apply call_q E20); exact (lB _ _); (refine hK1 _ ?_; clear hK1 K1)) | (refine join_x (v := ?_) (fun hg hk9 => ?_) ?_; rotate_left; (focus (try ((try simp only [BN] at hg); simp only [S1, simprocAttr, TTSdA, b0, b1, b2, bH_len, beq_self_eq_true, hg] at hk9 ⊢)); first | exact hk9 | ((first | apply call_a E17 | apply call_q E17); exact (lA _ _); exact hk9) | ((first | apply call_a E20 | apply call_q E20); exact (lB _ _); exact hk9)); (refine hK1 _ ?_; clear hK1 K1)) | (((first | (refine ⟨fun hg => hA ?_, fun hg => hB ?_⟩ <;> clear hA hB A B) | refine ⟨fun hg => ?_, fun hg => ?_⟩) <;> (try simp only [BN2] at hg) <;> (try simp only [hg, cond_true, cond_false])) <;> (try (refine hK1 _ ?_; clear hK1 K1)) <;> (try simp only [BN3] at hg))) | ((first | refine arun_q (v := ?_) rfl rfl rfl rfl (by decide) (fun R1 K1 hK1 => ?_) ?_ | refine arun_f (v := ?_) rfl rfl rfl (by decide) (fun K1 hK1 => ?_) ?_ | refine arunT_f (v := ?_) rfl rfl rfl (by decide) (fun K1 hK1 => ?_) ?_ | refine arun_w (v := ?_) rfl rfl rfl rfl (by decide) (fun H1 K1 hK1 => ?_) ?_); rotate_left; (focus (simp only [S1, simprocAttr, TTSdA, b0, b1, b2, bH_len, beq_self_eq_true]; first | (exact hK1 _ _ _) | ((first | apply call_a E17 | apply call_q E17); exact (lA _ _); exact hK1 _ _ _) | ((first | apply call_a E20 | apply call_q E20); exact (lB _ _); exact hK1 _ _ _)))) | (refine arun_tail rfl rfl rfl ?_) | ((first | refine arun_allocj (z := ?_) 0 rfl rfl rfl rfl (by decide) rfl ?_ ?_ | refine arun_allocj (z := ?_) 1 rfl rfl rfl rfl (by decide) rfl ?_ ?_ | refine arun_allocj (z := ?_) 2 rfl rfl rfl rfl (by decide) rfl ?_ ?_); rotate_left; (focus (simp only [S1, simprocAttr, TTSdA, b0, b1, b2, bH_len, beq_self_eq_true, zeroB]; rfl))) | (refine awp_seq_k fun K hK => ?_) | (refine awp_drawR (es := [3, 7, 8]) [0, 1, 2, 4, 5, 6, 3, 7, 8, 9] 0 (fs := [2, 6]) rfl (by kernel_rfl) (by kernel_rfl) ?_) | ((first | refine awp_region ?_ | refine awp_draw (by kernel_rfl) ?_ | refine awp_block ?_ | refine awp_exit ?_ | refine awp_skip ?_ | refine awp_ret ?_); (try simp only [NB, simprocAttr])))
      all_goals simp only [EndH, FinH, resA, resL, resA1, lastV, lastA, lastAs, pur, purs, bH_len, bH_take, S1, simprocAttr, Nat.le_add_right, Nat.le_refl]
      all_goals exact ⟨bH_keep, by rw [e2], e1.symm⟩
  rw [if_neg c3] at e1 e2
  have b3 : (w == 3) = false := by simp; omega
  have b4 : (w == 4) = false := by simp; omega
  by_cases c5 : w ≠ 5
  · rw [if_neg c5] at e1 e2
    have b5 : (w == 5) = false := by simp; omega
    repeat' (first | ((first | refine aops_nil ?_ | refine aqops_nil ?_); (try simp only [NB])) | ((repeat ((fail_if_success (refine hK _ ?_)); clear hK K)); refine hK _ ?_; clear hK K) | ((first | refine aops_k fun K1 hK1 => ?_ | refine aqops_k fun K1 hK1 => ?_ | refine awp_cond_k fun A B hA hB => ?_); simp only [S1, simprocAttr, TTSdA, b0, b1, b2, b3, b4, b5]; first | (refine hK1 _ ?_; clear hK1 K1) | ((first | refine hA ?_ | refine hB ?_); clear hA hB A B) | (refine join_x (v := ?_) (fun hg hk9 => ?_) ?_; rotate_left; (focus (try ((try simp only [BN] at hg); simp only [S1, simprocAttr, TTSdA, b0, b1, b2, b3, b4, b5, hg] at hk9 ⊢)); first | exact hk9); (refine hK1 _ ?_; clear hK1 K1)) | (((first | (refine ⟨fun hg => hA ?_, fun hg => hB ?_⟩ <;> clear hA hB A B) | refine ⟨fun hg => ?_, fun hg => ?_⟩) <;> (try simp only [BN2] at hg) <;> (try simp only [hg, cond_true, cond_false])) <;> (try (refine hK1 _ ?_; clear hK1 K1)) <;> (try simp only [BN3] at hg))) | (refine awp_seq_k fun K hK => ?_) | ((first | refine awp_region ?_ | refine awp_draw (by kernel_rfl) ?_ | refine awp_block ?_ | refine awp_exit ?_ | refine awp_skip ?_ | refine awp_ret ?_); (try simp only [NB, simprocAttr])))
    all_goals simp only [EndH, FinH, resA, resL, resA1, lastV, lastA, lastAs, pur, purs, bH_len, bH_take, S1, simprocAttr, Nat.le_add_right, Nat.le_refl]
    all_goals exact ⟨bH_keep, by rw [e2], e1.symm⟩
  obtain rfl : w = 5 := by omega
  rw [if_pos rfl] at e1 e2
  simp only at e1 e2
  have ferr := faultC_err (P := P) (g := g) (s := s) (i := i)
  have fle : (faultC P g s i).2.1.length ≤ 1000 := by
    unfold faultC
    split
    · simp
    split
    · simp
    · rename_i c1 c2
      obtain ⟨k, rfl⟩ : ∃ k : Nat, i = (k : Int) := ⟨i.toNat, by omega⟩
      rw [Int.toNat_natCast] at c2 ⊢
      have hfs := fault_spec pl (k + 1) k ⟨s.st, s.dn, []⟩ (by omega) (by omega) ok.clear (by simpa using c2)
      rw [show faultF P (k + 1) k ⟨s.st, s.dn, []⟩ = faultX P s k from rfl] at hfs
      exact Nat.le_trans hfs.ok.acle (by omega)
  generalize (faultC P g s i).1.1 = g2 at *
  generalize (faultC P g s i).1.2 = s2 at *
  obtain ⟨la, ea, hpair⟩ : ∃ la ea, (faultC P g s i).2 = (la, ea) := ⟨_, _, rfl⟩
  rw [hpair] at fA e2 ferr fle
  simp only at fA e2 ferr fle
  by_cases hbad : i < 0 ∨ (P.length : Int) ≤ i ∨ o.st i.toNat ≠ 1
  · obtain ⟨f, hf, hfd⟩ : ∃ f : Int, ((i < 0 ∨ (P.length : Int) ≤ i) ∧ f = 1 ∨ (0 ≤ i ∧ i < (P.length : Int) ∧ o.st i.toNat ≠ 1) ∧ f = 7) ∧ faultD P q o i = ((q, o), [], f) := by
      unfold faultD
      by_cases c : i < 0 ∨ (P.length : Int) ≤ i
      · exact ⟨1, .inl ⟨c, rfl⟩, by rw [if_pos c]⟩
      · exact ⟨7, .inr ⟨⟨by omega, by omega, by rcases hbad with x | x | x; exact absurd (.inl x) c; exact absurd (.inr x) c; exact x⟩, rfl⟩, by rw [if_neg c, if_pos (by rcases hbad with x | x | x; exact absurd (.inl x) c; exact absurd (.inr x) c; exact x)]⟩
    have fB := fun g s => fB g s f hf
    rw [hfd] at e1 e2
    simp only at e1 e2
    have hf0 : f ≠ 0 := by rcases hf with ⟨_, h⟩ | ⟨_, h⟩ <;> omega
    cases c1 : (ea != f) with
    | true =>
      have hne : ea ≠ f := by simpa using c1
      have hr : r1 = false := by rw [e2]; exact decide_eq_false fun e => hne (Prod.mk.inj e).2
      repeat' (first | ((first | refine aops_nil ?_ | refine aqops_nil ?_); (try simp only [NB])) | ((repeat ((fail_if_success (refine hK _ ?_)); clear hK K)); refine hK _ ?_; clear hK K) | ((first | refine aops_k fun K1 hK1 => ?_ | refine aqops_k fun K1 hK1 => ?_ | refine awp_cond_k fun A B hA hB => ?_); simp only [S1, simprocAttr, TTSdA, b0, b1, b2, b3, b4, c1, bH_len, beq_self_eq_true]; first | (refine hK1 _ ?_; clear hK1 K1) | ((first | refine hA ?_ | refine hB ?_); clear hA hB A B) | ((first | apply call_a E12 | apply call_q E12); exact (fA _ _); (refine hK1 _ ?_; clear hK1 K1)) | ((first | apply call_a E21 | apply call_q E21); exact (fB _ _); (refine hK1 _ ?_; clear hK1 K1)) | (refine join_x (v := ?_) (fun hg hk9 => ?_) ?_; rotate_left; (focus (try ((try simp only [BN] at hg); simp only [S1, simprocAttr, TTSdA, b0, b1, b2, b3, b4, c1, bH_len, beq_self_eq_true, hg] at hk9 ⊢)); first | exact hk9 | ((first | apply call_a E12 | apply call_q E12); exact (fA _ _); exact hk9) | ((first | apply call_a E21 | apply call_q E21); exact (fB _ _); exact hk9)); (refine hK1 _ ?_; clear hK1 K1)) | (((first | (refine ⟨fun hg => hA ?_, fun hg => hB ?_⟩ <;> clear hA hB A B) | refine ⟨fun hg => ?_, fun hg => ?_⟩) <;> (try simp only [BN2] at hg) <;> (try simp only [hg, cond_true, cond_false])) <;> (try (refine hK1 _ ?_; clear hK1 K1)) <;> (try simp only [BN3] at hg))) | (refine awp_seq_k fun K hK => ?_) | ((first | refine awp_region ?_ | refine awp_draw (by kernel_rfl) ?_ | refine awp_block ?_ | refine awp_exit ?_ | refine awp_skip ?_ | refine awp_ret ?_); (try simp only [NB, simprocAttr])))
      all_goals simp only [EndH, FinH, resA, resL, resA1, lastV, lastA, lastAs, pur, purs, bH_len, bH_take, S1, simprocAttr, Nat.le_add_right, Nat.le_refl]
      all_goals exact ⟨bH_keep, by rw [hr], e1.symm⟩
    | false =>
      obtain rfl : ea = f := by simpa using c1
      obtain rfl : la = [] := ferr hf0
      have hr : r1 = true := by rw [e2]; exact decide_eq_true rfl
      repeat' (first | ((first | refine aops_nil ?_ | refine aqops_nil ?_); (try simp only [NB])) | ((repeat ((fail_if_success (refine hK _ ?_)); clear hK K)); refine hK _ ?_; clear hK K) | ((first | refine aops_k fun K1 hK1 => ?_ | refine aqops_k fun K1 hK1 => ?_ | refine awp_cond_k fun A B hA hB => ?_); simp only [S1, simprocAttr, TTSdA, b0, b1, b2, b3, b4, c1, bH_len, beq_self_eq_true, List.map_nil, List.length_nil]; first | (refine hK1 _ ?_; clear hK1 K1) | ((first | refine hA ?_ | refine hB ?_); clear hA hB A B) | ((first | apply call_a E12 | apply call_q E12); exact (fA _ _); (refine hK1 _ ?_; clear hK1 K1)) | ((first | apply call_a E21 | apply call_q E21); exact (fB _ _); (refine hK1 _ ?_; clear hK1 K1)) | (refine join_x (v := ?_) (fun hg hk9 => ?_) ?_; rotate_left; (focus (try ((try simp only [BN] at hg); simp only [S1, simprocAttr, TTSdA, b0, b1, b2, b3, b4, c1, bH_len, beq_self_eq_true, List.map_nil, List.length_nil, hg] at hk9 ⊢)); first | exact hk9 | ((first | apply call_a E12 | apply call_q E12); exact (fA _ _); exact hk9) | ((first | apply call_a E21 | apply call_q E21); exact (fB _ _); exact hk9)); (refine hK1 _ ?_; clear hK1 K1)) | (((first | (refine ⟨fun hg => hA ?_, fun hg => hB ?_⟩ <;> clear hA hB A B) | refine ⟨fun hg => ?_, fun hg => ?_⟩) <;> (try simp only [BN2] at hg) <;> (try simp only [hg, cond_true, cond_false])) <;> (try (refine hK1 _ ?_; clear hK1 K1)) <;> (try simp only [BN3] at hg))) | (refine awp_seq_k fun K hK => ?_) | ((first | refine awp_region ?_ | refine awp_draw (by kernel_rfl) ?_ | refine awp_block ?_ | refine awp_exit ?_ | refine awp_skip ?_ | refine awp_ret ?_); (try simp only [NB, simprocAttr])))
      refine awp_forH 0 95 (fun j => bH h P ⟨g2, s2, q, o⟩ L) (fun j => [(67, .i 0), (66, .i 0)]) (fun j => []) (fun j => True)
        (fun j => ⟨by rw [bH_len, bH_len], fun i bk hi => by rw [bH_len]; exact bH_keepA i bk hi⟩) ?_ trivial fun j hj hp K hK => ?_
      · refine ⟨rfl, ⟨[], by simp⟩, ?_, trivial⟩
        simp only [keeps, avlt, avlts, blksLt, frL, upd_get, bH_len, S1, simprocAttr, List.length_map, List.length_cons, List.length_nil, Int.natCast_zero, AV.p.injEq, PV.int.injEq, PV.bool.injEq, PV.sl.injEq] <;> (try and_intros) <;> (try assumption) <;> (try trivial) <;> (try omega)
      rw [List.append_nil]
      repeat' (first | ((first | refine aops_nil ?_ | refine aqops_nil ?_); (try simp only [NB])) | ((repeat ((fail_if_success (refine hK _ ?_)); clear hK K)); refine hK _ ?_; clear hK K) | ((first | refine aops_k fun K1 hK1 => ?_ | refine aqops_k fun K1 hK1 => ?_ | refine awp_cond_k fun A B hA hB => ?_); simp only [S1, simprocAttr, TTSdA, Int.lt_irrefl]; first | (refine hK1 _ ?_; clear hK1 K1) | ((first | refine hA ?_ | refine hB ?_); clear hA hB A B) | (refine join_x (v := ?_) (fun hg hk9 => ?_) ?_; rotate_left; (focus (try ((try simp only [BN] at hg); simp only [S1, simprocAttr, TTSdA, Int.lt_irrefl, hg] at hk9 ⊢)); first | exact hk9); (refine hK1 _ ?_; clear hK1 K1)) | (((first | (refine ⟨fun hg => hA ?_, fun hg => hB ?_⟩ <;> clear hA hB A B) | refine ⟨fun hg => ?_, fun hg => ?_⟩) <;> (try simp only [BN2] at hg) <;> (try simp only [hg, cond_true, cond_false])) <;> (try (refine hK1 _ ?_; clear hK1 K1)) <;> (try simp only [BN3] at hg))) | (refine awp_seq_k fun K hK => ?_) | ((first | refine awp_region ?_ | refine awp_draw (by kernel_rfl) ?_ | refine awp_block ?_ | refine awp_exit ?_ | refine awp_skip ?_ | refine awp_ret ?_); (try simp only [NB, simprocAttr])))
      all_goals simp only [EndH, FinH, resA, resL, resA1, lastV, lastA, lastAs, pur, purs, bH_len, bH_take, S1, simprocAttr, Nat.le_add_right, Nat.le_refl]
      all_goals exact ⟨bH_keep, by rw [hr], e1.symm⟩
  · obtain ⟨k, rfl⟩ : ∃ k : Nat, i = (k : Int) := ⟨i.toNat, by omega⟩
    rw [Int.toNat_natCast] at hbad
    have fG := fun g s => fG g s k rfl (by omega) (by omega)
    have hfd : faultD P q o (k : Int) = ((gX q (faultRX P o k), faultRX P o k), (faultRX P o k).ac, 0) := by
      unfold faultD
      rw [if_neg (by omega), Int.toNat_natCast, if_neg (by omega)]
    rw [hfd] at e1 e2
    simp only at e1 e2
    generalize hq2 : gX q (faultRX P o k) = q2 at *
    generalize faultRX P o k = t at *
    cases c1 : (ea != 0) with
    | true =>
      have hne : ea ≠ 0 := by simpa using c1
      have hr : r1 = false := by rw [e2]; exact decide_eq_false fun e => hne (Prod.mk.inj e).2
      repeat' (first | ((first | refine aops_nil ?_ | refine aqops_nil ?_); (try simp only [NB])) | ((repeat ((fail_if_success (refine hK _ ?_)); clear hK K)); refine hK _ ?_; clear hK K) | ((first | refine aops_k fun K1 hK1 => ?_ | refine aqops_k fun K1 hK1 => ?_ | refine awp_cond_k fun A B hA hB => ?_); simp only [S1, simprocAttr, TTSdA, b0, b1, b2, b3, b4, c1, bH_len, beq_self_eq_true]; first | (refine hK1 _ ?_; clear hK1 K1) | ((first | refine hA ?_ | refine hB ?_); clear hA hB A B) | ((first | apply call_a E12 | apply call_q E12); exact (fA _ _); (refine hK1 _ ?_; clear hK1 K1)) | ((first | apply call_a E21 | apply call_q E21); exact (fG _ _); (refine hK1 _ ?_; clear hK1 K1)) | (refine join_x (v := ?_) (fun hg hk9 => ?_) ?_; rotate_left; (focus (try ((try simp only [BN] at hg); simp only [S1, simprocAttr, TTSdA, b0, b1, b2, b3, b4, c1, bH_len, beq_self_eq_true, hg] at hk9 ⊢)); first | exact hk9 | ((first | apply call_a E12 | apply call_q E12); exact (fA _ _); exact hk9) | ((first | apply call_a E21 | apply call_q E21); exact (fG _ _); exact hk9)); (refine hK1 _ ?_; clear hK1 K1)) | (((first | (refine ⟨fun hg => hA ?_, fun hg => hB ?_⟩ <;> clear hA hB A B) | refine ⟨fun hg => ?_, fun hg => ?_⟩) <;> (try simp only [BN2] at hg) <;> (try simp only [hg, cond_true, cond_false])) <;> (try (refine hK1 _ ?_; clear hK1 K1)) <;> (try simp only [BN3] at hg))) | (refine awp_seq_k fun K hK => ?_) | ((first | refine awp_region ?_ | refine awp_draw (by kernel_rfl) ?_ | refine awp_block ?_ | refine awp_exit ?_ | refine awp_skip ?_ | refine awp_ret ?_); (try simp only [NB, simprocAttr])))
      all_goals simp only [EndH, FinH, resA, resL, resA1, lastV, lastA, lastAs, pur, purs, bH_len, bH_take, S1, simprocAttr, Nat.le_add_right, Nat.le_refl]
      all_goals exact ⟨bH_keep, by rw [hr], e1.symm⟩
    | false =>
    obtain rfl : ea = 0 := by simpa using c1
    cases c2 : ((la.length : Int) != (t.ac.length : Int)) with
    | true =>
      have hne : la.length ≠ t.ac.length := by intro e; rw [e] at c2; simp at c2
      have hr : r1 = false := by rw [e2]; exact decide_eq_false fun e => hne (congrArg List.length (Prod.mk.inj e).1)
      repeat' (first | ((first | refine aops_nil ?_ | refine aqops_nil ?_); (try simp only [NB])) | ((repeat ((fail_if_success (refine hK _ ?_)); clear hK K)); refine hK _ ?_; clear hK K) | ((first | refine aops_k fun K1 hK1 => ?_ | refine aqops_k fun K1 hK1 => ?_ | refine awp_cond_k fun A B hA hB => ?_); simp only [S1, simprocAttr, TTSdA, b0, b1, b2, b3, b4, c1, c2, bH_len, beq_self_eq_true, List.length_map]; first | (refine hK1 _ ?_; clear hK1 K1) | ((first | refine hA ?_ | refine hB ?_); clear hA hB A B) | ((first | apply call_a E12 | apply call_q E12); exact (fA _ _); (refine hK1 _ ?_; clear hK1 K1)) | ((first | apply call_a E21 | apply call_q E21); exact (fG _ _); (refine hK1 _ ?_; clear hK1 K1)) | (refine join_x (v := ?_) (fun hg hk9 => ?_) ?_; rotate_left; (focus (try ((try simp only [BN] at hg); simp only [S1, simprocAttr, TTSdA, b0, b1, b2, b3, b4, c1, c2, bH_len, beq_self_eq_true, List.length_map, hg] at hk9 ⊢)); first | exact hk9 | ((first | apply call_a E12 | apply call_q E12); exact (fA _ _); exact hk9) | ((first | apply call_a E21 | apply call_q E21); exact (fG _ _); exact hk9)); (refine hK1 _ ?_; clear hK1 K1)) | (((first | (refine ⟨fun hg => hA ?_, fun hg => hB ?_⟩ <;> clear hA hB A B) | refine ⟨fun hg => ?_, fun hg => ?_⟩) <;> (try simp only [BN2] at hg) <;> (try simp only [hg, cond_true, cond_false])) <;> (try (refine hK1 _ ?_; clear hK1 K1)) <;> (try simp only [BN3] at hg))) | (refine awp_seq_k fun K hK => ?_) | ((first | refine awp_region ?_ | refine awp_draw (by kernel_rfl) ?_ | refine awp_block ?_ | refine awp_exit ?_ | refine awp_skip ?_ | refine awp_ret ?_); (try simp only [NB, simprocAttr])))
      all_goals simp only [EndH, FinH, resA, resL, resA1, lastV, lastA, lastAs, pur, purs, bH_len, bH_take, S1, simprocAttr, Nat.le_add_right, Nat.le_refl]
      all_goals exact ⟨bH_keep, by rw [hr], e1.symm⟩
    | false =>
    have hll : la.length = t.ac.length := by
      have : (la.length : Int) = (t.ac.length : Int) := by simpa using c2
      omega
    repeat' (first | ((first | refine aops_nil ?_ | refine aqops_nil ?_); (try simp only [NB])) | ((repeat ((fail_if_success (refine hK _ ?_)); clear hK K)); refine hK _ ?_; clear hK K) | ((first | refine aops_k fun K1 hK1 => ?_ | refine aqops_k fun K1 hK1 => ?_ | refine awp_cond_k fun A B hA hB => ?_); simp only [S1, simprocAttr, TTSdA, b0, b1, b2, b3, b4, c1, c2, bH_len, beq_self_eq_true, List.length_map]; first | (refine hK1 _ ?_; clear hK1 K1) | ((first | refine hA ?_ | refine hB ?_); clear hA hB A B) | ((first | apply call_a E12 | apply call_q E12); exact (fA _ _); (refine hK1 _ ?_; clear hK1 K1)) | ((first | apply call_a E21 | apply call_q E21); exact (fG _ _); (refine hK1 _ ?_; clear hK1 K1)) | (refine join_x (v := ?_) (fun hg hk9 => ?_) ?_; rotate_left; (focus (try ((try simp only [BN] at hg); simp only [S1, simprocAttr, TTSdA, b0, b1, b2, b3, b4, c1, c2, bH_len, beq_self_eq_true, List.length_map, hg] at hk9 ⊢)); first | exact hk9 | ((first | apply call_a E12 | apply call_q E12); exact (fA _ _); exact hk9) | ((first | apply call_a E21 | apply call_q E21); exact (fG _ _); exact hk9)); (refine hK1 _ ?_; clear hK1 K1)) | (((first | (refine ⟨fun hg => hA ?_, fun hg => hB ?_⟩ <;> clear hA hB A B) | refine ⟨fun hg => ?_, fun hg => ?_⟩) <;> (try simp only [BN2] at hg) <;> (try simp only [hg, cond_true, cond_false])) <;> (try (refine hK1 _ ?_; clear hK1 K1)) <;> (try simp only [BN3] at hg))) | (refine awp_seq_k fun K hK => ?_) | ((first | refine awp_region ?_ | refine awp_draw (by kernel_rfl) ?_ | refine awp_block ?_ | refine awp_exit ?_ | refine awp_skip ?_ | refine awp_ret ?_); (try simp only [NB, simprocAttr])))
    refine awp_forH la.length 95 (fun j => bH h P ⟨g2, s2, q2, t⟩ L) (fun j => [(67, .i j), (66, .i la.length), (7, aAc la), (9, .ref (h.length + 6) q2.gl 0 2 t.ac.length)]) (fun j => []) (fun j => la.take j = t.ac.take j)
      (fun j => ⟨by rw [bH_len, bH_len], fun i bk hi => by rw [bH_len]; exact bH_keepA i bk hi⟩) ?_ rfl fun j hj hp K hK => ?_
    · refine ⟨rfl, ⟨[], by simp⟩, ?_, trivial⟩
      simp only [keeps, avlt, avlts, blksLt, frL, upd_get, bH_len, S1, simprocAttr, List.length_map, List.length_cons, List.length_nil, Int.natCast_zero, AV.p.injEq, PV.int.injEq, PV.bool.injEq, PV.sl.injEq] <;> (try and_intros) <;> (try assumption) <;> (try trivial) <;> (try omega)
    rw [List.append_nil]
    rcases Nat.lt_or_ge j la.length with hlt | hge
    · obtain ⟨x, hx⟩ : ∃ x, la[j]? = some x := ⟨_, List.getElem?_eq_getElem hlt⟩
      obtain ⟨y, hy⟩ : ∃ y, t.ac[j]? = some y := ⟨_, List.getElem?_eq_getElem (by omega)⟩
      have jl : (j : Int) < (la.length : Int) := by omega
      have j0 : (0 : Int) ≤ (j : Int) := by omega
      have jt : (j : Int) < (t.ac.length : Int) := by omega
      have hnx := nextJ (n := la.length) fle hlt
      have hxr := rowAct hx
      have dy := act_at _ _ _ hy
      have dy1 := act_at1 hy
      have hac := bH_ac (h := h) (P := P) (b := ⟨g2, s2, q2, t⟩) (L := L)
      have hes : x ≠ y → r1 = false := fun hne => by
        rw [e2]
        refine decide_eq_false fun e => hne ?_
        rw [(Prod.mk.inj e).1, hy] at hx
        exact (Option.some.inj hx).symm
      cases d1 : (x.1 != y.1) with
      | true =>
        have hr := hes fun e => by rw [e] at d1; simp at d1
        repeat' (first | ((first | refine aops_nil ?_ | refine aqops_nil ?_); (try simp only [NB])) | ((repeat ((fail_if_success (refine hK _ ?_)); clear hK K)); refine hK _ ?_; clear hK K) | ((first | refine aops_k fun K1 hK1 => ?_ | refine aqops_k fun K1 hK1 => ?_ | refine awp_cond_k fun A B hA hB => ?_); simp only [S1, simprocAttr, TTSdA, jl, j0, jt, hxr, dy, dy1, hac, d1, wAc, bH_len, Int.toNat_natCast, Nat.mul_one, Nat.zero_add, List.length_map]; first | (refine hK1 _ ?_; clear hK1 K1) | ((first | refine hA ?_ | refine hB ?_); clear hA hB A B) | (refine join_x (v := ?_) (fun hg hk9 => ?_) ?_; rotate_left; (focus (try ((try simp only [BN] at hg); simp only [S1, simprocAttr, TTSdA, jl, j0, jt, hxr, dy, dy1, hac, d1, wAc, bH_len, Int.toNat_natCast, Nat.mul_one, Nat.zero_add, List.length_map, hg] at hk9 ⊢)); first | exact hk9); (refine hK1 _ ?_; clear hK1 K1)) | (((first | (refine ⟨fun hg => hA ?_, fun hg => hB ?_⟩ <;> clear hA hB A B) | refine ⟨fun hg => ?_, fun hg => ?_⟩) <;> (try simp only [BN2] at hg) <;> (try simp only [hg, cond_true, cond_false])) <;> (try (refine hK1 _ ?_; clear hK1 K1)) <;> (try simp only [BN3] at hg))) | (refine awp_seq_k fun K hK => ?_) | ((first | refine awp_region ?_ | refine awp_draw (by kernel_rfl) ?_ | refine awp_block ?_ | refine awp_exit ?_ | refine awp_skip ?_ | refine awp_ret ?_); (try simp only [NB, simprocAttr])))
        all_goals simp only [EndH, FinH, resA, resL, resA1, lastV, lastA, lastAs, pur, purs, bH_len, bH_take, S1, simprocAttr, Nat.le_add_right, Nat.le_refl]
        all_goals exact ⟨bH_keep, by rw [hr], e1.symm⟩
      | false =>
      cases d2 : ((x.2 : Int) != (y.2 : Int)) with
      | true =>
        have hr := hes fun e => by rw [e] at d2; simp at d2
        repeat' (first | ((first | refine aops_nil ?_ | refine aqops_nil ?_); (try simp only [NB])) | ((repeat ((fail_if_success (refine hK _ ?_)); clear hK K)); refine hK _ ?_; clear hK K) | ((first | refine aops_k fun K1 hK1 => ?_ | refine aqops_k fun K1 hK1 => ?_ | refine awp_cond_k fun A B hA hB => ?_); simp only [S1, simprocAttr, TTSdA, jl, j0, jt, hxr, dy, dy1, hac, d1, d2, wAc, bH_len, Int.toNat_natCast, Nat.mul_one, Nat.zero_add, List.length_map]; first | (refine hK1 _ ?_; clear hK1 K1) | ((first | refine hA ?_ | refine hB ?_); clear hA hB A B) | (refine join_x (v := ?_) (fun hg hk9 => ?_) ?_; rotate_left; (focus (try ((try simp only [BN] at hg); simp only [S1, simprocAttr, TTSdA, jl, j0, jt, hxr, dy, dy1, hac, d1, d2, wAc, bH_len, Int.toNat_natCast, Nat.mul_one, Nat.zero_add, List.length_map, hg] at hk9 ⊢)); first | exact hk9); (refine hK1 _ ?_; clear hK1 K1)) | (((first | (refine ⟨fun hg => hA ?_, fun hg => hB ?_⟩ <;> clear hA hB A B) | refine ⟨fun hg => ?_, fun hg => ?_⟩) <;> (try simp only [BN2] at hg) <;> (try simp only [hg, cond_true, cond_false])) <;> (try (refine hK1 _ ?_; clear hK1 K1)) <;> (try simp only [BN3] at hg))) | (refine awp_seq_k fun K hK => ?_) | ((first | refine awp_region ?_ | refine awp_draw (by kernel_rfl) ?_ | refine awp_block ?_ | refine awp_exit ?_ | refine awp_skip ?_ | refine awp_ret ?_); (try simp only [NB, simprocAttr])))
        all_goals simp only [EndH, FinH, resA, resL, resA1, lastV, lastA, lastAs, pur, purs, bH_len, bH_take, S1, simprocAttr, Nat.le_add_right, Nat.le_refl]
        all_goals exact ⟨bH_keep, by rw [hr], e1.symm⟩
      | false =>
        have hxy : x = y := by
          have q1 : x.1 = y.1 := by simpa using d1
          have q2 : (x.2 : Int) = (y.2 : Int) := by simpa using d2
          exact Prod.ext q1 (by omega)
        repeat' (first | ((first | refine aops_nil ?_ | refine aqops_nil ?_); (try simp only [NB])) | ((repeat ((fail_if_success (refine hK _ ?_)); clear hK K)); refine hK _ ?_; clear hK K) | ((first | refine aops_k fun K1 hK1 => ?_ | refine aqops_k fun K1 hK1 => ?_ | refine awp_cond_k fun A B hA hB => ?_); simp only [S1, simprocAttr, TTSdA, jl, j0, jt, hnx, hxr, dy, dy1, hac, d1, d2, wAc, bH_len, Int.toNat_natCast, Nat.mul_one, Nat.zero_add, List.length_map]; first | (refine hK1 _ ?_; clear hK1 K1) | ((first | refine hA ?_ | refine hB ?_); clear hA hB A B) | (refine join_x (v := ?_) (fun hg hk9 => ?_) ?_; rotate_left; (focus (try ((try simp only [BN] at hg); simp only [S1, simprocAttr, TTSdA, jl, j0, jt, hnx, hxr, dy, dy1, hac, d1, d2, wAc, bH_len, Int.toNat_natCast, Nat.mul_one, Nat.zero_add, List.length_map, hg] at hk9 ⊢)); first | exact hk9); (refine hK1 _ ?_; clear hK1 K1)) | (((first | (refine ⟨fun hg => hA ?_, fun hg => hB ?_⟩ <;> clear hA hB A B) | refine ⟨fun hg => ?_, fun hg => ?_⟩) <;> (try simp only [BN2] at hg) <;> (try simp only [hg, cond_true, cond_false])) <;> (try (refine hK1 _ ?_; clear hK1 K1)) <;> (try simp only [BN3] at hg))) | (refine awp_seq_k fun K hK => ?_) | ((first | refine awp_region ?_ | refine awp_draw (by kernel_rfl) ?_ | refine awp_block ?_ | refine awp_exit ?_ | refine awp_skip ?_ | refine awp_ret ?_); (try simp only [NB, simprocAttr])))
        all_goals refine ⟨hlt, by rw [List.take_add_one, List.take_add_one, hx, hy, hp, hxy], rfl, ⟨[], by simp⟩, ?_, trivial⟩
        all_goals simp only [keeps, avlt, avlts, blksLt, frL, upd_get, bH_len, S1, simprocAttr, List.length_map, List.length_cons, List.length_nil, Int.natCast_zero, AV.p.injEq, PV.int.injEq, PV.bool.injEq, PV.sl.injEq] <;> (try and_intros) <;> (try assumption) <;> (try trivial) <;> (try omega)
    · have hj' : j = la.length := by omega
      have hab := takes_eq hll hj' hp
      have hr : r1 = true := by rw [e2, hab]; exact decide_eq_true rfl
      subst hj'
      repeat' (first | ((first | refine aops_nil ?_ | refine aqops_nil ?_); (try simp only [NB])) | ((repeat ((fail_if_success (refine hK _ ?_)); clear hK K)); refine hK _ ?_; clear hK K) | ((first | refine aops_k fun K1 hK1 => ?_ | refine aqops_k fun K1 hK1 => ?_ | refine awp_cond_k fun A B hA hB => ?_); simp only [S1, simprocAttr, TTSdA, Int.lt_irrefl]; first | (refine hK1 _ ?_; clear hK1 K1) | ((first | refine hA ?_ | refine hB ?_); clear hA hB A B) | (refine join_x (v := ?_) (fun hg hk9 => ?_) ?_; rotate_left; (focus (try ((try simp only [BN] at hg); simp only [S1, simprocAttr, TTSdA, Int.lt_irrefl, hg] at hk9 ⊢)); first | exact hk9); (refine hK1 _ ?_; clear hK1 K1)) | (((first | (refine ⟨fun hg => hA ?_, fun hg => hB ?_⟩ <;> clear hA hB A B) | refine ⟨fun hg => ?_, fun hg => ?_⟩) <;> (try simp only [BN2] at hg) <;> (try simp only [hg, cond_true, cond_false])) <;> (try (refine hK1 _ ?_; clear hK1 K1)) <;> (try simp only [BN3] at hg))) | (refine awp_seq_k fun K hK => ?_) | ((first | refine awp_region ?_ | refine awp_draw (by kernel_rfl) ?_ | refine awp_block ?_ | refine awp_exit ?_ | refine awp_skip ?_ | refine awp_ret ?_); (try simp only [NB, simprocAttr])))
      all_goals simp only [EndH, FinH, resA, resL, resA1, lastV, lastA, lastAs, pur, purs, bH_len, bH_take, S1, simprocAttr, Nat.le_add_right, Nat.le_refl]
      all_goals exact ⟨bH_keep, by rw [hr], e1.symm⟩
end Go.Proofs.Ytkmcecbglomemaa.AM
end

section
set_option linter.unusedVariables false
set_option linter.unusedSimpArgs false
set_option maxRecDepth 4000
set_option maxHeartbeats 4000000
namespace Go.Proofs.Ytkmcecbglomemaa.AM
open Go Go.Proofs
set_option linter.defProp false in
def TTSdB := And.intro T2 (And.intro T3 (And.intro T4 (And.intro T22 (And.intro T23 (And.intro T25 (And.intro T26 (And.intro T29 (And.intro T35 (And.intro T37 (And.intro T41 (And.intro T45 (And.intro T49 (And.intro T54 (And.intro T56 (And.intro T57 (And.intro T59 (And.intro T61 T64)))))))))))))))))
attribute [local irreducible] awp aops aqops aeops arun arunT arunN
variable {G : Nat → Option (List PV)}

def eSt (s : Int × Int) : List PV := [.int .i64 s.1, .int .i64 s.2]
abbrev aSt (l : List (Int × Int)) : AV := .p (.sl (l.map eSt))
theorem rowSp {l : List (Int × Int)} {j : Nat} {s : Int × Int} (h : l[j]? = some s) : (l.map eSt)[j]? = some [.int .i64 s.1, .int .i64 s.2] := by rw [List.getElem?_map, h]; rfl
def b0 (P : List Sc) : SB := ⟨⟨0, 0, 0⟩, ⟨newSt P.length, [], []⟩, ⟨P.length, 0⟩, newR⟩
def bN (P : List Sc) (l : List (Int × Int)) (j : Nat) : SB := (l.take j).foldl (fun b s => dB P b s.1 s.2) (b0 P)
theorem bN_succ {P : List Sc} {l : List (Int × Int)} {j : Nat} {s : Int × Int} (h : l[j]? = some s) : bN P l (j + 1) = dB P (bN P l j) s.1 s.2 := by
  unfold bN
  rw [List.take_add_one, h, List.foldl_append]; rfl
theorem fault_to {P : List Sc} {s : Rs} (pl : PlOk P) (ok : RsOk P s) {k : Nat} (hk : k < P.length) (h1 : stA s.st k = 1) : FltTo P k ⟨s.st, s.dn, []⟩ (faultX P s k) := fault_spec pl (k + 1) k ⟨s.st, s.dn, []⟩ (by omega) hk ok.clear h1
theorem faultC_ok {P : List Sc} {g : Rg} {s : Rs} (pl : PlOk P) (ok : RsOk P s) (i : Int) : RsOk P (faultC P g s i).1.2 ∧ ∀ k, 3 ≤ stA s.st k → stA (faultC P g s i).1.2.st k = stA s.st k := by
  unfold faultC
  split
  · exact ⟨ok, fun _ _ => rfl⟩
  split
  · exact ⟨ok, fun _ _ => rfl⟩
  rename_i h1 h2
  have := fault_to pl ok (k := i.toNat) (by omega) (by simpa using h2)
  exact ⟨this.ok, this.le⟩
theorem enter_once {P : List Sc} {s : Rs} (i : Int) (k : Nat) (h : 3 ≤ stA s.st k) : stA (enterF P s i).1.st k = stA s.st k := by
  unfold enterF
  split
  · rfl
  split
  · rfl
  · rename_i h1 h2
    show stA (s.st.set i.toNat 1) k = _
    rcases Nat.lt_or_ge i.toNat s.st.length with hl | hl
    · rw [stA_set hl, if_neg (by intro e; subst e; omega)]
    · rw [List.set_eq_of_length_le hl]
theorem leave_once {P : List Sc} {g : Rg} {s : Rs} (i : Int) (k : Nat) (h : 3 ≤ stA s.st k) : stA (leaveF P g s i).2.1.st k = stA s.st k := by
  unfold leaveF
  split
  · rfl
  split
  · rfl
  · rename_i h1 h2
    show stA (s.st.set i.toNat 2) k = _
    rcases Nat.lt_or_ge i.toNat s.st.length with hl | hl
    · rw [stA_set hl, if_neg (by intro e; subst e; omega)]
    · rw [List.set_eq_of_length_le hl]
theorem dB_ok {P : List Sc} {b : SB} (pl : PlOk P) (ok : RsOk P b.s) (w i : Int) : RsOk P (dB P b w i).s ∧ ∀ k, 3 ≤ stA b.s.st k → stA (dB P b w i).s.st k = stA b.s.st k := by
  unfold dB
  split
  · exact ⟨ok.enter pl i, fun k h => enter_once i k h⟩
  split
  · exact ⟨ok.leave i, fun k h => leave_once i k h⟩
  split
  · exact faultC_ok pl ok i
  · exact ⟨ok, fun _ _ => rfl⟩
theorem bN_ok {P : List Sc} (pl : PlOk P) (l : List (Int × Int)) : ∀ j, RsOk P (bN P l j).s
  | 0 => RsOk.new pl
  | j + 1 => by
    cases hx : l[j]? with
    | none =>
      have : bN P l (j + 1) = bN P l j := by unfold bN; rw [List.take_add_one, hx]; simp
      rw [this]; exact bN_ok pl l j
    | some s => rw [bN_succ hx]; exact (dB_ok pl (bN_ok pl l j) s.1 s.2).1

def bW (n : Nat) (P : List Sc) (b : SB) : List (Option Blk) := [stB b.s, runB n P b.g b.s, dnB b.g b.s, acB b.g b.s, wRun (n + 4) P b.q b.o, wPs P b.q b.o, wAc b.q b.o]
theorem bW_len (n : Nat) (P : List Sc) (b : SB) : (bW n P b).length = 7 := rfl
section
variable {h : Heap} {P : List Sc} {b : SB} {L : Heap}
theorem bH_is : h ++ (bW h.length P b ++ L) = bH h P b L := rfl
theorem bW_avl {m : Nat} (hm : h.length + 7 ≤ m) (hL : blksLt m L) : blksLt m (bW h.length P b ++ L) := by
  refine ⟨avlts_i _ _, ⟨trivial, by simp only [avlt]; omega, by simp only [avlt]; omega, by simp only [avlt]; omega, trivial⟩, cDn_avl _ _ _, cAct_avl _ _, ⟨by simp only [avlt]; omega, trivial, by simp only [avlt]; omega, trivial⟩, cOne_avl _, cAct_avl _ _, hL⟩
theorem bH_get7 (x : Option Blk) (M : Heap) : (bH h P b (x :: M))[h.length + 7]? = some x := by
  have : bH h P b (x :: M) = bH h P b [] ++ (x :: M) := by rw [bH_app]; rfl
  have hl := bH_len (h := h) (P := P) (b := b) (L := [])
  rw [List.length_nil, Nat.zero_add] at hl
  rw [this, ← hl, get_app0]; rfl
theorem bH_set7 (x y : Option Blk) (M : Heap) : (bH h P b (x :: M)).set (h.length + 7) y = bH h P b (y :: M) := by
  have e : ∀ z, bH h P b (z :: M) = bH h P b [] ++ (z :: M) := fun z => by rw [bH_app]; rfl
  have hl := bH_len (h := h) (P := P) (b := b) (L := [])
  rw [List.length_nil, Nat.zero_add] at hl
  rw [e, e, ← hl, set_app0]; rfl
theorem stateB (ok : RsOk P b.s) {k : Nat} (hk : k < P.length) : ACalls Try.prog G 14 [.ptr (h.length + 1) 0 0, .i k] (bH h P b L) (fun r h' => r = .i (stA b.s.st k) ∧ h' = bH h P b L) := by
  have := state_calls (G := G) (h := h) (P := P) (g := b.g) (s := b.s) (L := wRun (h.length + 4) P b.q b.o :: wPs P b.q b.o :: wAc b.q b.o :: L) ok.len k
  unfold stateF at this
  rw [if_neg (by omega), Int.toNat_natCast] at this
  exact this
theorem new_both {P : List Sc} (pl : PlOk P) (h : Heap) : ACalls Try.prog G 9 [aSc P] (rnH h P ⟨0, 0, 0⟩ ⟨newSt P.length, [], []⟩ []) (fun r h' => r = .tup [.ptr (h.length + 4) 0 0, .i 0] ∧ h' = bH h P (b0 P) []) := by
  have := NewR_good (G := G) pl (rnH h P ⟨0, 0, 0⟩ ⟨newSt P.length, [], []⟩ [])
  rw [rn0_len, bH_w] at this
  exact this
end

/-- Each state, one behind the other. -/
theorem once_calls (P : List Sc) (l : List (Int × Int)) (h : Heap) : ACalls Try.prog G 4 [aSc P, aSt l] h (fun r h' => r = .b true ∧ h' = h) := by
  have hu := fun h => undone_calls (G := G) h
  by_cases c0 : (60 : Int) < (P.length : Int)
  · refine acalls_pure (rl := []) mixed Try.func4 rfl (rs := [.tmp 4]) rfl Try.ntmps4 (by simp) ?_
    repeat' (first | ((first | refine aops_nil ?_ | refine aqops_nil ?_); (try simp only [NB])) | ((repeat ((fail_if_success (refine hK _ ?_)); clear hK K)); refine hK _ ?_; clear hK K) | ((first | refine aops_k fun K1 hK1 => ?_ | refine aqops_k fun K1 hK1 => ?_ | refine awp_cond_k fun A B hA hB => ?_); simp only [S1, simprocAttr, TTSdB, c0, List.length_map]; first | (refine hK1 _ ?_; clear hK1 K1) | ((first | refine hA ?_ | refine hB ?_); clear hA hB A B) | ((first | apply call_a E7 | apply call_q E7); exact (hu _); (refine hK1 _ ?_; clear hK1 K1)) | (refine join_x (v := ?_) (fun hg hk9 => ?_) ?_; rotate_left; (focus (try ((try simp only [BN] at hg); simp only [S1, simprocAttr, TTSdB, c0, List.length_map, hg] at hk9 ⊢)); first | exact hk9 | ((first | apply call_a E7 | apply call_q E7); exact (hu _); exact hk9)); (refine hK1 _ ?_; clear hK1 K1)) | (((first | (refine ⟨fun hg => hA ?_, fun hg => hB ?_⟩ <;> clear hA hB A B) | refine ⟨fun hg => ?_, fun hg => ?_⟩) <;> (try simp only [BN2] at hg) <;> (try simp only [hg, cond_true, cond_false])) <;> (try (refine hK1 _ ?_; clear hK1 K1)) <;> (try simp only [BN3] at hg))) | (refine awp_seq_k fun K hK => ?_) | ((first | refine awp_region ?_ | refine awp_draw (by kernel_rfl) ?_ | refine awp_block ?_ | refine awp_exit ?_ | refine awp_skip ?_ | refine awp_ret ?_); (try simp only [NB, simprocAttr])))
    all_goals simp only [EndP, FinP, resA, resL, resA1, lastV, lastA, lastAs, pur, purs, take_app, List.take_length, S1, simprocAttr, TTSdB, Nat.le_add_right, Nat.le_refl]
  by_cases c1 : (200 : Int) < (l.length : Int)
  · refine acalls_pure (rl := []) mixed Try.func4 rfl (rs := [.tmp 4]) rfl Try.ntmps4 (by simp) ?_
    repeat' (first | ((first | refine aops_nil ?_ | refine aqops_nil ?_); (try simp only [NB])) | ((repeat ((fail_if_success (refine hK _ ?_)); clear hK K)); refine hK _ ?_; clear hK K) | ((first | refine aops_k fun K1 hK1 => ?_ | refine aqops_k fun K1 hK1 => ?_ | refine awp_cond_k fun A B hA hB => ?_); simp only [S1, simprocAttr, TTSdB, c0, c1, List.length_map]; first | (refine hK1 _ ?_; clear hK1 K1) | ((first | refine hA ?_ | refine hB ?_); clear hA hB A B) | ((first | apply call_a E7 | apply call_q E7); exact (hu _); (refine hK1 _ ?_; clear hK1 K1)) | (refine join_x (v := ?_) (fun hg hk9 => ?_) ?_; rotate_left; (focus (try ((try simp only [BN] at hg); simp only [S1, simprocAttr, TTSdB, c0, c1, List.length_map, hg] at hk9 ⊢)); first | exact hk9 | ((first | apply call_a E7 | apply call_q E7); exact (hu _); exact hk9)); (refine hK1 _ ?_; clear hK1 K1)) | (((first | (refine ⟨fun hg => hA ?_, fun hg => hB ?_⟩ <;> clear hA hB A B) | refine ⟨fun hg => ?_, fun hg => ?_⟩) <;> (try simp only [BN2] at hg) <;> (try simp only [hg, cond_true, cond_false])) <;> (try (refine hK1 _ ?_; clear hK1 K1)) <;> (try simp only [BN3] at hg))) | (refine awp_seq_k fun K hK => ?_) | ((first | refine awp_region ?_ | refine awp_draw (by kernel_rfl) ?_ | refine awp_block ?_ | refine awp_exit ?_ | refine awp_skip ?_ | refine awp_ret ?_); (try simp only [NB, simprocAttr])))
    all_goals simp only [EndP, FinP, resA, resL, resA1, lastV, lastA, lastAs, pur, purs, take_app, List.take_length, S1, simprocAttr, TTSdB, Nat.le_add_right, Nat.le_refl]
  by_cases pl : PlOk P
  rotate_left
  · have n1 := fun h => New_bad (G := G) pl h
    have n2 := fun h => NewR_bad (G := G) pl h
    have n3 := fun h => refs_calls (G := G) (P := P) (by omega) h
    refine acalls_pure (rl := []) mixed Try.func4 rfl (rs := [.tmp 4]) rfl Try.ntmps4 (by simp) ?_
    repeat' (first | ((first | refine aops_nil ?_ | refine aqops_nil ?_); (try simp only [NB])) | ((repeat ((fail_if_success (refine hK _ ?_)); clear hK K)); refine hK _ ?_; clear hK K) | ((first | refine aops_k fun K1 hK1 => ?_ | refine aqops_k fun K1 hK1 => ?_ | refine awp_cond_k fun A B hA hB => ?_); simp only [S1, simprocAttr, TTSdB, c0, c1, beq_self_eq_true, List.length_map]; first | (refine hK1 _ ?_; clear hK1 K1) | ((first | refine hA ?_ | refine hB ?_); clear hA hB A B) | ((first | apply call_a E7 | apply call_q E7); exact (hu _); (refine hK1 _ ?_; clear hK1 K1)) | ((first | apply call_a E8 | apply call_q E8); exact (n1 _); (refine hK1 _ ?_; clear hK1 K1)) | ((first | apply call_a E9 | apply call_q E9); exact (n2 _); (refine hK1 _ ?_; clear hK1 K1)) | ((first | apply call_a E10 | apply call_q E10); exact (n3 _); (refine hK1 _ ?_; clear hK1 K1)) | (refine join_x (v := ?_) (fun hg hk9 => ?_) ?_; rotate_left; (focus (try ((try simp only [BN] at hg); simp only [S1, simprocAttr, TTSdB, c0, c1, beq_self_eq_true, List.length_map, hg] at hk9 ⊢)); first | exact hk9 | ((first | apply call_a E7 | apply call_q E7); exact (hu _); exact hk9) | ((first | apply call_a E8 | apply call_q E8); exact (n1 _); exact hk9) | ((first | apply call_a E9 | apply call_q E9); exact (n2 _); exact hk9) | ((first | apply call_a E10 | apply call_q E10); exact (n3 _); exact hk9)); (refine hK1 _ ?_; clear hK1 K1)) | (((first | (refine ⟨fun hg => hA ?_, fun hg => hB ?_⟩ <;> clear hA hB A B) | refine ⟨fun hg => ?_, fun hg => ?_⟩) <;> (try simp only [BN2] at hg) <;> (try simp only [hg, cond_true, cond_false])) <;> (try (refine hK1 _ ?_; clear hK1 K1)) <;> (try simp only [BN3] at hg))) | (refine awp_seq_k fun K hK => ?_) | ((first | refine awp_region ?_ | refine awp_draw (by kernel_rfl) ?_ | refine awp_block ?_ | refine awp_exit ?_ | refine awp_skip ?_ | refine awp_ret ?_); (try simp only [NB, simprocAttr])))
    all_goals simp only [EndP, FinP, resA, resL, resA1, lastV, lastA, lastAs, pur, purs, take_app, List.take_length, S1, simprocAttr, TTSdB, Nat.le_add_right, Nat.le_refl]
  have n1 := New_calls (G := G) pl h
  have n2 := new_both (G := G) pl h
  have n3 := fun h => refs_calls (G := G) (P := P) (by omega) h
  have hlen : l.length ≤ 1000 := by omega
  have hpn : P.length ≤ 1000 := by omega
  refine acalls_pure (rl := []) mixed Try.func4 rfl (rs := [.tmp 4]) rfl Try.ntmps4 (by simp) ?_
  refine awp_seq_k fun K hK => ?_
  repeat' (first | ((first | refine aops_nil ?_ | refine aqops_nil ?_); (try simp only [NB]); ((repeat ((fail_if_success (refine hK _ ?_)); clear hK K)); refine hK _ ?_; clear hK K)) | ((first | refine aops_k fun K1 hK1 => ?_ | refine aqops_k fun K1 hK1 => ?_ | refine awp_cond_k fun A B hA hB => ?_); simp only [S1, simprocAttr, TTSdB]; first | (refine hK1 _ ?_; clear hK1 K1) | ((first | refine hA ?_ | refine hB ?_); clear hA hB A B) | (refine join_x (v := ?_) (fun hg hk9 => ?_) ?_; rotate_left; (focus (try ((try simp only [BN] at hg); simp only [S1, simprocAttr, TTSdB, hg] at hk9 ⊢)); first | exact hk9); (refine hK1 _ ?_; clear hK1 K1)) | (((first | (refine ⟨fun hg => hA ?_, fun hg => hB ?_⟩ <;> clear hA hB A B) | refine ⟨fun hg => ?_, fun hg => ?_⟩) <;> (try simp only [BN2] at hg) <;> (try simp only [hg, cond_true, cond_false])) <;> (try (refine hK1 _ ?_; clear hK1 K1)) <;> (try simp only [BN3] at hg))) | (fail) | ((first | refine awp_region ?_ | refine awp_draw (by kernel_rfl) ?_ | refine awp_block ?_ | refine awp_exit ?_ | refine awp_skip ?_ | refine awp_ret ?_); (try simp only [NB, simprocAttr]); (try ((repeat ((fail_if_success (refine hK _ ?_)); clear hK K)); refine hK _ ?_; clear hK K))))
  refine awp_seq_k fun K hK => ?_
  refine awp_seq_k fun K hK => ?_
  repeat' (first | ((first | refine aops_nil ?_ | refine aqops_nil ?_); (try simp only [NB]); ((repeat ((fail_if_success (refine hK _ ?_)); clear hK K)); refine hK _ ?_; clear hK K)) | ((first | refine aops_k fun K1 hK1 => ?_ | refine aqops_k fun K1 hK1 => ?_ | refine awp_cond_k fun A B hA hB => ?_); simp only [S1, simprocAttr, TTSdB, c0, c1, List.length_map]; first | (refine hK1 _ ?_; clear hK1 K1) | ((first | refine hA ?_ | refine hB ?_); clear hA hB A B) | (refine join_x (v := ?_) (fun hg hk9 => ?_) ?_; rotate_left; (focus (try ((try simp only [BN] at hg); simp only [S1, simprocAttr, TTSdB, c0, c1, List.length_map, hg] at hk9 ⊢)); first | exact hk9); (refine hK1 _ ?_; clear hK1 K1)) | (((first | (refine ⟨fun hg => hA ?_, fun hg => hB ?_⟩ <;> clear hA hB A B) | refine ⟨fun hg => ?_, fun hg => ?_⟩) <;> (try simp only [BN2] at hg) <;> (try simp only [hg, cond_true, cond_false])) <;> (try (refine hK1 _ ?_; clear hK1 K1)) <;> (try simp only [BN3] at hg))) | (fail) | ((first | refine awp_region ?_ | refine awp_draw (by kernel_rfl) ?_ | refine awp_block ?_ | refine awp_exit ?_ | refine awp_skip ?_ | refine awp_ret ?_); (try simp only [NB, simprocAttr]); (try ((repeat ((fail_if_success (refine hK _ ?_)); clear hK K)); refine hK _ ?_; clear hK K))))
  repeat' (first | ((first | refine aops_nil ?_ | refine aqops_nil ?_); (try simp only [NB]); ((repeat ((fail_if_success (refine hK _ ?_)); clear hK K)); refine hK _ ?_; clear hK K)) | ((first | refine aops_k fun K1 hK1 => ?_ | refine aqops_k fun K1 hK1 => ?_ | refine awp_cond_k fun A B hA hB => ?_); simp only [S1, simprocAttr, TTSdB, c0, c1, List.length_map]; first | (refine hK1 _ ?_; clear hK1 K1) | ((first | refine hA ?_ | refine hB ?_); clear hA hB A B) | (refine join_x (v := ?_) (fun hg hk9 => ?_) ?_; rotate_left; (focus (try ((try simp only [BN] at hg); simp only [S1, simprocAttr, TTSdB, c0, c1, List.length_map, hg] at hk9 ⊢)); first | exact hk9); (refine hK1 _ ?_; clear hK1 K1)) | (((first | (refine ⟨fun hg => hA ?_, fun hg => hB ?_⟩ <;> clear hA hB A B) | refine ⟨fun hg => ?_, fun hg => ?_⟩) <;> (try simp only [BN2] at hg) <;> (try simp only [hg, cond_true, cond_false])) <;> (try (refine hK1 _ ?_; clear hK1 K1)) <;> (try simp only [BN3] at hg))) | (fail) | ((first | refine awp_region ?_ | refine awp_draw (by kernel_rfl) ?_ | refine awp_block ?_ | refine awp_exit ?_ | refine awp_skip ?_ | refine awp_ret ?_); (try simp only [NB, simprocAttr]); (try ((repeat ((fail_if_success (refine hK _ ?_)); clear hK K)); refine hK _ ?_; clear hK K))))
  refine awp_seq_k fun K hK => ?_
  repeat' (first | ((first | refine aops_nil ?_ | refine aqops_nil ?_); (try simp only [NB]); ((repeat ((fail_if_success (refine hK _ ?_)); clear hK K)); refine hK _ ?_; clear hK K)) | ((first | refine aops_k fun K1 hK1 => ?_ | refine aqops_k fun K1 hK1 => ?_ | refine awp_cond_k fun A B hA hB => ?_); simp only [S1, simprocAttr, TTSdB]; first | (refine hK1 _ ?_; clear hK1 K1) | ((first | refine hA ?_ | refine hB ?_); clear hA hB A B) | ((first | apply call_a E8 | apply call_q E8); exact n1; (refine hK1 _ ?_; clear hK1 K1)) | (refine join_x (v := ?_) (fun hg hk9 => ?_) ?_; rotate_left; (focus (try ((try simp only [BN] at hg); simp only [S1, simprocAttr, TTSdB, hg] at hk9 ⊢)); first | exact hk9 | ((first | apply call_a E8 | apply call_q E8); exact n1; exact hk9)); (refine hK1 _ ?_; clear hK1 K1)) | (((first | (refine ⟨fun hg => hA ?_, fun hg => hB ?_⟩ <;> clear hA hB A B) | refine ⟨fun hg => ?_, fun hg => ?_⟩) <;> (try simp only [BN2] at hg) <;> (try simp only [hg, cond_true, cond_false])) <;> (try (refine hK1 _ ?_; clear hK1 K1)) <;> (try simp only [BN3] at hg))) | (fail) | ((first | refine awp_region ?_ | refine awp_draw (by kernel_rfl) ?_ | refine awp_block ?_ | refine awp_exit ?_ | refine awp_skip ?_ | refine awp_ret ?_); (try simp only [NB, simprocAttr]); (try ((repeat ((fail_if_success (refine hK _ ?_)); clear hK K)); refine hK _ ?_; clear hK K))))
  refine awp_tellG ⟨frL [(0, aSc P), (1, aSt l), (5, .ptr (h.length + 1) 0 0), (6, .i 0), (7, .ptr (h.length + 4) 0 0), (8, .i 0)], 92, bH h P (b0 P) []⟩ (fun K hK => ?_) ?_
  · repeat' (first | ((first | refine aops_nil ?_ | refine aqops_nil ?_); (try simp only [NB]); ((repeat ((fail_if_success (refine hK _ ?_)); clear hK K)); refine hK _ ?_; clear hK K)) | ((first | refine aops_k fun K1 hK1 => ?_ | refine aqops_k fun K1 hK1 => ?_ | refine awp_cond_k fun A B hA hB => ?_); simp only [S1, simprocAttr, TTSdB]; first | (refine hK1 _ ?_; clear hK1 K1) | ((first | refine hA ?_ | refine hB ?_); clear hA hB A B) | ((first | apply call_a E9 | apply call_q E9); exact n2; (refine hK1 _ ?_; clear hK1 K1)) | ((first | apply call_a E10 | apply call_q E10); exact (n3 _); (refine hK1 _ ?_; clear hK1 K1)) | (refine join_x (v := ?_) (fun hg hk9 => ?_) ?_; rotate_left; (focus (try ((try simp only [BN] at hg); simp only [S1, simprocAttr, TTSdB, hg] at hk9 ⊢)); first | exact hk9 | ((first | apply call_a E9 | apply call_q E9); exact n2; exact hk9) | ((first | apply call_a E10 | apply call_q E10); exact (n3 _); exact hk9)); (refine hK1 _ ?_; clear hK1 K1)) | (((first | (refine ⟨fun hg => hA ?_, fun hg => hB ?_⟩ <;> clear hA hB A B) | refine ⟨fun hg => ?_, fun hg => ?_⟩) <;> (try simp only [BN2] at hg) <;> (try simp only [hg, cond_true, cond_false])) <;> (try (refine hK1 _ ?_; clear hK1 K1)) <;> (try simp only [BN3] at hg))) | (fail) | ((first | refine awp_region ?_ | refine awp_draw (by kernel_rfl) ?_ | refine awp_block ?_ | refine awp_exit ?_ | refine awp_skip ?_ | refine awp_ret ?_); (try simp only [NB, simprocAttr]); (try ((repeat ((fail_if_success (refine hK _ ?_)); clear hK K)); refine hK _ ?_; clear hK K))))
    all_goals rw [← bH_is]
    all_goals refine Sub.ghost ⟨rfl, ⟨[], by simp⟩, ?_, bW_avl (by simp [bW]) trivial⟩
    all_goals simp only [keeps, avlt, avlts, blksLt, frL, upd_get, bW_len, List.append_nil, S1, simprocAttr, List.length_map, List.length_cons, List.length_nil, Int.natCast_zero, AV.p.injEq, PV.int.injEq, PV.bool.injEq, PV.sl.injEq] <;> (try and_intros) <;> (try assumption) <;> (try trivial) <;> (try omega)
  refine awp_seq_k fun K hK => ?_
  refine awp_seq_k fun K hK => ?_
  repeat' (first | ((first | refine aops_nil ?_ | refine aqops_nil ?_); (try simp only [NB]); ((repeat ((fail_if_success (refine hK _ ?_)); clear hK K)); refine hK _ ?_; clear hK K)) | ((first | refine aops_k fun K1 hK1 => ?_ | refine aqops_k fun K1 hK1 => ?_ | refine awp_cond_k fun A B hA hB => ?_); simp only [S1, simprocAttr, TTSdB]; first | (refine hK1 _ ?_; clear hK1 K1) | ((first | refine hA ?_ | refine hB ?_); clear hA hB A B) | (refine join_x (v := ?_) (fun hg hk9 => ?_) ?_; rotate_left; (focus (try ((try simp only [BN] at hg); simp only [S1, simprocAttr, TTSdB, hg] at hk9 ⊢)); first | exact hk9); (refine hK1 _ ?_; clear hK1 K1)) | (((first | (refine ⟨fun hg => hA ?_, fun hg => hB ?_⟩ <;> clear hA hB A B) | refine ⟨fun hg => ?_, fun hg => ?_⟩) <;> (try simp only [BN2] at hg) <;> (try simp only [hg, cond_true, cond_false])) <;> (try (refine hK1 _ ?_; clear hK1 K1)) <;> (try simp only [BN3] at hg))) | (fail) | ((first | refine awp_region ?_ | refine awp_draw (by kernel_rfl) ?_ | refine awp_block ?_ | refine awp_exit ?_ | refine awp_skip ?_ | refine awp_ret ?_); (try simp only [NB, simprocAttr]); (try ((repeat ((fail_if_success (refine hK _ ?_)); clear hK K)); refine hK _ ?_; clear hK K))))
  repeat' (first | ((first | refine aops_nil ?_ | refine aqops_nil ?_); (try simp only [NB]); ((repeat ((fail_if_success (refine hK _ ?_)); clear hK K)); refine hK _ ?_; clear hK K)) | ((first | refine aops_k fun K1 hK1 => ?_ | refine aqops_k fun K1 hK1 => ?_ | refine awp_cond_k fun A B hA hB => ?_); simp only [S1, simprocAttr, TTSdB]; first | (refine hK1 _ ?_; clear hK1 K1) | ((first | refine hA ?_ | refine hB ?_); clear hA hB A B) | (refine join_x (v := ?_) (fun hg hk9 => ?_) ?_; rotate_left; (focus (try ((try simp only [BN] at hg); simp only [S1, simprocAttr, TTSdB, hg] at hk9 ⊢)); first | exact hk9); (refine hK1 _ ?_; clear hK1 K1)) | (((first | (refine ⟨fun hg => hA ?_, fun hg => hB ?_⟩ <;> clear hA hB A B) | refine ⟨fun hg => ?_, fun hg => ?_⟩) <;> (try simp only [BN2] at hg) <;> (try simp only [hg, cond_true, cond_false])) <;> (try (refine hK1 _ ?_; clear hK1 K1)) <;> (try simp only [BN3] at hg))) | (fail) | ((first | refine awp_region ?_ | refine awp_draw (by kernel_rfl) ?_ | refine awp_block ?_ | refine awp_exit ?_ | refine awp_skip ?_ | refine awp_ret ?_); (try simp only [NB, simprocAttr]); (try ((repeat ((fail_if_success (refine hK _ ?_)); clear hK K)); refine hK _ ?_; clear hK K))))
  refine awp_seq_k fun K hK => ?_
  refine awp_seq_k fun K hK => ?_
  repeat' (first | ((first | refine aops_nil ?_ | refine aqops_nil ?_); (try simp only [NB]); ((repeat ((fail_if_success (refine hK _ ?_)); clear hK K)); refine hK _ ?_; clear hK K)) | ((first | refine aops_k fun K1 hK1 => ?_ | refine aqops_k fun K1 hK1 => ?_ | refine awp_cond_k fun A B hA hB => ?_); simp only [S1, simprocAttr, TTSdB, List.length_map]; first | (refine hK1 _ ?_; clear hK1 K1) | ((first | refine hA ?_ | refine hB ?_); clear hA hB A B) | (refine join_x (v := ?_) (fun hg hk9 => ?_) ?_; rotate_left; (focus (try ((try simp only [BN] at hg); simp only [S1, simprocAttr, TTSdB, List.length_map, hg] at hk9 ⊢)); first | exact hk9); (refine hK1 _ ?_; clear hK1 K1)) | (((first | (refine ⟨fun hg => hA ?_, fun hg => hB ?_⟩ <;> clear hA hB A B) | refine ⟨fun hg => ?_, fun hg => ?_⟩) <;> (try simp only [BN2] at hg) <;> (try simp only [hg, cond_true, cond_false])) <;> (try (refine hK1 _ ?_; clear hK1 K1)) <;> (try simp only [BN3] at hg))) | (fail) | ((first | refine awp_region ?_ | refine awp_draw (by kernel_rfl) ?_ | refine awp_block ?_ | refine awp_exit ?_ | refine awp_skip ?_ | refine awp_ret ?_); (try simp only [NB, simprocAttr]); (try ((repeat ((fail_if_success (refine hK _ ?_)); clear hK K)); refine hK _ ?_; clear hK K))))
  refine awp_for l.length 92 (fun j => [(53, .i j), (52, .i l.length), (51, aSt l), (0, aSc P), (5, .ptr (h.length + 1) 0 0), (7, .ptr (h.length + 4) 0 0)])
    (fun j => bW h.length P (bN P l j) ++ []) (fun j => True) ?_ trivial fun j hj hp K hK => ?_
  · refine ⟨rfl, ⟨[], by rw [← bH_is]; simp [bN]⟩, ?_, bW_avl (by simp [bW]) trivial⟩
    simp only [keeps, avlt, avlts, blksLt, frL, upd_get, bW_len, List.append_nil, S1, simprocAttr, List.length_map, List.length_cons, List.length_nil, Int.natCast_zero, AV.p.injEq, PV.int.injEq, PV.bool.injEq, PV.sl.injEq] <;> (try and_intros) <;> (try assumption) <;> (try trivial) <;> (try omega)
  rw [bH_is]
  have okj := bN_ok pl l j
  rcases Nat.lt_or_ge j l.length with hlt | hge
  · obtain ⟨s, hx⟩ : ∃ k, l[j]? = some k := ⟨_, List.getElem?_eq_getElem hlt⟩
    have jl : (j : Int) < (l.length : Int) := by omega
    have j0 : (0 : Int) ≤ (j : Int) := by omega
    have es := bN_succ (P := P) hx
    have hd := dB_ok pl okj s.1 s.2
    have hdo := fun L => does_calls (G := G) (h := h) (b := bN P l j) (L := L) pl okj s.1 s.2
    rw [← es] at hd hdo
    generalize bN P l (j + 1) = b2 at *
    generalize bN P l j = b at *
    refine awp_seq_k fun K hK => ?_
    repeat' (first | ((first | refine aops_nil ?_ | refine aqops_nil ?_); (try simp only [NB]); ((repeat ((fail_if_success (refine hK _ ?_)); clear hK K)); refine hK _ ?_; clear hK K)) | ((first | refine aops_k fun K1 hK1 => ?_ | refine aqops_k fun K1 hK1 => ?_ | refine awp_cond_k fun A B hA hB => ?_); simp only [S1, simprocAttr, TTSdB, jl]; first | (refine hK1 _ ?_; clear hK1 K1) | ((first | refine hA ?_ | refine hB ?_); clear hA hB A B) | (refine join_x (v := ?_) (fun hg hk9 => ?_) ?_; rotate_left; (focus (try ((try simp only [BN] at hg); simp only [S1, simprocAttr, TTSdB, jl, hg] at hk9 ⊢)); first | exact hk9); (refine hK1 _ ?_; clear hK1 K1)) | (((first | (refine ⟨fun hg => hA ?_, fun hg => hB ?_⟩ <;> clear hA hB A B) | refine ⟨fun hg => ?_, fun hg => ?_⟩) <;> (try simp only [BN2] at hg) <;> (try simp only [hg, cond_true, cond_false])) <;> (try (refine hK1 _ ?_; clear hK1 K1)) <;> (try simp only [BN3] at hg))) | (fail) | ((first | refine awp_region ?_ | refine awp_draw (by kernel_rfl) ?_ | refine awp_block ?_ | refine awp_exit ?_ | refine awp_skip ?_ | refine awp_ret ?_); (try simp only [NB, simprocAttr]); (try ((repeat ((fail_if_success (refine hK _ ?_)); clear hK K)); refine hK _ ?_; clear hK K))))
    refine awp_seq_k fun K hK => ?_
    repeat' (first | ((first | refine aops_nil ?_ | refine aqops_nil ?_); (try simp only [NB]); ((repeat ((fail_if_success (refine hK _ ?_)); clear hK K)); refine hK _ ?_; clear hK K)) | ((first | refine aops_k fun K1 hK1 => ?_ | refine aqops_k fun K1 hK1 => ?_ | refine awp_cond_k fun A B hA hB => ?_); simp only [S1, simprocAttr, TTSdB, jl]; first | (refine hK1 _ ?_; clear hK1 K1) | ((first | refine hA ?_ | refine hB ?_); clear hA hB A B) | (refine join_x (v := ?_) (fun hg hk9 => ?_) ?_; rotate_left; (focus (try ((try simp only [BN] at hg); simp only [S1, simprocAttr, TTSdB, jl, hg] at hk9 ⊢)); first | exact hk9); (refine hK1 _ ?_; clear hK1 K1)) | (((first | (refine ⟨fun hg => hA ?_, fun hg => hB ?_⟩ <;> clear hA hB A B) | refine ⟨fun hg => ?_, fun hg => ?_⟩) <;> (try simp only [BN2] at hg) <;> (try simp only [hg, cond_true, cond_false])) <;> (try (refine hK1 _ ?_; clear hK1 K1)) <;> (try simp only [BN3] at hg))) | (fail) | ((first | refine awp_region ?_ | refine awp_draw (by kernel_rfl) ?_ | refine awp_block ?_ | refine awp_exit ?_ | refine awp_skip ?_ | refine awp_ret ?_); (try simp only [NB, simprocAttr]); (try ((repeat ((fail_if_success (refine hK _ ?_)); clear hK K)); refine hK _ ?_; clear hK K))))
    refine awp_seq_k fun K hK => ?_
    refine awp_block ?_
    refine awp_tellG ⟨frL [(10, .pin [.int .i64 s.1, .int .i64 s.2]), (53, .i j), (52, .i l.length), (51, aSt l), (0, aSc P), (5, .ptr (h.length + 1) 0 0), (7, .ptr (h.length + 4) 0 0)], 92, bH h P b []⟩ (fun K hK => ?_) ?_
    · repeat' (first | ((first | refine aops_nil ?_ | refine aqops_nil ?_); (try simp only [NB]); ((repeat ((fail_if_success (refine hK _ ?_)); clear hK K)); refine hK _ ?_; clear hK K)) | ((first | refine aops_k fun K1 hK1 => ?_ | refine aqops_k fun K1 hK1 => ?_ | refine awp_cond_k fun A B hA hB => ?_); simp only [S1, simprocAttr, TTSdB, rowSp hx, jl, j0, bH_len, bH_app, bH_get7, bH_set7, takeC_st, Int.toNat_natCast, List.length_map, List.nil_append]; first | (refine hK1 _ ?_; clear hK1 K1) | ((first | refine hA ?_ | refine hB ?_); clear hA hB A B) | (refine join_x (v := ?_) (fun hg hk9 => ?_) ?_; rotate_left; (focus (try ((try simp only [BN] at hg); simp only [S1, simprocAttr, TTSdB, rowSp hx, jl, j0, bH_len, bH_app, bH_get7, bH_set7, takeC_st, Int.toNat_natCast, List.length_map, List.nil_append, hg] at hk9 ⊢)); first | exact hk9); (refine hK1 _ ?_; clear hK1 K1)) | (((first | (refine ⟨fun hg => hA ?_, fun hg => hB ?_⟩ <;> clear hA hB A B) | refine ⟨fun hg => ?_, fun hg => ?_⟩) <;> (try simp only [BN2] at hg) <;> (try simp only [hg, cond_true, cond_false])) <;> (try (refine hK1 _ ?_; clear hK1 K1)) <;> (try simp only [BN3] at hg))) | (fail) | ((first | refine awp_region ?_ | refine awp_draw (by kernel_rfl) ?_ | refine awp_block ?_ | refine awp_exit ?_ | refine awp_skip ?_ | refine awp_ret ?_); (try simp only [NB, simprocAttr]); (try ((repeat ((fail_if_success (refine hK _ ?_)); clear hK K)); refine hK _ ?_; clear hK K))))
      all_goals refine (Ghost.freezeP (k := 10) (b := h.length + 7) (bk := ⟨0, [.i s.1, .i s.2]⟩) (cells := [.int .i64 s.1, .int .i64 s.2]) rfl (bH_get7 _ _) rfl (by simp)).trans ?_
      all_goals rw [bH_set7]
      all_goals refine Sub.ghost (L := bW h.length P b ++ []) ⟨rfl, ⟨[none], rfl⟩, ?_, bW_avl (by simp [bW]) trivial⟩
      all_goals simp only [keeps, avlt, avlts, blksLt, frL, upd_get, bW_len, List.append_nil, S1, simprocAttr, List.length_map, List.length_cons, List.length_nil, Int.natCast_zero, AV.p.injEq, PV.int.injEq, PV.bool.injEq, PV.sl.injEq] <;> (try and_intros) <;> (try assumption) <;> (try trivial) <;> (try omega)
    refine awp_seq_k fun K hK => ?_
    repeat' (first | ((first | refine aops_nil ?_ | refine aqops_nil ?_); (try simp only [NB]); ((repeat ((fail_if_success (refine hK _ ?_)); clear hK K)); refine hK _ ?_; clear hK K)) | ((first | refine aops_k fun K1 hK1 => ?_ | refine aqops_k fun K1 hK1 => ?_ | refine awp_cond_k fun A B hA hB => ?_); simp only [S1, simprocAttr, TTSdB]; first | (refine hK1 _ ?_; clear hK1 K1) | ((first | refine hA ?_ | refine hB ?_); clear hA hB A B) | (refine join_x (v := ?_) (fun hg hk9 => ?_) ?_; rotate_left; (focus (try ((try simp only [BN] at hg); simp only [S1, simprocAttr, TTSdB, hg] at hk9 ⊢)); first | exact hk9); (refine hK1 _ ?_; clear hK1 K1)) | (((first | (refine ⟨fun hg => hA ?_, fun hg => hB ?_⟩ <;> clear hA hB A B) | refine ⟨fun hg => ?_, fun hg => ?_⟩) <;> (try simp only [BN2] at hg) <;> (try simp only [hg, cond_true, cond_false])) <;> (try (refine hK1 _ ?_; clear hK1 K1)) <;> (try simp only [BN3] at hg))) | (fail) | ((first | refine awp_region ?_ | refine awp_draw (by kernel_rfl) ?_ | refine awp_block ?_ | refine awp_exit ?_ | refine awp_skip ?_ | refine awp_ret ?_); (try simp only [NB, simprocAttr]); (try ((repeat ((fail_if_success (refine hK _ ?_)); clear hK K)); refine hK _ ?_; clear hK K))))
    refine awp_seq_k fun K hK => ?_
    refine awp_seq_k fun K hK => ?_
    repeat' (first | ((first | refine aops_nil ?_ | refine aqops_nil ?_); (try simp only [NB]); ((repeat ((fail_if_success (refine hK _ ?_)); clear hK K)); refine hK _ ?_; clear hK K)) | ((first | refine aops_k fun K1 hK1 => ?_ | refine aqops_k fun K1 hK1 => ?_ | refine awp_cond_k fun A B hA hB => ?_); simp only [S1, simprocAttr, TTSdB, List.length_map]; first | (refine hK1 _ ?_; clear hK1 K1) | ((first | refine hA ?_ | refine hB ?_); clear hA hB A B) | (refine join_x (v := ?_) (fun hg hk9 => ?_) ?_; rotate_left; (focus (try ((try simp only [BN] at hg); simp only [S1, simprocAttr, TTSdB, List.length_map, hg] at hk9 ⊢)); first | exact hk9); (refine hK1 _ ?_; clear hK1 K1)) | (((first | (refine ⟨fun hg => hA ?_, fun hg => hB ?_⟩ <;> clear hA hB A B) | refine ⟨fun hg => ?_, fun hg => ?_⟩) <;> (try simp only [BN2] at hg) <;> (try simp only [hg, cond_true, cond_false])) <;> (try (refine hK1 _ ?_; clear hK1 K1)) <;> (try simp only [BN3] at hg))) | (fail) | ((first | refine awp_region ?_ | refine awp_draw (by kernel_rfl) ?_ | refine awp_block ?_ | refine awp_exit ?_ | refine awp_skip ?_ | refine awp_ret ?_); (try simp only [NB, simprocAttr]); (try ((repeat ((fail_if_success (refine hK _ ?_)); clear hK K)); refine hK _ ?_; clear hK K))))
    have hst : b.s.st.length = P.length := okj.len
    refine awp_forC P.length 92 (fun i => [(59, .i i), (58, .i P.length), (11, .ref (h.length + 7) i 0 1 i), (10, .pin [.int .i64 s.1, .int .i64 s.2]), (53, .i j), (52, .i l.length), (51, aSt l), (0, aSc P), (5, .ptr (h.length + 1) 0 0), (7, .ptr (h.length + 4) 0 0)])
      (fun i => bW h.length P b ++ [some ⟨i, (b.s.st.take i).map AV.i⟩]) (fun i => True) ?_ trivial fun i hi hp K hK => ?_
    · refine (Ghost.adopt 11 1 rfl).trans ?_
      rw [bH_len, List.length_nil, Nat.zero_add, bH_app]
      refine Sub.ghost (h := h) (L := bW h.length P b ++ [some ⟨0, ([] : List AV)⟩]) ?_
      refine ⟨rfl, ⟨[], rfl⟩, ?_, bW_avl (by simp [bW]) ⟨trivial, trivial⟩⟩
      simp only [keeps, avlt, avlts, blksLt, frL, upd_get, bW_len, List.length_append, List.length_cons, List.length_nil, S1, simprocAttr, List.length_map, List.length_cons, List.length_nil, Int.natCast_zero, AV.p.injEq, PV.int.injEq, PV.bool.injEq, PV.sl.injEq] <;> (try and_intros) <;> (try assumption) <;> (try trivial) <;> (try omega)
    · rw [bH_is]
      rcases Nat.lt_or_ge i P.length with hlti | hgei
      · have il : (i : Int) < (P.length : Int) := by omega
        have hsb := stateB (G := G) (h := h) (L := [some ⟨i, (b.s.st.take i).map AV.i⟩]) okj hlti
        have hnx := nextJ (n := P.length) hpn hlti
        have hmax : i + 1 ≤ maxCount := by unfold maxCount; omega
        have hcl : ((b.s.st.take i).map AV.i).length = i := by rw [List.length_map, List.length_take, Nat.min_eq_left (by omega)]
        have et : (b.s.st.take (i + 1)).map AV.i = (b.s.st.take i).map AV.i ++ [AV.i (stA b.s.st i)] := by
          rw [List.take_add_one, stA_some (by omega), List.map_append]; rfl
        repeat' (first | ((first | refine aops_nil ?_ | refine aqops_nil ?_); (try simp only [NB])) | ((repeat ((fail_if_success (refine hK _ ?_)); clear hK K)); refine hK _ ?_; clear hK K) | ((first | refine aops_k fun K1 hK1 => ?_ | refine aqops_k fun K1 hK1 => ?_ | refine awp_cond_k fun A B hA hB => ?_); simp only [S1, simprocAttr, TTSdB, il, hnx, hmax, hcl, bH_len, bH_get7, bH_set7, Int.toNat_natCast, List.length_map, Nat.mul_one, Nat.zero_add, List.drop_zero]; first | (refine hK1 _ ?_; clear hK1 K1) | ((first | refine hA ?_ | refine hB ?_); clear hA hB A B) | ((first | apply call_a E14 | apply call_q E14); exact hsb; (refine hK1 _ ?_; clear hK1 K1)) | (refine join_x (v := ?_) (fun hg hk9 => ?_) ?_; rotate_left; (focus (try ((try simp only [BN] at hg); simp only [S1, simprocAttr, TTSdB, il, hnx, hmax, hcl, bH_len, bH_get7, bH_set7, Int.toNat_natCast, List.length_map, Nat.mul_one, Nat.zero_add, List.drop_zero, hg] at hk9 ⊢)); first | exact hk9 | ((first | apply call_a E14 | apply call_q E14); exact hsb; exact hk9)); (refine hK1 _ ?_; clear hK1 K1)) | (((first | (refine ⟨fun hg => hA ?_, fun hg => hB ?_⟩ <;> clear hA hB A B) | refine ⟨fun hg => ?_, fun hg => ?_⟩) <;> (try simp only [BN2] at hg) <;> (try simp only [hg, cond_true, cond_false])) <;> (try (refine hK1 _ ?_; clear hK1 K1)) <;> (try simp only [BN3] at hg))) | (refine awp_seq_k fun K hK => ?_) | ((first | refine awp_region ?_ | refine awp_draw (by kernel_rfl) ?_ | refine awp_block ?_ | refine awp_exit ?_ | refine awp_skip ?_ | refine awp_ret ?_); (try simp only [NB, simprocAttr])))
        all_goals rw [← bH_is]
        all_goals refine ⟨hlti, trivial, ?_⟩
        all_goals simp only [et]
        all_goals refine ⟨rfl, ⟨[], by simp⟩, ?_, bW_avl (by simp [bW]) ⟨avlts_cat (avlts_i _ _) ⟨trivial, trivial⟩, trivial⟩⟩
        all_goals simp only [keeps, avlt, avlts, blksLt, frL, upd_get, bW_len, List.length_append, List.length_cons, List.length_nil, S1, simprocAttr, List.length_map, List.length_cons, List.length_nil, Int.natCast_zero, AV.p.injEq, PV.int.injEq, PV.bool.injEq, PV.sl.injEq] <;> (try and_intros) <;> (try assumption) <;> (try trivial) <;> (try omega)
      · obtain rfl : i = P.length := by omega
        rw [List.take_of_length_le (by omega)]
        have ok2 := hd.1
        repeat' (first | ((first | refine aops_nil ?_ | refine aqops_nil ?_); (try simp only [NB])) | ((repeat ((fail_if_success (refine hK _ ?_)); clear hK K)); refine hK _ ?_; clear hK K) | ((first | refine aops_k fun K1 hK1 => ?_ | refine aqops_k fun K1 hK1 => ?_ | refine awp_cond_k fun A B hA hB => ?_); simp only [S1, simprocAttr, TTSdB, Int.lt_irrefl]; first | (refine hK1 _ ?_; clear hK1 K1) | ((first | refine hA ?_ | refine hB ?_); clear hA hB A B) | ((first | apply call_a E11 | apply call_q E11); exact (hdo _); (refine hK1 _ ?_; clear hK1 K1)) | (refine join_x (v := ?_) (fun hg hk9 => ?_) ?_; rotate_left; (focus (try ((try simp only [BN] at hg); simp only [S1, simprocAttr, TTSdB, Int.lt_irrefl, hg] at hk9 ⊢)); first | exact hk9 | ((first | apply call_a E11 | apply call_q E11); exact (hdo _); exact hk9)); (refine hK1 _ ?_; clear hK1 K1)) | (((first | (refine ⟨fun hg => hA ?_, fun hg => hB ?_⟩ <;> clear hA hB A B) | refine ⟨fun hg => ?_, fun hg => ?_⟩) <;> (try simp only [BN2] at hg) <;> (try simp only [hg, cond_true, cond_false])) <;> (try (refine hK1 _ ?_; clear hK1 K1)) <;> (try simp only [BN3] at hg))) | (refine awp_seq_k fun K hK => ?_) | ((first | refine awp_region ?_ | refine awp_draw (by kernel_rfl) ?_ | refine awp_block ?_ | refine awp_exit ?_ | refine awp_skip ?_ | refine awp_ret ?_); (try simp only [NB, simprocAttr])))
        refine awp_forC P.length 92 (fun i => [(75, .i i), (74, .i P.length), (73, .ref (h.length + 7) P.length 0 1 P.length), (53, .i j), (52, .i l.length), (51, aSt l), (0, aSc P), (5, .ptr (h.length + 1) 0 0), (7, .ptr (h.length + 4) 0 0)])
          (fun i => bW h.length P b2 ++ [some ⟨P.length, b.s.st.map AV.i⟩]) (fun i => True) ?_ trivial fun i hi hp K hK => ?_
        · refine Sub.ghost (h := h) (L := bW h.length P b2 ++ [some ⟨P.length, b.s.st.map AV.i⟩]) ?_
          refine ⟨rfl, ⟨[], rfl⟩, ?_, bW_avl (by simp [bW]) ⟨avlts_i _ _, trivial⟩⟩
          simp only [keeps, avlt, avlts, blksLt, frL, upd_get, bW_len, List.length_append, List.length_cons, List.length_nil, S1, simprocAttr, List.length_map, List.length_cons, List.length_nil, Int.natCast_zero, AV.p.injEq, PV.int.injEq, PV.bool.injEq, PV.sl.injEq] <;> (try and_intros) <;> (try assumption) <;> (try trivial) <;> (try omega)
        rw [bH_is]
        rcases Nat.lt_or_ge i P.length with hlti | hgei
        · have il : (i : Int) < (P.length : Int) := by omega
          have i0 : (0 : Int) ≤ (i : Int) := by omega
          have hsb := stateB (G := G) (h := h) (L := [some ⟨P.length, b.s.st.map AV.i⟩]) ok2 hlti
          have hnx := nextJ (n := P.length) hpn hlti
          have dk := dropSt (stA_some (show i < b.s.st.length by omega))
          by_cases c3 : 3 ≤ stA b.s.st i
          · have hk := hd.2 i c3
            rw [hk] at hsb
            have hbn : (stA b.s.st i != stA b.s.st i) = false := by simp
            repeat' (first | ((first | refine aops_nil ?_ | refine aqops_nil ?_); (try simp only [NB])) | ((repeat ((fail_if_success (refine hK _ ?_)); clear hK K)); refine hK _ ?_; clear hK K) | ((first | refine aops_k fun K1 hK1 => ?_ | refine aqops_k fun K1 hK1 => ?_ | refine awp_cond_k fun A B hA hB => ?_); simp only [S1, simprocAttr, TTSdB, il, i0, hnx, c3, hbn, dk, bH_len, bH_get7, Int.toNat_natCast, List.length_map, Nat.mul_one, Nat.zero_add]; first | (refine hK1 _ ?_; clear hK1 K1) | ((first | refine hA ?_ | refine hB ?_); clear hA hB A B) | ((first | apply call_a E14 | apply call_q E14); exact hsb; (refine hK1 _ ?_; clear hK1 K1)) | (refine join_x (v := ?_) (fun hg hk9 => ?_) ?_; rotate_left; (focus (try ((try simp only [BN] at hg); simp only [S1, simprocAttr, TTSdB, il, i0, hnx, c3, hbn, dk, bH_len, bH_get7, Int.toNat_natCast, List.length_map, Nat.mul_one, Nat.zero_add, hg] at hk9 ⊢)); first | exact hk9 | ((first | apply call_a E14 | apply call_q E14); exact hsb; exact hk9)); (refine hK1 _ ?_; clear hK1 K1)) | (((first | (refine ⟨fun hg => hA ?_, fun hg => hB ?_⟩ <;> clear hA hB A B) | refine ⟨fun hg => ?_, fun hg => ?_⟩) <;> (try simp only [BN2] at hg) <;> (try simp only [hg, cond_true, cond_false])) <;> (try (refine hK1 _ ?_; clear hK1 K1)) <;> (try simp only [BN3] at hg))) | (refine awp_seq_k fun K hK => ?_) | ((first | refine awp_region ?_ | refine awp_draw (by kernel_rfl) ?_ | refine awp_block ?_ | refine awp_exit ?_ | refine awp_skip ?_ | refine awp_ret ?_); (try simp only [NB, simprocAttr])))
            all_goals refine ⟨hlti, trivial, rfl, ⟨[], rfl⟩, ?_, bW_avl (by simp [bW]) ⟨avlts_i _ _, trivial⟩⟩
            all_goals simp only [keeps, avlt, avlts, blksLt, frL, upd_get, bW_len, List.length_append, List.length_cons, List.length_nil, S1, simprocAttr, List.length_map, List.length_cons, List.length_nil, Int.natCast_zero, AV.p.injEq, PV.int.injEq, PV.bool.injEq, PV.sl.injEq] <;> (try and_intros) <;> (try assumption) <;> (try trivial) <;> (try omega)
          · repeat' (first | ((first | refine aops_nil ?_ | refine aqops_nil ?_); (try simp only [NB])) | ((repeat ((fail_if_success (refine hK _ ?_)); clear hK K)); refine hK _ ?_; clear hK K) | ((first | refine aops_k fun K1 hK1 => ?_ | refine aqops_k fun K1 hK1 => ?_ | refine awp_cond_k fun A B hA hB => ?_); simp only [S1, simprocAttr, TTSdB, il, i0, hnx, c3, dk, bH_len, bH_get7, Int.toNat_natCast, List.length_map, Nat.mul_one, Nat.zero_add]; first | (refine hK1 _ ?_; clear hK1 K1) | ((first | refine hA ?_ | refine hB ?_); clear hA hB A B) | ((first | apply call_a E14 | apply call_q E14); exact hsb; (refine hK1 _ ?_; clear hK1 K1)) | (refine join_x (v := ?_) (fun hg hk9 => ?_) ?_; rotate_left; (focus (try ((try simp only [BN] at hg); simp only [S1, simprocAttr, TTSdB, il, i0, hnx, c3, dk, bH_len, bH_get7, Int.toNat_natCast, List.length_map, Nat.mul_one, Nat.zero_add, hg] at hk9 ⊢)); first | exact hk9 | ((first | apply call_a E14 | apply call_q E14); exact hsb; exact hk9)); (refine hK1 _ ?_; clear hK1 K1)) | (((first | (refine ⟨fun hg => hA ?_, fun hg => hB ?_⟩ <;> clear hA hB A B) | refine ⟨fun hg => ?_, fun hg => ?_⟩) <;> (try simp only [BN2] at hg) <;> (try simp only [hg, cond_true, cond_false])) <;> (try (refine hK1 _ ?_; clear hK1 K1)) <;> (try simp only [BN3] at hg))) | (refine awp_seq_k fun K hK => ?_) | ((first | refine awp_region ?_ | refine awp_draw (by kernel_rfl) ?_ | refine awp_block ?_ | refine awp_exit ?_ | refine awp_skip ?_ | refine awp_ret ?_); (try simp only [NB, simprocAttr])))
            all_goals refine ⟨hlti, trivial, rfl, ⟨[], rfl⟩, ?_, bW_avl (by simp [bW]) ⟨avlts_i _ _, trivial⟩⟩
            all_goals simp only [keeps, avlt, avlts, blksLt, frL, upd_get, bW_len, List.length_append, List.length_cons, List.length_nil, S1, simprocAttr, List.length_map, List.length_cons, List.length_nil, Int.natCast_zero, AV.p.injEq, PV.int.injEq, PV.bool.injEq, PV.sl.injEq] <;> (try and_intros) <;> (try assumption) <;> (try trivial) <;> (try omega)
        · obtain rfl : i = P.length := by omega
          repeat' (first | ((first | refine aops_nil ?_ | refine aqops_nil ?_); (try simp only [NB])) | ((repeat ((fail_if_success (refine hK _ ?_)); clear hK K)); refine hK _ ?_; clear hK K) | ((first | refine aops_k fun K1 hK1 => ?_ | refine aqops_k fun K1 hK1 => ?_ | refine awp_cond_k fun A B hA hB => ?_); simp only [S1, simprocAttr, TTSdB, Int.lt_irrefl, nextJ hlen hlt]; first | (refine hK1 _ ?_; clear hK1 K1) | ((first | refine hA ?_ | refine hB ?_); clear hA hB A B) | (refine join_x (v := ?_) (fun hg hk9 => ?_) ?_; rotate_left; (focus (try ((try simp only [BN] at hg); simp only [S1, simprocAttr, TTSdB, Int.lt_irrefl, nextJ hlen hlt, hg] at hk9 ⊢)); first | exact hk9); (refine hK1 _ ?_; clear hK1 K1)) | (((first | (refine ⟨fun hg => hA ?_, fun hg => hB ?_⟩ <;> clear hA hB A B) | refine ⟨fun hg => ?_, fun hg => ?_⟩) <;> (try simp only [BN2] at hg) <;> (try simp only [hg, cond_true, cond_false])) <;> (try (refine hK1 _ ?_; clear hK1 K1)) <;> (try simp only [BN3] at hg))) | (refine awp_seq_k fun K hK => ?_) | ((first | refine awp_region ?_ | refine awp_draw (by kernel_rfl) ?_ | refine awp_block ?_ | refine awp_exit ?_ | refine awp_skip ?_ | refine awp_ret ?_); (try simp only [NB, simprocAttr])))
          all_goals refine ⟨hlt, trivial, rfl, ⟨[some ⟨P.length, b.s.st.map AV.i⟩], rfl⟩, ?_, bW_avl (by simp [bW]) trivial⟩
          all_goals simp only [keeps, avlt, avlts, blksLt, frL, upd_get, bW_len, List.append_nil, S1, simprocAttr, List.length_map, List.length_cons, List.length_nil, Int.natCast_zero, AV.p.injEq, PV.int.injEq, PV.bool.injEq, PV.sl.injEq] <;> (try and_intros) <;> (try assumption) <;> (try trivial) <;> (try omega)
  · obtain rfl : j = l.length := by omega
    repeat' (first | ((first | refine aops_nil ?_ | refine aqops_nil ?_); (try simp only [NB])) | ((repeat ((fail_if_success (refine hK _ ?_)); clear hK K)); refine hK _ ?_; clear hK K) | ((first | refine aops_k fun K1 hK1 => ?_ | refine aqops_k fun K1 hK1 => ?_ | refine awp_cond_k fun A B hA hB => ?_); simp only [S1, simprocAttr, TTSdB, Int.lt_irrefl]; first | (refine hK1 _ ?_; clear hK1 K1) | ((first | refine hA ?_ | refine hB ?_); clear hA hB A B) | ((first | apply call_a E7 | apply call_q E7); exact (hu _); (refine hK1 _ ?_; clear hK1 K1)) | (refine join_x (v := ?_) (fun hg hk9 => ?_) ?_; rotate_left; (focus (try ((try simp only [BN] at hg); simp only [S1, simprocAttr, TTSdB, Int.lt_irrefl, hg] at hk9 ⊢)); first | exact hk9 | ((first | apply call_a E7 | apply call_q E7); exact (hu _); exact hk9)); (refine hK1 _ ?_; clear hK1 K1)) | (((first | (refine ⟨fun hg => hA ?_, fun hg => hB ?_⟩ <;> clear hA hB A B) | refine ⟨fun hg => ?_, fun hg => ?_⟩) <;> (try simp only [BN2] at hg) <;> (try simp only [hg, cond_true, cond_false])) <;> (try (refine hK1 _ ?_; clear hK1 K1)) <;> (try simp only [BN3] at hg))) | (refine awp_seq_k fun K hK => ?_) | ((first | refine awp_region ?_ | refine awp_draw (by kernel_rfl) ?_ | refine awp_block ?_ | refine awp_exit ?_ | refine awp_skip ?_ | refine awp_ret ?_); (try simp only [NB, simprocAttr])))
    all_goals simp only [EndP, FinP, resA, resL, resA1, lastV, lastA, lastAs, pur, purs, take_app, List.take_length, S1, simprocAttr, TTSdB, Nat.le_add_right, Nat.le_refl, bH_takeh, bH_len]
    all_goals simp
end Go.Proofs.Ytkmcecbglomemaa.AM
end

section
set_option linter.unusedVariables false
set_option linter.unusedSimpArgs false
set_option maxRecDepth 4000
set_option maxHeartbeats 4000000
namespace Go.Proofs.Ytkmcecbglomemaa.AM
open Go Go.Proofs
set_option linter.defProp false in
def TTSdC := And.intro T2 (And.intro T3 (And.intro T4 (And.intro T25 (And.intro T45 T54))))
attribute [local irreducible] awp aops aqops aeops arun arunT arunN

theorem clone0_fn (a : Addr) (c : Nat) (w : World) : Calls Try.prog 25 #[.slice (some a) 0 c] w fun e w' => e = .returned (.slice (some ⟨w.heap.size, 0, none⟩) 0 0) ∧ w' = w.alloc (.cells #[] 3) := by
  have tS : Try.prog.underlying 45 = some (.slice 3) := by kernel_rfl
  have q22 : ∀ (w : World) (a : Option Addr) (n c n' c' : Nat), (binOp .eql 45 (.slice a n c) (.slice none n' c')).run Try.prog w = .ok (.bool a.isNone) w := fun w a n c n' c' => Lib.run_eql_slice_nil w _ _ a n c n' c' tS
  obtain ⟨i0, _, hi0, _, _, hz1, _, _⟩ := tinfo_some (P := Try.prog) T3
  go_enter Try.func25, Try.ntmps25
  go_wp2_with fail
  go_ret
  exact ⟨rfl, rfl⟩
theorem clone0_nil (n c : Nat) (w : World) : Calls Try.prog 25 #[.slice none n c] w fun e w' => e = .returned (.slice none 0 0) ∧ w' = w := by
  have tS : Try.prog.underlying 45 = some (.slice 3) := by kernel_rfl
  have q22 : ∀ (w : World) (a : Option Addr) (n c n' c' : Nat), (binOp .eql 45 (.slice a n c) (.slice none n' c')).run Try.prog w = .ok (.bool a.isNone) w := fun w a n c n' c' => Lib.run_eql_slice_nil w _ _ a n c n' c' tS
  go_enter Try.func25, Try.ntmps25
  go_wp2_with fail
  go_ret
  exact ⟨rfl, rfl⟩
/-- An empty slice, nil or not, is copied. -/
theorem clone0_calls {G : Nat → Option (List PV)} (x : AV) (h : Heap) (hx : ∀ ι w v, SimH Try.prog G ι h w → VRel ι h w x v → ∃ A c, v = .slice A 0 c) : ACalls Try.prog G 25 [x] h (fun r h' => r = .p (.sl []) ∧ h' = h) := by
  intro ι w vs hS hv
  obtain ⟨hl, hv⟩ := hv
  obtain ⟨v0, rfl⟩ : ∃ v0, vs = #[v0] := by
    obtain ⟨l⟩ := vs
    match l, (show l.length = 1 by simpa using hl.symm) with
    | [a], _ => exact ⟨a, rfl⟩
  obtain ⟨A, c, rfl⟩ := hx ι w v0 hS (hv 0 _ v0 rfl rfl)
  cases A with
  | none =>
    refine (clone0_nil 0 c w).mono ?_
    rintro e w' ⟨rfl, rfl⟩
    exact ⟨_, _, _, ι, rfl, ⟨rfl, rfl⟩, hS, .p _ _ (.slz _ _), Evo.refl (Nat.le_refl _)⟩
  | some a =>
    refine (clone0_fn a c w).mono ?_
    rintro e w' ⟨rfl, rfl⟩
    obtain ⟨h1, h2⟩ := hS.garbage (w' := w.alloc (.cells #[] 3)) (by show w.heap.size ≤ (w.heap.push _).size; rw [Array.size_push]; omega) (fun k hk => by show (w.heap.push _)[k]? = _; rw [Array.getElem?_push, if_neg (by omega)]) rfl rfl rfl
    exact ⟨_, _, _, ι, rfl, ⟨rfl, rfl⟩, h1, .p _ _ (.slz _ _), h2⟩

section
variable {G : Nat → Option (List PV)} {h : Heap} {P : List Sc} {b : SB} {L : Heap}
def eN (k : Nat) : List PV := [.int .i64 (k : Int)]
theorem eN_rows (l : List Nat) : ((l.map eN).flatMap id).map AV.p = l.map fun k : Nat => AV.i (k : Int) := by
  induction l with
  | nil => rfl
  | cons a l ih => simp only [List.map_cons, List.flatMap_cons, List.map_append, ih]; rfl
theorem order_calls (hdn : b.s.dn.length ≤ 1000) : ACalls Try.prog G 15 [.ptr (h.length + 1) 0 0] (bH h P b L) (fun r h' => r = .p (.sl (b.s.dn.map eN)) ∧ h' = bH h P b L) := by
  have hdb : (bH h P b L)[h.length + 2]? = some (dnB b.g b.s) := by unfold bH; exact rn_dn
  have hrb : (bH h P b L)[h.length + 1]? = some (runB h.length P b.g b.s) := by unfold bH; exact rn_run
  by_cases he : b.s.dn = []
  · have hc0 := clone0_calls (G := G) (.ref (h.length + 2) b.g.gd 0 1 0) (bH h P b L) fun ι w v hS hv => by
      obtain ⟨A, c, e, _⟩ := hv.ref_inv ⟨_, hdb, rfl⟩
      exact ⟨A, c, e⟩
    have hl0 : b.s.dn.length = 0 := by rw [he]; rfl
    rw [he]
    refine acalls_pure (rl := []) mixed Try.func15 rfl (rs := [.tmp 2]) rfl Try.ntmps15 (by simp) ?_
    repeat' (first | ((first | refine aops_nil ?_ | refine aqops_nil ?_); (try simp only [NB])) | ((repeat ((fail_if_success (refine hK _ ?_)); clear hK K)); refine hK _ ?_; clear hK K) | ((first | refine aops_k fun K1 hK1 => ?_ | refine aqops_k fun K1 hK1 => ?_ | refine awp_cond_k fun A B hA hB => ?_); simp only [S1, simprocAttr, TTSdC, hrb, runB, hl0]; first | (refine hK1 _ ?_; clear hK1 K1) | ((first | refine hA ?_ | refine hB ?_); clear hA hB A B) | ((first | apply call_a E25 | apply call_q E25); exact hc0; (refine hK1 _ ?_; clear hK1 K1)) | (((first | (refine ⟨fun hg => hA ?_, fun hg => hB ?_⟩ <;> clear hA hB A B) | refine ⟨fun hg => ?_, fun hg => ?_⟩) <;> (try simp only [BN2] at hg) <;> (try simp only [hg, cond_true, cond_false])) <;> (try (refine hK1 _ ?_; clear hK1 K1)) <;> (try simp only [BN3] at hg))) | (refine awp_seq_k fun K hK => ?_) | ((first | refine awp_region ?_ | refine awp_draw (by kernel_rfl) ?_ | refine awp_block ?_ | refine awp_exit ?_ | refine awp_skip ?_ | refine awp_ret ?_); (try simp only [NB, simprocAttr])))
    all_goals simp only [EndP, FinP, resA, resL, resA1, lastV, lastA, lastAs, pur, purs, take_app, List.take_length, S1, simprocAttr, TTSdC, Nat.le_add_right, Nat.le_refl, bH_len, bH_take]
    all_goals simp
  · have hmc : (b.s.dn.map eN) ≠ [] := by simpa using he
    have hcl : ACalls Try.prog G 25 [.ref (h.length + 2) b.g.gd 0 1 b.s.dn.length] (bH h P b L) (fun r h' => r = .ref (h.length + (L.length + 7)) 1 0 1 b.s.dn.length ∧ h' = bH h P b L ++ [some ⟨1, b.s.dn.map fun k : Nat => AV.i (k : Int)⟩]) := by
      have hb := cloneIn (G := G) (b.s.dn.map eN) (by simp [eN]) hmc (by rw [List.length_map]; omega) []
      simp only [List.length_map, eN_rows, List.length_nil, List.nil_append] at hb
      have := ACalls.framed (h := bH h P b L) (args := [.ref (h.length + 2) b.g.gd 0 1 b.s.dn.length]) (by simpa using he) (fun x hx => by
          obtain ⟨a, _, rfl⟩ := List.mem_map.mp hx
          exact .inl ⟨_, rfl⟩) hb rfl (fun ι w hS i x x' v hx hx' hv => by
          match i, hx, hx' with
          | 0, hx, hx' =>
            simp only [List.getElem?_cons_zero, Option.some.injEq] at hx hx'
            subst hx hx'
            refine ref_lasting (rest := List.replicate b.g.z (.i 0)) hS (rows := b.s.dn.map eN) (sz := 1) (g := b.g.gd) (b := h.length + 2) (by rw [hdb, eN_rows]; rfl) (fun r hr => by obtain ⟨a, _, rfl⟩ := List.mem_map.mp hr; rfl) (by omega) ?_
            rw [List.length_map]; exact hv)
      rw [bH_len] at this
      exact this
    refine Sim.evoKeepG (rl := []) mixed Try.func15 rfl (by rw [Try.ntmps15]; simp) ?_
    rw [Try.ntmps15]
    repeat' (first | ((first | refine aops_nil ?_ | refine aqops_nil ?_); (try simp only [NB])) | ((repeat ((fail_if_success (refine hK _ ?_)); clear hK K)); refine hK _ ?_; clear hK K) | ((first | refine aops_k fun K1 hK1 => ?_ | refine aqops_k fun K1 hK1 => ?_ | refine awp_cond_k fun A B hA hB => ?_); simp only [S1, simprocAttr, TTSdC, hrb, runB]; first | (refine hK1 _ ?_; clear hK1 K1) | ((first | refine hA ?_ | refine hB ?_); clear hA hB A B) | ((first | apply call_a E25 | apply call_q E25); exact hcl; (refine hK1 _ ?_; clear hK1 K1)) | (((first | (refine ⟨fun hg => hA ?_, fun hg => hB ?_⟩ <;> clear hA hB A B) | refine ⟨fun hg => ?_, fun hg => ?_⟩) <;> (try simp only [BN2] at hg) <;> (try simp only [hg, cond_true, cond_false])) <;> (try (refine hK1 _ ?_; clear hK1 K1)) <;> (try simp only [BN3] at hg))) | (refine awp_seq_k fun K hK => ?_) | ((first | refine awp_region ?_ | refine awp_draw (by kernel_rfl) ?_ | refine awp_block ?_ | refine awp_exit ?_ | refine awp_skip ?_ | refine awp_ret ?_); (try simp only [NB, simprocAttr])))
    all_goals refine ⟨.inr trivial, _, (Ghost.freeze (k := 2) (b := h.length + (L.length + 7)) (sz := 1) (n := b.s.dn.length) (rows := b.s.dn.map eN) (bk := ⟨1, b.s.dn.map fun k : Nat => AV.i (k : Int)⟩) (rest := []) rfl (bH_at0 _) (by rw [List.length_map]) (fun r hr => by obtain ⟨a, _, rfl⟩ := List.mem_map.mp hr; rfl) (by omega) (by rw [eN_rows, List.append_nil])).trans
      (Sub.ghost (h := bH h P b L) (l := [(2, .p (.sl (b.s.dn.map eN)))]) (L := []) ⟨rfl, ⟨[none], by rw [← bH_len (h := h) (P := P) (b := b) (L := L), set_app0]; rfl⟩, ⟨rfl, trivial, trivial⟩, trivial⟩), FinK_tmp (t := 2) (v := .p (.sl (b.s.dn.map eN))) rfl (by simp) ⟨rfl, by simp⟩⟩
end

/-! Whether a scope is a part of another one. -/
def upW (P : List Sc) (of : Nat) : Nat → Int → Int
  | 0, k => k
  | d + 1, k => if (of : Int) < k then upW P of d (parA P k.toNat) else k
def insB (P : List Sc) (of i : Nat) : Bool := upW P of (i + 1) i == (of : Int)
theorem upW_fix (P : List Sc) (of d : Nat) {k : Int} (h : ¬ (of : Int) < k) : upW P of d k = k := by
  cases d with
  | zero => rfl
  | succ d => unfold upW; rw [if_neg h]
theorem upW_ins {P : List Sc} (pl : PlOk P) (of : Nat) : ∀ (d i : Nat), i < d → i < P.length → (upW P of d i = (of : Int) ↔ Ins P of i)
  | 0, i, h, _ => by omega
  | d + 1, i, h, hi => by
    unfold upW
    by_cases h1 : (of : Int) < (i : Int)
    · rw [if_pos h1, Int.toNat_natCast]
      obtain ⟨q0, q1⟩ := pl.par i (by omega) hi
      obtain ⟨q, hq⟩ : ∃ q : Nat, parA P i = (q : Int) := ⟨(parA P i).toNat, by omega⟩
      rw [hq, upW_ins pl of d q (by omega) (by omega)]
      refine ⟨fun e => .up i q hq e, fun e => ?_⟩
      cases e with
      | self => omega
      | up _ j hj e => rw [hq] at hj; obtain rfl : q = j := by omega
                       exact e
    · rw [if_neg h1]
      refine ⟨fun e => ?_, fun e => ?_⟩
      · obtain rfl : i = of := by omega
        exact .self
      · have := e.le pl; omega
theorem insB_iff {P : List Sc} (pl : PlOk P) {of i : Nat} (hi : i < P.length) : insB P of i = true ↔ Ins P of i := by
  unfold insB
  rw [beq_iff_eq]
  exact upW_ins pl of (i + 1) i (by omega) hi
end Go.Proofs.Ytkmcecbglomemaa.AM
end

section
set_option linter.unusedVariables false
set_option linter.unusedSimpArgs false
set_option maxRecDepth 4000
set_option maxHeartbeats 4000000
namespace Go.Proofs.Ytkmcecbglomemaa.AM
open Go Go.Proofs
set_option linter.defProp false in
def TTSdD := And.intro T2 (And.intro T3 (And.intro T4 (And.intro T22 (And.intro T23 (And.intro T25 (And.intro T26 (And.intro T29 (And.intro T35 (And.intro T37 (And.intro T41 (And.intro T45 (And.intro T49 (And.intro T54 (And.intro T56 (And.intro T57 (And.intro T59 (And.intro T61 T64)))))))))))))))))
attribute [local irreducible] awp aops aqops aeops arun arunT arunN
variable {G : Nat → Option (List PV)}

theorem parA_row {P : List Sc} {k : Nat} (hk : k < P.length) : (P.map eSc)[k]? = some [.int .i64 (parA P k), .bool (catA P k), .bool (undA P k)] := by
  obtain ⟨s, hs⟩ : ∃ s, P[k]? = some s := ⟨_, List.getElem?_eq_getElem hk⟩
  rw [rowSc hs, parA_at hs, catA_at hs, undA_at hs]
theorem inside_calls {P : List Sc} (pl : PlOk P) {of i : Nat} (hi : i < P.length) (h : Heap) : ACalls Try.prog G 13 [aSc P, .i i, .i of] h (fun r h' => r = .b (insB P of i) ∧ h' = h) := by
  refine acalls_pure (rl := []) mixed Try.func13 rfl (rs := [.tmp 6]) rfl Try.ntmps13 (by simp) ?_
  refine awp_seq_k fun K hK => ?_
  repeat' (first | ((first | refine aops_nil ?_ | refine aqops_nil ?_); (try simp only [NB]); ((repeat ((fail_if_success (refine hK _ ?_)); clear hK K)); refine hK _ ?_; clear hK K)) | ((first | refine aops_k fun K1 hK1 => ?_ | refine aqops_k fun K1 hK1 => ?_ | refine awp_cond_k fun A B hA hB => ?_); simp only [S1, simprocAttr, TTSdD]; first | (refine hK1 _ ?_; clear hK1 K1) | ((first | refine hA ?_ | refine hB ?_); clear hA hB A B) | (((first | (refine ⟨fun hg => hA ?_, fun hg => hB ?_⟩ <;> clear hA hB A B) | refine ⟨fun hg => ?_, fun hg => ?_⟩) <;> (try simp only [BN2] at hg) <;> (try simp only [hg, cond_true, cond_false])) <;> (try (refine hK1 _ ?_; clear hK1 K1)) <;> (try simp only [BN3] at hg))) | (fail) | ((first | refine awp_region ?_ | refine awp_draw (by kernel_rfl) ?_ | refine awp_block ?_ | refine awp_exit ?_ | refine awp_skip ?_ | refine awp_ret ?_); (try simp only [NB, simprocAttr]); (try ((repeat ((fail_if_success (refine hK _ ?_)); clear hK K)); refine hK _ ?_; clear hK K))))
  refine awp_seq_k fun K hK => ?_
  repeat' (first | ((first | refine aops_nil ?_ | refine aqops_nil ?_); (try simp only [NB]); ((repeat ((fail_if_success (refine hK _ ?_)); clear hK K)); refine hK _ ?_; clear hK K)) | ((first | refine aops_k fun K1 hK1 => ?_ | refine aqops_k fun K1 hK1 => ?_ | refine awp_cond_k fun A B hA hB => ?_); simp only [S1, simprocAttr, TTSdD]; first | (refine hK1 _ ?_; clear hK1 K1) | ((first | refine hA ?_ | refine hB ?_); clear hA hB A B) | (((first | (refine ⟨fun hg => hA ?_, fun hg => hB ?_⟩ <;> clear hA hB A B) | refine ⟨fun hg => ?_, fun hg => ?_⟩) <;> (try simp only [BN2] at hg) <;> (try simp only [hg, cond_true, cond_false])) <;> (try (refine hK1 _ ?_; clear hK1 K1)) <;> (try simp only [BN3] at hg))) | (fail) | ((first | refine awp_region ?_ | refine awp_draw (by kernel_rfl) ?_ | refine awp_block ?_ | refine awp_exit ?_ | refine awp_skip ?_ | refine awp_ret ?_); (try simp only [NB, simprocAttr]); (try ((repeat ((fail_if_success (refine hK _ ?_)); clear hK K)); refine hK _ ?_; clear hK K))))
  refine awp_seq_k fun K hK => ?_
  repeat' (first | ((first | refine aops_nil ?_ | refine aqops_nil ?_); (try simp only [NB]); ((repeat ((fail_if_success (refine hK _ ?_)); clear hK K)); refine hK _ ?_; clear hK K)) | ((first | refine aops_k fun K1 hK1 => ?_ | refine aqops_k fun K1 hK1 => ?_ | refine awp_cond_k fun A B hA hB => ?_); simp only [S1, simprocAttr, TTSdD]; first | (refine hK1 _ ?_; clear hK1 K1) | ((first | refine hA ?_ | refine hB ?_); clear hA hB A B) | (((first | (refine ⟨fun hg => hA ?_, fun hg => hB ?_⟩ <;> clear hA hB A B) | refine ⟨fun hg => ?_, fun hg => ?_⟩) <;> (try simp only [BN2] at hg) <;> (try simp only [hg, cond_true, cond_false])) <;> (try (refine hK1 _ ?_; clear hK1 K1)) <;> (try simp only [BN3] at hg))) | (fail) | ((first | refine awp_region ?_ | refine awp_draw (by kernel_rfl) ?_ | refine awp_block ?_ | refine awp_exit ?_ | refine awp_skip ?_ | refine awp_ret ?_); (try simp only [NB, simprocAttr]); (try ((repeat ((fail_if_success (refine hK _ ?_)); clear hK K)); refine hK _ ?_; clear hK K))))
  refine awp_whileH (σ := Nat × Int) (fun x => x.1) 20 (fun _ => h) (fun x => [(7, .i x.2), (0, aSc P), (2, .i of)]) (fun _ => []) (fun x => x.2 < x.1 ∧ x.2 < P.length ∧ upW P of x.1 x.2 = upW P of (i + 1) i) (i + 1, (i : Int)) (fun _ => ⟨rfl, fun b bk hb => .inl hb⟩) ?_ ⟨by simp only; omega, by simp only; omega, rfl⟩ ?_
  · (refine ⟨rfl, (by first | exact ⟨_, rfl⟩ | exact ⟨[], by simp⟩), ?_, ?_⟩ <;> simp only [keeps, avlt, avlts, blksLt, frL, upd_get, S1, simprocAttr, List.length_map, Int.natCast_zero, AV.p.injEq, PV.int.injEq, PV.bool.injEq, PV.sl.injEq] <;> (try and_intros) <;> (try assumption) <;> (try trivial) <;> (try omega))
  rintro ⟨d, k⟩ ⟨h1, h2, h3⟩ K hK
  simp only at h1 h2 h3 hK ⊢
  rw [List.append_nil]
  by_cases hc : (of : Int) < k
  · obtain ⟨q, rfl⟩ : ∃ q : Nat, k = (q : Int) := ⟨k.toNat, by omega⟩
    have q0 : (0 : Int) ≤ (q : Int) := by omega
    have hrow := parA_row (P := P) (k := q) (by omega)
    obtain ⟨p0, p1⟩ := pl.par q (by omega) (by omega)
    repeat' (first | ((first | refine aops_nil ?_ | refine aqops_nil ?_); (try simp only [NB])) | ((repeat ((fail_if_success (refine hK _ ?_)); clear hK K)); refine hK _ ?_; clear hK K) | ((first | refine aops_k fun K1 hK1 => ?_ | refine aqops_k fun K1 hK1 => ?_ | refine awp_cond_k fun A B hA hB => ?_); simp only [S1, simprocAttr, TTSdD, hc, q0, hrow, h2, Int.toNat_natCast, List.length_map]; first | (refine hK1 _ ?_; clear hK1 K1) | ((first | refine hA ?_ | refine hB ?_); clear hA hB A B) | (((first | (refine ⟨fun hg => hA ?_, fun hg => hB ?_⟩ <;> clear hA hB A B) | refine ⟨fun hg => ?_, fun hg => ?_⟩) <;> (try simp only [BN2] at hg) <;> (try simp only [hg, cond_true, cond_false])) <;> (try (refine hK1 _ ?_; clear hK1 K1)) <;> (try simp only [BN3] at hg))) | (refine awp_seq_k fun K hK => ?_) | ((first | refine awp_region ?_ | refine awp_draw (by kernel_rfl) ?_ | refine awp_block ?_ | refine awp_exit ?_ | refine awp_skip ?_ | refine awp_ret ?_); (try simp only [NB, simprocAttr])))
    all_goals refine ⟨(d - 1, parA P q), by simp only; omega, ⟨by simp only; omega, by simp only; omega, ?_⟩, ?_⟩
    · rw [← h3]
      obtain ⟨e, rfl⟩ : ∃ e, d = e + 1 := ⟨d - 1, by omega⟩
      show upW P of e (parA P q) = upW P of (e + 1) q
      conv => rhs; unfold upW
      rw [if_pos hc, Int.toNat_natCast]
    · (refine ⟨rfl, (by first | exact ⟨_, rfl⟩ | exact ⟨[], by simp⟩), ?_, ?_⟩ <;> simp only [keeps, avlt, avlts, blksLt, frL, upd_get, S1, simprocAttr, List.length_map, Int.natCast_zero, AV.p.injEq, PV.int.injEq, PV.bool.injEq, PV.sl.injEq] <;> (try and_intros) <;> (try assumption) <;> (try trivial) <;> (try omega))
  · rw [upW_fix P of d hc] at h3
    repeat' (first | ((first | refine aops_nil ?_ | refine aqops_nil ?_); (try simp only [NB])) | ((repeat ((fail_if_success (refine hK _ ?_)); clear hK K)); refine hK _ ?_; clear hK K) | ((first | refine aops_k fun K1 hK1 => ?_ | refine aqops_k fun K1 hK1 => ?_ | refine awp_cond_k fun A B hA hB => ?_); simp only [S1, simprocAttr, TTSdD, hc]; first | (refine hK1 _ ?_; clear hK1 K1) | ((first | refine hA ?_ | refine hB ?_); clear hA hB A B) | (((first | (refine ⟨fun hg => hA ?_, fun hg => hB ?_⟩ <;> clear hA hB A B) | refine ⟨fun hg => ?_, fun hg => ?_⟩) <;> (try simp only [BN2] at hg) <;> (try simp only [hg, cond_true, cond_false])) <;> (try (refine hK1 _ ?_; clear hK1 K1)) <;> (try simp only [BN3] at hg))) | (refine awp_seq_k fun K hK => ?_) | ((first | refine awp_region ?_ | refine awp_draw (by kernel_rfl) ?_ | refine awp_block ?_ | refine awp_exit ?_ | refine awp_skip ?_ | refine awp_ret ?_); (try simp only [NB, simprocAttr])))
    all_goals simp only [EndP, FinP, resA, resL, resA1, lastV, lastA, lastAs, pur, purs, take_app, List.take_length, S1, simprocAttr, TTSdD, Nat.le_add_right, Nat.le_refl]
    all_goals simp only [insB, h3]

section
variable {h : Heap} {P : List Sc} {b : SB} {L : Heap}
def fB (P : List Sc) (b : SB) (i : Int) : SB := ⟨(faultC P b.g b.s i).1.1, (faultC P b.g b.s i).1.2, b.q, b.o⟩
theorem faultB_calls (pl : PlOk P) (ok : RsOk P b.s) (i : Int) : ACalls Try.prog G 12 [.ptr (h.length + 1) 0 0, .i i] (bH h P b L) (fun r h' => r = .tup [aAc (faultC P b.g b.s i).2.1, .i (faultC P b.g b.s i).2.2] ∧ h' = bH h P (fB P b i) L) := faultC_calls pl ok i
/-- What a fault that is none answers; what one does. -/
theorem faultC_cases (pl : PlOk P) (ok : RsOk P b.s) (i : Int) :
    ((faultC P b.g b.s i).2.2 ≠ 0 ∧ (faultC P b.g b.s i).2.1 = []) ∨ ∃ k : Nat, i = (k : Int) ∧ k < P.length ∧ (faultC P b.g b.s i).2.2 = 0 ∧ (faultC P b.g b.s i).2.1 = (faultC P b.g b.s i).1.2.ac ∧ (faultC P b.g b.s i).1.2 = faultX P b.s k ∧ FltTo P k ⟨b.s.st, b.s.dn, []⟩ (faultX P b.s k) := by
  unfold faultC
  split
  · exact .inl ⟨by simp, rfl⟩
  split
  · exact .inl ⟨by simp, rfl⟩
  rename_i h1 h2
  exact .inr ⟨i.toNat, by omega, by omega, rfl, rfl, rfl, fault_to pl ok (by omega) (by simpa using h2)⟩
end

theorem catches_calls (P : List Sc) (l : List (Int × Int)) (i : Int) (h : Heap) : ACalls Try.prog G 3 [aSc P, aSt l, .i i] h (fun r h' => r = .b true ∧ h' = h) := by
  have hu := fun h => undone_calls (G := G) h
  by_cases c0 : (60 : Int) < (P.length : Int)
  · refine acalls_pure (rl := []) mixed Try.func3 rfl (rs := [.tmp 6]) rfl Try.ntmps3 (by simp) ?_
    repeat' (first | ((first | refine aops_nil ?_ | refine aqops_nil ?_); (try simp only [NB])) | ((repeat ((fail_if_success (refine hK _ ?_)); clear hK K)); refine hK _ ?_; clear hK K) | ((first | refine aops_k fun K1 hK1 => ?_ | refine aqops_k fun K1 hK1 => ?_ | refine awp_cond_k fun A B hA hB => ?_); simp only [S1, simprocAttr, TTSdD, c0, List.length_map]; first | (refine hK1 _ ?_; clear hK1 K1) | ((first | refine hA ?_ | refine hB ?_); clear hA hB A B) | ((first | apply call_a E7 | apply call_q E7); exact (hu _); (refine hK1 _ ?_; clear hK1 K1)) | (refine join_x (v := ?_) (fun hg hk9 => ?_) ?_; rotate_left; (focus (try ((try simp only [BN] at hg); simp only [S1, simprocAttr, TTSdD, c0, List.length_map, hg] at hk9 ⊢)); first | exact hk9 | ((first | apply call_a E7 | apply call_q E7); exact (hu _); exact hk9)); (refine hK1 _ ?_; clear hK1 K1)) | (((first | (refine ⟨fun hg => hA ?_, fun hg => hB ?_⟩ <;> clear hA hB A B) | refine ⟨fun hg => ?_, fun hg => ?_⟩) <;> (try simp only [BN2] at hg) <;> (try simp only [hg, cond_true, cond_false])) <;> (try (refine hK1 _ ?_; clear hK1 K1)) <;> (try simp only [BN3] at hg))) | (refine awp_seq_k fun K hK => ?_) | ((first | refine awp_region ?_ | refine awp_draw (by kernel_rfl) ?_ | refine awp_block ?_ | refine awp_exit ?_ | refine awp_skip ?_ | refine awp_ret ?_); (try simp only [NB, simprocAttr])))
    all_goals simp only [EndP, FinP, resA, resL, resA1, lastV, lastA, lastAs, pur, purs, take_app, List.take_length, S1, simprocAttr, TTSdD, Nat.le_add_right, Nat.le_refl]
  by_cases c1 : (200 : Int) < (l.length : Int)
  · refine acalls_pure (rl := []) mixed Try.func3 rfl (rs := [.tmp 6]) rfl Try.ntmps3 (by simp) ?_
    repeat' (first | ((first | refine aops_nil ?_ | refine aqops_nil ?_); (try simp only [NB])) | ((repeat ((fail_if_success (refine hK _ ?_)); clear hK K)); refine hK _ ?_; clear hK K) | ((first | refine aops_k fun K1 hK1 => ?_ | refine aqops_k fun K1 hK1 => ?_ | refine awp_cond_k fun A B hA hB => ?_); simp only [S1, simprocAttr, TTSdD, c0, c1, List.length_map]; first | (refine hK1 _ ?_; clear hK1 K1) | ((first | refine hA ?_ | refine hB ?_); clear hA hB A B) | ((first | apply call_a E7 | apply call_q E7); exact (hu _); (refine hK1 _ ?_; clear hK1 K1)) | (refine join_x (v := ?_) (fun hg hk9 => ?_) ?_; rotate_left; (focus (try ((try simp only [BN] at hg); simp only [S1, simprocAttr, TTSdD, c0, c1, List.length_map, hg] at hk9 ⊢)); first | exact hk9 | ((first | apply call_a E7 | apply call_q E7); exact (hu _); exact hk9)); (refine hK1 _ ?_; clear hK1 K1)) | (((first | (refine ⟨fun hg => hA ?_, fun hg => hB ?_⟩ <;> clear hA hB A B) | refine ⟨fun hg => ?_, fun hg => ?_⟩) <;> (try simp only [BN2] at hg) <;> (try simp only [hg, cond_true, cond_false])) <;> (try (refine hK1 _ ?_; clear hK1 K1)) <;> (try simp only [BN3] at hg))) | (refine awp_seq_k fun K hK => ?_) | ((first | refine awp_region ?_ | refine awp_draw (by kernel_rfl) ?_ | refine awp_block ?_ | refine awp_exit ?_ | refine awp_skip ?_ | refine awp_ret ?_); (try simp only [NB, simprocAttr])))
    all_goals simp only [EndP, FinP, resA, resL, resA1, lastV, lastA, lastAs, pur, purs, take_app, List.take_length, S1, simprocAttr, TTSdD, Nat.le_add_right, Nat.le_refl]
  by_cases pl : PlOk P
  rotate_left
  · have n1 := fun h => New_bad (G := G) pl h
    have n2 := fun h => NewR_bad (G := G) pl h
    have n3 := fun h => refs_calls (G := G) (P := P) (by omega) h
    refine acalls_pure (rl := []) mixed Try.func3 rfl (rs := [.tmp 6]) rfl Try.ntmps3 (by simp) ?_
    repeat' (first | ((first | refine aops_nil ?_ | refine aqops_nil ?_); (try simp only [NB])) | ((repeat ((fail_if_success (refine hK _ ?_)); clear hK K)); refine hK _ ?_; clear hK K) | ((first | refine aops_k fun K1 hK1 => ?_ | refine aqops_k fun K1 hK1 => ?_ | refine awp_cond_k fun A B hA hB => ?_); simp only [S1, simprocAttr, TTSdD, c0, c1, beq_self_eq_true, List.length_map]; first | (refine hK1 _ ?_; clear hK1 K1) | ((first | refine hA ?_ | refine hB ?_); clear hA hB A B) | ((first | apply call_a E7 | apply call_q E7); exact (hu _); (refine hK1 _ ?_; clear hK1 K1)) | ((first | apply call_a E8 | apply call_q E8); exact (n1 _); (refine hK1 _ ?_; clear hK1 K1)) | ((first | apply call_a E9 | apply call_q E9); exact (n2 _); (refine hK1 _ ?_; clear hK1 K1)) | ((first | apply call_a E10 | apply call_q E10); exact (n3 _); (refine hK1 _ ?_; clear hK1 K1)) | (refine join_x (v := ?_) (fun hg hk9 => ?_) ?_; rotate_left; (focus (try ((try simp only [BN] at hg); simp only [S1, simprocAttr, TTSdD, c0, c1, beq_self_eq_true, List.length_map, hg] at hk9 ⊢)); first | exact hk9 | ((first | apply call_a E7 | apply call_q E7); exact (hu _); exact hk9) | ((first | apply call_a E8 | apply call_q E8); exact (n1 _); exact hk9) | ((first | apply call_a E9 | apply call_q E9); exact (n2 _); exact hk9) | ((first | apply call_a E10 | apply call_q E10); exact (n3 _); exact hk9)); (refine hK1 _ ?_; clear hK1 K1)) | (((first | (refine ⟨fun hg => hA ?_, fun hg => hB ?_⟩ <;> clear hA hB A B) | refine ⟨fun hg => ?_, fun hg => ?_⟩) <;> (try simp only [BN2] at hg) <;> (try simp only [hg, cond_true, cond_false])) <;> (try (refine hK1 _ ?_; clear hK1 K1)) <;> (try simp only [BN3] at hg))) | (refine awp_seq_k fun K hK => ?_) | ((first | refine awp_region ?_ | refine awp_draw (by kernel_rfl) ?_ | refine awp_block ?_ | refine awp_exit ?_ | refine awp_skip ?_ | refine awp_ret ?_); (try simp only [NB, simprocAttr])))
    all_goals simp only [EndP, FinP, resA, resL, resA1, lastV, lastA, lastAs, pur, purs, take_app, List.take_length, S1, simprocAttr, TTSdD, Nat.le_add_right, Nat.le_refl]
  have n1 := New_calls (G := G) pl h
  have n2 := new_both (G := G) pl h
  have n3 := fun h => refs_calls (G := G) (P := P) (by omega) h
  have hlen : l.length ≤ 1000 := by omega
  have hpn : P.length ≤ 1000 := by omega
  refine acalls_pure (rl := []) mixed Try.func3 rfl (rs := [.tmp 6]) rfl Try.ntmps3 (by simp) ?_
  refine awp_seq_k fun K hK => ?_
  repeat' (first | ((first | refine aops_nil ?_ | refine aqops_nil ?_); (try simp only [NB]); ((repeat ((fail_if_success (refine hK _ ?_)); clear hK K)); refine hK _ ?_; clear hK K)) | ((first | refine aops_k fun K1 hK1 => ?_ | refine aqops_k fun K1 hK1 => ?_ | refine awp_cond_k fun A B hA hB => ?_); simp only [S1, simprocAttr, TTSdD]; first | (refine hK1 _ ?_; clear hK1 K1) | ((first | refine hA ?_ | refine hB ?_); clear hA hB A B) | (refine join_x (v := ?_) (fun hg hk9 => ?_) ?_; rotate_left; (focus (try ((try simp only [BN] at hg); simp only [S1, simprocAttr, TTSdD, hg] at hk9 ⊢)); first | exact hk9); (refine hK1 _ ?_; clear hK1 K1)) | (((first | (refine ⟨fun hg => hA ?_, fun hg => hB ?_⟩ <;> clear hA hB A B) | refine ⟨fun hg => ?_, fun hg => ?_⟩) <;> (try simp only [BN2] at hg) <;> (try simp only [hg, cond_true, cond_false])) <;> (try (refine hK1 _ ?_; clear hK1 K1)) <;> (try simp only [BN3] at hg))) | (fail) | ((first | refine awp_region ?_ | refine awp_draw (by kernel_rfl) ?_ | refine awp_block ?_ | refine awp_exit ?_ | refine awp_skip ?_ | refine awp_ret ?_); (try simp only [NB, simprocAttr]); (try ((repeat ((fail_if_success (refine hK _ ?_)); clear hK K)); refine hK _ ?_; clear hK K))))
  refine awp_seq_k fun K hK => ?_
  refine awp_seq_k fun K hK => ?_
  repeat' (first | ((first | refine aops_nil ?_ | refine aqops_nil ?_); (try simp only [NB]); ((repeat ((fail_if_success (refine hK _ ?_)); clear hK K)); refine hK _ ?_; clear hK K)) | ((first | refine aops_k fun K1 hK1 => ?_ | refine aqops_k fun K1 hK1 => ?_ | refine awp_cond_k fun A B hA hB => ?_); simp only [S1, simprocAttr, TTSdD, c0, c1, List.length_map]; first | (refine hK1 _ ?_; clear hK1 K1) | ((first | refine hA ?_ | refine hB ?_); clear hA hB A B) | (refine join_x (v := ?_) (fun hg hk9 => ?_) ?_; rotate_left; (focus (try ((try simp only [BN] at hg); simp only [S1, simprocAttr, TTSdD, c0, c1, List.length_map, hg] at hk9 ⊢)); first | exact hk9); (refine hK1 _ ?_; clear hK1 K1)) | (((first | (refine ⟨fun hg => hA ?_, fun hg => hB ?_⟩ <;> clear hA hB A B) | refine ⟨fun hg => ?_, fun hg => ?_⟩) <;> (try simp only [BN2] at hg) <;> (try simp only [hg, cond_true, cond_false])) <;> (try (refine hK1 _ ?_; clear hK1 K1)) <;> (try simp only [BN3] at hg))) | (fail) | ((first | refine awp_region ?_ | refine awp_draw (by kernel_rfl) ?_ | refine awp_block ?_ | refine awp_exit ?_ | refine awp_skip ?_ | refine awp_ret ?_); (try simp only [NB, simprocAttr]); (try ((repeat ((fail_if_success (refine hK _ ?_)); clear hK K)); refine hK _ ?_; clear hK K))))
  repeat' (first | ((first | refine aops_nil ?_ | refine aqops_nil ?_); (try simp only [NB]); ((repeat ((fail_if_success (refine hK _ ?_)); clear hK K)); refine hK _ ?_; clear hK K)) | ((first | refine aops_k fun K1 hK1 => ?_ | refine aqops_k fun K1 hK1 => ?_ | refine awp_cond_k fun A B hA hB => ?_); simp only [S1, simprocAttr, TTSdD, c0, c1, List.length_map]; first | (refine hK1 _ ?_; clear hK1 K1) | ((first | refine hA ?_ | refine hB ?_); clear hA hB A B) | (refine join_x (v := ?_) (fun hg hk9 => ?_) ?_; rotate_left; (focus (try ((try simp only [BN] at hg); simp only [S1, simprocAttr, TTSdD, c0, c1, List.length_map, hg] at hk9 ⊢)); first | exact hk9); (refine hK1 _ ?_; clear hK1 K1)) | (((first | (refine ⟨fun hg => hA ?_, fun hg => hB ?_⟩ <;> clear hA hB A B) | refine ⟨fun hg => ?_, fun hg => ?_⟩) <;> (try simp only [BN2] at hg) <;> (try simp only [hg, cond_true, cond_false])) <;> (try (refine hK1 _ ?_; clear hK1 K1)) <;> (try simp only [BN3] at hg))) | (fail) | ((first | refine awp_region ?_ | refine awp_draw (by kernel_rfl) ?_ | refine awp_block ?_ | refine awp_exit ?_ | refine awp_skip ?_ | refine awp_ret ?_); (try simp only [NB, simprocAttr]); (try ((repeat ((fail_if_success (refine hK _ ?_)); clear hK K)); refine hK _ ?_; clear hK K))))
  refine awp_seq_k fun K hK => ?_
  repeat' (first | ((first | refine aops_nil ?_ | refine aqops_nil ?_); (try simp only [NB]); ((repeat ((fail_if_success (refine hK _ ?_)); clear hK K)); refine hK _ ?_; clear hK K)) | ((first | refine aops_k fun K1 hK1 => ?_ | refine aqops_k fun K1 hK1 => ?_ | refine awp_cond_k fun A B hA hB => ?_); simp only [S1, simprocAttr, TTSdD]; first | (refine hK1 _ ?_; clear hK1 K1) | ((first | refine hA ?_ | refine hB ?_); clear hA hB A B) | ((first | apply call_a E8 | apply call_q E8); exact n1; (refine hK1 _ ?_; clear hK1 K1)) | (refine join_x (v := ?_) (fun hg hk9 => ?_) ?_; rotate_left; (focus (try ((try simp only [BN] at hg); simp only [S1, simprocAttr, TTSdD, hg] at hk9 ⊢)); first | exact hk9 | ((first | apply call_a E8 | apply call_q E8); exact n1; exact hk9)); (refine hK1 _ ?_; clear hK1 K1)) | (((first | (refine ⟨fun hg => hA ?_, fun hg => hB ?_⟩ <;> clear hA hB A B) | refine ⟨fun hg => ?_, fun hg => ?_⟩) <;> (try simp only [BN2] at hg) <;> (try simp only [hg, cond_true, cond_false])) <;> (try (refine hK1 _ ?_; clear hK1 K1)) <;> (try simp only [BN3] at hg))) | (fail) | ((first | refine awp_region ?_ | refine awp_draw (by kernel_rfl) ?_ | refine awp_block ?_ | refine awp_exit ?_ | refine awp_skip ?_ | refine awp_ret ?_); (try simp only [NB, simprocAttr]); (try ((repeat ((fail_if_success (refine hK _ ?_)); clear hK K)); refine hK _ ?_; clear hK K))))
  refine awp_tellG ⟨frL [(0, aSc P), (1, aSt l), (2, .i i), (7, .ptr (h.length + 1) 0 0), (8, .i 0), (9, .ptr (h.length + 4) 0 0), (10, .i 0)], 149, bH h P (b0 P) []⟩ (fun K hK => ?_) ?_
  · repeat' (first | ((first | refine aops_nil ?_ | refine aqops_nil ?_); (try simp only [NB]); ((repeat ((fail_if_success (refine hK _ ?_)); clear hK K)); refine hK _ ?_; clear hK K)) | ((first | refine aops_k fun K1 hK1 => ?_ | refine aqops_k fun K1 hK1 => ?_ | refine awp_cond_k fun A B hA hB => ?_); simp only [S1, simprocAttr, TTSdD]; first | (refine hK1 _ ?_; clear hK1 K1) | ((first | refine hA ?_ | refine hB ?_); clear hA hB A B) | ((first | apply call_a E9 | apply call_q E9); exact n2; (refine hK1 _ ?_; clear hK1 K1)) | ((first | apply call_a E10 | apply call_q E10); exact (n3 _); (refine hK1 _ ?_; clear hK1 K1)) | (refine join_x (v := ?_) (fun hg hk9 => ?_) ?_; rotate_left; (focus (try ((try simp only [BN] at hg); simp only [S1, simprocAttr, TTSdD, hg] at hk9 ⊢)); first | exact hk9 | ((first | apply call_a E9 | apply call_q E9); exact n2; exact hk9) | ((first | apply call_a E10 | apply call_q E10); exact (n3 _); exact hk9)); (refine hK1 _ ?_; clear hK1 K1)) | (((first | (refine ⟨fun hg => hA ?_, fun hg => hB ?_⟩ <;> clear hA hB A B) | refine ⟨fun hg => ?_, fun hg => ?_⟩) <;> (try simp only [BN2] at hg) <;> (try simp only [hg, cond_true, cond_false])) <;> (try (refine hK1 _ ?_; clear hK1 K1)) <;> (try simp only [BN3] at hg))) | (fail) | ((first | refine awp_region ?_ | refine awp_draw (by kernel_rfl) ?_ | refine awp_block ?_ | refine awp_exit ?_ | refine awp_skip ?_ | refine awp_ret ?_); (try simp only [NB, simprocAttr]); (try ((repeat ((fail_if_success (refine hK _ ?_)); clear hK K)); refine hK _ ?_; clear hK K))))
    all_goals rw [← bH_is]
    all_goals refine Sub.ghost ⟨rfl, ⟨[], by simp⟩, ?_, bW_avl (by simp [bW]) trivial⟩
    all_goals simp only [keeps, avlt, avlts, blksLt, frL, upd_get, bW_len, List.append_nil, S1, simprocAttr, List.length_map, List.length_cons, List.length_nil, Int.natCast_zero, AV.p.injEq, PV.int.injEq, PV.bool.injEq, PV.sl.injEq] <;> (try and_intros) <;> (try assumption) <;> (try trivial) <;> (try omega)
  refine awp_seq_k fun K hK => ?_
  refine awp_seq_k fun K hK => ?_
  repeat' (first | ((first | refine aops_nil ?_ | refine aqops_nil ?_); (try simp only [NB]); ((repeat ((fail_if_success (refine hK _ ?_)); clear hK K)); refine hK _ ?_; clear hK K)) | ((first | refine aops_k fun K1 hK1 => ?_ | refine aqops_k fun K1 hK1 => ?_ | refine awp_cond_k fun A B hA hB => ?_); simp only [S1, simprocAttr, TTSdD]; first | (refine hK1 _ ?_; clear hK1 K1) | ((first | refine hA ?_ | refine hB ?_); clear hA hB A B) | (refine join_x (v := ?_) (fun hg hk9 => ?_) ?_; rotate_left; (focus (try ((try simp only [BN] at hg); simp only [S1, simprocAttr, TTSdD, hg] at hk9 ⊢)); first | exact hk9); (refine hK1 _ ?_; clear hK1 K1)) | (((first | (refine ⟨fun hg => hA ?_, fun hg => hB ?_⟩ <;> clear hA hB A B) | refine ⟨fun hg => ?_, fun hg => ?_⟩) <;> (try simp only [BN2] at hg) <;> (try simp only [hg, cond_true, cond_false])) <;> (try (refine hK1 _ ?_; clear hK1 K1)) <;> (try simp only [BN3] at hg))) | (fail) | ((first | refine awp_region ?_ | refine awp_draw (by kernel_rfl) ?_ | refine awp_block ?_ | refine awp_exit ?_ | refine awp_skip ?_ | refine awp_ret ?_); (try simp only [NB, simprocAttr]); (try ((repeat ((fail_if_success (refine hK _ ?_)); clear hK K)); refine hK _ ?_; clear hK K))))
  repeat' (first | ((first | refine aops_nil ?_ | refine aqops_nil ?_); (try simp only [NB]); ((repeat ((fail_if_success (refine hK _ ?_)); clear hK K)); refine hK _ ?_; clear hK K)) | ((first | refine aops_k fun K1 hK1 => ?_ | refine aqops_k fun K1 hK1 => ?_ | refine awp_cond_k fun A B hA hB => ?_); simp only [S1, simprocAttr, TTSdD]; first | (refine hK1 _ ?_; clear hK1 K1) | ((first | refine hA ?_ | refine hB ?_); clear hA hB A B) | (refine join_x (v := ?_) (fun hg hk9 => ?_) ?_; rotate_left; (focus (try ((try simp only [BN] at hg); simp only [S1, simprocAttr, TTSdD, hg] at hk9 ⊢)); first | exact hk9); (refine hK1 _ ?_; clear hK1 K1)) | (((first | (refine ⟨fun hg => hA ?_, fun hg => hB ?_⟩ <;> clear hA hB A B) | refine ⟨fun hg => ?_, fun hg => ?_⟩) <;> (try simp only [BN2] at hg) <;> (try simp only [hg, cond_true, cond_false])) <;> (try (refine hK1 _ ?_; clear hK1 K1)) <;> (try simp only [BN3] at hg))) | (fail) | ((first | refine awp_region ?_ | refine awp_draw (by kernel_rfl) ?_ | refine awp_block ?_ | refine awp_exit ?_ | refine awp_skip ?_ | refine awp_ret ?_); (try simp only [NB, simprocAttr]); (try ((repeat ((fail_if_success (refine hK _ ?_)); clear hK K)); refine hK _ ?_; clear hK K))))
  refine awp_tellG ⟨frL [(0, aSc P), (2, .i i), (7, .ptr (h.length + 1) 0 0)], 149, bH h P (bN P l l.length) []⟩ (fun K hK => ?_) ?_
  · refine awp_seq_k fun K hK => ?_
    repeat' (first | ((first | refine aops_nil ?_ | refine aqops_nil ?_); (try simp only [NB]); ((repeat ((fail_if_success (refine hK _ ?_)); clear hK K)); refine hK _ ?_; clear hK K)) | ((first | refine aops_k fun K1 hK1 => ?_ | refine aqops_k fun K1 hK1 => ?_ | refine awp_cond_k fun A B hA hB => ?_); simp only [S1, simprocAttr, TTSdD, List.length_map]; first | (refine hK1 _ ?_; clear hK1 K1) | ((first | refine hA ?_ | refine hB ?_); clear hA hB A B) | (refine join_x (v := ?_) (fun hg hk9 => ?_) ?_; rotate_left; (focus (try ((try simp only [BN] at hg); simp only [S1, simprocAttr, TTSdD, List.length_map, hg] at hk9 ⊢)); first | exact hk9); (refine hK1 _ ?_; clear hK1 K1)) | (((first | (refine ⟨fun hg => hA ?_, fun hg => hB ?_⟩ <;> clear hA hB A B) | refine ⟨fun hg => ?_, fun hg => ?_⟩) <;> (try simp only [BN2] at hg) <;> (try simp only [hg, cond_true, cond_false])) <;> (try (refine hK1 _ ?_; clear hK1 K1)) <;> (try simp only [BN3] at hg))) | (fail) | ((first | refine awp_region ?_ | refine awp_draw (by kernel_rfl) ?_ | refine awp_block ?_ | refine awp_exit ?_ | refine awp_skip ?_ | refine awp_ret ?_); (try simp only [NB, simprocAttr]); (try ((repeat ((fail_if_success (refine hK _ ?_)); clear hK K)); refine hK _ ?_; clear hK K))))
    refine awp_for l.length 149 (fun j => [(59, .i j), (58, .i l.length), (57, aSt l), (0, aSc P), (2, .i i), (7, .ptr (h.length + 1) 0 0), (9, .ptr (h.length + 4) 0 0)])
      (fun j => bW h.length P (bN P l j) ++ []) (fun j => True) ?_ trivial fun j hj hp K hK => ?_
    · refine ⟨rfl, ⟨[], by rw [← bH_is]; simp [bN]⟩, ?_, bW_avl (by simp [bW]) trivial⟩
      simp only [keeps, avlt, avlts, blksLt, frL, upd_get, bW_len, List.append_nil, S1, simprocAttr, List.length_map, List.length_cons, List.length_nil, Int.natCast_zero, AV.p.injEq, PV.int.injEq, PV.bool.injEq, PV.sl.injEq] <;> (try and_intros) <;> (try assumption) <;> (try trivial) <;> (try omega)
    rw [bH_is]
    have okj := bN_ok pl l j
    rcases Nat.lt_or_ge j l.length with hlt | hge
    · obtain ⟨s, hx⟩ : ∃ k, l[j]? = some k := ⟨_, List.getElem?_eq_getElem hlt⟩
      have jl : (j : Int) < (l.length : Int) := by omega
      have j0 : (0 : Int) ≤ (j : Int) := by omega
      have es := bN_succ (P := P) hx
      have hdo := fun L => does_calls (G := G) (h := h) (b := bN P l j) (L := L) pl okj s.1 s.2
      rw [← es] at hdo
      have hnx := nextJ hlen hlt
      generalize bN P l (j + 1) = b2 at *
      generalize bN P l j = b at *
      repeat' (first | ((first | refine aops_nil ?_ | refine aqops_nil ?_); (try simp only [NB])) | ((repeat ((fail_if_success (refine hK _ ?_)); clear hK K)); refine hK _ ?_; clear hK K) | ((first | refine aops_k fun K1 hK1 => ?_ | refine aqops_k fun K1 hK1 => ?_ | refine awp_cond_k fun A B hA hB => ?_); simp only [S1, simprocAttr, TTSdD, rowSp hx, jl, j0, hnx, bH_len, bH_app, bH_get7, bH_set7, takeC_st, Int.toNat_natCast, List.length_map, List.nil_append]; first | (refine hK1 _ ?_; clear hK1 K1) | ((first | refine hA ?_ | refine hB ?_); clear hA hB A B) | ((first | apply call_a E11 | apply call_q E11); exact (hdo _); (refine hK1 _ ?_; clear hK1 K1)) | (refine join_x (v := ?_) (fun hg hk9 => ?_) ?_; rotate_left; (focus (try ((try simp only [BN] at hg); simp only [S1, simprocAttr, TTSdD, rowSp hx, jl, j0, hnx, bH_len, bH_app, bH_get7, bH_set7, takeC_st, Int.toNat_natCast, List.length_map, List.nil_append, hg] at hk9 ⊢)); first | exact hk9 | ((first | apply call_a E11 | apply call_q E11); exact (hdo _); exact hk9)); (refine hK1 _ ?_; clear hK1 K1)) | (((first | (refine ⟨fun hg => hA ?_, fun hg => hB ?_⟩ <;> clear hA hB A B) | refine ⟨fun hg => ?_, fun hg => ?_⟩) <;> (try simp only [BN2] at hg) <;> (try simp only [hg, cond_true, cond_false])) <;> (try (refine hK1 _ ?_; clear hK1 K1)) <;> (try simp only [BN3] at hg))) | (refine awp_seq_k fun K hK => ?_) | ((first | refine awp_region ?_ | refine awp_draw (by kernel_rfl) ?_ | refine awp_block ?_ | refine awp_exit ?_ | refine awp_skip ?_ | refine awp_ret ?_); (try simp only [NB, simprocAttr])))
      all_goals refine ⟨hlt, trivial, rfl, ⟨[some ⟨0, [.i s.1, .i s.2]⟩], rfl⟩, ?_, bW_avl (by simp [bW]) trivial⟩
      all_goals simp only [keeps, avlt, avlts, blksLt, frL, upd_get, bW_len, List.append_nil, S1, simprocAttr, List.length_map, List.length_cons, List.length_nil, Int.natCast_zero, AV.p.injEq, PV.int.injEq, PV.bool.injEq, PV.sl.injEq] <;> (try and_intros) <;> (try assumption) <;> (try trivial) <;> (try omega)
    · obtain rfl : j = l.length := by omega
      repeat' (first | ((first | refine aops_nil ?_ | refine aqops_nil ?_); (try simp only [NB])) | ((repeat ((fail_if_success (refine hK _ ?_)); clear hK K)); refine hK _ ?_; clear hK K) | ((first | refine aops_k fun K1 hK1 => ?_ | refine aqops_k fun K1 hK1 => ?_ | refine awp_cond_k fun A B hA hB => ?_); simp only [S1, simprocAttr, TTSdD, Int.lt_irrefl]; first | (refine hK1 _ ?_; clear hK1 K1) | ((first | refine hA ?_ | refine hB ?_); clear hA hB A B) | (refine join_x (v := ?_) (fun hg hk9 => ?_) ?_; rotate_left; (focus (try ((try simp only [BN] at hg); simp only [S1, simprocAttr, TTSdD, Int.lt_irrefl, hg] at hk9 ⊢)); first | exact hk9); (refine hK1 _ ?_; clear hK1 K1)) | (((first | (refine ⟨fun hg => hA ?_, fun hg => hB ?_⟩ <;> clear hA hB A B) | refine ⟨fun hg => ?_, fun hg => ?_⟩) <;> (try simp only [BN2] at hg) <;> (try simp only [hg, cond_true, cond_false])) <;> (try (refine hK1 _ ?_; clear hK1 K1)) <;> (try simp only [BN3] at hg))) | (refine awp_seq_k fun K hK => ?_) | ((first | refine awp_region ?_ | refine awp_draw (by kernel_rfl) ?_ | refine awp_block ?_ | refine awp_exit ?_ | refine awp_skip ?_ | refine awp_ret ?_); (try simp only [NB, simprocAttr])))
      all_goals refine Sub.ghost (h := h) (L := bW h.length P (bN P l l.length) ++ []) ?_
      all_goals refine ⟨rfl, ⟨[], rfl⟩, ?_, bW_avl (by simp [bW]) trivial⟩
      all_goals simp only [keeps, avlt, avlts, blksLt, frL, upd_get, bW_len, List.append_nil, S1, simprocAttr, List.length_map, List.length_cons, List.length_nil, Int.natCast_zero, AV.p.injEq, PV.int.injEq, PV.bool.injEq, PV.sl.injEq] <;> (try and_intros) <;> (try assumption) <;> (try trivial) <;> (try omega)
  have okb := bN_ok pl l l.length
  generalize bN P l l.length = b at *
  have hf := faultB_calls (G := G) (h := h) (L := []) pl okb i
  rcases faultC_cases pl okb i with ⟨f1, f2⟩ | ⟨k, f0, f1, f2, f3, f4, f5⟩
  · rw [f2] at hf
    have hb1 : ((faultC P b.g b.s i).2.2 != 0) = true := by simpa using f1
    repeat' (first | ((first | refine aops_nil ?_ | refine aqops_nil ?_); (try simp only [NB])) | ((repeat ((fail_if_success (refine hK _ ?_)); clear hK K)); refine hK _ ?_; clear hK K) | ((first | refine aops_k fun K1 hK1 => ?_ | refine aqops_k fun K1 hK1 => ?_ | refine awp_cond_k fun A B hA hB => ?_); simp only [S1, simprocAttr, TTSdD, hb1, List.map_nil, List.length_nil]; first | (refine hK1 _ ?_; clear hK1 K1) | ((first | refine hA ?_ | refine hB ?_); clear hA hB A B) | ((first | apply call_a E12 | apply call_q E12); exact hf; (refine hK1 _ ?_; clear hK1 K1)) | ((first | apply call_a E7 | apply call_q E7); exact (hu _); (refine hK1 _ ?_; clear hK1 K1)) | (refine join_x (v := ?_) (fun hg hk9 => ?_) ?_; rotate_left; (focus (try ((try simp only [BN] at hg); simp only [S1, simprocAttr, TTSdD, hb1, List.map_nil, List.length_nil, hg] at hk9 ⊢)); first | exact hk9 | ((first | apply call_a E12 | apply call_q E12); exact hf; exact hk9) | ((first | apply call_a E7 | apply call_q E7); exact (hu _); exact hk9)); (refine hK1 _ ?_; clear hK1 K1)) | (((first | (refine ⟨fun hg => hA ?_, fun hg => hB ?_⟩ <;> clear hA hB A B) | refine ⟨fun hg => ?_, fun hg => ?_⟩) <;> (try simp only [BN2] at hg) <;> (try simp only [hg, cond_true, cond_false])) <;> (try (refine hK1 _ ?_; clear hK1 K1)) <;> (try simp only [BN3] at hg))) | (refine awp_seq_k fun K hK => ?_) | ((first | refine awp_region ?_ | refine awp_draw (by kernel_rfl) ?_ | refine awp_block ?_ | refine awp_exit ?_ | refine awp_skip ?_ | refine awp_ret ?_); (try simp only [NB, simprocAttr])))
    all_goals simp only [EndP, FinP, resA, resL, resA1, lastV, lastA, lastAs, pur, purs, take_app, List.take_length, S1, simprocAttr, TTSdD, Nat.le_add_right, Nat.le_refl, bH_takeh, bH_len]
    all_goals simp
  subst f0
  rw [f2, f3] at hf
  have ok2 : RsOk P (fB P b k).s := by show RsOk P (faultC P b.g b.s k).1.2; rw [f4]; exact f5.ok
  obtain ⟨c, w, m, q1, q2, q3, q4⟩ := f5.last
  rw [← f4] at q2 q4
  have q2 : (fB P b k).s.ac = m ++ [(w, c)] := q2
  have q4 : ∀ j, Ins P c j → stA (fB P b k).s.st j ≠ 1 := q4
  have hf : ACalls Try.prog G 12 [.ptr (h.length + 1) 0 0, .i k] (bH h P b []) (fun r h' => r = .tup [aAc (fB P b k).s.ac, .i 0] ∧ h' = bH h P (fB P b k) []) := hf
  have hacn := ok2.acn
  have hacl := ok2.acle
  generalize fB P b k = b2 at *
  have hcl : c ≤ k := q1.le pl
  rw [q2] at hf hacn hacl
  obtain ⟨la, hla⟩ : ∃ la, la = m ++ [(w, c)] := ⟨_, rfl⟩
  rw [← hla] at hf hacn hacl
  have hlal : la.length = m.length + 1 := by rw [hla]; simp
  have hrow : (la.map eAct)[m.length]? = some [.int .i64 w, .int .i64 (c : Int)] := by rw [hla, List.map_append, List.getElem?_append_right (by simp)]; simp [eAct]
  have hwr : IntKind.i64.wrap ((la.length : Int) - 1) = (m.length : Int) := by rw [IntWalk.i64_in _ (by omega)]; omega
  have hml : (m.length : Int) < (la.length : Int) := by omega
  have hm0 : (0 : Int) ≤ (m.length : Int) := by omega
  refine awp_seq_k fun K hK => ?_
  repeat' (first | ((first | refine aops_nil ?_ | refine aqops_nil ?_); (try simp only [NB]); ((repeat ((fail_if_success (refine hK _ ?_)); clear hK K)); refine hK _ ?_; clear hK K)) | ((first | refine aops_k fun K1 hK1 => ?_ | refine aqops_k fun K1 hK1 => ?_ | refine awp_cond_k fun A B hA hB => ?_); simp only [S1, simprocAttr, TTSdD]; first | (refine hK1 _ ?_; clear hK1 K1) | ((first | refine hA ?_ | refine hB ?_); clear hA hB A B) | ((first | apply call_a E12 | apply call_q E12); exact hf; (refine hK1 _ ?_; clear hK1 K1)) | (refine join_x (v := ?_) (fun hg hk9 => ?_) ?_; rotate_left; (focus (try ((try simp only [BN] at hg); simp only [S1, simprocAttr, TTSdD, hg] at hk9 ⊢)); first | exact hk9 | ((first | apply call_a E12 | apply call_q E12); exact hf; exact hk9)); (refine hK1 _ ?_; clear hK1 K1)) | (((first | (refine ⟨fun hg => hA ?_, fun hg => hB ?_⟩ <;> clear hA hB A B) | refine ⟨fun hg => ?_, fun hg => ?_⟩) <;> (try simp only [BN2] at hg) <;> (try simp only [hg, cond_true, cond_false])) <;> (try (refine hK1 _ ?_; clear hK1 K1)) <;> (try simp only [BN3] at hg))) | (fail) | ((first | refine awp_region ?_ | refine awp_draw (by kernel_rfl) ?_ | refine awp_block ?_ | refine awp_exit ?_ | refine awp_skip ?_ | refine awp_ret ?_); (try simp only [NB, simprocAttr]); (try ((repeat ((fail_if_success (refine hK _ ?_)); clear hK K)); refine hK _ ?_; clear hK K))))
  refine awp_seq_k fun K hK => ?_
  refine awp_seq_k fun K hK => ?_
  repeat' (first | ((first | refine aops_nil ?_ | refine aqops_nil ?_); (try simp only [NB]); ((repeat ((fail_if_success (refine hK _ ?_)); clear hK K)); refine hK _ ?_; clear hK K)) | ((first | refine aops_k fun K1 hK1 => ?_ | refine aqops_k fun K1 hK1 => ?_ | refine awp_cond_k fun A B hA hB => ?_); simp only [S1, simprocAttr, TTSdD]; first | (refine hK1 _ ?_; clear hK1 K1) | ((first | refine hA ?_ | refine hB ?_); clear hA hB A B) | (refine join_x (v := ?_) (fun hg hk9 => ?_) ?_; rotate_left; (focus (try ((try simp only [BN] at hg); simp only [S1, simprocAttr, TTSdD, hg] at hk9 ⊢)); first | exact hk9); (refine hK1 _ ?_; clear hK1 K1)) | (((first | (refine ⟨fun hg => hA ?_, fun hg => hB ?_⟩ <;> clear hA hB A B) | refine ⟨fun hg => ?_, fun hg => ?_⟩) <;> (try simp only [BN2] at hg) <;> (try simp only [hg, cond_true, cond_false])) <;> (try (refine hK1 _ ?_; clear hK1 K1)) <;> (try simp only [BN3] at hg))) | (fail) | ((first | refine awp_region ?_ | refine awp_draw (by kernel_rfl) ?_ | refine awp_block ?_ | refine awp_exit ?_ | refine awp_skip ?_ | refine awp_ret ?_); (try simp only [NB, simprocAttr]); (try ((repeat ((fail_if_success (refine hK _ ?_)); clear hK K)); refine hK _ ?_; clear hK K))))
  repeat' (first | ((first | refine aops_nil ?_ | refine aqops_nil ?_); (try simp only [NB]); ((repeat ((fail_if_success (refine hK _ ?_)); clear hK K)); refine hK _ ?_; clear hK K)) | ((first | refine aops_k fun K1 hK1 => ?_ | refine aqops_k fun K1 hK1 => ?_ | refine awp_cond_k fun A B hA hB => ?_); simp only [S1, simprocAttr, TTSdD]; first | (refine hK1 _ ?_; clear hK1 K1) | ((first | refine hA ?_ | refine hB ?_); clear hA hB A B) | (refine join_x (v := ?_) (fun hg hk9 => ?_) ?_; rotate_left; (focus (try ((try simp only [BN] at hg); simp only [S1, simprocAttr, TTSdD, hg] at hk9 ⊢)); first | exact hk9); (refine hK1 _ ?_; clear hK1 K1)) | (((first | (refine ⟨fun hg => hA ?_, fun hg => hB ?_⟩ <;> clear hA hB A B) | refine ⟨fun hg => ?_, fun hg => ?_⟩) <;> (try simp only [BN2] at hg) <;> (try simp only [hg, cond_true, cond_false])) <;> (try (refine hK1 _ ?_; clear hK1 K1)) <;> (try simp only [BN3] at hg))) | (fail) | ((first | refine awp_region ?_ | refine awp_draw (by kernel_rfl) ?_ | refine awp_block ?_ | refine awp_exit ?_ | refine awp_skip ?_ | refine awp_ret ?_); (try simp only [NB, simprocAttr]); (try ((repeat ((fail_if_success (refine hK _ ?_)); clear hK K)); refine hK _ ?_; clear hK K))))
  refine awp_tellG ⟨frL [(15, .pin [.int .i64 w, .int .i64 (c : Int)]), (13, aAc la), (0, aSc P), (2, .i k), (7, .ptr (h.length + 1) 0 0)], 149, bH h P b2 []⟩ (fun K hK => ?_) ?_
  · repeat' (first | ((first | refine aops_nil ?_ | refine aqops_nil ?_); (try simp only [NB]); ((repeat ((fail_if_success (refine hK _ ?_)); clear hK K)); refine hK _ ?_; clear hK K)) | ((first | refine aops_k fun K1 hK1 => ?_ | refine aqops_k fun K1 hK1 => ?_ | refine awp_cond_k fun A B hA hB => ?_); simp only [S1, simprocAttr, TTSdD, hrow, hwr, hml, hm0, bH_len, bH_app, bH_get7, bH_set7, takeC_st, Int.toNat_natCast, List.length_map, List.nil_append]; first | (refine hK1 _ ?_; clear hK1 K1) | ((first | refine hA ?_ | refine hB ?_); clear hA hB A B) | (refine join_x (v := ?_) (fun hg hk9 => ?_) ?_; rotate_left; (focus (try ((try simp only [BN] at hg); simp only [S1, simprocAttr, TTSdD, hrow, hwr, hml, hm0, bH_len, bH_app, bH_get7, bH_set7, takeC_st, Int.toNat_natCast, List.length_map, List.nil_append, hg] at hk9 ⊢)); first | exact hk9); (refine hK1 _ ?_; clear hK1 K1)) | (((first | (refine ⟨fun hg => hA ?_, fun hg => hB ?_⟩ <;> clear hA hB A B) | refine ⟨fun hg => ?_, fun hg => ?_⟩) <;> (try simp only [BN2] at hg) <;> (try simp only [hg, cond_true, cond_false])) <;> (try (refine hK1 _ ?_; clear hK1 K1)) <;> (try simp only [BN3] at hg))) | (fail) | ((first | refine awp_region ?_ | refine awp_draw (by kernel_rfl) ?_ | refine awp_block ?_ | refine awp_exit ?_ | refine awp_skip ?_ | refine awp_ret ?_); (try simp only [NB, simprocAttr]); (try ((repeat ((fail_if_success (refine hK _ ?_)); clear hK K)); refine hK _ ?_; clear hK K))))
    all_goals refine (Ghost.freezeP (k := 15) (b := h.length + 7) (bk := ⟨0, [.i w, .i (c : Int)]⟩) (cells := [.int .i64 w, .int .i64 (c : Int)]) rfl (bH_get7 _ _) rfl (by simp)).trans ?_
    all_goals rw [bH_set7]
    all_goals refine Sub.ghost (L := bW h.length P b2 ++ []) ⟨rfl, ⟨[none], rfl⟩, ?_, bW_avl (by simp [bW]) trivial⟩
    all_goals simp only [keeps, avlt, avlts, blksLt, frL, upd_get, bW_len, List.append_nil, S1, simprocAttr, List.length_map, List.length_cons, List.length_nil, Int.natCast_zero, AV.p.injEq, PV.int.injEq, PV.bool.injEq, PV.sl.injEq] <;> (try and_intros) <;> (try assumption) <;> (try trivial) <;> (try omega)
  have hin : insB P c k = true := (insB_iff pl f1).mpr q1
  have i1 := fun h => inside_calls (G := G) pl (of := c) f1 h
  rw [hin] at i1
  refine awp_tellG ⟨frL [(15, .pin [.int .i64 w, .int .i64 (c : Int)]), (13, aAc la), (0, aSc P), (7, .ptr (h.length + 1) 0 0)], 149, bH h P b2 []⟩ (fun K hK => ?_) ?_
  · refine awp_seq_k fun K hK => ?_
    rcases q3 with q3 | ⟨q3, q5⟩
    · have e3 : (w != 3) = false := by rw [q3]; rfl
      repeat' (first | ((first | refine aops_nil ?_ | refine aqops_nil ?_); (try simp only [NB]); ((repeat ((fail_if_success (refine hK _ ?_)); clear hK K)); refine hK _ ?_; clear hK K)) | ((first | refine aops_k fun K1 hK1 => ?_ | refine aqops_k fun K1 hK1 => ?_ | refine awp_cond_k fun A B hA hB => ?_); simp only [S1, simprocAttr, TTSdD, e3]; first | (refine hK1 _ ?_; clear hK1 K1) | ((first | refine hA ?_ | refine hB ?_); clear hA hB A B) | ((first | apply call_a E13 | apply call_q E13); exact (i1 _); (refine hK1 _ ?_; clear hK1 K1)) | (refine join_x (v := ?_) (fun hg hk9 => ?_) ?_; rotate_left; (focus (try ((try simp only [BN] at hg); simp only [S1, simprocAttr, TTSdD, e3, hg] at hk9 ⊢)); first | exact hk9 | ((first | apply call_a E13 | apply call_q E13); exact (i1 _); exact hk9)); (refine hK1 _ ?_; clear hK1 K1)) | (((first | (refine ⟨fun hg => hA ?_, fun hg => hB ?_⟩ <;> clear hA hB A B) | refine ⟨fun hg => ?_, fun hg => ?_⟩) <;> (try simp only [BN2] at hg) <;> (try simp only [hg, cond_true, cond_false])) <;> (try (refine hK1 _ ?_; clear hK1 K1)) <;> (try simp only [BN3] at hg))) | (fail) | ((first | refine awp_region ?_ | refine awp_draw (by kernel_rfl) ?_ | refine awp_block ?_ | refine awp_exit ?_ | refine awp_skip ?_ | refine awp_ret ?_); (try simp only [NB, simprocAttr]); (try ((repeat ((fail_if_success (refine hK _ ?_)); clear hK K)); refine hK _ ?_; clear hK K))))
      repeat' (first | ((first | refine aops_nil ?_ | refine aqops_nil ?_); (try simp only [NB]); ((repeat ((fail_if_success (refine hK _ ?_)); clear hK K)); refine hK _ ?_; clear hK K)) | ((first | refine aops_k fun K1 hK1 => ?_ | refine aqops_k fun K1 hK1 => ?_ | refine awp_cond_k fun A B hA hB => ?_); simp only [S1, simprocAttr, TTSdD]; first | (refine hK1 _ ?_; clear hK1 K1) | ((first | refine hA ?_ | refine hB ?_); clear hA hB A B) | (refine join_x (v := ?_) (fun hg hk9 => ?_) ?_; rotate_left; (focus (try ((try simp only [BN] at hg); simp only [S1, simprocAttr, TTSdD, hg] at hk9 ⊢)); first | exact hk9); (refine hK1 _ ?_; clear hK1 K1)) | (((first | (refine ⟨fun hg => hA ?_, fun hg => hB ?_⟩ <;> clear hA hB A B) | refine ⟨fun hg => ?_, fun hg => ?_⟩) <;> (try simp only [BN2] at hg) <;> (try simp only [hg, cond_true, cond_false])) <;> (try (refine hK1 _ ?_; clear hK1 K1)) <;> (try simp only [BN3] at hg))) | (fail) | ((first | refine awp_region ?_ | refine awp_draw (by kernel_rfl) ?_ | refine awp_block ?_ | refine awp_exit ?_ | refine awp_skip ?_ | refine awp_ret ?_); (try simp only [NB, simprocAttr]); (try ((repeat ((fail_if_success (refine hK _ ?_)); clear hK K)); refine hK _ ?_; clear hK K))))
      all_goals refine Sub.ghost (h := h) (L := bW h.length P b2 ++ []) ?_
      all_goals refine ⟨rfl, ⟨[], rfl⟩, ?_, bW_avl (by simp [bW]) trivial⟩
      all_goals simp only [keeps, avlt, avlts, blksLt, frL, upd_get, bW_len, List.append_nil, S1, simprocAttr, List.length_map, List.length_cons, List.length_nil, Int.natCast_zero, AV.p.injEq, PV.int.injEq, PV.bool.injEq, PV.sl.injEq] <;> (try and_intros) <;> (try assumption) <;> (try trivial) <;> (try omega)
    · have e3 : (w != 3) = true := by rw [q3]; rfl
      have e4 : (w != 4) = false := by rw [q3]; rfl
      have e5 : ((c : Int) != 0) = false := by rw [q5]; rfl
      repeat' (first | ((first | refine aops_nil ?_ | refine aqops_nil ?_); (try simp only [NB]); ((repeat ((fail_if_success (refine hK _ ?_)); clear hK K)); refine hK _ ?_; clear hK K)) | ((first | refine aops_k fun K1 hK1 => ?_ | refine aqops_k fun K1 hK1 => ?_ | refine awp_cond_k fun A B hA hB => ?_); simp only [S1, simprocAttr, TTSdD, e3, e4, e5]; first | (refine hK1 _ ?_; clear hK1 K1) | ((first | refine hA ?_ | refine hB ?_); clear hA hB A B) | ((first | apply call_a E13 | apply call_q E13); exact (i1 _); (refine hK1 _ ?_; clear hK1 K1)) | (refine join_x (v := ?_) (fun hg hk9 => ?_) ?_; rotate_left; (focus (try ((try simp only [BN] at hg); simp only [S1, simprocAttr, TTSdD, e3, e4, e5, hg] at hk9 ⊢)); first | exact hk9 | ((first | apply call_a E13 | apply call_q E13); exact (i1 _); exact hk9)); (refine hK1 _ ?_; clear hK1 K1)) | (((first | (refine ⟨fun hg => hA ?_, fun hg => hB ?_⟩ <;> clear hA hB A B) | refine ⟨fun hg => ?_, fun hg => ?_⟩) <;> (try simp only [BN2] at hg) <;> (try simp only [hg, cond_true, cond_false])) <;> (try (refine hK1 _ ?_; clear hK1 K1)) <;> (try simp only [BN3] at hg))) | (fail) | ((first | refine awp_region ?_ | refine awp_draw (by kernel_rfl) ?_ | refine awp_block ?_ | refine awp_exit ?_ | refine awp_skip ?_ | refine awp_ret ?_); (try simp only [NB, simprocAttr]); (try ((repeat ((fail_if_success (refine hK _ ?_)); clear hK K)); refine hK _ ?_; clear hK K))))
      repeat' (first | ((first | refine aops_nil ?_ | refine aqops_nil ?_); (try simp only [NB]); ((repeat ((fail_if_success (refine hK _ ?_)); clear hK K)); refine hK _ ?_; clear hK K)) | ((first | refine aops_k fun K1 hK1 => ?_ | refine aqops_k fun K1 hK1 => ?_ | refine awp_cond_k fun A B hA hB => ?_); simp only [S1, simprocAttr, TTSdD]; first | (refine hK1 _ ?_; clear hK1 K1) | ((first | refine hA ?_ | refine hB ?_); clear hA hB A B) | (refine join_x (v := ?_) (fun hg hk9 => ?_) ?_; rotate_left; (focus (try ((try simp only [BN] at hg); simp only [S1, simprocAttr, TTSdD, hg] at hk9 ⊢)); first | exact hk9); (refine hK1 _ ?_; clear hK1 K1)) | (((first | (refine ⟨fun hg => hA ?_, fun hg => hB ?_⟩ <;> clear hA hB A B) | refine ⟨fun hg => ?_, fun hg => ?_⟩) <;> (try simp only [BN2] at hg) <;> (try simp only [hg, cond_true, cond_false])) <;> (try (refine hK1 _ ?_; clear hK1 K1)) <;> (try simp only [BN3] at hg))) | (fail) | ((first | refine awp_region ?_ | refine awp_draw (by kernel_rfl) ?_ | refine awp_block ?_ | refine awp_exit ?_ | refine awp_skip ?_ | refine awp_ret ?_); (try simp only [NB, simprocAttr]); (try ((repeat ((fail_if_success (refine hK _ ?_)); clear hK K)); refine hK _ ?_; clear hK K))))
      all_goals refine Sub.ghost (h := h) (L := bW h.length P b2 ++ []) ?_
      all_goals refine ⟨rfl, ⟨[], rfl⟩, ?_, bW_avl (by simp [bW]) trivial⟩
      all_goals simp only [keeps, avlt, avlts, blksLt, frL, upd_get, bW_len, List.append_nil, S1, simprocAttr, List.length_map, List.length_cons, List.length_nil, Int.natCast_zero, AV.p.injEq, PV.int.injEq, PV.bool.injEq, PV.sl.injEq] <;> (try and_intros) <;> (try assumption) <;> (try trivial) <;> (try omega)
  refine awp_tellG ⟨frL [(13, aAc la)], 149, bH h P b2 []⟩ (fun K hK => ?_) ?_
  · refine awp_seq_k fun K hK => ?_
    repeat' (first | ((first | refine aops_nil ?_ | refine aqops_nil ?_); (try simp only [NB]); ((repeat ((fail_if_success (refine hK _ ?_)); clear hK K)); refine hK _ ?_; clear hK K)) | ((first | refine aops_k fun K1 hK1 => ?_ | refine aqops_k fun K1 hK1 => ?_ | refine awp_cond_k fun A B hA hB => ?_); simp only [S1, simprocAttr, TTSdD, List.length_map]; first | (refine hK1 _ ?_; clear hK1 K1) | ((first | refine hA ?_ | refine hB ?_); clear hA hB A B) | (refine join_x (v := ?_) (fun hg hk9 => ?_) ?_; rotate_left; (focus (try ((try simp only [BN] at hg); simp only [S1, simprocAttr, TTSdD, List.length_map, hg] at hk9 ⊢)); first | exact hk9); (refine hK1 _ ?_; clear hK1 K1)) | (((first | (refine ⟨fun hg => hA ?_, fun hg => hB ?_⟩ <;> clear hA hB A B) | refine ⟨fun hg => ?_, fun hg => ?_⟩) <;> (try simp only [BN2] at hg) <;> (try simp only [hg, cond_true, cond_false])) <;> (try (refine hK1 _ ?_; clear hK1 K1)) <;> (try simp only [BN3] at hg))) | (fail) | ((first | refine awp_region ?_ | refine awp_draw (by kernel_rfl) ?_ | refine awp_block ?_ | refine awp_exit ?_ | refine awp_skip ?_ | refine awp_ret ?_); (try simp only [NB, simprocAttr]); (try ((repeat ((fail_if_success (refine hK _ ?_)); clear hK K)); refine hK _ ?_; clear hK K))))
    refine awp_for P.length 149 (fun j => [(111, .i j), (110, .i P.length), (15, .pin [.int .i64 w, .int .i64 (c : Int)]), (13, aAc la), (0, aSc P), (7, .ptr (h.length + 1) 0 0)])
      (fun j => bW h.length P b2 ++ []) (fun j => True) ?_ trivial fun j hj hp K hK => ?_
    · refine ⟨rfl, ⟨[], rfl⟩, ?_, bW_avl (by simp [bW]) trivial⟩
      simp only [keeps, avlt, avlts, blksLt, frL, upd_get, bW_len, List.append_nil, S1, simprocAttr, List.length_map, List.length_cons, List.length_nil, Int.natCast_zero, AV.p.injEq, PV.int.injEq, PV.bool.injEq, PV.sl.injEq] <;> (try and_intros) <;> (try assumption) <;> (try trivial) <;> (try omega)
    rw [bH_is]
    rcases Nat.lt_or_ge j P.length with hlt | hge
    · have jl : (j : Int) < (P.length : Int) := by omega
      have hnx := nextJ hpn hlt
      have i2 := inside_calls (G := G) pl (of := c) hlt (bH h P b2 [])
      have hsb := stateB (G := G) (h := h) (L := []) ok2 hlt
      cases hc : insB P c j with
      | false =>
        rw [hc] at i2
        repeat' (first | ((first | refine aops_nil ?_ | refine aqops_nil ?_); (try simp only [NB])) | ((repeat ((fail_if_success (refine hK _ ?_)); clear hK K)); refine hK _ ?_; clear hK K) | ((first | refine aops_k fun K1 hK1 => ?_ | refine aqops_k fun K1 hK1 => ?_ | refine awp_cond_k fun A B hA hB => ?_); simp only [S1, simprocAttr, TTSdD, jl, hnx]; first | (refine hK1 _ ?_; clear hK1 K1) | ((first | refine hA ?_ | refine hB ?_); clear hA hB A B) | ((first | apply call_a E13 | apply call_q E13); exact i2; (refine hK1 _ ?_; clear hK1 K1)) | (refine join_x (v := ?_) (fun hg hk9 => ?_) ?_; rotate_left; (focus (try ((try simp only [BN] at hg); simp only [S1, simprocAttr, TTSdD, jl, hnx, hg] at hk9 ⊢)); first | exact hk9 | ((first | apply call_a E13 | apply call_q E13); exact i2; exact hk9)); (refine hK1 _ ?_; clear hK1 K1)) | (((first | (refine ⟨fun hg => hA ?_, fun hg => hB ?_⟩ <;> clear hA hB A B) | refine ⟨fun hg => ?_, fun hg => ?_⟩) <;> (try simp only [BN2] at hg) <;> (try simp only [hg, cond_true, cond_false])) <;> (try (refine hK1 _ ?_; clear hK1 K1)) <;> (try simp only [BN3] at hg))) | (refine awp_seq_k fun K hK => ?_) | ((first | refine awp_region ?_ | refine awp_draw (by kernel_rfl) ?_ | refine awp_block ?_ | refine awp_exit ?_ | refine awp_skip ?_ | refine awp_ret ?_); (try simp only [NB, simprocAttr])))
        all_goals refine ⟨hlt, trivial, rfl, ⟨[], rfl⟩, ?_, bW_avl (by simp [bW]) trivial⟩
        all_goals simp only [keeps, avlt, avlts, blksLt, frL, upd_get, bW_len, List.append_nil, S1, simprocAttr, List.length_map, List.length_cons, List.length_nil, Int.natCast_zero, AV.p.injEq, PV.int.injEq, PV.bool.injEq, PV.sl.injEq] <;> (try and_intros) <;> (try assumption) <;> (try trivial) <;> (try omega)
      | true =>
        rw [hc] at i2
        have hst : (stA b2.s.st j == 1) = false := beq_false_of_ne (q4 j ((insB_iff pl hlt).mp hc))
        repeat' (first | ((first | refine aops_nil ?_ | refine aqops_nil ?_); (try simp only [NB])) | ((repeat ((fail_if_success (refine hK _ ?_)); clear hK K)); refine hK _ ?_; clear hK K) | ((first | refine aops_k fun K1 hK1 => ?_ | refine aqops_k fun K1 hK1 => ?_ | refine awp_cond_k fun A B hA hB => ?_); simp only [S1, simprocAttr, TTSdD, jl, hnx, hst]; first | (refine hK1 _ ?_; clear hK1 K1) | ((first | refine hA ?_ | refine hB ?_); clear hA hB A B) | ((first | apply call_a E13 | apply call_q E13); exact i2; (refine hK1 _ ?_; clear hK1 K1)) | ((first | apply call_a E14 | apply call_q E14); exact hsb; (refine hK1 _ ?_; clear hK1 K1)) | (refine join_x (v := ?_) (fun hg hk9 => ?_) ?_; rotate_left; (focus (try ((try simp only [BN] at hg); simp only [S1, simprocAttr, TTSdD, jl, hnx, hst, hg] at hk9 ⊢)); first | exact hk9 | ((first | apply call_a E13 | apply call_q E13); exact i2; exact hk9) | ((first | apply call_a E14 | apply call_q E14); exact hsb; exact hk9)); (refine hK1 _ ?_; clear hK1 K1)) | (((first | (refine ⟨fun hg => hA ?_, fun hg => hB ?_⟩ <;> clear hA hB A B) | refine ⟨fun hg => ?_, fun hg => ?_⟩) <;> (try simp only [BN2] at hg) <;> (try simp only [hg, cond_true, cond_false])) <;> (try (refine hK1 _ ?_; clear hK1 K1)) <;> (try simp only [BN3] at hg))) | (refine awp_seq_k fun K hK => ?_) | ((first | refine awp_region ?_ | refine awp_draw (by kernel_rfl) ?_ | refine awp_block ?_ | refine awp_exit ?_ | refine awp_skip ?_ | refine awp_ret ?_); (try simp only [NB, simprocAttr])))
        all_goals refine ⟨hlt, trivial, rfl, ⟨[], rfl⟩, ?_, bW_avl (by simp [bW]) trivial⟩
        all_goals simp only [keeps, avlt, avlts, blksLt, frL, upd_get, bW_len, List.append_nil, S1, simprocAttr, List.length_map, List.length_cons, List.length_nil, Int.natCast_zero, AV.p.injEq, PV.int.injEq, PV.bool.injEq, PV.sl.injEq] <;> (try and_intros) <;> (try assumption) <;> (try trivial) <;> (try omega)
    · obtain rfl : j = P.length := by omega
      repeat' (first | ((first | refine aops_nil ?_ | refine aqops_nil ?_); (try simp only [NB])) | ((repeat ((fail_if_success (refine hK _ ?_)); clear hK K)); refine hK _ ?_; clear hK K) | ((first | refine aops_k fun K1 hK1 => ?_ | refine aqops_k fun K1 hK1 => ?_ | refine awp_cond_k fun A B hA hB => ?_); simp only [S1, simprocAttr, TTSdD, Int.lt_irrefl]; first | (refine hK1 _ ?_; clear hK1 K1) | ((first | refine hA ?_ | refine hB ?_); clear hA hB A B) | (refine join_x (v := ?_) (fun hg hk9 => ?_) ?_; rotate_left; (focus (try ((try simp only [BN] at hg); simp only [S1, simprocAttr, TTSdD, Int.lt_irrefl, hg] at hk9 ⊢)); first | exact hk9); (refine hK1 _ ?_; clear hK1 K1)) | (((first | (refine ⟨fun hg => hA ?_, fun hg => hB ?_⟩ <;> clear hA hB A B) | refine ⟨fun hg => ?_, fun hg => ?_⟩) <;> (try simp only [BN2] at hg) <;> (try simp only [hg, cond_true, cond_false])) <;> (try (refine hK1 _ ?_; clear hK1 K1)) <;> (try simp only [BN3] at hg))) | (refine awp_seq_k fun K hK => ?_) | ((first | refine awp_region ?_ | refine awp_draw (by kernel_rfl) ?_ | refine awp_block ?_ | refine awp_exit ?_ | refine awp_skip ?_ | refine awp_ret ?_); (try simp only [NB, simprocAttr])))
      all_goals refine Sub.ghost (h := h) (L := bW h.length P b2 ++ []) ?_
      all_goals refine ⟨rfl, ⟨[], rfl⟩, ?_, bW_avl (by simp [bW]) trivial⟩
      all_goals simp only [keeps, avlt, avlts, blksLt, frL, upd_get, bW_len, List.append_nil, S1, simprocAttr, List.length_map, List.length_cons, List.length_nil, Int.natCast_zero, AV.p.injEq, PV.int.injEq, PV.bool.injEq, PV.sl.injEq] <;> (try and_intros) <;> (try assumption) <;> (try trivial) <;> (try omega)
  refine awp_seq_k fun K hK => ?_
  refine awp_seq_k fun K hK => ?_
  repeat' (first | ((first | refine aops_nil ?_ | refine aqops_nil ?_); (try simp only [NB]); ((repeat ((fail_if_success (refine hK _ ?_)); clear hK K)); refine hK _ ?_; clear hK K)) | ((first | refine aops_k fun K1 hK1 => ?_ | refine aqops_k fun K1 hK1 => ?_ | refine awp_cond_k fun A B hA hB => ?_); simp only [S1, simprocAttr, TTSdD, List.length_map]; first | (refine hK1 _ ?_; clear hK1 K1) | ((first | refine hA ?_ | refine hB ?_); clear hA hB A B) | (refine join_x (v := ?_) (fun hg hk9 => ?_) ?_; rotate_left; (focus (try ((try simp only [BN] at hg); simp only [S1, simprocAttr, TTSdD, List.length_map, hg] at hk9 ⊢)); first | exact hk9); (refine hK1 _ ?_; clear hK1 K1)) | (((first | (refine ⟨fun hg => hA ?_, fun hg => hB ?_⟩ <;> clear hA hB A B) | refine ⟨fun hg => ?_, fun hg => ?_⟩) <;> (try simp only [BN2] at hg) <;> (try simp only [hg, cond_true, cond_false])) <;> (try (refine hK1 _ ?_; clear hK1 K1)) <;> (try simp only [BN3] at hg))) | (fail) | ((first | refine awp_region ?_ | refine awp_draw (by kernel_rfl) ?_ | refine awp_block ?_ | refine awp_exit ?_ | refine awp_skip ?_ | refine awp_ret ?_); (try simp only [NB, simprocAttr]); (try ((repeat ((fail_if_success (refine hK _ ?_)); clear hK K)); refine hK _ ?_; clear hK K))))
  have hlan : la.length ≤ 1000 := by omega
  refine awp_for la.length 149 (fun x => [(128, .i x), (127, .i la.length), (126, aAc la), (13, aAc la)])
    (fun x => bW h.length P b2 ++ []) (fun x => True) ?_ trivial fun x hx hp K hK => ?_
  · refine ⟨rfl, ⟨[], rfl⟩, ?_, bW_avl (by simp [bW]) trivial⟩
    simp only [keeps, avlt, avlts, blksLt, frL, upd_get, bW_len, List.append_nil, S1, simprocAttr, List.length_map, List.length_cons, List.length_nil, Int.natCast_zero, AV.p.injEq, PV.int.injEq, PV.bool.injEq, PV.sl.injEq] <;> (try and_intros) <;> (try assumption) <;> (try trivial) <;> (try omega)
  rw [bH_is]
  rcases Nat.lt_or_ge x la.length with hlt | hge
  · obtain ⟨s, hs⟩ : ∃ s, la[x]? = some s := ⟨_, List.getElem?_eq_getElem hlt⟩
    have xl : (x : Int) < (la.length : Int) := by omega
    have x0 : (0 : Int) ≤ (x : Int) := by omega
    have hsr : (la.map eAct)[x]? = some [.int .i64 s.1, .int .i64 (s.2 : Int)] := by rw [List.getElem?_map, hs]; rfl
    refine awp_seq_k fun K hK => ?_
    repeat' (first | ((first | refine aops_nil ?_ | refine aqops_nil ?_); (try simp only [NB]); ((repeat ((fail_if_success (refine hK _ ?_)); clear hK K)); refine hK _ ?_; clear hK K)) | ((first | refine aops_k fun K1 hK1 => ?_ | refine aqops_k fun K1 hK1 => ?_ | refine awp_cond_k fun A B hA hB => ?_); simp only [S1, simprocAttr, TTSdD, xl]; first | (refine hK1 _ ?_; clear hK1 K1) | ((first | refine hA ?_ | refine hB ?_); clear hA hB A B) | (refine join_x (v := ?_) (fun hg hk9 => ?_) ?_; rotate_left; (focus (try ((try simp only [BN] at hg); simp only [S1, simprocAttr, TTSdD, xl, hg] at hk9 ⊢)); first | exact hk9); (refine hK1 _ ?_; clear hK1 K1)) | (((first | (refine ⟨fun hg => hA ?_, fun hg => hB ?_⟩ <;> clear hA hB A B) | refine ⟨fun hg => ?_, fun hg => ?_⟩) <;> (try simp only [BN2] at hg) <;> (try simp only [hg, cond_true, cond_false])) <;> (try (refine hK1 _ ?_; clear hK1 K1)) <;> (try simp only [BN3] at hg))) | (fail) | ((first | refine awp_region ?_ | refine awp_draw (by kernel_rfl) ?_ | refine awp_block ?_ | refine awp_exit ?_ | refine awp_skip ?_ | refine awp_ret ?_); (try simp only [NB, simprocAttr]); (try ((repeat ((fail_if_success (refine hK _ ?_)); clear hK K)); refine hK _ ?_; clear hK K))))
    refine awp_seq_k fun K hK => ?_
    repeat' (first | ((first | refine aops_nil ?_ | refine aqops_nil ?_); (try simp only [NB]); ((repeat ((fail_if_success (refine hK _ ?_)); clear hK K)); refine hK _ ?_; clear hK K)) | ((first | refine aops_k fun K1 hK1 => ?_ | refine aqops_k fun K1 hK1 => ?_ | refine awp_cond_k fun A B hA hB => ?_); simp only [S1, simprocAttr, TTSdD, xl]; first | (refine hK1 _ ?_; clear hK1 K1) | ((first | refine hA ?_ | refine hB ?_); clear hA hB A B) | (refine join_x (v := ?_) (fun hg hk9 => ?_) ?_; rotate_left; (focus (try ((try simp only [BN] at hg); simp only [S1, simprocAttr, TTSdD, xl, hg] at hk9 ⊢)); first | exact hk9); (refine hK1 _ ?_; clear hK1 K1)) | (((first | (refine ⟨fun hg => hA ?_, fun hg => hB ?_⟩ <;> clear hA hB A B) | refine ⟨fun hg => ?_, fun hg => ?_⟩) <;> (try simp only [BN2] at hg) <;> (try simp only [hg, cond_true, cond_false])) <;> (try (refine hK1 _ ?_; clear hK1 K1)) <;> (try simp only [BN3] at hg))) | (fail) | ((first | refine awp_region ?_ | refine awp_draw (by kernel_rfl) ?_ | refine awp_block ?_ | refine awp_exit ?_ | refine awp_skip ?_ | refine awp_ret ?_); (try simp only [NB, simprocAttr]); (try ((repeat ((fail_if_success (refine hK _ ?_)); clear hK K)); refine hK _ ?_; clear hK K))))
    refine awp_seq_k fun K hK => ?_
    refine awp_block ?_
    refine awp_tellG ⟨frL [(17, .i x), (18, .pin [.int .i64 s.1, .int .i64 (s.2 : Int)]), (128, .i x), (127, .i la.length), (126, aAc la), (13, aAc la)], 149, bH h P b2 []⟩ (fun K hK => ?_) ?_
    · repeat' (first | ((first | refine aops_nil ?_ | refine aqops_nil ?_); (try simp only [NB]); ((repeat ((fail_if_success (refine hK _ ?_)); clear hK K)); refine hK _ ?_; clear hK K)) | ((first | refine aops_k fun K1 hK1 => ?_ | refine aqops_k fun K1 hK1 => ?_ | refine awp_cond_k fun A B hA hB => ?_); simp only [S1, simprocAttr, TTSdD, hsr, xl, x0, bH_len, bH_app, bH_get7, bH_set7, takeC_st, Int.toNat_natCast, List.length_map, List.nil_append]; first | (refine hK1 _ ?_; clear hK1 K1) | ((first | refine hA ?_ | refine hB ?_); clear hA hB A B) | (refine join_x (v := ?_) (fun hg hk9 => ?_) ?_; rotate_left; (focus (try ((try simp only [BN] at hg); simp only [S1, simprocAttr, TTSdD, hsr, xl, x0, bH_len, bH_app, bH_get7, bH_set7, takeC_st, Int.toNat_natCast, List.length_map, List.nil_append, hg] at hk9 ⊢)); first | exact hk9); (refine hK1 _ ?_; clear hK1 K1)) | (((first | (refine ⟨fun hg => hA ?_, fun hg => hB ?_⟩ <;> clear hA hB A B) | refine ⟨fun hg => ?_, fun hg => ?_⟩) <;> (try simp only [BN2] at hg) <;> (try simp only [hg, cond_true, cond_false])) <;> (try (refine hK1 _ ?_; clear hK1 K1)) <;> (try simp only [BN3] at hg))) | (fail) | ((first | refine awp_region ?_ | refine awp_draw (by kernel_rfl) ?_ | refine awp_block ?_ | refine awp_exit ?_ | refine awp_skip ?_ | refine awp_ret ?_); (try simp only [NB, simprocAttr]); (try ((repeat ((fail_if_success (refine hK _ ?_)); clear hK K)); refine hK _ ?_; clear hK K))))
      all_goals refine (Ghost.freezeP (k := 18) (b := h.length + 7) (bk := ⟨0, [.i s.1, .i (s.2 : Int)]⟩) (cells := [.int .i64 s.1, .int .i64 (s.2 : Int)]) rfl (bH_get7 _ _) rfl (by simp)).trans ?_
      all_goals rw [bH_set7]
      all_goals refine Sub.ghost (L := bW h.length P b2 ++ []) ⟨rfl, ⟨[none], rfl⟩, ?_, bW_avl (by simp [bW]) trivial⟩
      all_goals simp only [keeps, avlt, avlts, blksLt, frL, upd_get, bW_len, List.append_nil, S1, simprocAttr, List.length_map, List.length_cons, List.length_nil, Int.natCast_zero, AV.p.injEq, PV.int.injEq, PV.bool.injEq, PV.sl.injEq] <;> (try and_intros) <;> (try assumption) <;> (try trivial) <;> (try omega)
    have htl : ((la.map eAct).take x).length = x := by rw [List.length_take, List.length_map]; omega
    have xle : x ≤ la.length := by omega
    have hall : (la.map eAct).all (fun r => r.length == 2) = true := eAct_all la
    refine awp_seq_k fun K hK => ?_
    repeat' (first | ((first | refine aops_nil ?_ | refine aqops_nil ?_); (try simp only [NB]); ((repeat ((fail_if_success (refine hK _ ?_)); clear hK K)); refine hK _ ?_; clear hK K)) | ((first | refine aops_k fun K1 hK1 => ?_ | refine aqops_k fun K1 hK1 => ?_ | refine awp_cond_k fun A B hA hB => ?_); simp only [S1, simprocAttr, TTSdD, xl, x0, xle, htl, hall, Nat.zero_le, Nat.sub_zero, Int.toNat_natCast, List.length_map, List.drop_zero]; first | (refine hK1 _ ?_; clear hK1 K1) | ((first | refine hA ?_ | refine hB ?_); clear hA hB A B) | (refine join_x (v := ?_) (fun hg hk9 => ?_) ?_; rotate_left; (focus (try ((try simp only [BN] at hg); simp only [S1, simprocAttr, TTSdD, xl, x0, xle, htl, hall, Nat.zero_le, Nat.sub_zero, Int.toNat_natCast, List.length_map, List.drop_zero, hg] at hk9 ⊢)); first | exact hk9); (refine hK1 _ ?_; clear hK1 K1)) | (((first | (refine ⟨fun hg => hA ?_, fun hg => hB ?_⟩ <;> clear hA hB A B) | refine ⟨fun hg => ?_, fun hg => ?_⟩) <;> (try simp only [BN2] at hg) <;> (try simp only [hg, cond_true, cond_false])) <;> (try (refine hK1 _ ?_; clear hK1 K1)) <;> (try simp only [BN3] at hg))) | (fail) | ((first | refine awp_region ?_ | refine awp_draw (by kernel_rfl) ?_ | refine awp_block ?_ | refine awp_exit ?_ | refine awp_skip ?_ | refine awp_ret ?_); (try simp only [NB, simprocAttr]); (try ((repeat ((fail_if_success (refine hK _ ?_)); clear hK K)); refine hK _ ?_; clear hK K))))
    refine awp_for x 149 (fun y => [(137, .i y), (136, .i x), (135, .p (.sl ((la.map eAct).take x))), (18, .pin [.int .i64 s.1, .int .i64 (s.2 : Int)]), (128, .i x), (127, .i la.length), (126, aAc la), (13, aAc la)])
      (fun y => bW h.length P b2 ++ []) (fun y => True) ?_ trivial fun y hy hp K hK => ?_
    · refine ⟨rfl, ⟨[], rfl⟩, ?_, bW_avl (by simp [bW]) trivial⟩
      simp only [keeps, avlt, avlts, blksLt, frL, upd_get, bW_len, List.append_nil, S1, simprocAttr, List.length_map, List.length_cons, List.length_nil, Int.natCast_zero, AV.p.injEq, PV.int.injEq, PV.bool.injEq, PV.sl.injEq] <;> (try and_intros) <;> (try assumption) <;> (try trivial) <;> (try omega)
    rw [bH_is]
    rcases Nat.lt_or_ge y x with hlty | hgey
    · obtain ⟨u, hu1⟩ : ∃ u, la[y]? = some u := ⟨_, List.getElem?_eq_getElem (by omega)⟩
      have yl : (y : Int) < (x : Int) := by omega
      have y0 : (0 : Int) ≤ (y : Int) := by omega
      have hnx := nextJ (n := x) (by omega) hlty
      have hur : ((la.map eAct).take x)[y]? = some [.int .i64 u.1, .int .i64 (u.2 : Int)] := by rw [List.getElem?_take, if_pos hlty, List.getElem?_map, hu1]; rfl
      have hne : ((s.2 : Int) == (u.2 : Int)) = false := by
        refine beq_false_of_ne fun e => ?_
        have e : s.2 = u.2 := by omega
        have g1 : (la.map (·.2))[x]? = some s.2 := by rw [List.getElem?_map, hs]; rfl
        have g2 : (la.map (·.2))[y]? = some s.2 := by rw [List.getElem?_map, hu1, e]; rfl
        have hxl : x < (la.map (·.2)).length := by rw [List.length_map]; exact hlt
        have := (List.getElem?_inj hxl hacn).mp (g1.trans g2.symm)
        omega
      repeat' (first | ((first | refine aops_nil ?_ | refine aqops_nil ?_); (try simp only [NB])) | ((repeat ((fail_if_success (refine hK _ ?_)); clear hK K)); refine hK _ ?_; clear hK K) | ((first | refine aops_k fun K1 hK1 => ?_ | refine aqops_k fun K1 hK1 => ?_ | refine awp_cond_k fun A B hA hB => ?_); simp only [S1, simprocAttr, TTSdD, yl, y0, hnx, hur, htl, hne, bH_len, bH_app, bH_get7, bH_set7, takeC_st, Int.toNat_natCast, List.length_map, List.nil_append]; first | (refine hK1 _ ?_; clear hK1 K1) | ((first | refine hA ?_ | refine hB ?_); clear hA hB A B) | (refine join_x (v := ?_) (fun hg hk9 => ?_) ?_; rotate_left; (focus (try ((try simp only [BN] at hg); simp only [S1, simprocAttr, TTSdD, yl, y0, hnx, hur, htl, hne, bH_len, bH_app, bH_get7, bH_set7, takeC_st, Int.toNat_natCast, List.length_map, List.nil_append, hg] at hk9 ⊢)); first | exact hk9); (refine hK1 _ ?_; clear hK1 K1)) | (((first | (refine ⟨fun hg => hA ?_, fun hg => hB ?_⟩ <;> clear hA hB A B) | refine ⟨fun hg => ?_, fun hg => ?_⟩) <;> (try simp only [BN2] at hg) <;> (try simp only [hg, cond_true, cond_false])) <;> (try (refine hK1 _ ?_; clear hK1 K1)) <;> (try simp only [BN3] at hg))) | (refine awp_seq_k fun K hK => ?_) | ((first | refine awp_region ?_ | refine awp_draw (by kernel_rfl) ?_ | refine awp_block ?_ | refine awp_exit ?_ | refine awp_skip ?_ | refine awp_ret ?_); (try simp only [NB, simprocAttr])))
      all_goals refine ⟨hlty, trivial, rfl, ⟨[some ⟨0, [.i u.1, .i (u.2 : Int)]⟩], rfl⟩, ?_, bW_avl (by simp [bW]) trivial⟩
      all_goals simp only [keeps, avlt, avlts, blksLt, frL, upd_get, bW_len, List.append_nil, S1, simprocAttr, List.length_map, List.length_cons, List.length_nil, Int.natCast_zero, AV.p.injEq, PV.int.injEq, PV.bool.injEq, PV.sl.injEq] <;> (try and_intros) <;> (try assumption) <;> (try trivial) <;> (try omega)
    · obtain rfl : x = y := by omega
      repeat' (first | ((first | refine aops_nil ?_ | refine aqops_nil ?_); (try simp only [NB])) | ((repeat ((fail_if_success (refine hK _ ?_)); clear hK K)); refine hK _ ?_; clear hK K) | ((first | refine aops_k fun K1 hK1 => ?_ | refine aqops_k fun K1 hK1 => ?_ | refine awp_cond_k fun A B hA hB => ?_); simp only [S1, simprocAttr, TTSdD, Int.lt_irrefl, nextJ hlan hlt]; first | (refine hK1 _ ?_; clear hK1 K1) | ((first | refine hA ?_ | refine hB ?_); clear hA hB A B) | (refine join_x (v := ?_) (fun hg hk9 => ?_) ?_; rotate_left; (focus (try ((try simp only [BN] at hg); simp only [S1, simprocAttr, TTSdD, Int.lt_irrefl, nextJ hlan hlt, hg] at hk9 ⊢)); first | exact hk9); (refine hK1 _ ?_; clear hK1 K1)) | (((first | (refine ⟨fun hg => hA ?_, fun hg => hB ?_⟩ <;> clear hA hB A B) | refine ⟨fun hg => ?_, fun hg => ?_⟩) <;> (try simp only [BN2] at hg) <;> (try simp only [hg, cond_true, cond_false])) <;> (try (refine hK1 _ ?_; clear hK1 K1)) <;> (try simp only [BN3] at hg))) | (refine awp_seq_k fun K hK => ?_) | ((first | refine awp_region ?_ | refine awp_draw (by kernel_rfl) ?_ | refine awp_block ?_ | refine awp_exit ?_ | refine awp_skip ?_ | refine awp_ret ?_); (try simp only [NB, simprocAttr])))
      all_goals refine ⟨hlt, trivial, rfl, ⟨[], rfl⟩, ?_, bW_avl (by simp [bW]) trivial⟩
      all_goals simp only [keeps, avlt, avlts, blksLt, frL, upd_get, bW_len, List.append_nil, S1, simprocAttr, List.length_map, List.length_cons, List.length_nil, Int.natCast_zero, AV.p.injEq, PV.int.injEq, PV.bool.injEq, PV.sl.injEq] <;> (try and_intros) <;> (try assumption) <;> (try trivial) <;> (try omega)
  · obtain rfl : x = la.length := by omega
    repeat' (first | ((first | refine aops_nil ?_ | refine aqops_nil ?_); (try simp only [NB])) | ((repeat ((fail_if_success (refine hK _ ?_)); clear hK K)); refine hK _ ?_; clear hK K) | ((first | refine aops_k fun K1 hK1 => ?_ | refine aqops_k fun K1 hK1 => ?_ | refine awp_cond_k fun A B hA hB => ?_); simp only [S1, simprocAttr, TTSdD, Int.lt_irrefl]; first | (refine hK1 _ ?_; clear hK1 K1) | ((first | refine hA ?_ | refine hB ?_); clear hA hB A B) | ((first | apply call_a E7 | apply call_q E7); exact (hu _); (refine hK1 _ ?_; clear hK1 K1)) | (refine join_x (v := ?_) (fun hg hk9 => ?_) ?_; rotate_left; (focus (try ((try simp only [BN] at hg); simp only [S1, simprocAttr, TTSdD, Int.lt_irrefl, hg] at hk9 ⊢)); first | exact hk9 | ((first | apply call_a E7 | apply call_q E7); exact (hu _); exact hk9)); (refine hK1 _ ?_; clear hK1 K1)) | (((first | (refine ⟨fun hg => hA ?_, fun hg => hB ?_⟩ <;> clear hA hB A B) | refine ⟨fun hg => ?_, fun hg => ?_⟩) <;> (try simp only [BN2] at hg) <;> (try simp only [hg, cond_true, cond_false])) <;> (try (refine hK1 _ ?_; clear hK1 K1)) <;> (try simp only [BN3] at hg))) | (refine awp_seq_k fun K hK => ?_) | ((first | refine awp_region ?_ | refine awp_draw (by kernel_rfl) ?_ | refine awp_block ?_ | refine awp_exit ?_ | refine awp_skip ?_ | refine awp_ret ?_); (try simp only [NB, simprocAttr])))
    all_goals simp only [EndP, FinP, resA, resL, resA1, lastV, lastA, lastAs, pur, purs, take_app, List.take_length, S1, simprocAttr, TTSdD, Nat.le_add_right, Nat.le_refl, bH_takeh, bH_len]
    all_goals simp
end Go.Proofs.Ytkmcecbglomemaa.AM
end
