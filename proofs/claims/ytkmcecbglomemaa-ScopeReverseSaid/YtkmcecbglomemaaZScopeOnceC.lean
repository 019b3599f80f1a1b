/- Proved here, in parts, for one law: Contracts: the parts of a scope, Enter, Leave, State. Contracts: a list is turned round; scopes are ended. Contracts: the parts of a scope are ended; a number is taken out of a list. Contracts: slices.DeleteFunc at whole numbers. slices.SortFunc of whole numbers, from the shelf: printed by the kit's lay-shelf tool in its plain mode, for seat Ytkmcecbglomemaa of TURN r5. The abstract machine, part N: what a row's arguments read as; laws. The abstract machine, part O: a law is a function that always answers true. The abstract machine, part R: what is told of empty slices holds of nil ones. The abstract machine, part S: what typed cells are, told by the facts of their types. The abstract machine, part Y: a row of records of whole numbers is sorted by a function that compares: the shelf's contract of slices.SortFunc turned into one of ours. Contracts: where a number stands, which is less; the order in which the parts of a scope are undone, as the sort asks for it. Contracts: the parts of a scope are sorted by when they were done. Contracts: scopes are undone. Contracts: the parts of a scope are undone. Contracts: a fault. Contracts: slices are copied. Contracts: slices of scopes, of actions, of numbers are copied. Conditions: none. -/
import Derived.Test.YtkmcecbglomemaaZScopeOnceB
import Derived.Shelf.SlSortCmp.Whole1
import Derived.Shelf.SlGeneric
import Derived.ProofKit
import Derived.LaidMore
import Derived.OpenShut
import Derived.Stop.Joined
import Derived.Shelf.GgSortFunc.RowK
import Derived.Shelf.SlSortCmp.QuietGrown
import Derived.Deep.RegionLaw
import Derived.Lib.SliceRun
import Derived.WalkKit
import Derived.Shelf.RegionOpenPlain
import Derived.Deep.LoopGhost
import Derived.Lib.Walk
import Derived.Shelf.SlSortCmp.NoneTotal

section
set_option linter.unusedVariables false
set_option linter.unusedSimpArgs false
set_option maxRecDepth 4000
set_option maxHeartbeats 4000000
namespace Go.Proofs.Ytkmcecbglomemaa.AM
open Go Go.Proofs
set_option linter.defProp false in
def TTScD := And.intro T2 (And.intro T3 (And.intro T4 (And.intro T22 (And.intro T25 (And.intro T26 (And.intro T37 (And.intro T41 (And.intro T45 (And.intro T49 T54)))))))))
attribute [local irreducible] awp aops aqops aeops arun arunT arunN
variable {G : Nat → Option (List PV)}

theorem takeC_st (fs : List (Nat × Nat × Nat)) (sz by' : Nat) (z : Option (List PV)) (cells : List AV) : takeA ⟨.struct fs, sz, by', z⟩ cells = if sz ≤ cells.length then some (.agg (cells.take sz)) else none := by unfold takeA; rfl
theorem nextJ {n i : Nat} (hk : n ≤ 1000) (h : i < n) : IntKind.i64.wrap ((i : Int) + 1) = ((i + 1 : Nat) : Int) := by rw [IntWalk.i64_in _ (by omega)]; omega
/-- A loop of which more is known ahead. -/
theorem awp_forC {P : Program} {rl : List String} {h : Heap} {c : Code} {Q : Exit → St → Prop} {s : St} (N nt : Nat) (l : Nat → List (Nat × AV)) (L : Nat → List (Option Blk)) (p : Nat → Prop) (hi : Ghost P G h s ⟨frL (l 0), nt, h ++ L 0⟩) (hp : p 0)
    (hb : ∀ i, i ≤ N → p i → ∀ K : St → Prop, (∀ s', (i < N ∧ p (i + 1) ∧ Sub h s' (l (i + 1)) (L (i + 1)) nt) → K s') → awp P G rl h c (thenA K Q) ⟨frL (l i), nt, h ++ L i⟩) : awp P G rl h (.loop c) Q s := by
  refine awp_loop (fun n s => ∃ i, i ≤ N ∧ p i ∧ n = N - i ∧ s = ⟨frL (l i), nt, h ++ L i⟩) N _ hi ⟨0, Nat.zero_le _, hp, rfl, rfl⟩ fun n s hI => ?_
  obtain ⟨i, h1, h2, rfl, rfl⟩ := hI
  exact hb i h1 h2 _ fun s' hs => ⟨N - (i + 1), _, by omega, hs.2.2.ghost, i + 1, by omega, hs.2.1, rfl, rfl⟩

def prN (P : List Sc) (st : List Int) (i : Nat) (x : Int) (j : Nat) : List Nat := (List.range j).filter fun k => parA P k == (i : Int) && stA st k == x
theorem prN_le (P : List Sc) (st : List Int) (i : Nat) (x : Int) (j : Nat) : (prN P st i x j).length ≤ j := by
  unfold prN; exact Nat.le_trans (List.length_filter_le _ _) (by simp)
theorem prN_succ {P : List Sc} {st : List Int} {i j : Nat} {x y : Int} {s : Sc} (h1 : P[j]? = some s) (h2 : st[j]? = some y) : prN P st i x (j + 1) = prN P st i x j ++ if (s.1 == (i : Int)) = true ∧ (y == x) = true then [j] else [] := by
  unfold prN
  rw [List.range_succ, List.filter_append]
  congr 1
  have e1 : parA P j = s.1 := by unfold parA; rw [h1]
  have e2 : stA st j = y := by unfold stA; rw [h2]; rfl
  simp only [List.filter_cons, e1, e2, List.filter_nil]
  cases (s.1 == (i : Int)) <;> cases (y == x) <;> rfl

section
variable {h : Heap} {P : List Sc} {g : Rg} {s : Rs} {L : Heap}
theorem parts_calls (hst : s.st.length = P.length) (hn : P.length ≤ 32) (i : Nat) (x : Int) :
    ACalls Try.prog G 26 [.ptr (h.length + 1) 0 0, .i i, .i x] (rnH h P g s L) (fun r h' => r = .ref (h.length + (L.length + 4)) (prts P s.st i x).length 0 1 (prts P s.st i x).length ∧ h' = rnH h P g s (L ++ [some ⟨(prts P s.st i x).length, (prts P s.st i x).map fun k : Nat => AV.i (k : Int)⟩])) := by
  have hR : ∀ M, (rnH h P g s L ++ M)[h.length + 1]? = some (runB h.length P g s) := fun M => by rw [rn_app]; exact rn_run
  have hR0 : (rnH h P g s L)[h.length + 1]? = some (runB h.length P g s) := rn_run
  have hS : ∀ M, (rnH h P g s L ++ M)[h.length]? = some (stB s) := fun M => by rw [rn_app]; exact rn_st
  have hlen : (rnH h P g s L).length = h.length + (L.length + 4) := rn_len
  have hfin : rnH h P g s (L ++ [some ⟨(prts P s.st i x).length, (prts P s.st i x).map fun k : Nat => AV.i (k : Int)⟩]) = rnH h P g s L ++ [some ⟨(prts P s.st i x).length, (prts P s.st i x).map fun k : Nat => AV.i (k : Int)⟩] := (rn_app _).symm
  rw [hfin]
  generalize rnH h P g s L = H at *
  refine Sim.evoKeepG (rl := []) mixed Try.func26 rfl (by rw [Try.ntmps26]; simp) ?_
  rw [Try.ntmps26]
  refine awp_seq_k fun K hK => ?_
  repeat' (first | ((first | refine aops_nil ?_ | refine aqops_nil ?_); (try simp only [NB]); ((repeat ((fail_if_success (refine hK _ ?_)); clear hK K)); refine hK _ ?_; clear hK K)) | ((first | refine aops_k fun K1 hK1 => ?_ | refine aqops_k fun K1 hK1 => ?_ | refine awp_cond_k fun A B hA hB => ?_); simp only [S1, simprocAttr, TTScD]; first | (refine hK1 _ ?_; clear hK1 K1) | ((first | refine hA ?_ | refine hB ?_); clear hA hB A B) | (refine join_x (v := ?_) (fun hg hk9 => ?_) ?_; rotate_left; (focus (try ((try simp only [BN] at hg); simp only [S1, simprocAttr, TTScD, hg] at hk9 ⊢)); first | exact hk9); (refine hK1 _ ?_; clear hK1 K1)) | (((first | (refine ⟨fun hg => hA ?_, fun hg => hB ?_⟩ <;> clear hA hB A B) | refine ⟨fun hg => ?_, fun hg => ?_⟩) <;> (try simp only [BN2] at hg) <;> (try simp only [hg, cond_true, cond_false])) <;> (try (refine hK1 _ ?_; clear hK1 K1)) <;> (try simp only [BN3] at hg))) | (fail) | ((first | refine awp_region ?_ | refine awp_draw (by kernel_rfl) ?_ | refine awp_block ?_ | refine awp_exit ?_ | refine awp_skip ?_ | refine awp_ret ?_); (try simp only [NB, simprocAttr]); (try ((repeat ((fail_if_success (refine hK _ ?_)); clear hK K)); refine hK _ ?_; clear hK K))))
  refine awp_seq_k fun K hK => ?_
  repeat' (first | ((first | refine aops_nil ?_ | refine aqops_nil ?_); (try simp only [NB]); ((repeat ((fail_if_success (refine hK _ ?_)); clear hK K)); refine hK _ ?_; clear hK K)) | ((first | refine aops_k fun K1 hK1 => ?_ | refine aqops_k fun K1 hK1 => ?_ | refine awp_cond_k fun A B hA hB => ?_); simp only [S1, simprocAttr, TTScD]; first | (refine hK1 _ ?_; clear hK1 K1) | ((first | refine hA ?_ | refine hB ?_); clear hA hB A B) | (refine join_x (v := ?_) (fun hg hk9 => ?_) ?_; rotate_left; (focus (try ((try simp only [BN] at hg); simp only [S1, simprocAttr, TTScD, hg] at hk9 ⊢)); first | exact hk9); (refine hK1 _ ?_; clear hK1 K1)) | (((first | (refine ⟨fun hg => hA ?_, fun hg => hB ?_⟩ <;> clear hA hB A B) | refine ⟨fun hg => ?_, fun hg => ?_⟩) <;> (try simp only [BN2] at hg) <;> (try simp only [hg, cond_true, cond_false])) <;> (try (refine hK1 _ ?_; clear hK1 K1)) <;> (try simp only [BN3] at hg))) | (fail) | ((first | refine awp_region ?_ | refine awp_draw (by kernel_rfl) ?_ | refine awp_block ?_ | refine awp_exit ?_ | refine awp_skip ?_ | refine awp_ret ?_); (try simp only [NB, simprocAttr]); (try ((repeat ((fail_if_success (refine hK _ ?_)); clear hK K)); refine hK _ ?_; clear hK K))))
  repeat' (first | ((first | refine aops_nil ?_ | refine aqops_nil ?_); (try simp only [NB])) | ((repeat ((fail_if_success (refine hK _ ?_)); clear hK K)); refine hK _ ?_; clear hK K) | ((first | refine aops_k fun K1 hK1 => ?_ | refine aqops_k fun K1 hK1 => ?_ | refine awp_cond_k fun A B hA hB => ?_); simp only [S1, simprocAttr, TTScD, hR0, runB, List.length_map]; first | (refine hK1 _ ?_; clear hK1 K1) | ((first | refine hA ?_ | refine hB ?_); clear hA hB A B) | (refine join_x (v := ?_) (fun hg hk9 => ?_) ?_; rotate_left; (focus (try ((try simp only [BN] at hg); simp only [S1, simprocAttr, TTScD, hR0, runB, List.length_map, hg] at hk9 ⊢)); first | exact hk9); (refine hK1 _ ?_; clear hK1 K1)) | (((first | (refine ⟨fun hg => hA ?_, fun hg => hB ?_⟩ <;> clear hA hB A B) | refine ⟨fun hg => ?_, fun hg => ?_⟩) <;> (try simp only [BN2] at hg) <;> (try simp only [hg, cond_true, cond_false])) <;> (try (refine hK1 _ ?_; clear hK1 K1)) <;> (try simp only [BN3] at hg))) | (refine awp_seq_k fun K hK => ?_) | ((first | refine awp_region ?_ | refine awp_draw (by kernel_rfl) ?_ | refine awp_block ?_ | refine awp_exit ?_ | refine awp_skip ?_ | refine awp_ret ?_); (try simp only [NB, simprocAttr])))
  refine awp_forC P.length 41 (fun j => [(15, .i j), (14, .i P.length), (13, aSc P), (2, .i x), (1, .i i), (0, .ptr (h.length + 1) 0 0), (7, .ref H.length (prN P s.st i x j).length 0 1 (prN P s.st i x j).length)])
    (fun j => [some ⟨(prN P s.st i x j).length, (prN P s.st i x j).map fun k : Nat => AV.i (k : Int)⟩]) (fun j => True) ?_ trivial fun j hj hp K hK => ?_
  · refine (Ghost.adopt 7 1 rfl).trans (Sub.ghost ⟨rfl, ⟨[], by simp [prN]⟩, ?_, ?_⟩)
    · simp [keeps, upd, avlt, prN]; omega
    · simp [blksLt, avlts, avlt, prN]
  rcases Nat.lt_or_ge j P.length with hlt | hge
  · obtain ⟨sc, hx⟩ : ∃ k, P[j]? = some k := ⟨_, List.getElem?_eq_getElem hlt⟩
    obtain ⟨y, hy⟩ : ∃ k, s.st[j]? = some k := ⟨_, List.getElem?_eq_getElem (by omega)⟩
    have jl : (j : Int) < (P.length : Int) := by omega
    have js : (j : Int) < (s.st.length : Int) := by omega
    have j0 : (0 : Int) ≤ (j : Int) := by omega
    have hnx := nextJ (n := P.length) (by omega) hlt
    have hle := prN_le P s.st i x j
    have hmax : (prN P s.st i x j).length + 1 ≤ maxCount := by unfold maxCount; omega
    have hds := dropSt hy
    have es := prN_succ (i := i) (x := x) hx hy
    cases c1 : (sc.1 == (i : Int)) with
    | false =>
      rw [c1, if_neg (by simp), List.append_nil] at es
      repeat' (first | ((first | refine aops_nil ?_ | refine aqops_nil ?_); (try simp only [NB])) | ((repeat ((fail_if_success (refine hK _ ?_)); clear hK K)); refine hK _ ?_; clear hK K) | ((first | refine aops_k fun K1 hK1 => ?_ | refine aqops_k fun K1 hK1 => ?_ | refine awp_cond_k fun A B hA hB => ?_); simp only [S1, simprocAttr, TTScD, rowSc hx, jl, j0, hnx, c1, takeC_st, Int.toNat_natCast, List.length_map, Nat.mul_one, Nat.zero_add]; first | (refine hK1 _ ?_; clear hK1 K1) | ((first | refine hA ?_ | refine hB ?_); clear hA hB A B) | (refine join_x (v := ?_) (fun hg hk9 => ?_) ?_; rotate_left; (focus (try ((try simp only [BN] at hg); simp only [S1, simprocAttr, TTScD, rowSc hx, jl, j0, hnx, c1, takeC_st, Int.toNat_natCast, List.length_map, Nat.mul_one, Nat.zero_add, hg] at hk9 ⊢)); first | exact hk9); (refine hK1 _ ?_; clear hK1 K1)) | (((first | (refine ⟨fun hg => hA ?_, fun hg => hB ?_⟩ <;> clear hA hB A B) | refine ⟨fun hg => ?_, fun hg => ?_⟩) <;> (try simp only [BN2] at hg) <;> (try simp only [hg, cond_true, cond_false])) <;> (try (refine hK1 _ ?_; clear hK1 K1)) <;> (try simp only [BN3] at hg))) | (refine awp_seq_k fun K hK => ?_) | ((first | refine awp_region ?_ | refine awp_draw (by kernel_rfl) ?_ | refine awp_block ?_ | refine awp_exit ?_ | refine awp_skip ?_ | refine awp_ret ?_); (try simp only [NB, simprocAttr])))
      all_goals refine ⟨hlt, trivial, ?_⟩
      all_goals simp only [es]
      all_goals refine ⟨rfl, ⟨_, rfl⟩, ?_, avlts_ns _ _, trivial⟩
      all_goals simp only [keeps, avlt, avlts, blksLt, frL, upd_get, S1, simprocAttr, List.length_map, Int.natCast_zero, AV.p.injEq, PV.int.injEq, PV.bool.injEq, PV.sl.injEq] <;> (try and_intros) <;> (try assumption) <;> (try trivial) <;> (try omega)
    | true =>
      cases c2 : (y == x) with
      | false =>
        rw [c1, c2, if_neg (by simp), List.append_nil] at es
        repeat' (first | ((first | refine aops_nil ?_ | refine aqops_nil ?_); (try simp only [NB])) | ((repeat ((fail_if_success (refine hK _ ?_)); clear hK K)); refine hK _ ?_; clear hK K) | ((first | refine aops_k fun K1 hK1 => ?_ | refine aqops_k fun K1 hK1 => ?_ | refine awp_cond_k fun A B hA hB => ?_); simp only [S1, simprocAttr, TTScD, rowSc hx, jl, js, j0, hnx, c1, c2, hR, hS, stB, runB, hds, takeC_st, Int.toNat_natCast, List.length_map, Nat.mul_one, Nat.zero_add]; first | (refine hK1 _ ?_; clear hK1 K1) | ((first | refine hA ?_ | refine hB ?_); clear hA hB A B) | (refine join_x (v := ?_) (fun hg hk9 => ?_) ?_; rotate_left; (focus (try ((try simp only [BN] at hg); simp only [S1, simprocAttr, TTScD, rowSc hx, jl, js, j0, hnx, c1, c2, hR, hS, stB, runB, hds, takeC_st, Int.toNat_natCast, List.length_map, Nat.mul_one, Nat.zero_add, hg] at hk9 ⊢)); first | exact hk9); (refine hK1 _ ?_; clear hK1 K1)) | (((first | (refine ⟨fun hg => hA ?_, fun hg => hB ?_⟩ <;> clear hA hB A B) | refine ⟨fun hg => ?_, fun hg => ?_⟩) <;> (try simp only [BN2] at hg) <;> (try simp only [hg, cond_true, cond_false])) <;> (try (refine hK1 _ ?_; clear hK1 K1)) <;> (try simp only [BN3] at hg))) | (refine awp_seq_k fun K hK => ?_) | ((first | refine awp_region ?_ | refine awp_draw (by kernel_rfl) ?_ | refine awp_block ?_ | refine awp_exit ?_ | refine awp_skip ?_ | refine awp_ret ?_); (try simp only [NB, simprocAttr])))
        all_goals refine ⟨hlt, trivial, ?_⟩
        all_goals simp only [es]
        all_goals refine ⟨rfl, ⟨_, rfl⟩, ?_, avlts_ns _ _, trivial⟩
        all_goals simp only [keeps, avlt, avlts, blksLt, frL, upd_get, S1, simprocAttr, List.length_map, Int.natCast_zero, AV.p.injEq, PV.int.injEq, PV.bool.injEq, PV.sl.injEq] <;> (try and_intros) <;> (try assumption) <;> (try trivial) <;> (try omega)
      | true =>
        rw [c1, c2, if_pos ⟨rfl, rfl⟩] at es
        repeat' (first | ((first | refine aops_nil ?_ | refine aqops_nil ?_); (try simp only [NB])) | ((repeat ((fail_if_success (refine hK _ ?_)); clear hK K)); refine hK _ ?_; clear hK K) | ((first | refine aops_k fun K1 hK1 => ?_ | refine aqops_k fun K1 hK1 => ?_ | refine awp_cond_k fun A B hA hB => ?_); simp only [S1, simprocAttr, TTScD, rowSc hx, jl, js, j0, hnx, hmax, c1, c2, hR, hS, stB, runB, hds, takeC_st, Int.toNat_natCast, List.length_map, Nat.mul_one, Nat.zero_add]; first | (refine hK1 _ ?_; clear hK1 K1) | ((first | refine hA ?_ | refine hB ?_); clear hA hB A B) | (refine join_x (v := ?_) (fun hg hk9 => ?_) ?_; rotate_left; (focus (try ((try simp only [BN] at hg); simp only [S1, simprocAttr, TTScD, rowSc hx, jl, js, j0, hnx, hmax, c1, c2, hR, hS, stB, runB, hds, takeC_st, Int.toNat_natCast, List.length_map, Nat.mul_one, Nat.zero_add, hg] at hk9 ⊢)); first | exact hk9); (refine hK1 _ ?_; clear hK1 K1)) | (((first | (refine ⟨fun hg => hA ?_, fun hg => hB ?_⟩ <;> clear hA hB A B) | refine ⟨fun hg => ?_, fun hg => ?_⟩) <;> (try simp only [BN2] at hg) <;> (try simp only [hg, cond_true, cond_false])) <;> (try (refine hK1 _ ?_; clear hK1 K1)) <;> (try simp only [BN3] at hg))) | (refine awp_seq_k fun K hK => ?_) | ((first | refine awp_region ?_ | refine awp_draw (by kernel_rfl) ?_ | refine awp_block ?_ | refine awp_exit ?_ | refine awp_skip ?_ | refine awp_ret ?_); (try simp only [NB, simprocAttr])))
        all_goals refine ⟨hlt, trivial, ?_⟩
        all_goals simp only [es, List.length_append, List.map_append, List.length_cons, List.length_nil, List.map_cons, List.map_nil, Nat.zero_add]
        all_goals refine ⟨rfl, ⟨_, rfl⟩, ?_, avlts_cat (avlts_ns _ _) ⟨trivial, trivial⟩, trivial⟩
        all_goals simp only [keeps, avlt, avlts, blksLt, frL, upd_get, S1, simprocAttr, List.length_map, Int.natCast_zero, AV.p.injEq, PV.int.injEq, PV.bool.injEq, PV.sl.injEq] <;> (try and_intros) <;> (try assumption) <;> (try trivial) <;> (try omega)
  · obtain rfl : j = P.length := by omega
    repeat' (first | ((first | refine aops_nil ?_ | refine aqops_nil ?_); (try simp only [NB])) | ((repeat ((fail_if_success (refine hK _ ?_)); clear hK K)); refine hK _ ?_; clear hK K) | ((first | refine aops_k fun K1 hK1 => ?_ | refine aqops_k fun K1 hK1 => ?_ | refine awp_cond_k fun A B hA hB => ?_); simp only [S1, simprocAttr, TTScD, Int.lt_irrefl]; first | (refine hK1 _ ?_; clear hK1 K1) | ((first | refine hA ?_ | refine hB ?_); clear hA hB A B) | (refine join_x (v := ?_) (fun hg hk9 => ?_) ?_; rotate_left; (focus (try ((try simp only [BN] at hg); simp only [S1, simprocAttr, TTScD, Int.lt_irrefl, hg] at hk9 ⊢)); first | exact hk9); (refine hK1 _ ?_; clear hK1 K1)) | (((first | (refine ⟨fun hg => hA ?_, fun hg => hB ?_⟩ <;> clear hA hB A B) | refine ⟨fun hg => ?_, fun hg => ?_⟩) <;> (try simp only [BN2] at hg) <;> (try simp only [hg, cond_true, cond_false])) <;> (try (refine hK1 _ ?_; clear hK1 K1)) <;> (try simp only [BN3] at hg))) | (refine awp_seq_k fun K hK => ?_) | ((first | refine awp_region ?_ | refine awp_draw (by kernel_rfl) ?_ | refine awp_block ?_ | refine awp_exit ?_ | refine awp_skip ?_ | refine awp_ret ?_); (try simp only [NB, simprocAttr])))
    all_goals exact ⟨.inr trivial, _, Ghost.refl, FinK_tmp (t := 6) rfl (by simp) ⟨by rw [hlen]; rfl, rfl⟩⟩

def enterF (P : List Sc) (s : Rs) (i : Int) : Rs × Int :=
  if i < 0 ∨ (P.length : Int) ≤ i then (s, 1) else if i = 0 ∨ stA s.st i.toNat ≠ 0 ∨ stA s.st (parA P i.toNat).toNat ≠ 1 then (s, 7) else (⟨s.st.set i.toNat 1, s.dn, s.ac⟩, 0)
theorem stA_some {l : List Int} {i : Nat} (h : i < l.length) : l[i]? = some (stA l i) := by unfold stA; rw [List.getElem?_eq_getElem h]; rfl
theorem map_setI (l : List Int) (i : Nat) (x : Int) : (l.map AV.i).set i (.i x) = (l.set i x).map AV.i := List.map_set.symm

theorem enter_calls (pl : PlOk P) (hst : s.st.length = P.length) (i : Int) : ACalls Try.prog G 16 [.ptr (h.length + 1) 0 0, .i i] (rnH h P g s L) (fun r h' => r = .i (enterF P s i).2 ∧ h' = rnH h P g (enterF P s i).1 L) := by
  have hw := wrong_calls (G := G) (h := h) (P := P) (g := g) (s := s) (L := L) i
  unfold enterF
  by_cases c0 : i < 0 ∨ (P.length : Int) ≤ i
  · rw [if_pos c0] at hw ⊢
    refine acalls_pure (rl := []) mixed Try.func16 rfl (rs := [.tmp 4]) rfl Try.ntmps16 (by simp) ?_
    repeat' (first | ((first | refine aops_nil ?_ | refine aqops_nil ?_); (try simp only [NB])) | ((repeat ((fail_if_success (refine hK _ ?_)); clear hK K)); refine hK _ ?_; clear hK K) | ((first | refine aops_k fun K1 hK1 => ?_ | refine aqops_k fun K1 hK1 => ?_ | refine awp_cond_k fun A B hA hB => ?_); simp only [S1, simprocAttr, TTScD]; first | (refine hK1 _ ?_; clear hK1 K1) | ((first | refine hA ?_ | refine hB ?_); clear hA hB A B) | ((first | apply call_a E22 | apply call_q E22); exact hw; (refine hK1 _ ?_; clear hK1 K1)) | (refine join_x (v := ?_) (fun hg hk9 => ?_) ?_; rotate_left; (focus (try ((try simp only [BN] at hg); simp only [S1, simprocAttr, TTScD, hg] at hk9 ⊢)); first | exact hk9 | ((first | apply call_a E22 | apply call_q E22); exact hw; exact hk9)); (refine hK1 _ ?_; clear hK1 K1)) | (((first | (refine ⟨fun hg => hA ?_, fun hg => hB ?_⟩ <;> clear hA hB A B) | refine ⟨fun hg => ?_, fun hg => ?_⟩) <;> (try simp only [BN2] at hg) <;> (try simp only [hg, cond_true, cond_false])) <;> (try (refine hK1 _ ?_; clear hK1 K1)) <;> (try simp only [BN3] at hg))) | (refine awp_seq_k fun K hK => ?_) | ((first | refine awp_region ?_ | refine awp_draw (by kernel_rfl) ?_ | refine awp_block ?_ | refine awp_exit ?_ | refine awp_skip ?_ | refine awp_ret ?_); (try simp only [NB, simprocAttr])))
    all_goals simp only [EndP, FinP, resA, resL, resA1, lastV, lastA, lastAs, pur, purs, take_app, List.take_length, S1, simprocAttr, TTScD, Nat.le_add_right, Nat.le_refl, rn_len, rn_take]
  rw [if_neg c0] at hw ⊢
  obtain ⟨k, rfl⟩ : ∃ k : Nat, i = (k : Int) := ⟨i.toNat, by omega⟩
  have hk : k < P.length := by omega
  rw [Int.toNat_natCast]
  by_cases c1 : (k : Int) = 0
  · rw [if_pos (.inl c1)]
    have b1 : ((k : Int) == 0) = true := by simpa using c1
    refine acalls_pure (rl := []) mixed Try.func16 rfl (rs := [.tmp 4]) rfl Try.ntmps16 (by simp) ?_
    repeat' (first | ((first | refine aops_nil ?_ | refine aqops_nil ?_); (try simp only [NB])) | ((repeat ((fail_if_success (refine hK _ ?_)); clear hK K)); refine hK _ ?_; clear hK K) | ((first | refine aops_k fun K1 hK1 => ?_ | refine aqops_k fun K1 hK1 => ?_ | refine awp_cond_k fun A B hA hB => ?_); simp only [S1, simprocAttr, TTScD, b1]; first | (refine hK1 _ ?_; clear hK1 K1) | ((first | refine hA ?_ | refine hB ?_); clear hA hB A B) | ((first | apply call_a E22 | apply call_q E22); exact hw; (refine hK1 _ ?_; clear hK1 K1)) | (refine join_x (v := ?_) (fun hg hk9 => ?_) ?_; rotate_left; (focus (try ((try simp only [BN] at hg); simp only [S1, simprocAttr, TTScD, b1, hg] at hk9 ⊢)); first | exact hk9 | ((first | apply call_a E22 | apply call_q E22); exact hw; exact hk9)); (refine hK1 _ ?_; clear hK1 K1)) | (((first | (refine ⟨fun hg => hA ?_, fun hg => hB ?_⟩ <;> clear hA hB A B) | refine ⟨fun hg => ?_, fun hg => ?_⟩) <;> (try simp only [BN2] at hg) <;> (try simp only [hg, cond_true, cond_false])) <;> (try (refine hK1 _ ?_; clear hK1 K1)) <;> (try simp only [BN3] at hg))) | (refine awp_seq_k fun K hK => ?_) | ((first | refine awp_region ?_ | refine awp_draw (by kernel_rfl) ?_ | refine awp_block ?_ | refine awp_exit ?_ | refine awp_skip ?_ | refine awp_ret ?_); (try simp only [NB, simprocAttr])))
    all_goals simp only [EndP, FinP, resA, resL, resA1, lastV, lastA, lastAs, pur, purs, take_app, List.take_length, S1, simprocAttr, TTScD, Nat.le_add_right, Nat.le_refl, rn_len, rn_take]
  have b1 : ((k : Int) == 0) = false := by simpa using c1
  obtain ⟨hp0, hpk⟩ := pl.par k (by omega) hk
  obtain ⟨q, hq⟩ : ∃ q : Nat, parA P k = (q : Int) := ⟨(parA P k).toNat, by omega⟩
  obtain ⟨sc, hx⟩ : ∃ z, P[k]? = some z := ⟨_, List.getElem?_eq_getElem hk⟩
  have hsc : sc.1 = (q : Int) := by rw [← hq]; unfold parA; rw [hx]
  have hxr := rowSc hx
  rw [hsc] at hxr
  rw [hq, Int.toNat_natCast]
  have hqk : q < k := by omega
  have k0 : (0 : Int) ≤ (k : Int) := by omega
  have q0 : (0 : Int) ≤ (q : Int) := by omega
  have kl : (k : Int) < (P.length : Int) := by omega
  have ks : (k : Int) < (s.st.length : Int) := by omega
  have qs : (q : Int) < (s.st.length : Int) := by omega
  have dk := dropSt (stA_some (show k < s.st.length by omega))
  have dq := dropSt (stA_some (show q < s.st.length by omega))
  cases b2 : (stA s.st k != 0) with
  | true =>
    rw [if_pos (.inr (.inl (by simpa using b2)))]
    refine acalls_pure (rl := []) mixed Try.func16 rfl (rs := [.tmp 4]) rfl Try.ntmps16 (by simp) ?_
    repeat' (first | ((first | refine aops_nil ?_ | refine aqops_nil ?_); (try simp only [NB])) | ((repeat ((fail_if_success (refine hK _ ?_)); clear hK K)); refine hK _ ?_; clear hK K) | ((first | refine aops_k fun K1 hK1 => ?_ | refine aqops_k fun K1 hK1 => ?_ | refine awp_cond_k fun A B hA hB => ?_); simp only [S1, simprocAttr, TTScD, b1, b2, hxr, k0, q0, kl, ks, qs, dk, dq, rn_run, rn_st, runB, stB, Int.toNat_natCast, List.length_map, Nat.mul_one, Nat.zero_add]; first | (refine hK1 _ ?_; clear hK1 K1) | ((first | refine hA ?_ | refine hB ?_); clear hA hB A B) | ((first | apply call_a E22 | apply call_q E22); exact hw; (refine hK1 _ ?_; clear hK1 K1)) | (refine join_x (v := ?_) (fun hg hk9 => ?_) ?_; rotate_left; (focus (try ((try simp only [BN] at hg); simp only [S1, simprocAttr, TTScD, b1, b2, hxr, k0, q0, kl, ks, qs, dk, dq, rn_run, rn_st, runB, stB, Int.toNat_natCast, List.length_map, Nat.mul_one, Nat.zero_add, hg] at hk9 ⊢)); first | exact hk9 | ((first | apply call_a E22 | apply call_q E22); exact hw; exact hk9)); (refine hK1 _ ?_; clear hK1 K1)) | (((first | (refine ⟨fun hg => hA ?_, fun hg => hB ?_⟩ <;> clear hA hB A B) | refine ⟨fun hg => ?_, fun hg => ?_⟩) <;> (try simp only [BN2] at hg) <;> (try simp only [hg, cond_true, cond_false])) <;> (try (refine hK1 _ ?_; clear hK1 K1)) <;> (try simp only [BN3] at hg))) | (refine awp_seq_k fun K hK => ?_) | ((first | refine awp_region ?_ | refine awp_draw (by kernel_rfl) ?_ | refine awp_block ?_ | refine awp_exit ?_ | refine awp_skip ?_ | refine awp_ret ?_); (try simp only [NB, simprocAttr])))
    all_goals simp only [EndP, FinP, resA, resL, resA1, lastV, lastA, lastAs, pur, purs, take_app, List.take_length, S1, simprocAttr, TTScD, Nat.le_add_right, Nat.le_refl, rn_len, rn_take]
  | false =>
  cases b3 : (stA s.st q != 1) with
  | true =>
    rw [if_pos (.inr (.inr (by simpa using b3)))]
    refine acalls_pure (rl := []) mixed Try.func16 rfl (rs := [.tmp 4]) rfl Try.ntmps16 (by simp) ?_
    repeat' (first | ((first | refine aops_nil ?_ | refine aqops_nil ?_); (try simp only [NB])) | ((repeat ((fail_if_success (refine hK _ ?_)); clear hK K)); refine hK _ ?_; clear hK K) | ((first | refine aops_k fun K1 hK1 => ?_ | refine aqops_k fun K1 hK1 => ?_ | refine awp_cond_k fun A B hA hB => ?_); simp only [S1, simprocAttr, TTScD, b1, b2, b3, hxr, k0, q0, kl, ks, qs, dk, dq, rn_run, rn_st, runB, stB, Int.toNat_natCast, List.length_map, Nat.mul_one, Nat.zero_add]; first | (refine hK1 _ ?_; clear hK1 K1) | ((first | refine hA ?_ | refine hB ?_); clear hA hB A B) | ((first | apply call_a E22 | apply call_q E22); exact hw; (refine hK1 _ ?_; clear hK1 K1)) | (refine join_x (v := ?_) (fun hg hk9 => ?_) ?_; rotate_left; (focus (try ((try simp only [BN] at hg); simp only [S1, simprocAttr, TTScD, b1, b2, b3, hxr, k0, q0, kl, ks, qs, dk, dq, rn_run, rn_st, runB, stB, Int.toNat_natCast, List.length_map, Nat.mul_one, Nat.zero_add, hg] at hk9 ⊢)); first | exact hk9 | ((first | apply call_a E22 | apply call_q E22); exact hw; exact hk9)); (refine hK1 _ ?_; clear hK1 K1)) | (((first | (refine ⟨fun hg => hA ?_, fun hg => hB ?_⟩ <;> clear hA hB A B) | refine ⟨fun hg => ?_, fun hg => ?_⟩) <;> (try simp only [BN2] at hg) <;> (try simp only [hg, cond_true, cond_false])) <;> (try (refine hK1 _ ?_; clear hK1 K1)) <;> (try simp only [BN3] at hg))) | (refine awp_seq_k fun K hK => ?_) | ((first | refine awp_region ?_ | refine awp_draw (by kernel_rfl) ?_ | refine awp_block ?_ | refine awp_exit ?_ | refine awp_skip ?_ | refine awp_ret ?_); (try simp only [NB, simprocAttr])))
    all_goals simp only [EndP, FinP, resA, resL, resA1, lastV, lastA, lastAs, pur, purs, take_app, List.take_length, S1, simprocAttr, TTScD, Nat.le_add_right, Nat.le_refl, rn_len, rn_take]
  | false =>
    have n2 : stA s.st k = 0 := by simpa using b2
    have n3 : stA s.st q = 1 := by simpa using b3
    rw [if_neg (by omega)]
    have hos := map_setI s.st k 1
    have hss := rn_sst (h := h) (P := P) (g := g) (s := s) (L := L) (s.st.set k 1) (by simp)
    have kl1 : k + 1 ≤ s.st.length := by omega
    have kl2 : k < s.st.length := by omega
    refine acalls_heap (rl := []) mixed Try.func16 rfl (rs := [.tmp 4]) rfl Try.ntmps16 (by simp) ?_
    repeat' (first | ((first | refine aops_nil ?_ | refine aqops_nil ?_); (try simp only [NB])) | ((repeat ((fail_if_success (refine hK _ ?_)); clear hK K)); refine hK _ ?_; clear hK K) | ((first | refine aops_k fun K1 hK1 => ?_ | refine aqops_k fun K1 hK1 => ?_ | refine awp_cond_k fun A B hA hB => ?_); simp only [S1, simprocAttr, TTScD, b1, b2, b3, hxr, k0, q0, kl, ks, qs, dk, dq, hos, hss, kl1, kl2, rn_run, rn_st, runB, stB, Int.toNat_natCast, List.length_map, Nat.mul_one, Nat.zero_add]; first | (refine hK1 _ ?_; clear hK1 K1) | ((first | refine hA ?_ | refine hB ?_); clear hA hB A B) | ((first | apply call_a E22 | apply call_q E22); exact hw; (refine hK1 _ ?_; clear hK1 K1)) | (refine join_x (v := ?_) (fun hg hk9 => ?_) ?_; rotate_left; (focus (try ((try simp only [BN] at hg); simp only [S1, simprocAttr, TTScD, b1, b2, b3, hxr, k0, q0, kl, ks, qs, dk, dq, hos, hss, kl1, kl2, rn_run, rn_st, runB, stB, Int.toNat_natCast, List.length_map, Nat.mul_one, Nat.zero_add, hg] at hk9 ⊢)); first | exact hk9 | ((first | apply call_a E22 | apply call_q E22); exact hw; exact hk9)); (refine hK1 _ ?_; clear hK1 K1)) | (((first | (refine ⟨fun hg => hA ?_, fun hg => hB ?_⟩ <;> clear hA hB A B) | refine ⟨fun hg => ?_, fun hg => ?_⟩) <;> (try simp only [BN2] at hg) <;> (try simp only [hg, cond_true, cond_false])) <;> (try (refine hK1 _ ?_; clear hK1 K1)) <;> (try simp only [BN3] at hg))) | (refine awp_seq_k fun K hK => ?_) | ((first | refine awp_region ?_ | refine awp_draw (by kernel_rfl) ?_ | refine awp_block ?_ | refine awp_exit ?_ | refine awp_skip ?_ | refine awp_ret ?_); (try simp only [NB, simprocAttr])))
    all_goals simp only [EndH, FinH, resA, resL, resA1, lastV, lastA, lastAs, pur, purs, rn_len, rn_take, S1, simprocAttr, Nat.le_add_right, Nat.le_refl]
    all_goals first | exact rn_keep | exact ⟨rn_keep, rfl⟩ | exact ⟨rn_keep, rfl, rfl⟩

def stateF (P : List Sc) (s : Rs) (i : Int) : Int := if i < 0 ∨ (P.length : Int) ≤ i then 0 else stA s.st i.toNat
theorem state_calls (hst : s.st.length = P.length) (i : Int) : ACalls Try.prog G 14 [.ptr (h.length + 1) 0 0, .i i] (rnH h P g s L) (fun r h' => r = .i (stateF P s i) ∧ h' = rnH h P g s L) := by
  have hw := wrong_calls (G := G) (h := h) (P := P) (g := g) (s := s) (L := L) i
  unfold stateF
  by_cases c0 : i < 0 ∨ (P.length : Int) ≤ i
  · rw [if_pos c0] at hw ⊢
    refine acalls_pure (rl := []) mixed Try.func14 rfl (rs := [.tmp 4]) rfl Try.ntmps14 (by simp) ?_
    repeat' (first | ((first | refine aops_nil ?_ | refine aqops_nil ?_); (try simp only [NB])) | ((repeat ((fail_if_success (refine hK _ ?_)); clear hK K)); refine hK _ ?_; clear hK K) | ((first | refine aops_k fun K1 hK1 => ?_ | refine aqops_k fun K1 hK1 => ?_ | refine awp_cond_k fun A B hA hB => ?_); simp only [S1, simprocAttr, TTScD]; first | (refine hK1 _ ?_; clear hK1 K1) | ((first | refine hA ?_ | refine hB ?_); clear hA hB A B) | ((first | apply call_a E22 | apply call_q E22); exact hw; (refine hK1 _ ?_; clear hK1 K1)) | (((first | (refine ⟨fun hg => hA ?_, fun hg => hB ?_⟩ <;> clear hA hB A B) | refine ⟨fun hg => ?_, fun hg => ?_⟩) <;> (try simp only [BN2] at hg) <;> (try simp only [hg, cond_true, cond_false])) <;> (try (refine hK1 _ ?_; clear hK1 K1)) <;> (try simp only [BN3] at hg))) | (refine awp_seq_k fun K hK => ?_) | ((first | refine awp_region ?_ | refine awp_draw (by kernel_rfl) ?_ | refine awp_block ?_ | refine awp_exit ?_ | refine awp_skip ?_ | refine awp_ret ?_); (try simp only [NB, simprocAttr])))
    all_goals simp only [EndP, FinP, resA, resL, resA1, lastV, lastA, lastAs, pur, purs, take_app, List.take_length, S1, simprocAttr, TTScD, Nat.le_add_right, Nat.le_refl, rn_len, rn_take]
  rw [if_neg c0] at hw ⊢
  obtain ⟨k, rfl⟩ : ∃ k : Nat, i = (k : Int) := ⟨i.toNat, by omega⟩
  rw [Int.toNat_natCast]
  have k0 : (0 : Int) ≤ (k : Int) := by omega
  have ks : (k : Int) < (s.st.length : Int) := by omega
  have dk := dropSt (stA_some (show k < s.st.length by omega))
  refine acalls_pure (rl := []) mixed Try.func14 rfl (rs := [.tmp 4]) rfl Try.ntmps14 (by simp) ?_
  repeat' (first | ((first | refine aops_nil ?_ | refine aqops_nil ?_); (try simp only [NB])) | ((repeat ((fail_if_success (refine hK _ ?_)); clear hK K)); refine hK _ ?_; clear hK K) | ((first | refine aops_k fun K1 hK1 => ?_ | refine aqops_k fun K1 hK1 => ?_ | refine awp_cond_k fun A B hA hB => ?_); simp only [S1, simprocAttr, TTScD, k0, ks, dk, rn_run, rn_st, runB, stB, Int.toNat_natCast, List.length_map, Nat.mul_one, Nat.zero_add]; first | (refine hK1 _ ?_; clear hK1 K1) | ((first | refine hA ?_ | refine hB ?_); clear hA hB A B) | ((first | apply call_a E22 | apply call_q E22); exact hw; (refine hK1 _ ?_; clear hK1 K1)) | (((first | (refine ⟨fun hg => hA ?_, fun hg => hB ?_⟩ <;> clear hA hB A B) | refine ⟨fun hg => ?_, fun hg => ?_⟩) <;> (try simp only [BN2] at hg) <;> (try simp only [hg, cond_true, cond_false])) <;> (try (refine hK1 _ ?_; clear hK1 K1)) <;> (try simp only [BN3] at hg))) | (refine awp_seq_k fun K hK => ?_) | ((first | refine awp_region ?_ | refine awp_draw (by kernel_rfl) ?_ | refine awp_block ?_ | refine awp_exit ?_ | refine awp_skip ?_ | refine awp_ret ?_); (try simp only [NB, simprocAttr])))
  all_goals simp only [EndP, FinP, resA, resL, resA1, lastV, lastA, lastAs, pur, purs, take_app, List.take_length, S1, simprocAttr, TTScD, Nat.le_add_right, Nat.le_refl, rn_len, rn_take]

def leaveF (P : List Sc) (g : Rg) (s : Rs) (i : Int) : Rg × Rs × Int :=
  if i < 0 ∨ (P.length : Int) ≤ i then (g, s, 1) else if stA s.st i.toNat ≠ 1 ∨ 0 < (prts P s.st i.toNat 1).length then (g, s, 7) else (⟨g.gd + 1, 0, g.ga⟩, ⟨s.st.set i.toNat 2, s.dn ++ [i.toNat], s.ac⟩, 0)
theorem leave_calls (hn : P.length ≤ 32) (hst : s.st.length = P.length) (hdn : s.dn.length ≤ 1000) (i : Int) : ACalls Try.prog G 17 [.ptr (h.length + 1) 0 0, .i i] (rnH h P g s L) (fun r h' => r = .i (leaveF P g s i).2.2 ∧ h' = rnH h P (leaveF P g s i).1 (leaveF P g s i).2.1 L) := by
  have hw := wrong_calls (G := G) (h := h) (P := P) (g := g) (s := s) (L := L) i
  unfold leaveF
  by_cases c0 : i < 0 ∨ (P.length : Int) ≤ i
  · rw [if_pos c0] at hw ⊢
    refine acalls_pure (rl := []) mixed Try.func17 rfl (rs := [.tmp 4]) rfl Try.ntmps17 (by simp) ?_
    repeat' (first | ((first | refine aops_nil ?_ | refine aqops_nil ?_); (try simp only [NB])) | ((repeat ((fail_if_success (refine hK _ ?_)); clear hK K)); refine hK _ ?_; clear hK K) | ((first | refine aops_k fun K1 hK1 => ?_ | refine aqops_k fun K1 hK1 => ?_ | refine awp_cond_k fun A B hA hB => ?_); simp only [S1, simprocAttr, TTScD]; first | (refine hK1 _ ?_; clear hK1 K1) | ((first | refine hA ?_ | refine hB ?_); clear hA hB A B) | ((first | apply call_a E22 | apply call_q E22); exact hw; (refine hK1 _ ?_; clear hK1 K1)) | (refine join_x (v := ?_) (fun hg hk9 => ?_) ?_; rotate_left; (focus (try ((try simp only [BN] at hg); simp only [S1, simprocAttr, TTScD, hg] at hk9 ⊢)); first | exact hk9 | ((first | apply call_a E22 | apply call_q E22); exact hw; exact hk9)); (refine hK1 _ ?_; clear hK1 K1)) | (((first | (refine ⟨fun hg => hA ?_, fun hg => hB ?_⟩ <;> clear hA hB A B) | refine ⟨fun hg => ?_, fun hg => ?_⟩) <;> (try simp only [BN2] at hg) <;> (try simp only [hg, cond_true, cond_false])) <;> (try (refine hK1 _ ?_; clear hK1 K1)) <;> (try simp only [BN3] at hg))) | (refine awp_seq_k fun K hK => ?_) | ((first | refine awp_region ?_ | refine awp_draw (by kernel_rfl) ?_ | refine awp_block ?_ | refine awp_exit ?_ | refine awp_skip ?_ | refine awp_ret ?_); (try simp only [NB, simprocAttr])))
    all_goals simp only [EndP, FinP, resA, resL, resA1, lastV, lastA, lastAs, pur, purs, take_app, List.take_length, S1, simprocAttr, TTScD, Nat.le_add_right, Nat.le_refl, rn_len, rn_take]
  rw [if_neg c0] at hw ⊢
  obtain ⟨k, rfl⟩ : ∃ k : Nat, i = (k : Int) := ⟨i.toNat, by omega⟩
  rw [Int.toNat_natCast]
  have k0 : (0 : Int) ≤ (k : Int) := by omega
  have ks : (k : Int) < (s.st.length : Int) := by omega
  have dk := dropSt (stA_some (show k < s.st.length by omega))
  cases b1 : (stA s.st k != 1) with
  | true =>
    rw [if_pos (.inl (by simpa using b1))]
    refine acalls_pure (rl := []) mixed Try.func17 rfl (rs := [.tmp 4]) rfl Try.ntmps17 (by simp) ?_
    repeat' (first | ((first | refine aops_nil ?_ | refine aqops_nil ?_); (try simp only [NB])) | ((repeat ((fail_if_success (refine hK _ ?_)); clear hK K)); refine hK _ ?_; clear hK K) | ((first | refine aops_k fun K1 hK1 => ?_ | refine aqops_k fun K1 hK1 => ?_ | refine awp_cond_k fun A B hA hB => ?_); simp only [S1, simprocAttr, TTScD, b1, k0, ks, dk, rn_run, rn_st, runB, stB, Int.toNat_natCast, List.length_map, Nat.mul_one, Nat.zero_add]; first | (refine hK1 _ ?_; clear hK1 K1) | ((first | refine hA ?_ | refine hB ?_); clear hA hB A B) | ((first | apply call_a E22 | apply call_q E22); exact hw; (refine hK1 _ ?_; clear hK1 K1)) | (refine join_x (v := ?_) (fun hg hk9 => ?_) ?_; rotate_left; (focus (try ((try simp only [BN] at hg); simp only [S1, simprocAttr, TTScD, b1, k0, ks, dk, rn_run, rn_st, runB, stB, Int.toNat_natCast, List.length_map, Nat.mul_one, Nat.zero_add, hg] at hk9 ⊢)); first | exact hk9 | ((first | apply call_a E22 | apply call_q E22); exact hw; exact hk9)); (refine hK1 _ ?_; clear hK1 K1)) | (((first | (refine ⟨fun hg => hA ?_, fun hg => hB ?_⟩ <;> clear hA hB A B) | refine ⟨fun hg => ?_, fun hg => ?_⟩) <;> (try simp only [BN2] at hg) <;> (try simp only [hg, cond_true, cond_false])) <;> (try (refine hK1 _ ?_; clear hK1 K1)) <;> (try simp only [BN3] at hg))) | (refine awp_seq_k fun K hK => ?_) | ((first | refine awp_region ?_ | refine awp_draw (by kernel_rfl) ?_ | refine awp_block ?_ | refine awp_exit ?_ | refine awp_skip ?_ | refine awp_ret ?_); (try simp only [NB, simprocAttr])))
    all_goals simp only [EndP, FinP, resA, resL, resA1, lastV, lastA, lastAs, pur, purs, take_app, List.take_length, S1, simprocAttr, TTScD, Nat.le_add_right, Nat.le_refl, rn_len, rn_take]
  | false =>
  have hpt := parts_calls (G := G) (h := h) (g := g) (L := L) hst hn k 1
  by_cases c2 : 0 < (prts P s.st k 1).length
  · rw [if_pos (.inr c2)]
    have c2' : (0 : Int) < ((prts P s.st k 1).length : Int) := by omega
    refine acalls_pure (rl := []) mixed Try.func17 rfl (rs := [.tmp 4]) rfl Try.ntmps17 (by simp) ?_
    repeat' (first | ((first | refine aops_nil ?_ | refine aqops_nil ?_); (try simp only [NB])) | ((repeat ((fail_if_success (refine hK _ ?_)); clear hK K)); refine hK _ ?_; clear hK K) | ((first | refine aops_k fun K1 hK1 => ?_ | refine aqops_k fun K1 hK1 => ?_ | refine awp_cond_k fun A B hA hB => ?_); simp only [S1, simprocAttr, TTScD, b1, c2', k0, ks, dk, rn_run, rn_st, runB, stB, Int.toNat_natCast, List.length_map, Nat.mul_one, Nat.zero_add]; first | (refine hK1 _ ?_; clear hK1 K1) | ((first | refine hA ?_ | refine hB ?_); clear hA hB A B) | ((first | apply call_a E22 | apply call_q E22); exact hw; (refine hK1 _ ?_; clear hK1 K1)) | ((first | apply call_a E26 | apply call_q E26); exact hpt; (refine hK1 _ ?_; clear hK1 K1)) | (refine join_x (v := ?_) (fun hg hk9 => ?_) ?_; rotate_left; (focus (try ((try simp only [BN] at hg); simp only [S1, simprocAttr, TTScD, b1, c2', k0, ks, dk, rn_run, rn_st, runB, stB, Int.toNat_natCast, List.length_map, Nat.mul_one, Nat.zero_add, hg] at hk9 ⊢)); first | exact hk9 | ((first | apply call_a E22 | apply call_q E22); exact hw; exact hk9) | ((first | apply call_a E26 | apply call_q E26); exact hpt; exact hk9)); (refine hK1 _ ?_; clear hK1 K1)) | (((first | (refine ⟨fun hg => hA ?_, fun hg => hB ?_⟩ <;> clear hA hB A B) | refine ⟨fun hg => ?_, fun hg => ?_⟩) <;> (try simp only [BN2] at hg) <;> (try simp only [hg, cond_true, cond_false])) <;> (try (refine hK1 _ ?_; clear hK1 K1)) <;> (try simp only [BN3] at hg))) | (refine awp_seq_k fun K hK => ?_) | ((first | refine awp_region ?_ | refine awp_draw (by kernel_rfl) ?_ | refine awp_block ?_ | refine awp_exit ?_ | refine awp_skip ?_ | refine awp_ret ?_); (try simp only [NB, simprocAttr])))
    all_goals simp only [EndP, FinP, resA, resL, resA1, lastV, lastA, lastAs, pur, purs, take_app, List.take_length, S1, simprocAttr, TTScD, Nat.le_add_right, Nat.le_refl, rn_len, rn_take, rn_takeM]
    all_goals simp
  · have n1 : stA s.st k = 1 := by simpa using b1
    rw [if_neg (by omega)]
    have c2' : ¬ (0 : Int) < ((prts P s.st k 1).length : Int) := by omega
    have hos := map_setI s.st k 2
    have hss := rn_sst (h := h) (P := P) (g := g) (s := s) (L := L ++ [some ⟨(prts P s.st k 1).length, (prts P s.st k 1).map fun k : Nat => AV.i (k : Int)⟩]) (s.st.set k 2) (by simp)
    have kl1 : k + 1 ≤ s.st.length := by omega
    have kl2 : k < s.st.length := by omega
    have hmax : s.dn.length + 1 ≤ maxCount := by unfold maxCount; omega
    have hcl := cDn_len s.dn g.z
    have hct : (cDn s.dn g.z).take s.dn.length = s.dn.map fun k : Nat => AV.i (k : Int) := by unfold cDn; exact List.take_left' (by simp)
    have hle : s.dn.length ≤ s.dn.length + g.z := by omega
    have hr2 : ∀ (s1 : Rs) (L1 : Heap) (x : Option Blk), ((rnH h P g s1 L1).set (h.length + 2) x)[h.length + 1]? = some (runB h.length P g s1) := fun s1 L1 x => by rw [List.getElem?_set_ne (by omega)]; exact rn_run
    have hd : ∀ (L1 : Heap), ((rnH h P g ⟨s.st.set k 2, s.dn, s.ac⟩ L1).set (h.length + 2) (some ⟨g.gd + 1, (s.dn.map fun k : Nat => AV.i (k : Int)) ++ [.i (k : Int)]⟩)).set (h.length + 1) (some ⟨0, [aSc P, .ref h.length 0 0 1 s.st.length, .ref (h.length + 2) (g.gd + 1) 0 1 (s.dn.length + 1), .ref (h.length + 3) g.ga 0 2 s.ac.length]⟩) = rnH h P ⟨g.gd + 1, 0, g.ga⟩ ⟨s.st.set k 2, s.dn ++ [k], s.ac⟩ L1 := fun L1 => by
      unfold rnH
      rw [set_app, set_app]
      unfold runB stB dnB acB cDn
      simp
    by_cases hz : g.z = 0
    · have hcl0 : (cDn s.dn g.z).length = s.dn.length := by omega
      have hcd : cDn s.dn g.z = s.dn.map fun k : Nat => AV.i (k : Int) := by rw [← hct, ← hcl0, List.take_length]
      refine acalls_heap (rl := []) mixed Try.func17 rfl (rs := [.tmp 4]) rfl Try.ntmps17 (by simp) ?_
      repeat' (first | ((first | refine aops_nil ?_ | refine aqops_nil ?_); (try simp only [NB])) | ((repeat ((fail_if_success (refine hK _ ?_)); clear hK K)); refine hK _ ?_; clear hK K) | ((first | refine aops_k fun K1 hK1 => ?_ | refine aqops_k fun K1 hK1 => ?_ | refine awp_cond_k fun A B hA hB => ?_); simp only [S1, simprocAttr, TTScD, b1, c2', k0, ks, dk, hos, hss, kl1, kl2, hmax, hcl0, hcd, hr2, hd, rn_run, rn_st, rn_dn, runB, stB, dnB, Int.toNat_natCast, List.length_map, List.length_set, List.drop_zero, Nat.mul_one, Nat.zero_add]; first | (refine hK1 _ ?_; clear hK1 K1) | ((first | refine hA ?_ | refine hB ?_); clear hA hB A B) | ((first | apply call_a E22 | apply call_q E22); exact hw; (refine hK1 _ ?_; clear hK1 K1)) | ((first | apply call_a E26 | apply call_q E26); exact hpt; (refine hK1 _ ?_; clear hK1 K1)) | (refine join_x (v := ?_) (fun hg hk9 => ?_) ?_; rotate_left; (focus (try ((try simp only [BN] at hg); simp only [S1, simprocAttr, TTScD, b1, c2', k0, ks, dk, hos, hss, kl1, kl2, hmax, hcl0, hcd, hr2, hd, rn_run, rn_st, rn_dn, runB, stB, dnB, Int.toNat_natCast, List.length_map, List.length_set, List.drop_zero, Nat.mul_one, Nat.zero_add, hg] at hk9 ⊢)); first | exact hk9 | ((first | apply call_a E22 | apply call_q E22); exact hw; exact hk9) | ((first | apply call_a E26 | apply call_q E26); exact hpt; exact hk9)); (refine hK1 _ ?_; clear hK1 K1)) | (((first | (refine ⟨fun hg => hA ?_, fun hg => hB ?_⟩ <;> clear hA hB A B) | refine ⟨fun hg => ?_, fun hg => ?_⟩) <;> (try simp only [BN2] at hg) <;> (try simp only [hg, cond_true, cond_false])) <;> (try (refine hK1 _ ?_; clear hK1 K1)) <;> (try simp only [BN3] at hg))) | (refine awp_seq_k fun K hK => ?_) | ((first | refine awp_region ?_ | refine awp_draw (by kernel_rfl) ?_ | refine awp_block ?_ | refine awp_exit ?_ | refine awp_skip ?_ | refine awp_ret ?_); (try simp only [NB, simprocAttr])))
      all_goals simp only [EndH, FinH, resA, resL, resA1, lastV, lastA, lastAs, pur, purs, rn_len, rn_take, rn_takeM, List.length_append, List.length_cons, List.length_nil, S1, simprocAttr, Nat.le_add_right, Nat.le_refl]
      all_goals exact ⟨by omega, rn_keep⟩
    · have hz' : ¬ (s.dn.length + g.z = s.dn.length) := by omega
      refine acalls_heap (rl := []) mixed Try.func17 rfl (rs := [.tmp 4]) rfl Try.ntmps17 (by simp) ?_
      repeat' (first | ((first | refine aops_nil ?_ | refine aqops_nil ?_); (try simp only [NB])) | ((repeat ((fail_if_success (refine hK _ ?_)); clear hK K)); refine hK _ ?_; clear hK K) | ((first | refine aops_k fun K1 hK1 => ?_ | refine aqops_k fun K1 hK1 => ?_ | refine awp_cond_k fun A B hA hB => ?_); simp only [S1, simprocAttr, TTScD, b1, c2', k0, ks, dk, hos, hss, kl1, kl2, hmax, hcl, hct, hle, hz', hr2, hd, rn_run, rn_st, rn_dn, runB, stB, dnB, Int.toNat_natCast, List.length_map, List.length_set, List.drop_zero, Nat.mul_one, Nat.zero_add]; first | (refine hK1 _ ?_; clear hK1 K1) | ((first | refine hA ?_ | refine hB ?_); clear hA hB A B) | ((first | apply call_a E22 | apply call_q E22); exact hw; (refine hK1 _ ?_; clear hK1 K1)) | ((first | apply call_a E26 | apply call_q E26); exact hpt; (refine hK1 _ ?_; clear hK1 K1)) | (refine join_x (v := ?_) (fun hg hk9 => ?_) ?_; rotate_left; (focus (try ((try simp only [BN] at hg); simp only [S1, simprocAttr, TTScD, b1, c2', k0, ks, dk, hos, hss, kl1, kl2, hmax, hcl, hct, hle, hz', hr2, hd, rn_run, rn_st, rn_dn, runB, stB, dnB, Int.toNat_natCast, List.length_map, List.length_set, List.drop_zero, Nat.mul_one, Nat.zero_add, hg] at hk9 ⊢)); first | exact hk9 | ((first | apply call_a E22 | apply call_q E22); exact hw; exact hk9) | ((first | apply call_a E26 | apply call_q E26); exact hpt; exact hk9)); (refine hK1 _ ?_; clear hK1 K1)) | (((first | (refine ⟨fun hg => hA ?_, fun hg => hB ?_⟩ <;> clear hA hB A B) | refine ⟨fun hg => ?_, fun hg => ?_⟩) <;> (try simp only [BN2] at hg) <;> (try simp only [hg, cond_true, cond_false])) <;> (try (refine hK1 _ ?_; clear hK1 K1)) <;> (try simp only [BN3] at hg))) | (refine awp_seq_k fun K hK => ?_) | ((first | refine awp_region ?_ | refine awp_draw (by kernel_rfl) ?_ | refine awp_block ?_ | refine awp_exit ?_ | refine awp_skip ?_ | refine awp_ret ?_); (try simp only [NB, simprocAttr])))
      all_goals simp only [EndH, FinH, resA, resL, resA1, lastV, lastA, lastAs, pur, purs, rn_len, rn_take, rn_takeM, List.length_append, List.length_cons, List.length_nil, S1, simprocAttr, Nat.le_add_right, Nat.le_refl]
      all_goals exact ⟨by omega, rn_keep⟩
end
end Go.Proofs.Ytkmcecbglomemaa.AM
end

section
set_option linter.unusedVariables false
set_option linter.unusedSimpArgs false
set_option maxRecDepth 4000
set_option maxHeartbeats 4000000
namespace Go.Proofs.Ytkmcecbglomemaa.AM
open Go Go.Proofs
set_option linter.defProp false in
def TTScE := And.intro T2 (And.intro T3 (And.intro T4 (And.intro T22 (And.intro T25 (And.intro T26 (And.intro T37 (And.intro T41 (And.intro T45 (And.intro T49 T54)))))))))
attribute [local irreducible] awp aops aqops aeops arun arunT arunN
variable {G : Nat → Option (List PV)}

/-- A list whose first and last so many are turned. -/
def rvN (l : List Int) (t : Nat) : List Int := (List.range l.length).map fun k => if k < t ∨ l.length - 1 - k < t then stA l (l.length - 1 - k) else stA l k
theorem rvN_len (l : List Int) (t : Nat) : (rvN l t).length = l.length := by simp [rvN]
theorem rvN_at {l : List Int} {t k : Nat} (h : k < l.length) : (rvN l t)[k]? = some (if k < t ∨ l.length - 1 - k < t then stA l (l.length - 1 - k) else stA l k) := by
  unfold rvN
  rw [List.getElem?_map, List.getElem?_range h]; rfl
theorem rvN_zero (l : List Int) : rvN l 0 = l := by
  apply List.ext_getElem?
  intro k
  rcases Nat.lt_or_ge k l.length with h | h
  · rw [rvN_at h, if_neg (by omega), ← stA_some h]
  · rw [List.getElem?_eq_none h, List.getElem?_eq_none (by rw [rvN_len]; exact h)]
theorem rvN_succ {l : List Int} {t : Nat} (h : 2 * t + 1 < l.length) : ((rvN l t).set t (stA l (l.length - 1 - t))).set (l.length - 1 - t) (stA l t) = rvN l (t + 1) := by
  apply List.ext_getElem?
  intro k
  rcases Nat.lt_or_ge k l.length with hk | hk
  · rw [rvN_at hk, List.getElem?_set, List.length_set, rvN_len]
    by_cases e1 : l.length - 1 - t = k
    · rw [if_pos e1, if_pos (by omega), if_pos (by omega)]
      rw [show l.length - 1 - k = t by omega]
    · rw [if_neg e1, List.getElem?_set, rvN_len]
      by_cases e2 : t = k
      · subst e2; rw [if_pos rfl, if_pos (by omega), if_pos (by omega)]
      · rw [if_neg e2, rvN_at hk]
        by_cases e3 : k < t ∨ l.length - 1 - k < t
        · rw [if_pos e3, if_pos (by omega)]
        · rw [if_neg e3, if_neg (by omega)]
  · rw [List.getElem?_eq_none (by rw [List.length_set, List.length_set, rvN_len]; exact hk), List.getElem?_eq_none (by rw [rvN_len]; exact hk)]
theorem rvN_all (l : List Int) : rvN l (l.length / 2) = l.reverse := by
  apply List.ext_getElem?
  intro k
  rcases Nat.lt_or_ge k l.length with hk | hk
  · rw [rvN_at hk, List.getElem?_reverse hk]
    have e : l[l.length - 1 - k]? = some (stA l (l.length - 1 - k)) := stA_some (by omega)
    rw [e]
    split
    · rfl
    · rw [show l.length - 1 - k = k by omega]
  · rw [List.getElem?_eq_none (by rw [rvN_len]; exact hk), List.getElem?_eq_none (by simpa using hk)]

theorem reverse_calls {H : Heap} {b gg : Nat} {l : List Int} (hb : H[b]? = some (some ⟨gg, l.map AV.i⟩)) (hn : l.length ≤ 1000) :
    ACalls Try.prog G 34 [.ref b gg 0 1 l.length] H (fun r h' => r = .undef ∧ h' = H.set b (some ⟨gg, l.reverse.map AV.i⟩)) := by
  have hbl : b < H.length := getElem?_lt hb
  have hkeep : ∀ (t : Nat) (i : Nat) (bk : Blk), (H.set b (some ⟨gg, (rvN l t).map AV.i⟩))[i]? = some (some bk) → H[i]? = some (some bk) ∨ avlts H.length bk.cells := by
    intro t i bk hi
    rw [List.getElem?_set] at hi
    split at hi
    · first
        | (split at hi
           · cases hi; exact .inr (avlts_i _ _)
           · cases hi)
        | (cases hi; exact .inr (avlts_i _ _))
    · exact .inl hi
  have h0 : H = H.set b (some ⟨gg, (rvN l 0).map AV.i⟩) := by
    rw [rvN_zero]
    apply List.ext_getElem?
    intro k
    rw [List.getElem?_set]
    split
    · rename_i e; subst e; first | (rw [if_pos hbl]; exact hb) | exact hb
    · rfl
  have wr1 : IntKind.i64.wrap ((l.length : Int) - 1) = (l.length : Int) - 1 := IntWalk.i64_in _ (by omega)
  rw [← rvN_all]
  refine acalls_heap (rl := []) mixed Try.func34 rfl (rs := []) rfl Try.ntmps34 (by simp) ?_
  repeat' (first | ((first | refine aops_nil ?_ | refine aqops_nil ?_); (try simp only [NB])) | ((repeat ((fail_if_success (refine hK _ ?_)); clear hK K)); refine hK _ ?_; clear hK K) | ((first | refine aops_k fun K1 hK1 => ?_ | refine aqops_k fun K1 hK1 => ?_ | refine awp_cond_k fun A B hA hB => ?_); simp only [S1, simprocAttr, TTScE, wr1]; first | (refine hK1 _ ?_; clear hK1 K1) | ((first | refine hA ?_ | refine hB ?_); clear hA hB A B) | (((first | (refine ⟨fun hg => hA ?_, fun hg => hB ?_⟩ <;> clear hA hB A B) | refine ⟨fun hg => ?_, fun hg => ?_⟩) <;> (try simp only [BN2] at hg) <;> (try simp only [hg, cond_true, cond_false])) <;> (try (refine hK1 _ ?_; clear hK1 K1)) <;> (try simp only [BN3] at hg))) | (refine awp_seq_k fun K hK => ?_) | ((first | refine awp_region ?_ | refine awp_draw (by kernel_rfl) ?_ | refine awp_block ?_ | refine awp_exit ?_ | refine awp_skip ?_ | refine awp_ret ?_); (try simp only [NB, simprocAttr])))
  refine awp_forH (l.length / 2) 28 (fun t => H.set b (some ⟨gg, (rvN l t).map AV.i⟩)) (fun t => [(2, .i t), (3, .i ((l.length : Int) - 1 - t)), (0, .ref b gg 0 1 l.length)]) (fun t => []) (fun t => True) (fun t => ⟨by simp, hkeep t⟩) ?_ trivial fun t ht hp K hK => ?_
  · refine ⟨rfl, ⟨[], by rw [← h0]; simp⟩, ?_, trivial⟩
    simp only [← h0]
    simp only [keeps, avlt, avlts, blksLt, frL, upd_get, S1, simprocAttr, List.length_map, Int.natCast_zero, AV.p.injEq, PV.int.injEq, PV.bool.injEq, PV.sl.injEq] <;> (try and_intros) <;> (try assumption) <;> (try trivial) <;> (try omega)
  rw [List.append_nil]
  have hg : (H.set b (some ⟨gg, (rvN l t).map AV.i⟩))[b]? = some (some ⟨gg, (rvN l t).map AV.i⟩) := List.getElem?_set_self hbl
  rcases Nat.lt_or_ge t (l.length / 2) with hlt | hge
  · have ht2 : 2 * t + 1 < l.length := by omega
    obtain ⟨u, hu⟩ : ∃ u, u = l.length - 1 - t := ⟨_, rfl⟩
    have euI : (l.length : Int) - 1 - (t : Int) = (u : Int) := by omega
    rw [euI]
    have tu : (t : Int) < (u : Int) := by omega
    have t0 : (0 : Int) ≤ (t : Int) := by omega
    have u0 : (0 : Int) ≤ (u : Int) := by omega
    have tl : (t : Int) < (l.length : Int) := by omega
    have ul : (u : Int) < (l.length : Int) := by omega
    have hnx := nextJ (n := l.length) (by omega) (show t < l.length by omega)
    have hpv : IntKind.i64.wrap ((u : Int) - 1) = (l.length : Int) - 1 - ((t + 1 : Nat) : Int) := by rw [IntWalk.i64_in _ (by omega)]; omega
    have at_ := rvN_at (l := l) (t := t) (k := t) (by omega)
    have au := rvN_at (l := l) (t := t) (k := u) (by omega)
    rw [if_neg (by omega)] at at_ au
    have dt := dropSt at_
    have du := dropSt au
    have es := rvN_succ ht2
    rw [← hu] at es
    have hl1 := rvN_len l t
    have ms1 := map_setI (rvN l t) t (stA l u)
    have ms2 := map_setI ((rvN l t).set t (stA l u)) u (stA l t)
    rw [es] at ms2
    have hss : ∀ (x y : Option Blk), (H.set b x).set b y = H.set b y := fun x y => List.set_set ..
    have hg2 : ∀ x : Option Blk, (H.set b x)[b]? = some x := fun x => List.getElem?_set_self hbl
    have tl1 : t + 1 ≤ l.length := by omega
    have ul1 : u + 1 ≤ l.length := by omega
    have tl2 : t < l.length := by omega
    have ul2 : u < l.length := by omega
    repeat' (first | ((first | refine aops_nil ?_ | refine aqops_nil ?_ | refine arunN_nil ?_); (try simp only [NB])) | ((repeat ((fail_if_success (refine hK _ ?_)); clear hK K)); refine hK _ ?_; clear hK K) | ((first | refine aops_k fun K1 hK1 => ?_ | refine aqops_k fun K1 hK1 => ?_ | refine arunN_eff rfl rfl rfl fun K1 hK1 => ?_ | refine arunN_q rfl rfl rfl fun K1 hK1 => ?_ | refine awp_cond_k fun A B hA hB => ?_); simp only [S1, simprocAttr, TTScE, tu, t0, u0, tl, ul, hnx, hpv, dt, du, hl1, ms1, ms2, hg2, hss, tl1, ul1, tl2, ul2, Int.toNat_natCast, List.length_map, List.length_set, Nat.mul_one, Nat.zero_add]; first | (refine hK1 _ ?_; clear hK1 K1) | ((first | refine hA ?_ | refine hB ?_); clear hA hB A B) | (((first | (refine ⟨fun hg => hA ?_, fun hg => hB ?_⟩ <;> clear hA hB A B) | refine ⟨fun hg => ?_, fun hg => ?_⟩) <;> (try simp only [BN2] at hg) <;> (try simp only [hg, cond_true, cond_false])) <;> (try (refine hK1 _ ?_; clear hK1 K1)) <;> (try simp only [BN3] at hg))) | (refine awp_seq_k fun K hK => ?_) | (refine awp_drawN (es := []) [0, 1, 2, 3, 4, 5, 6, 7, 8, 9, 10, 11, 12, 13, 14, 15] rfl (by kernel_rfl) ?_) | ((first | refine awp_region ?_ | refine awp_draw (by kernel_rfl) ?_ | refine awp_block ?_ | refine awp_exit ?_ | refine awp_skip ?_ | refine awp_ret ?_); (try simp only [NB, simprocAttr])))
    all_goals refine ⟨hlt, trivial, rfl, ⟨[], by simp⟩, ?_, trivial⟩
    all_goals simp only [keeps, avlt, avlts, blksLt, frL, upd_get, List.length_set, S1, simprocAttr, List.length_map, List.length_cons, List.length_nil, Int.natCast_zero, AV.p.injEq, PV.int.injEq, PV.bool.injEq, PV.sl.injEq] <;> (try and_intros) <;> (try assumption) <;> (try trivial) <;> (try omega)
  · obtain rfl : t = l.length / 2 := by omega
    have c : ¬ (((l.length / 2 : Nat) : Int) < (l.length : Int) - 1 - ((l.length / 2 : Nat) : Int)) := by omega
    generalize l.length / 2 = q at *
    repeat' (first | ((first | refine aops_nil ?_ | refine aqops_nil ?_); (try simp only [NB])) | ((repeat ((fail_if_success (refine hK _ ?_)); clear hK K)); refine hK _ ?_; clear hK K) | ((first | refine aops_k fun K1 hK1 => ?_ | refine aqops_k fun K1 hK1 => ?_ | refine awp_cond_k fun A B hA hB => ?_); simp only [S1, simprocAttr, TTScE, c]; first | (refine hK1 _ ?_; clear hK1 K1) | ((first | refine hA ?_ | refine hB ?_); clear hA hB A B) | (((first | (refine ⟨fun hg => hA ?_, fun hg => hB ?_⟩ <;> clear hA hB A B) | refine ⟨fun hg => ?_, fun hg => ?_⟩) <;> (try simp only [BN2] at hg) <;> (try simp only [hg, cond_true, cond_false])) <;> (try (refine hK1 _ ?_; clear hK1 K1)) <;> (try simp only [BN3] at hg))) | (refine awp_seq_k fun K hK => ?_) | ((first | refine awp_region ?_ | refine awp_draw (by kernel_rfl) ?_ | refine awp_block ?_ | refine awp_exit ?_ | refine awp_skip ?_ | refine awp_ret ?_); (try simp only [NB, simprocAttr])))
    all_goals simp only [EndH, FinH, resA, resL, resA1, lastV, lastA, lastAs, pur, purs, List.length_set, S1, simprocAttr, Nat.le_add_right, Nat.le_refl]
    have hl : (H.set b (some ⟨gg, (rvN l q).map AV.i⟩)).length = H.length := List.length_set
    refine ⟨fun i bk hi => ?_, by rw [← hl, List.take_length]⟩
    rw [← hl, List.take_length] at hi
    exact (hkeep q i bk hi).imp id fun hx => avlts_lt _ hx

def gA (g : Rg) (s s' : Rs) : Rg := ⟨g.gd, g.z, g.ga + (s'.ac.length - s.ac.length)⟩
theorem gA_trans {g : Rg} {s t u : Rs} (h1 : s.ac.length ≤ t.ac.length) (h2 : t.ac.length ≤ u.ac.length) : gA (gA g s t) t u = gA g s u := by
  unfold gA
  simp only [Rg.mk.injEq, true_and]
  omega
theorem gA_self (g : Rg) (s : Rs) : gA g s s = g := by unfold gA; rw [Nat.sub_self, Nat.add_zero]
theorem li_map (l : List Nat) : (l.map fun k : Nat => AV.i (k : Int)) = (l.map fun k : Nat => (k : Int)).map AV.i := by rw [List.map_map]; rfl

section
variable {h : Heap} {P : List Sc} {s : Rs}
theorem rn_keepA {g g0 : Rg} {s0 : Rs} {L : Heap} (i : Nat) (bk : Blk) (hi : (rnH h P g s L)[i]? = some (some bk)) : (rnH h P g0 s0 L)[i]? = some (some bk) ∨ avlts (h.length + (L.length + 4)) bk.cells := by
  unfold rnH at hi ⊢
  rcases Nat.lt_or_ge i h.length with hl | hl
  · rw [List.getElem?_append_left hl] at hi ⊢; exact .inl hi
  rw [List.getElem?_append_right hl] at hi ⊢
  generalize i - h.length = j at hi ⊢
  match j, hi with
  | 0, hi => simp [stB] at hi; subst hi; exact .inr (avlts_i _ _)
  | 1, hi => simp [runB] at hi; subst hi; exact .inr ⟨trivial, by simp only [avlt]; omega, by simp only [avlt]; omega, by simp only [avlt]; omega, trivial⟩
  | 2, hi => simp [dnB] at hi; subst hi; exact .inr (cDn_avl _ _ _)
  | 3, hi => simp [acB] at hi; subst hi; exact .inr (cAct_avl _ _)
  | j + 4, hi => exact .inl (by simpa using hi)

theorem endParts_of {i : Nat} (hst : s.st.length = P.length) (hn : P.length ≤ 32) (E : Nat → Rs) (h0 : E 0 = s) (hm : ∀ j, j < (prts P s.st i 1).length → (E j).ac.length ≤ (E (j + 1)).ac.length)
    (hend : ∀ (j k : Nat), (prts P s.st i 1).reverse[j]? = some k → ∀ (g : Rg) (L : Heap), ACalls Try.prog G 35 [.ptr (h.length + 1) 0 0, .i k] (rnH h P g (E j) L) (fun r h' => r = .undef ∧ h' = rnH h P (gA g (E j) (E (j + 1))) (E (j + 1)) L)) (g : Rg) (L : Heap) :
    ACalls Try.prog G 30 [.ptr (h.length + 1) 0 0, .i i] (rnH h P g s L) (fun r h' => r = .undef ∧ h' = rnH h P (gA g s (E (prts P s.st i 1).length)) (E (prts P s.st i 1).length) L) := by
  have hpt := parts_calls (G := G) (h := h) (g := g) (L := L) hst hn i 1
  have hle : (prts P s.st i 1).length ≤ 32 := Nat.le_trans (prN_le P s.st i 1 P.length) hn
  have hmono : ∀ j, j ≤ (prts P s.st i 1).length → s.ac.length ≤ (E j).ac.length := by
    intro j
    induction j with
    | zero => intro _; rw [h0]; exact Nat.le_refl _
    | succ j ih => intro hj; have := ih (by omega); have := hm j (by omega); omega
  rw [li_map] at hpt
  have hrv := reverse_calls (G := G) (H := rnH h P g s (L ++ [some ⟨(prts P s.st i 1).length, ((prts P s.st i 1).map fun k : Nat => (k : Int)).map AV.i⟩])) (b := h.length + (L.length + 4)) (gg := (prts P s.st i 1).length) (l := (prts P s.st i 1).map fun k : Nat => (k : Int))
    (by rw [show L.length + 4 = 4 + L.length by omega, rn_at, List.getElem?_append_right (Nat.le_refl _), Nat.sub_self]; rfl) (by rw [List.length_map]; omega)
  rw [show L.length + 4 = 4 + L.length by omega, rn_set, List.set_append_right _ _ (Nat.le_refl _), Nat.sub_self, List.length_map, ← List.map_reverse] at hrv
  simp only [List.set_cons_zero] at hrv
  rw [show 4 + L.length = L.length + 4 by omega] at hrv
  have hlr : (prts P s.st i 1).reverse.length = (prts P s.st i 1).length := List.length_reverse
  generalize hl : prts P s.st i 1 = l at *
  refine acalls_heap (rl := []) mixed Try.func30 rfl (rs := []) rfl Try.ntmps30 (by simp) ?_
  repeat' (first | ((first | refine aops_nil ?_ | refine aqops_nil ?_); (try simp only [NB])) | ((repeat ((fail_if_success (refine hK _ ?_)); clear hK K)); refine hK _ ?_; clear hK K) | ((first | refine aops_k fun K1 hK1 => ?_ | refine aqops_k fun K1 hK1 => ?_ | refine awp_cond_k fun A B hA hB => ?_); simp only [S1, simprocAttr, TTScE]; first | (refine hK1 _ ?_; clear hK1 K1) | ((first | refine hA ?_ | refine hB ?_); clear hA hB A B) | ((first | apply call_a E26 | apply call_q E26); exact hpt; (refine hK1 _ ?_; clear hK1 K1)) | ((first | apply call_a E34 | apply call_q E34); exact hrv; (refine hK1 _ ?_; clear hK1 K1)) | (((first | (refine ⟨fun hg => hA ?_, fun hg => hB ?_⟩ <;> clear hA hB A B) | refine ⟨fun hg => ?_, fun hg => ?_⟩) <;> (try simp only [BN2] at hg) <;> (try simp only [hg, cond_true, cond_false])) <;> (try (refine hK1 _ ?_; clear hK1 K1)) <;> (try simp only [BN3] at hg))) | (refine awp_seq_k fun K hK => ?_) | ((first | refine awp_region ?_ | refine awp_draw (by kernel_rfl) ?_ | refine awp_block ?_ | refine awp_exit ?_ | refine awp_skip ?_ | refine awp_ret ?_); (try simp only [NB, simprocAttr])))
  refine awp_forH l.length 22 (fun j => rnH h P (gA g s (E j)) (E j) L) (fun j => [(14, .i j), (13, .i l.length), (12, .ref (h.length + (L.length + 4)) l.length 0 1 l.length), (0, .ptr (h.length + 1) 0 0)]) (fun j => [some ⟨l.length, (l.reverse.map fun k : Nat => (k : Int)).map AV.i⟩]) (fun j => True)
    (fun j => ⟨by rw [rn_len, rn_len], fun i bk hi => by rw [rn_len]; exact rn_keepA i bk hi⟩) ?_ trivial fun j hj hp K hK => ?_
  · simp only [h0, gA_self]
    refine ⟨rfl, ⟨[], by rw [rn_app]; simp⟩, ?_, ⟨avlts_i _ _, trivial⟩⟩
    simp only [keeps, avlt, avlts, blksLt, frL, upd_get, rn_len, S1, simprocAttr, List.length_map, List.length_cons, List.length_nil, Int.natCast_zero, AV.p.injEq, PV.int.injEq, PV.bool.injEq, PV.sl.injEq] <;> (try and_intros) <;> (try assumption) <;> (try trivial) <;> (try omega)
  rw [rn_app]
  rcases Nat.lt_or_ge j l.length with hlt | hge
  · obtain ⟨k, hk⟩ : ∃ k, l.reverse[j]? = some k := ⟨_, List.getElem?_eq_getElem (by omega)⟩
    have jl : (j : Int) < (l.length : Int) := by omega
    have j0 : (0 : Int) ≤ (j : Int) := by omega
    have hnx := nextJ (n := l.length) (by omega) hlt
    have hd := dropSt (l := l.reverse.map fun k : Nat => (k : Int)) (i := j) (x := (k : Int)) (by rw [List.getElem?_map, hk]; rfl)
    have hat : ∀ (g : Rg) (s : Rs), (rnH h P g s (L ++ [some ⟨l.length, (l.reverse.map fun k : Nat => (k : Int)).map AV.i⟩]))[h.length + (L.length + 4)]? = some (some ⟨l.length, (l.reverse.map fun k : Nat => (k : Int)).map AV.i⟩) := fun g s => by rw [show L.length + 4 = 4 + L.length by omega, rn_at, List.getElem?_append_right (Nat.le_refl _), Nat.sub_self]; rfl
    have he := hend j k hk (gA g s (E j)) (L ++ [some ⟨l.length, (l.reverse.map fun k : Nat => (k : Int)).map AV.i⟩])
    rw [gA_trans (hmono j (by omega)) (hm j hlt)] at he
    repeat' (first | ((first | refine aops_nil ?_ | refine aqops_nil ?_); (try simp only [NB])) | ((repeat ((fail_if_success (refine hK _ ?_)); clear hK K)); refine hK _ ?_; clear hK K) | ((first | refine aops_k fun K1 hK1 => ?_ | refine aqops_k fun K1 hK1 => ?_ | refine awp_cond_k fun A B hA hB => ?_); simp only [S1, simprocAttr, TTScE, jl, j0, hnx, hd, hat, Int.toNat_natCast, List.length_map, List.length_reverse, Nat.mul_one, Nat.zero_add]; first | (refine hK1 _ ?_; clear hK1 K1) | ((first | refine hA ?_ | refine hB ?_); clear hA hB A B) | ((first | apply call_a E35 | apply call_q E35); exact he; (refine hK1 _ ?_; clear hK1 K1)) | (((first | (refine ⟨fun hg => hA ?_, fun hg => hB ?_⟩ <;> clear hA hB A B) | refine ⟨fun hg => ?_, fun hg => ?_⟩) <;> (try simp only [BN2] at hg) <;> (try simp only [hg, cond_true, cond_false])) <;> (try (refine hK1 _ ?_; clear hK1 K1)) <;> (try simp only [BN3] at hg))) | (refine awp_seq_k fun K hK => ?_) | ((first | refine awp_region ?_ | refine awp_draw (by kernel_rfl) ?_ | refine awp_block ?_ | refine awp_exit ?_ | refine awp_skip ?_ | refine awp_ret ?_); (try simp only [NB, simprocAttr])))
    all_goals refine ⟨hlt, trivial, rfl, ⟨[], by rw [rn_app]; simp⟩, ?_, ⟨avlts_i _ _, trivial⟩⟩
    all_goals simp only [keeps, avlt, avlts, blksLt, frL, upd_get, rn_len, S1, simprocAttr, List.length_map, List.length_cons, List.length_nil, Int.natCast_zero, AV.p.injEq, PV.int.injEq, PV.bool.injEq, PV.sl.injEq] <;> (try and_intros) <;> (try assumption) <;> (try trivial) <;> (try omega)
  · obtain rfl : j = l.length := by omega
    repeat' (first | ((first | refine aops_nil ?_ | refine aqops_nil ?_); (try simp only [NB])) | ((repeat ((fail_if_success (refine hK _ ?_)); clear hK K)); refine hK _ ?_; clear hK K) | ((first | refine aops_k fun K1 hK1 => ?_ | refine aqops_k fun K1 hK1 => ?_ | refine awp_cond_k fun A B hA hB => ?_); simp only [S1, simprocAttr, TTScE, Int.lt_irrefl]; first | (refine hK1 _ ?_; clear hK1 K1) | ((first | refine hA ?_ | refine hB ?_); clear hA hB A B) | (((first | (refine ⟨fun hg => hA ?_, fun hg => hB ?_⟩ <;> clear hA hB A B) | refine ⟨fun hg => ?_, fun hg => ?_⟩) <;> (try simp only [BN2] at hg) <;> (try simp only [hg, cond_true, cond_false])) <;> (try (refine hK1 _ ?_; clear hK1 K1)) <;> (try simp only [BN3] at hg))) | (refine awp_seq_k fun K hK => ?_) | ((first | refine awp_region ?_ | refine awp_draw (by kernel_rfl) ?_ | refine awp_block ?_ | refine awp_exit ?_ | refine awp_skip ?_ | refine awp_ret ?_); (try simp only [NB, simprocAttr])))
    all_goals simp only [EndH, FinH, resA, resL, resA1, lastV, lastA, lastAs, pur, purs, rn_len, rn_take, rn_takeM, List.length_append, List.length_cons, List.length_nil, S1, simprocAttr, Nat.le_add_right, Nat.le_refl]
    all_goals first | exact rn_keep | exact ⟨by omega, rn_keep⟩ | exact ⟨by omega, rn_keep, rfl⟩

theorem end_of {k : Nat} {t : Rs} (hE : ∀ (g : Rg) (L : Heap), ACalls Try.prog G 30 [.ptr (h.length + 1) 0 0, .i k] (rnH h P g s L) (fun r h' => r = .undef ∧ h' = rnH h P (gA g s t) t L)) (hk : k < t.st.length) (hac : t.ac.length ≤ 1000) (hm : s.ac.length ≤ t.ac.length) (g : Rg) (L : Heap) :
    ACalls Try.prog G 35 [.ptr (h.length + 1) 0 0, .i k] (rnH h P g s L) (fun r h' => r = .undef ∧ h' = rnH h P (gA g s ⟨t.st.set k 3, t.dn, t.ac ++ [(1, k)]⟩) ⟨t.st.set k 3, t.dn, t.ac ++ [(1, k)]⟩ L) := by
  have he := hE g L
  have k0 : (0 : Int) ≤ (k : Int) := by omega
  have ks : (k : Int) < (t.st.length : Int) := by omega
  have hos := map_setI t.st k 3
  have hss := rn_sst (h := h) (P := P) (g := gA g s t) (s := t) (L := L) (t.st.set k 3) (by simp)
  have kl1 : k + 1 ≤ t.st.length := by omega
  have hact := act_calls (G := G) (h := h) (P := P) (g := gA g s t) (s := ⟨t.st.set k 3, t.dn, t.ac⟩) (L := L) hac 1 k
  have hg : (⟨(gA g s t).gd, (gA g s t).z, (gA g s t).ga + 1⟩ : Rg) = gA g s ⟨t.st.set k 3, t.dn, t.ac ++ [(1, k)]⟩ := by
    unfold gA
    simp only [List.length_append, List.length_cons, List.length_nil, Rg.mk.injEq, true_and]
    omega
  simp only [hg] at hact
  refine acalls_heap (rl := []) mixed Try.func35 rfl (rs := []) rfl Try.ntmps35 (by simp) ?_
  repeat' (first | ((first | refine aops_nil ?_ | refine aqops_nil ?_); (try simp only [NB])) | ((repeat ((fail_if_success (refine hK _ ?_)); clear hK K)); refine hK _ ?_; clear hK K) | ((first | refine aops_k fun K1 hK1 => ?_ | refine aqops_k fun K1 hK1 => ?_ | refine awp_cond_k fun A B hA hB => ?_); simp only [S1, simprocAttr, TTScE, k0, ks, hos, hss, kl1, hk, rn_run, rn_st, runB, stB, Int.toNat_natCast, List.length_map, List.length_set, Nat.mul_one, Nat.zero_add]; first | (refine hK1 _ ?_; clear hK1 K1) | ((first | refine hA ?_ | refine hB ?_); clear hA hB A B) | ((first | apply call_a E30 | apply call_q E30); exact he; (refine hK1 _ ?_; clear hK1 K1)) | ((first | apply call_a E32 | apply call_q E32); exact hact; (refine hK1 _ ?_; clear hK1 K1)) | (((first | (refine ⟨fun hg => hA ?_, fun hg => hB ?_⟩ <;> clear hA hB A B) | refine ⟨fun hg => ?_, fun hg => ?_⟩) <;> (try simp only [BN2] at hg) <;> (try simp only [hg, cond_true, cond_false])) <;> (try (refine hK1 _ ?_; clear hK1 K1)) <;> (try simp only [BN3] at hg))) | (refine awp_seq_k fun K hK => ?_) | ((first | refine awp_region ?_ | refine awp_draw (by kernel_rfl) ?_ | refine awp_block ?_ | refine awp_exit ?_ | refine awp_skip ?_ | refine awp_ret ?_); (try simp only [NB, simprocAttr])))
  all_goals simp only [EndH, FinH, resA, resL, resA1, lastV, lastA, lastAs, pur, purs, rn_len, rn_take, S1, simprocAttr, Nat.le_add_right, Nat.le_refl]
  all_goals first | exact rn_keep | exact ⟨rn_keep, rfl⟩ | exact ⟨rn_keep, rfl, rfl⟩
end
end Go.Proofs.Ytkmcecbglomemaa.AM
end

section
set_option linter.unusedVariables false
set_option linter.unusedSimpArgs false
set_option maxRecDepth 4000
set_option maxHeartbeats 4000000
namespace Go.Proofs.Ytkmcecbglomemaa.AM
open Go Go.Proofs
set_option linter.defProp false in
def TTScF := And.intro T2 (And.intro T3 (And.intro T4 (And.intro T22 (And.intro T25 (And.intro T26 (And.intro T37 (And.intro T41 (And.intro T45 (And.intro T49 (And.intro T51 T54))))))))))
attribute [local irreducible] awp aops aqops aeops arun arunT arunN
variable {G : Nat → Option (List PV)}

section
variable {h : Heap} {P : List Sc}
theorem EndsTo.acle {D : Nat → Prop} {s t : Rs} (h : EndsTo P D s t) : s.ac.length ≤ t.ac.length := by
  obtain ⟨m, e, _⟩ := h.app
  rw [e, List.length_append]; omega

theorem ends_calls (pl : PlOk P) : ∀ (d i : Nat) (s : Rs), P.length ≤ i + d → RsOk P s → ∀ (g : Rg) (L : Heap),
    ACalls Try.prog G 30 [.ptr (h.length + 1) 0 0, .i i] (rnH h P g s L) (fun r h' => r = .undef ∧ h' = rnH h P (gA g s (endsF P d i s)) (endsF P d i s) L)
  | 0, i, s, hd, ok, g, L => by
    have h0 : prts P s.st i 1 = [] := by
      rw [List.eq_nil_iff_forall_not_mem]
      intro k hk
      have := mem_prts.mp hk
      have := (pl.lt this.2.1).1
      omega
    have := endParts_of (G := G) (h := h) (i := i) ok.len pl.n32 (fun _ => s) rfl (fun j hj => Nat.le_refl _) (fun j k hk => by rw [h0] at hk; simp at hk) g L
    exact this
  | d + 1, i, s, hd, ok, g, L => by
    have IH := fun (k : Nat) (t : Rs) (hk : i < k) (ht : RsOk P t) => ends_spec pl d k t (by omega) ht
    have hnd : ((prts P s.st i 1).reverse).Nodup := List.pairwise_reverse.mpr ((range_nodup _ _).imp Ne.symm)
    have hin : ∀ k ∈ (prts P s.st i 1).reverse, parA P k = (i : Int) ∧ stA s.st k = 1 := fun k hk => (mem_prts.mp (List.mem_reverse.mp hk)).2
    have hpre : ∀ j, EndsTo P (fun k => Ins P i k ∧ k ≠ i) s (((prts P s.st i 1).reverse.take j).foldl (endB P d) s) := fun j =>
      (ends_loop pl IH _ s (hnd.sublist (List.take_sublist _ _)) (fun k hk => hin k (List.mem_of_mem_take hk)) ok).1
    have hstep : ∀ (j k : Nat), (prts P s.st i 1).reverse[j]? = some k → ((prts P s.st i 1).reverse.take (j + 1)).foldl (endB P d) s = endB P d (((prts P s.st i 1).reverse.take j).foldl (endB P d) s) k := fun j k hk => by
      rw [List.take_add_one, hk, List.foldl_append]; rfl
    have e1 : endsF P (d + 1) i s = ((prts P s.st i 1).reverse.take (prts P s.st i 1).length).foldl (endB P d) s := by
      rw [List.take_of_length_le (by rw [List.length_reverse]; exact Nat.le_refl _)]; rfl
    rw [e1]
    refine endParts_of (G := G) (h := h) (i := i) ok.len pl.n32 (fun j => ((prts P s.st i 1).reverse.take j).foldl (endB P d) s) rfl (fun j hj => ?_) (fun j k hk g L => ?_) g L
    · obtain ⟨k, hk⟩ : ∃ k, (prts P s.st i 1).reverse[j]? = some k := ⟨_, List.getElem?_eq_getElem (by rw [List.length_reverse]; exact hj)⟩
      obtain ⟨hp, _⟩ := hin k (List.mem_of_getElem? hk)
      simp only [hstep j k hk]
      have := (ends_spec pl d k _ (by have := (pl.lt hp).1; omega) (hpre j).ok).1.acle
      refine Nat.le_trans this ?_
      show _ ≤ ((endsF P d k _).ac ++ [((1 : Int), k)]).length
      rw [List.length_append]; exact Nat.le_add_right _ _
    · obtain ⟨hp, _⟩ := hin k (List.mem_of_getElem? hk)
      have hik := (pl.lt hp).1
      simp only [hstep j k hk]
      have okj := (hpre j).ok
      obtain ⟨f1, _⟩ := ends_spec pl d k _ (by omega) okj
      have hk1 : k < P.length := (pl.lt hp).2
      exact end_of (fun g L => ends_calls pl d k _ (by omega) okj g L) (by rw [f1.ok.len]; exact hk1) (by have := f1.ok.acle; have := pl.n32; omega) f1.acle g L
end

/-! A number is taken out of a list. -/
theorem del1_calls (k i : Int) {H : Heap} {bx : Nat} (hb : H[bx]? = some (some ⟨0, [.i i]⟩)) : ACalls Try.prog G 45 [.i k, .ptr bx 0 0] H (fun r h' => r = .b (k == i) ∧ h' = H) := by
  refine acalls_pure (rl := []) mixed Try.func45 rfl (rs := [.tmp 3]) rfl Try.ntmps45 (by simp) ?_
  repeat' (first | ((first | refine aops_nil ?_ | refine aqops_nil ?_); (try simp only [NB])) | ((repeat ((fail_if_success (refine hK _ ?_)); clear hK K)); refine hK _ ?_; clear hK K) | ((first | refine aops_k fun K1 hK1 => ?_ | refine aqops_k fun K1 hK1 => ?_ | refine awp_cond_k fun A B hA hB => ?_); simp only [S1, simprocAttr, TTScF, hb]; first | (refine hK1 _ ?_; clear hK1 K1) | ((first | refine hA ?_ | refine hB ?_); clear hA hB A B) | (((first | (refine ⟨fun hg => hA ?_, fun hg => hB ?_⟩ <;> clear hA hB A B) | refine ⟨fun hg => ?_, fun hg => ?_⟩) <;> (try simp only [BN2] at hg) <;> (try simp only [hg, cond_true, cond_false])) <;> (try (refine hK1 _ ?_; clear hK1 K1)) <;> (try simp only [BN3] at hg))) | (refine awp_seq_k fun K hK => ?_) | ((first | refine awp_region ?_ | refine awp_draw (by kernel_rfl) ?_ | refine awp_block ?_ | refine awp_exit ?_ | refine awp_skip ?_ | refine awp_ret ?_); (try simp only [NB, simprocAttr])))
  all_goals simp only [EndP, FinP, resA, resL, resA1, lastV, lastA, lastAs, pur, purs, take_app, List.take_length, S1, simprocAttr, TTScF, Nat.le_add_right, Nat.le_refl]

def findI (p : Int → Bool) : List Int → Nat → Int
  | [], _ => -1
  | k :: r, i => if p k then (i : Int) else findI p r (i + 1)
theorem findI_step {p : Int → Bool} {l : List Int} {i : Nat} {k : Int} (hk : l[i]? = some k) : findI p (l.drop i) i = if p k then (i : Int) else findI p (l.drop (i + 1)) (i + 1) := by
  obtain ⟨h, e⟩ := List.getElem?_eq_some_iff.mp hk
  rw [List.drop_eq_getElem_cons h, e]; rfl
theorem findI_spec {p : Int → Bool} : ∀ (l : List Int) (k : Nat), (findI p l k = -1 ∧ ∀ x ∈ l, p x = false) ∨ ∃ (i : Nat), findI p l k = ((k + i : Nat) : Int) ∧ i < l.length ∧ (∀ x ∈ l.take i, p x = false) ∧ ∃ y, l[i]? = some y ∧ p y = true
  | [], k => .inl ⟨rfl, by simp⟩
  | x :: l, k => by
    unfold findI
    cases hx : p x with
    | true => exact .inr ⟨0, by simp, by simp, by simp, x, rfl, hx⟩
    | false =>
      rcases findI_spec l (k + 1) with ⟨h1, h2⟩ | ⟨i, h1, h2, h3, y, h4, h5⟩
      · refine .inl ⟨by simpa using h1, fun z hz => ?_⟩
        rcases List.mem_cons.mp hz with rfl | hz
        · exact hx
        · exact h2 z hz
      · refine .inr ⟨i + 1, by simp only [Bool.false_eq_true, if_false, h1]; omega, by simp; omega, fun z hz => ?_, y, h4, h5⟩
        rw [List.take_succ_cons] at hz
        rcases List.mem_cons.mp hz with rfl | hz
        · exact hx
        · exact h3 z hz

theorem indexI_calls {f : FuncId} (hE : Enters Try.prog f) {caps : List AV} {p : Int → Bool} {l : List Int} {m : List AV} {lb gg : Nat} (hn : l.length ≤ 1000) {H : Heap} (hlb : H[lb]? = some (some ⟨gg, l.map AV.i ++ m⟩)) (hcap : avlts H.length caps)
    (hc : ∀ a ∈ l, ACalls Try.prog G f (.i a :: caps) H (fun r h' => r = .b (p a) ∧ h' = H)) :
    ACalls Try.prog G 56 [.ref lb gg 0 1 l.length, .fn f caps] H (fun r h' => r = .i (findI p l 0) ∧ h' = H) := by
  have hlt := getElem?_lt hlb
  refine acalls_pure (rl := []) mixed Try.func56 rfl (rs := [.tmp 4]) rfl Try.ntmps56 (by simp) ?_
  repeat' (first | ((first | refine aops_nil ?_ | refine aqops_nil ?_); (try simp only [NB])) | ((repeat ((fail_if_success (refine hK _ ?_)); clear hK K)); refine hK _ ?_; clear hK K) | ((first | refine aops_k fun K1 hK1 => ?_ | refine aqops_k fun K1 hK1 => ?_ | refine awp_cond_k fun A B hA hB => ?_); simp only [S1, simprocAttr, TTScF]; first | (refine hK1 _ ?_; clear hK1 K1) | ((first | refine hA ?_ | refine hB ?_); clear hA hB A B) | (((first | (refine ⟨fun hg => hA ?_, fun hg => hB ?_⟩ <;> clear hA hB A B) | refine ⟨fun hg => ?_, fun hg => ?_⟩) <;> (try simp only [BN2] at hg) <;> (try simp only [hg, cond_true, cond_false])) <;> (try (refine hK1 _ ?_; clear hK1 K1)) <;> (try simp only [BN3] at hg))) | (refine awp_seq_k fun K hK => ?_) | ((first | refine awp_region ?_ | refine awp_draw (by kernel_rfl) ?_ | refine awp_block ?_ | refine awp_exit ?_ | refine awp_skip ?_ | refine awp_ret ?_); (try simp only [NB, simprocAttr])))
  refine awp_for l.length 19 (fun i => [(8, .i i), (7, .i l.length), (0, .ref lb gg 0 1 l.length), (1, .fn f caps)]) (fun i => []) (fun i => findI p l 0 = findI p (l.drop i) i) ?_ rfl fun i hi hp K hK => ?_
  · (refine ⟨rfl, (by first | exact ⟨_, rfl⟩ | exact ⟨[], by simp⟩), ?_, ?_⟩ <;> simp only [keeps, avlt, avlts, blksLt, frL, upd_get, S1, simprocAttr, List.length_map, Int.natCast_zero, AV.p.injEq, PV.int.injEq, PV.bool.injEq, PV.sl.injEq] <;> (try and_intros) <;> (try assumption) <;> (try trivial) <;> (try omega))
  rcases Nat.lt_or_ge i l.length with hlt2 | hge
  · obtain ⟨k, hx⟩ : ∃ k, l[i]? = some k := ⟨_, List.getElem?_eq_getElem hlt2⟩
    have hm := List.mem_of_getElem? hx
    rw [findI_step hx] at hp
    have jl : (i : Int) < (l.length : Int) := by omega
    have j0 : (0 : Int) ≤ (i : Int) := by omega
    have hnx := nextJ (n := l.length) (by omega) hlt2
    have hd : (l.map AV.i ++ m).drop i = .i k :: ((l.map AV.i).drop (i + 1) ++ m) := by
      rw [List.drop_append_of_le_length (by rw [List.length_map]; omega), dropSt hx]; rfl
    repeat' (first | ((first | refine aops_nil ?_ | refine aqops_nil ?_); (try simp only [NB])) | ((repeat ((fail_if_success (refine hK _ ?_)); clear hK K)); refine hK _ ?_; clear hK K) | ((first | refine aops_k fun K1 hK1 => ?_ | refine aqops_k fun K1 hK1 => ?_ | refine awp_cond_k fun A B hA hB => ?_); simp only [S1, simprocAttr, TTScF, jl, j0, hnx, hlb, hd, Nat.mul_one, Nat.zero_add]; first | (refine hK1 _ ?_; clear hK1 K1) | ((first | refine hA ?_ | refine hB ?_); clear hA hB A B) | ((first | apply call_a hE | apply call_q hE); exact (hc k hm); (refine hK1 _ ?_; clear hK1 K1)) | (((first | (refine ⟨fun hg => hA ?_, fun hg => hB ?_⟩ <;> clear hA hB A B) | refine ⟨fun hg => ?_, fun hg => ?_⟩) <;> (try simp only [BN2] at hg) <;> (try simp only [hg, cond_true, cond_false])) <;> (try (refine hK1 _ ?_; clear hK1 K1)) <;> (try simp only [BN3] at hg))) | (refine awp_seq_k fun K hK => ?_) | ((first | refine awp_region ?_ | refine awp_draw (by kernel_rfl) ?_ | refine awp_block ?_ | refine awp_exit ?_ | refine awp_skip ?_ | refine awp_ret ?_); (try simp only [NB, simprocAttr])))
    · simp only [EndP, FinP, resA, resL, resA1, lastV, lastA, lastAs, pur, purs, take_app, List.take_length, S1, simprocAttr, TTScF, Nat.le_add_right, Nat.le_refl]
      simp [hp, hg]
    · exact ⟨hlt2, by simpa [hg] using hp, by (refine ⟨rfl, (by first | exact ⟨_, rfl⟩ | exact ⟨[], by simp⟩), ?_, ?_⟩ <;> simp only [keeps, avlt, avlts, blksLt, frL, upd_get, S1, simprocAttr, List.length_map, Int.natCast_zero, AV.p.injEq, PV.int.injEq, PV.bool.injEq, PV.sl.injEq] <;> (try and_intros) <;> (try assumption) <;> (try trivial) <;> (try omega))⟩
  · obtain rfl : i = l.length := by omega
    repeat' (first | ((first | refine aops_nil ?_ | refine aqops_nil ?_); (try simp only [NB])) | ((repeat ((fail_if_success (refine hK _ ?_)); clear hK K)); refine hK _ ?_; clear hK K) | ((first | refine aops_k fun K1 hK1 => ?_ | refine aqops_k fun K1 hK1 => ?_ | refine awp_cond_k fun A B hA hB => ?_); simp only [S1, simprocAttr, TTScF, Int.lt_irrefl]; first | (refine hK1 _ ?_; clear hK1 K1) | ((first | refine hA ?_ | refine hB ?_); clear hA hB A B) | (((first | (refine ⟨fun hg => hA ?_, fun hg => hB ?_⟩ <;> clear hA hB A B) | refine ⟨fun hg => ?_, fun hg => ?_⟩) <;> (try simp only [BN2] at hg) <;> (try simp only [hg, cond_true, cond_false])) <;> (try (refine hK1 _ ?_; clear hK1 K1)) <;> (try simp only [BN3] at hg))) | (refine awp_seq_k fun K hK => ?_) | ((first | refine awp_region ?_ | refine awp_draw (by kernel_rfl) ?_ | refine awp_block ?_ | refine awp_exit ?_ | refine awp_skip ?_ | refine awp_ret ?_); (try simp only [NB, simprocAttr])))
    simp only [EndP, FinP, resA, resL, resA1, lastV, lastA, lastAs, pur, purs, take_app, List.take_length, S1, simprocAttr, TTScF, Nat.le_add_right, Nat.le_refl]
    rw [List.drop_length] at hp
    simp [hp, findI]
end Go.Proofs.Ytkmcecbglomemaa.AM
end

section
set_option linter.unusedVariables false
set_option linter.unusedSimpArgs false
set_option maxRecDepth 4000
set_option maxHeartbeats 4000000
namespace Go.Proofs.Ytkmcecbglomemaa.AM
open Go Go.Proofs
set_option linter.defProp false in
def TTScG := And.intro T2 (And.intro T3 (And.intro T4 (And.intro T45 T51)))
attribute [local irreducible] awp aops aqops aeops arun arunT arunN
variable {G : Nat → Option (List PV)}

def kept (p : Int → Bool) (l : List Int) : List Int := l.filter fun a => !p a
/-- What stands in the list when so many were looked at. -/
def keptC (p : Int → Bool) (l : List Int) (j : Nat) : List Int := kept p (l.take j) ++ l.drop (kept p (l.take j)).length
theorem kept_le (p : Int → Bool) (l : List Int) : (kept p l).length ≤ l.length := List.length_filter_le _ _
theorem kept_take_le (p : Int → Bool) (l : List Int) (j : Nat) : (kept p (l.take j)).length ≤ j := Nat.le_trans (kept_le _ _) (by rw [List.length_take]; omega)
theorem keptC_len {p : Int → Bool} {l : List Int} {j : Nat} : (keptC p l j).length = l.length := by
  unfold keptC
  have := kept_le p (l.take j)
  rw [List.length_append, List.length_drop]
  rw [List.length_take] at this
  omega
theorem keptC_at {p : Int → Bool} {l : List Int} {j : Nat} : (keptC p l j)[j]? = l[j]? := by
  unfold keptC
  have := kept_take_le p l j
  rw [List.getElem?_append_right this, List.getElem?_drop]
  congr 1; omega
theorem kept_succ {p : Int → Bool} {l : List Int} {j : Nat} {v : Int} (h : l[j]? = some v) : kept p (l.take (j + 1)) = kept p (l.take j) ++ if p v = true then [] else [v] := by
  unfold kept
  rw [List.take_add_one, h, List.filter_append]
  congr 1
  cases hp : p v <;> simp [hp]
theorem keptC_skip {p : Int → Bool} {l : List Int} {j : Nat} {v : Int} (h : l[j]? = some v) (hp : p v = true) : keptC p l (j + 1) = keptC p l j := by
  unfold keptC
  rw [kept_succ h, if_pos hp, List.append_nil]
theorem keptC_put {p : Int → Bool} {l : List Int} {j : Nat} {v : Int} (h : l[j]? = some v) (hp : p v = false) : (keptC p l j).set (kept p (l.take j)).length v = keptC p l (j + 1) := by
  unfold keptC
  have hle := kept_take_le p l j
  have hj := (List.getElem?_eq_some_iff.mp h).1
  rw [kept_succ h, if_neg (by rw [hp]; simp), List.set_append_right _ _ (Nat.le_refl _), Nat.sub_self, List.drop_eq_getElem_cons (show (kept p (l.take j)).length < l.length by omega), List.set_cons_zero, List.length_append, List.append_assoc]
  rfl
theorem kept_pre {p : Int → Bool} {l : List Int} (h : ∀ x ∈ l, p x = false) : kept p l = l := by
  unfold kept
  exact List.filter_eq_self.mpr fun a ha => by rw [h a ha]; rfl
theorem rep_flat (k : Nat) (x : AV) : (List.replicate k [x]).flatMap id = List.replicate k x := by
  induction k with
  | zero => rfl
  | succ k ih => rw [List.replicate_succ, List.flatMap_cons, ih]; rfl
theorem avlts_im (n : Nat) (l : List Int) (z : Nat) : avlts n (l.map AV.i ++ List.replicate z (AV.i 0)) := avlts_cat (avlts_i n l) (avlts_rep n z)

theorem delete_calls {f : FuncId} (hE : Enters Try.prog f) {caps : List AV} {p : Int → Bool} {l : List Int} {z lb gg : Nat} (hn : l.length ≤ 1000) {H : Heap} (hlb : H[lb]? = some (some ⟨gg, l.map AV.i ++ List.replicate z (AV.i 0)⟩)) (hcap : avlts H.length caps)
    (hc : ∀ (x : Option Blk) (a : Int), ACalls Try.prog G f (.i a :: caps) (H.set lb x) (fun r h' => r = .b (p a) ∧ h' = H.set lb x)) :
    ACalls Try.prog G 44 [.ref lb gg 0 1 l.length, .fn f caps] H (fun r h' => r = .ref lb gg 0 1 (kept p l).length ∧ h' = H.set lb (some ⟨gg, (kept p l).map AV.i ++ List.replicate (l.length - (kept p l).length + z) (AV.i 0)⟩)) := by
  have hlt := getElem?_lt hlb
  have hsame : H.set lb (some ⟨gg, l.map AV.i ++ List.replicate z (AV.i 0)⟩) = H := by
    apply List.ext_getElem?
    intro k
    rw [List.getElem?_set]
    split
    · rename_i e; subst e; first | (rw [if_pos hlt]; exact hlb.symm) | exact hlb.symm
    · rfl
  have hix := indexI_calls (G := G) hE (p := p) hn hlb hcap (fun a _ => by have := hc (some ⟨gg, l.map AV.i ++ List.replicate z (AV.i 0)⟩) a; rwa [hsame] at this)
  rcases findI_spec (p := p) l 0 with ⟨h1, h2⟩ | ⟨i0, h1, h2, h3, y, h4, h5⟩
  · rw [kept_pre h2, Nat.sub_self, Nat.zero_add, hsame]
    rw [h1] at hix
    refine Sim.evoKeepG (rl := []) mixed Try.func44 rfl (by rw [Try.ntmps44]; simp) ?_
    rw [Try.ntmps44]
    repeat' (first | ((first | refine aops_nil ?_ | refine aqops_nil ?_); (try simp only [NB])) | ((repeat ((fail_if_success (refine hK _ ?_)); clear hK K)); refine hK _ ?_; clear hK K) | ((first | refine aops_k fun K1 hK1 => ?_ | refine aqops_k fun K1 hK1 => ?_ | refine awp_cond_k fun A B hA hB => ?_); simp only [S1, simprocAttr, TTScG]; first | (refine hK1 _ ?_; clear hK1 K1) | ((first | refine hA ?_ | refine hB ?_); clear hA hB A B) | ((first | apply call_a E56 | apply call_q E56); exact hix; (refine hK1 _ ?_; clear hK1 K1)) | (refine join_x (v := ?_) (fun hg hk9 => ?_) ?_; rotate_left; (focus (try ((try simp only [BN] at hg); simp only [S1, simprocAttr, TTScG, hg] at hk9 ⊢)); first | exact hk9 | ((first | apply call_a E56 | apply call_q E56); exact hix; exact hk9)); (refine hK1 _ ?_; clear hK1 K1)) | (((first | (refine ⟨fun hg => hA ?_, fun hg => hB ?_⟩ <;> clear hA hB A B) | refine ⟨fun hg => ?_, fun hg => ?_⟩) <;> (try simp only [BN2] at hg) <;> (try simp only [hg, cond_true, cond_false])) <;> (try (refine hK1 _ ?_; clear hK1 K1)) <;> (try simp only [BN3] at hg))) | (refine awp_seq_k fun K hK => ?_) | ((first | refine awp_region ?_ | refine awp_draw (by kernel_rfl) ?_ | refine awp_block ?_ | refine awp_exit ?_ | refine awp_skip ?_ | refine awp_ret ?_); (try simp only [NB, simprocAttr])))
    all_goals exact ⟨.inr trivial, _, Ghost.refl, FinK_tmp (t := 4) rfl (Nat.le_refl _) ⟨rfl, rfl⟩⟩
  rw [Nat.zero_add] at h1
  rw [h1] at hix
  have e0 : kept p (l.take (i0 + 1)) = l.take i0 := by rw [kept_succ h4, if_pos h5, List.append_nil, kept_pre h3]
  have el0 : (kept p (l.take (i0 + 1))).length = i0 := by rw [e0, List.length_take]; omega
  have ec0 : keptC p l (i0 + 1) = l := by unfold keptC; rw [el0, e0, List.take_append_drop]
  have hne : ((i0 : Int) == -1) = false := beq_false_of_ne (by omega)
  have hnx0 := nextJ (n := l.length) (by omega) h2
  have hkeep : ∀ (c : List Int) (zz i : Nat) (bk : Blk), (H.set lb (some ⟨gg, c.map AV.i ++ List.replicate zz (.i 0)⟩))[i]? = some (some bk) → H[i]? = some (some bk) ∨ avlts H.length bk.cells := by
    intro c zz i bk hi
    rw [List.getElem?_set] at hi
    split at hi
    · first
        | (split at hi
           · cases hi; exact .inr (avlts_im _ _ _)
           · cases hi)
        | (cases hi; exact .inr (avlts_im _ _ _))
    · exact .inl hi
  refine Sim.evoKeepG (rl := []) mixed Try.func44 rfl (by rw [Try.ntmps44]; simp) ?_
  rw [Try.ntmps44]
  repeat' (first | ((first | refine aops_nil ?_ | refine aqops_nil ?_); (try simp only [NB])) | ((repeat ((fail_if_success (refine hK _ ?_)); clear hK K)); refine hK _ ?_; clear hK K) | ((first | refine aops_k fun K1 hK1 => ?_ | refine aqops_k fun K1 hK1 => ?_ | refine awp_cond_k fun A B hA hB => ?_); simp only [S1, simprocAttr, TTScG, hne, hnx0]; first | (refine hK1 _ ?_; clear hK1 K1) | ((first | refine hA ?_ | refine hB ?_); clear hA hB A B) | ((first | apply call_a E56 | apply call_q E56); exact hix; (refine hK1 _ ?_; clear hK1 K1)) | (refine join_x (v := ?_) (fun hg hk9 => ?_) ?_; rotate_left; (focus (try ((try simp only [BN] at hg); simp only [S1, simprocAttr, TTScG, hne, hnx0, hg] at hk9 ⊢)); first | exact hk9 | ((first | apply call_a E56 | apply call_q E56); exact hix; exact hk9)); (refine hK1 _ ?_; clear hK1 K1)) | (((first | (refine ⟨fun hg => hA ?_, fun hg => hB ?_⟩ <;> clear hA hB A B) | refine ⟨fun hg => ?_, fun hg => ?_⟩) <;> (try simp only [BN2] at hg) <;> (try simp only [hg, cond_true, cond_false])) <;> (try (refine hK1 _ ?_; clear hK1 K1)) <;> (try simp only [BN3] at hg))) | (refine awp_seq_k fun K hK => ?_) | ((first | refine awp_region ?_ | refine awp_draw (by kernel_rfl) ?_ | refine awp_block ?_ | refine awp_exit ?_ | refine awp_skip ?_ | refine awp_ret ?_); (try simp only [NB, simprocAttr])))
  refine awp_forH (l.length - (i0 + 1)) 42 (fun t => H.set lb (some ⟨gg, (keptC p l (i0 + 1 + t)).map AV.i ++ List.replicate z (AV.i 0)⟩)) (fun t => [(5, .i (kept p (l.take (i0 + 1 + t))).length), (6, .i ((i0 + 1 + t : Nat) : Int)), (0, .ref lb gg 0 1 l.length), (1, .fn f caps)]) (fun t => []) (fun t => True) (fun t => ⟨by simp, hkeep _ _⟩) ?_ trivial fun t ht hp K hK => ?_
  · simp only [Nat.add_zero, ec0, el0, hsame]
    refine ⟨rfl, ⟨[], by simp⟩, ?_, trivial⟩
    simp only [keeps, avlt, avlts, blksLt, frL, upd_get, S1, simprocAttr, List.length_map, Int.natCast_zero, AV.p.injEq, PV.int.injEq, PV.bool.injEq, PV.sl.injEq] <;> (try and_intros) <;> (try assumption) <;> (try trivial) <;> (try omega)
  rw [List.append_nil]
  have hg : ∀ x : Option Blk, (H.set lb x)[lb]? = some x := fun x => List.getElem?_set_self hlt
  have hss : ∀ (x y : Option Blk), (H.set lb x).set lb y = H.set lb y := fun x y => List.set_set ..
  obtain ⟨j, hj⟩ : ∃ j, i0 + 1 + t = j := ⟨_, rfl⟩
  have hj1 : i0 + 1 + (t + 1) = j + 1 := by omega
  rw [hj]
  have hkl := kept_take_le p l j
  have hcl := keptC_len (p := p) (l := l) (j := j)
  have w0 : (0 : Int) ≤ ((kept p (l.take j)).length : Int) := by omega
  rcases Nat.lt_or_ge t (l.length - (i0 + 1)) with hlt2 | hge
  · have hjl : j < l.length := by omega
    obtain ⟨v, hv⟩ : ∃ v, l[j]? = some v := ⟨_, List.getElem?_eq_getElem hjl⟩
    have jl : (j : Int) < (l.length : Int) := by omega
    have j0 : (0 : Int) ≤ (j : Int) := by omega
    have wl : ((kept p (l.take j)).length : Int) < (l.length : Int) := by omega
    have hnx := nextJ (n := l.length) (by omega) hjl
    have hnw := nextJ (n := l.length) (by omega) (show (kept p (l.take j)).length < l.length by omega)
    have hd : ((keptC p l j).map AV.i ++ List.replicate z (AV.i 0)).drop j = AV.i v :: (((keptC p l j).map AV.i).drop (j + 1) ++ List.replicate z (AV.i 0)) := by
      rw [List.drop_append_of_le_length (by rw [List.length_map, hcl]; omega), dropSt (by rw [keptC_at]; exact hv)]; rfl
    cases hpv : p v with
    | true =>
      have es := keptC_skip hv hpv
      have ek := kept_succ (p := p) hv
      rw [if_pos hpv, List.append_nil] at ek
      have hcv := fun x => hc x v
      rw [hpv] at hcv
      repeat' (first | ((first | refine aops_nil ?_ | refine aqops_nil ?_); (try simp only [NB])) | ((repeat ((fail_if_success (refine hK _ ?_)); clear hK K)); refine hK _ ?_; clear hK K) | ((first | refine aops_k fun K1 hK1 => ?_ | refine aqops_k fun K1 hK1 => ?_ | refine awp_cond_k fun A B hA hB => ?_); simp only [S1, simprocAttr, TTScG, jl, j0, hnx, hg, hd, Nat.mul_one, Nat.zero_add]; first | (refine hK1 _ ?_; clear hK1 K1) | ((first | refine hA ?_ | refine hB ?_); clear hA hB A B) | ((first | apply call_a hE | apply call_q hE); exact (hcv _); (refine hK1 _ ?_; clear hK1 K1)) | (refine join_x (v := ?_) (fun hg hk9 => ?_) ?_; rotate_left; (focus (try ((try simp only [BN] at hg); simp only [S1, simprocAttr, TTScG, jl, j0, hnx, hg, hd, Nat.mul_one, Nat.zero_add, hg] at hk9 ⊢)); first | exact hk9 | ((first | apply call_a hE | apply call_q hE); exact (hcv _); exact hk9)); (refine hK1 _ ?_; clear hK1 K1)) | (((first | (refine ⟨fun hg => hA ?_, fun hg => hB ?_⟩ <;> clear hA hB A B) | refine ⟨fun hg => ?_, fun hg => ?_⟩) <;> (try simp only [BN2] at hg) <;> (try simp only [hg, cond_true, cond_false])) <;> (try (refine hK1 _ ?_; clear hK1 K1)) <;> (try simp only [BN3] at hg))) | (refine awp_seq_k fun K hK => ?_) | ((first | refine awp_region ?_ | refine awp_draw (by kernel_rfl) ?_ | refine awp_block ?_ | refine awp_exit ?_ | refine awp_skip ?_ | refine awp_ret ?_); (try simp only [NB, simprocAttr])))
      all_goals refine ⟨hlt2, trivial, ?_⟩
      all_goals simp only [hj1, es, ek]
      all_goals refine ⟨rfl, ⟨[], by simp⟩, ?_, trivial⟩
      all_goals simp only [keeps, avlt, avlts, blksLt, frL, upd_get, List.length_set, S1, simprocAttr, List.length_map, List.length_cons, List.length_nil, Int.natCast_zero, AV.p.injEq, PV.int.injEq, PV.bool.injEq, PV.sl.injEq] <;> (try and_intros) <;> (try assumption) <;> (try trivial) <;> (try omega)
    | false =>
      have es := keptC_put hv hpv
      have ek := kept_succ (p := p) hv
      rw [if_neg (by rw [hpv]; simp)] at ek
      have hcv := fun x => hc x v
      rw [hpv] at hcv
      have hms : ((keptC p l j).map AV.i ++ List.replicate z (AV.i 0)).set (kept p (l.take j)).length (AV.i v) = (keptC p l (j + 1)).map AV.i ++ List.replicate z (AV.i 0) := by
        rw [List.set_append_left _ _ (by rw [List.length_map, hcl]; omega), map_setI, es]
      have wl1 : (kept p (l.take j)).length + 1 ≤ l.length + z := by omega
      have wl2 : (kept p (l.take j)).length < l.length + z := by omega
      repeat' (first | ((first | refine aops_nil ?_ | refine aqops_nil ?_); (try simp only [NB])) | ((repeat ((fail_if_success (refine hK _ ?_)); clear hK K)); refine hK _ ?_; clear hK K) | ((first | refine aops_k fun K1 hK1 => ?_ | refine aqops_k fun K1 hK1 => ?_ | refine awp_cond_k fun A B hA hB => ?_); simp only [S1, simprocAttr, TTScG, jl, j0, w0, wl, wl1, wl2, hnx, hnw, hg, hss, hd, hms, hcl, List.length_append, List.length_map, List.length_replicate, Int.toNat_natCast, Nat.mul_one, Nat.zero_add]; first | (refine hK1 _ ?_; clear hK1 K1) | ((first | refine hA ?_ | refine hB ?_); clear hA hB A B) | ((first | apply call_a hE | apply call_q hE); exact (hcv _); (refine hK1 _ ?_; clear hK1 K1)) | (refine join_x (v := ?_) (fun hg hk9 => ?_) ?_; rotate_left; (focus (try ((try simp only [BN] at hg); simp only [S1, simprocAttr, TTScG, jl, j0, w0, wl, wl1, wl2, hnx, hnw, hg, hss, hd, hms, hcl, List.length_append, List.length_map, List.length_replicate, Int.toNat_natCast, Nat.mul_one, Nat.zero_add, hg] at hk9 ⊢)); first | exact hk9 | ((first | apply call_a hE | apply call_q hE); exact (hcv _); exact hk9)); (refine hK1 _ ?_; clear hK1 K1)) | (((first | (refine ⟨fun hg => hA ?_, fun hg => hB ?_⟩ <;> clear hA hB A B) | refine ⟨fun hg => ?_, fun hg => ?_⟩) <;> (try simp only [BN2] at hg) <;> (try simp only [hg, cond_true, cond_false])) <;> (try (refine hK1 _ ?_; clear hK1 K1)) <;> (try simp only [BN3] at hg))) | (refine awp_seq_k fun K hK => ?_) | ((first | refine awp_region ?_ | refine awp_draw (by kernel_rfl) ?_ | refine awp_block ?_ | refine awp_exit ?_ | refine awp_skip ?_ | refine awp_ret ?_); (try simp only [NB, simprocAttr])))
      all_goals refine ⟨hlt2, trivial, ?_⟩
      all_goals simp only [hj1, ek, List.length_append, List.length_cons, List.length_nil, Nat.zero_add]
      all_goals refine ⟨rfl, ⟨[], by simp⟩, ?_, trivial⟩
      all_goals simp only [keeps, avlt, avlts, blksLt, frL, upd_get, List.length_set, S1, simprocAttr, List.length_map, List.length_cons, List.length_nil, Int.natCast_zero, AV.p.injEq, PV.int.injEq, PV.bool.injEq, PV.sl.injEq] <;> (try and_intros) <;> (try assumption) <;> (try trivial) <;> (try omega)
  · have hjl : j = l.length := by omega
    subst hjl
    have ek : kept p (l.take l.length) = kept p l := by rw [List.take_length]
    have hlk : (kept p l).length ≤ l.length - 1 := by
      have h1' : kept p l = kept p (l.take (i0 + 1)) ++ kept p (l.drop (i0 + 1)) := by
        unfold kept; rw [← List.filter_append, List.take_append_drop]
      rw [h1', List.length_append, el0]
      have := kept_le p (l.drop (i0 + 1))
      rw [List.length_drop] at this
      omega
    have ecl : keptC p l l.length = kept p l ++ l.drop (kept p l).length := by unfold keptC; rw [ek]
    rw [ek, ecl]
    rw [ek] at w0
    have hnz : ¬ (l.length - (kept p l).length = 0) := by omega
    have wle : (kept p l).length ≤ l.length := by omega
    have wleI : ((kept p l).length : Int) ≤ (l.length : Int) := by omega
    have htk : ((kept p l ++ l.drop (kept p l).length).map AV.i ++ List.replicate z (AV.i 0)).take (kept p l).length = (kept p l).map AV.i := by
      rw [List.map_append, List.append_assoc]; exact List.take_left' (by simp)
    have hdr : ((kept p l ++ l.drop (kept p l).length).map AV.i ++ List.replicate z (AV.i 0)).drop l.length = List.replicate z (AV.i 0) := List.drop_left' (by simp; omega)
    have hfit : (kept p l).length + (l.length - (kept p l).length) = l.length := by omega
    have hcl2 : ((kept p l ++ l.drop (kept p l).length).map AV.i ++ List.replicate z (AV.i 0)).length = l.length + z := by simp; omega
    have hle2 : l.length ≤ l.length + z := by omega
    repeat' (first | ((first | refine aops_nil ?_ | refine aqops_nil ?_); (try simp only [NB])) | ((repeat ((fail_if_success (refine hK _ ?_)); clear hK K)); refine hK _ ?_; clear hK K) | ((first | refine aops_k fun K1 hK1 => ?_ | refine aqops_k fun K1 hK1 => ?_ | refine awp_cond_k fun A B hA hB => ?_); simp only [S1, simprocAttr, TTScG, Int.lt_irrefl, w0, wle, wleI, hnz, hg, hss, htk, hdr, hfit, hcl2, hle2, Int.toNat_natCast, Nat.mul_one, Nat.zero_add, Nat.sub_zero, Nat.le_refl]; first | (refine hK1 _ ?_; clear hK1 K1) | ((first | refine hA ?_ | refine hB ?_); clear hA hB A B) | (refine join_x (v := ?_) (fun hg hk9 => ?_) ?_; rotate_left; (focus (try ((try simp only [BN] at hg); simp only [S1, simprocAttr, TTScG, Int.lt_irrefl, w0, wle, wleI, hnz, hg, hss, htk, hdr, hfit, hcl2, hle2, Int.toNat_natCast, Nat.mul_one, Nat.zero_add, Nat.sub_zero, Nat.le_refl, hg] at hk9 ⊢)); first | exact hk9); (refine hK1 _ ?_; clear hK1 K1)) | (((first | (refine ⟨fun hg => hA ?_, fun hg => hB ?_⟩ <;> clear hA hB A B) | refine ⟨fun hg => ?_, fun hg => ?_⟩) <;> (try simp only [BN2] at hg) <;> (try simp only [hg, cond_true, cond_false])) <;> (try (refine hK1 _ ?_; clear hK1 K1)) <;> (try simp only [BN3] at hg))) | (refine awp_seq_k fun K hK => ?_) | ((first | refine awp_region ?_ | refine awp_draw (by kernel_rfl) ?_ | refine awp_block ?_ | refine awp_exit ?_ | refine awp_skip ?_ | refine awp_ret ?_); (try simp only [NB, simprocAttr])))
    all_goals refine ⟨.inr trivial, _, Ghost.refl, FinK_tmp (t := 4) rfl (by simp) ⟨rfl, ?_⟩⟩
    all_goals simp only [rep_flat, List.replicate_append_replicate]
end Go.Proofs.Ytkmcecbglomemaa.AM
end

section
/-
  DERIVED: THE SHELF's CONTRACTS AT THIS DUMP, IN PLAIN WORDS (tools/lay-plain.mjs out of 'SoLayx.lean', which tools/lay-shelf.mjs wrote): THE SAME DECLARATIONS UNDER THE SAME NAMES: 'import', 'namespace', 'open', 'def', 'theorem' AND NOTHING ELSE: no command of the shelf's: FOR A HAND-IN. Each laying: the table of numbers ('.._ren') and one theorem, a field a fact of the dump's own or the kernel's comparison; each contract: ONE APPLICATION.
-/
namespace Go.Proofs
open Go.Shelf
def Try.sortIv_ren : Go.Shelf.Ren := ⟨fun | 6 => 36 | 15 => 42 | 14 => 41 | 28 => 54 | 29 => 55 | 20 => 46 | 21 => 47 | 22 => 48 | 23 => 49 | 24 => 50 | 25 => 51 | 26 => 52 | 27 => 53 | 46 => 57 | 47 => 58 | 48 => 59 | 49 => 60 | 50 => 61 | 57 => 62 | n => n, fun | 22 => 45 | 24 => 3 | 25 => 72 | 3 => 3 | 39 => 76 | 0 => 0 | 53 => 87 | 55 => 89 | 4 => 4 | 46 => 80 | 45 => 79 | 50 => 84 | 5 => 5 | 9 => 9 | 66 => 91 | 70 => 95 | 76 => 97 | 77 => 98 | n => n, fun | n => n⟩
theorem Try.sortIv : Go.Proofs.SlLaysF.n6 Try.prog Try.sortIv_ren := {
  mixed := by kernel_rfl
  f6 := ⟨Try.f36.name, by decide, Try.func36.trans (congrArg some (by kernel_rfl))⟩
  f14 := ⟨Try.f41.name, by decide, Try.func41.trans (congrArg some (by kernel_rfl))⟩
  f15 := Try.func42.trans (congrArg some (by kernel_rfl))
  f20 := ⟨Try.f46.name, by decide, Try.func46.trans (congrArg some (by kernel_rfl))⟩
  f21 := ⟨Try.f47.name, by decide, Try.func47.trans (congrArg some (by kernel_rfl))⟩
  f22 := ⟨Try.f48.name, by decide, Try.func48.trans (congrArg some (by kernel_rfl))⟩
  f23 := ⟨Try.f49.name, by decide, Try.func49.trans (congrArg some (by kernel_rfl))⟩
  f24 := ⟨Try.f50.name, by decide, Try.func50.trans (congrArg some (by kernel_rfl))⟩
  f25 := ⟨Try.f51.name, by decide, Try.func51.trans (congrArg some (by kernel_rfl))⟩
  f26 := ⟨Try.f52.name, by decide, Try.func52.trans (congrArg some (by kernel_rfl))⟩
  f27 := ⟨Try.f53.name, by decide, Try.func53.trans (congrArg some (by kernel_rfl))⟩
  f28 := Try.func54.trans (congrArg some (by kernel_rfl))
  f29 := Try.func55.trans (congrArg some (by kernel_rfl))
  f46 := ⟨Try.f57.name, by decide, Try.func57.trans (congrArg some (by kernel_rfl))⟩
  f47 := Try.func58.trans (congrArg some (by kernel_rfl))
  f48 := Try.func59.trans (congrArg some (by kernel_rfl))
  f49 := ⟨Try.f60.name, by decide, Try.func60.trans (congrArg some (by kernel_rfl))⟩
  f50 := ⟨Try.f61.name, by decide, Try.func61.trans (congrArg some (by kernel_rfl))⟩
  f57 := ⟨Try.f62.name, by decide, Try.func62.trans (congrArg some (by kernel_rfl))⟩
  t0 := Try.underlying0
  a0 := Try.isAgg0
  z0 := Try.sizeOf0
  v0 := Try.zeroValue0
  t3 := Try.underlying3
  a3 := Try.isAgg3
  z3 := Try.sizeOf3
  v3 := Try.zeroValue3
  t4 := Try.underlying4
  a4 := Try.isAgg4
  z4 := Try.sizeOf4
  v4 := Try.zeroValue4
  t5 := Try.underlying5
  a5 := Try.isAgg5
  z5 := Try.sizeOf5
  v5 := Try.zeroValue5
  t9 := Try.underlying9
  a9 := Try.isAgg9
  z9 := Try.sizeOf9
  v9 := Try.zeroValue9
  t22 := Try.underlying45
  a22 := Try.isAgg45
  z22 := Try.sizeOf45
  v22 := Try.zeroValue45
  a24 := Try.isAgg3
  z24 := Try.sizeOf3
  t25 := Try.underlying72
  a25 := Try.isAgg72
  z25 := Try.sizeOf72
  v25 := Try.zeroValue72
  t39 := Try.underlying76
  a39 := Try.isAgg76
  z39 := Try.sizeOf76
  v39 := Try.zeroValue76
  t45 := Try.underlying79
  a45 := Try.isAgg79
  z45 := Try.sizeOf79
  v45 := Try.zeroValue79
  t46 := Try.underlying80
  a46 := Try.isAgg80
  z46 := Try.sizeOf80
  v46 := Try.zeroValue80
  t50 := Try.underlying84
  a50 := Try.isAgg84
  z50 := Try.sizeOf84
  v50 := Try.zeroValue84
  t53 := Try.underlying87
  a53 := Try.isAgg87
  z53 := Try.sizeOf87
  v53 := Try.zeroValue87
  t55 := Try.underlying89
  a55 := Try.isAgg89
  z55 := Try.sizeOf89
  v55 := Try.zeroValue89
  t66 := Try.underlying91
  a66 := Try.isAgg91
  z66 := Try.sizeOf91
  v66 := Try.zeroValue91
  t70 := Try.underlying95
  a70 := Try.isAgg95
  z70 := Try.sizeOf95
  v70 := Try.zeroValue95
  t76 := Try.underlying97
  a76 := Try.isAgg97
  z76 := Try.sizeOf97
  v76 := Try.zeroValue97
  t77 := Try.underlying98
  a77 := Try.isAgg98
  z77 := Try.sizeOf98
  v77 := Try.zeroValue98 }
end Go.Proofs
end

section
set_option linter.unusedVariables false
set_option linter.unusedSimpArgs false
namespace Go.Proofs.Ytkmcecbglomemaa.AM
open Go Go.ChangeShapes Go.WideShapes Go.RowKit

mutual
/-- The cells of a datum. -/
def cellsD {H : Type} : DataW H → List PV
  | .lit (.bool b) => [.bool b]
  | .lit (.int k n) => [.int k n]
  | .lit (.string l) => [.str ⟨l.toArray⟩]
  | .lit _ => []
  | .nil => [.sl []]
  | .slice elems _ => [.sl (rowsD elems)]
  | .agg parts => partsD parts
  | .ptr _ => []
  | .iface _ _ => []
  | .map _ => []
  | .held _ => []
def rowsD {H : Type} : List (DataW H) → List (List PV)
  | [] => []
  | d :: r => cellsD d :: rowsD r
def partsD {H : Type} : List (DataW H) → List PV
  | [] => []
  | d :: r => cellsD d ++ partsD r
end

/-- Types that are read as plain data, and lie in a row. -/
def plainT (P : Program) (S : List Nat) (t : Nat) : Bool :=
  match P.underlying t with
  | some .bool | some (.int _) | some .string => P.cellsOf t == 1
  | some (.slice e) => S.contains e && decide (0 < P.cellsOf e) && P.cellsOf t == 1
  | some (.array n e) => S.contains e && P.cellsOf t == n * P.cellsOf e
  | some (.struct fs) => fs.toList.all (fun f => S.contains f.type) &&
      (fs.toList.foldl (fun (acc : Option Nat) f => acc.bind fun o => if f.offset == o then some (o + P.cellsOf f.type) else none) (some 0) == some (P.cellsOf t))
  | _ => false

def plainB (P : Program) (S : List Nat) : Bool := S.all (plainT P S)

/-- Typed cells. -/
def Ty (P : Program) : Nat → Nat → List PV → Prop
  | 0, _, _ => False
  | fuel + 1, t, xs =>
    match P.underlying t with
    | some .bool => ∃ b, xs = [.bool b]
    | some (.int k) => ∃ n, InRange k n ∧ xs = [.int k n]
    | some .string => ∃ s, xs = [.str s]
    | some (.slice e) => ∃ rows, xs = [.sl rows] ∧ ∀ row ∈ rows, Ty P fuel e row
    | some (.array n e) => ∃ rows : List (List PV), rows.length = n ∧ xs = rows.flatMap id ∧ ∀ row ∈ rows, Ty P fuel e row
    | some (.struct fs) => ∃ rows : List (List PV), rows.length = fs.size ∧ xs = rows.flatMap id ∧ ∀ (i : Nat) f row, fs[i]? = some f → rows[i]? = some row → Ty P fuel f.type row
    | _ => False

def LR (w : World) (xs : List PV) (cs : List Value) : Prop := xs.length = cs.length ∧ ∀ (i : Nat) x v, xs[i]? = some x → cs[i]? = some v → PRel w (fun _ => False) x v

section
variable {P : Program} {w : World} {H : Type} {enc : TypeId × Value → H} {spare : Nat → Bool} {held : Bool}

theorem mapM_some' {α β : Type} {f : α → Option β} : ∀ {l : List α} {r : List β}, l.mapM f = some r → r.length = l.length ∧ ∀ (i : Nat) x y, l[i]? = some x → r[i]? = some y → f x = some y
  | [], r, h => by simp at h; subst h; simp
  | a :: l, r, h => by
    simp only [List.mapM_cons] at h
    cases ha : f a with
    | none => simp [ha] at h
    | some b =>
      cases hl : l.mapM f with
      | none => simp [ha, hl] at h
      | some bs =>
        simp [ha, hl] at h
        subst h
        obtain ⟨l1, l2⟩ := mapM_some' hl
        refine ⟨by simp [l1], fun i x y hx hy => ?_⟩
        cases i with
        | zero => simp at hx hy; rw [← hx, ← hy]; exact ha
        | succ i => simp at hx hy; exact l2 i x y hx hy

theorem LR.append {xs ys : List PV} {cs ds : List Value} (h1 : LR w xs cs) (h2 : LR w ys ds) : LR w (xs ++ ys) (cs ++ ds) := by
  refine ⟨by simp [h1.1, h2.1], fun i x v hx hv => ?_⟩
  by_cases hi : i < xs.length
  · rw [List.getElem?_append_left hi] at hx
    rw [List.getElem?_append_left (by rw [← h1.1]; exact hi)] at hv
    exact h1.2 i x v hx hv
  · rw [List.getElem?_append_right (by omega)] at hx
    rw [List.getElem?_append_right (by rw [← h1.1]; omega), ← h1.1] at hv
    exact h2.2 _ x v hx hv

theorem rowsD_get (ds : List (DataW H)) : ∀ i : Nat, (rowsD ds)[i]? = (ds[i]?).map cellsD := by
  induction ds with
  | nil => intro i; simp [rowsD]
  | cons d r ih => intro i; cases i with
    | zero => simp [rowsD]
    | succ i => simp [rowsD, ih]

theorem rowsD_length (ds : List (DataW H)) : (rowsD ds).length = ds.length := by
  induction ds with
  | nil => rfl
  | cons d r ih => simp [rowsD, ih]

theorem partsD_eq (ds : List (DataW H)) : partsD ds = (rowsD ds).flatMap id := by
  induction ds with
  | nil => rfl
  | cons d r ih => simp [partsD, rowsD, ih]

/-- Rows that lie behind each other. -/
theorem LR.rows : ∀ (rows : List (List PV)) (sizes : List Nat) (cs : List Value), rows.length = sizes.length → cs.length = sizes.foldl (· + ·) 0 →
    (∀ (i : Nat) row n, rows[i]? = some row → sizes[i]? = some n → LR w row ((cs.drop ((sizes.take i).foldl (· + ·) 0)).take n)) → LR w (rows.flatMap id) cs := by
  have hf : ∀ (l : List Nat) (a : Nat), l.foldl (· + ·) a = a + l.foldl (· + ·) 0 := by
    intro l
    induction l with
    | nil => intro a; rfl
    | cons x r ih => intro a; simp only [List.foldl_cons]; rw [ih, ih (0 + x)]; omega
  intro rows
  induction rows with
  | nil =>
    intro sizes cs hl hc _
    cases sizes with
    | nil => simp at hc; subst hc; exact ⟨rfl, fun i x v hx => by simp at hx⟩
    | cons => simp at hl
  | cons row rest ih =>
    intro sizes cs hl hc h
    cases sizes with
    | nil => simp at hl
    | cons n ns =>
      simp only [List.foldl_cons] at hc
      rw [hf] at hc
      have h0 := h 0 row n rfl rfl
      simp at h0
      have hrest : LR w (rest.flatMap id) (cs.drop n) := by
        refine ih ns (cs.drop n) (by simpa using hl) (by simp; omega) fun i r m hr hm => ?_
        have := h (i + 1) r m (by simpa using hr) (by simpa using hm)
        simp only [List.take_succ_cons, List.foldl_cons] at this
        rw [hf] at this
        rw [List.drop_drop]
        simpa using this
      have := h0.append hrest
      simpa using this

theorem cells?_some {a : Addr} {n : Nat} {cs : List Value} (h : w.cells? 0 a n = some cs) : cs.length = n ∧ ∀ (i : Nat) v, cs[i]? = some v → w.cell? (a.add i) = some v := by
  unfold World.cells? at h
  simp only [Nat.zero_le, if_true] at h
  obtain ⟨l1, l2⟩ := mapM_some' h
  refine ⟨by simpa using l1, fun i v hv => ?_⟩
  have hi : i < n := by have := getElem?_lt hv; simp at l1; omega
  exact l2 i i v (by simp [hi]) hv

theorem trodPV {S : List Nat} (hS : plainB P S = true) : ∀ (fuel t : Nat) (cs : List Value) (x : DataW H × List MemPlace), t ∈ S → DataW.trod enc P w 0 spare held fuel t cs = some x →
    LR w (cellsD x.1) cs ∧ Ty P fuel t (cellsD x.1) ∧ cs.length = P.cellsOf t := by
  have hpl : ∀ t ∈ S, plainT P S t = true := by simpa [plainB] using hS
  intro fuel
  induction fuel with
  | zero => intro t cs x _ h; simp [DataW.trod] at h
  | succ fuel ih =>
    intro t cs x ht h
    have hp := hpl t ht
    unfold plainT at hp
    unfold Ty
    have one : ∀ (y : PV) (v : Value), PRel w (fun _ => False) y v → LR w [y] [v] := by
      intro y v hy
      refine ⟨rfl, fun i x v hx hv => ?_⟩
      cases i with
      | zero => simp at hx hv; rw [← hx, ← hv]; exact hy
      | succ i => simp at hx
    cases hu : P.underlying t with
    | none => rw [hu] at hp; simp at hp
    | some d =>
      rw [hu] at hp
      cases d with
      | bool =>
        simp only [beq_iff_eq] at hp
        obtain ⟨b, rfl, rfl⟩ := DataW.trod_bool hu h
        exact ⟨one _ _ (.bool b), ⟨b, rfl⟩, hp.symm⟩
      | int k =>
        simp only [beq_iff_eq] at hp
        obtain ⟨n, rfl, rfl, hw⟩ := DataW.trod_int hu h
        have hr : InRange k n := by
          simp only [Lit.wf] at hw
          unfold InRange
          simpa using hw
        exact ⟨one _ _ (.int _ _ hr), ⟨n, hr, rfl⟩, hp.symm⟩
      | string =>
        simp only [beq_iff_eq] at hp
        obtain ⟨s, rfl, rfl, hs⟩ := DataW.trod_string hu h
        have hm : s.size ≤ 9223372036854775807 := by unfold maxLen at hs; omega
        have e : (⟨s.data.toList.toArray⟩ : ByteArray) = s := by simp
        refine ⟨?_, ⟨_, rfl⟩, hp.symm⟩
        simp only [cellsD, e]
        exact one _ _ (.str s hm)
      | slice e =>
        simp only [Bool.and_eq_true, beq_iff_eq, decide_eq_true_eq, List.contains_iff_mem] at hp
        obtain ⟨⟨he, hpos⟩, h1⟩ := hp
        rcases DataW.trod_slice hu h with ⟨rfl, rfl⟩ | ⟨a, len, cap, elems, rest, m, hm, rfl, rfl, _, hlc, hcm, m1, m2, _⟩
        · exact ⟨one _ _ (.slz _ _), ⟨[], rfl, by simp⟩, h1.symm⟩
        · have : m = fuel := by omega
          subst this
          have hrow : ∀ (i : Nat) y, elems[i]? = some y → ∃ rc, w.cells? 0 (a.add (i * P.cellsOf e)) (P.cellsOf e) = some rc ∧ LR w (cellsD y.1) rc ∧ Ty P m e (cellsD y.1) := by
            intro i y hy
            have hi : i < len := by have := getElem?_lt hy; omega
            have := m2 i hi
            rw [hy] at this
            obtain ⟨rc, hrc, ht'⟩ := Option.bind_eq_some_iff.mp this
            obtain ⟨q1, q2, _⟩ := ih e rc y he ht'
            exact ⟨rc, hrc, q1, q2⟩
          have hrg : ∀ i : Nat, (rowsD (elems.map (·.1)))[i]? = (elems[i]?).map fun y => cellsD y.1 := by
            intro i; rw [rowsD_get]; simp
            cases elems[i]? <;> rfl
          have hrl : (rowsD (elems.map (·.1))).length = len := by rw [rowsD_length]; simp [m1]
          have hmem : ∀ row ∈ rowsD (elems.map (·.1)), ∃ (i : Nat) (y : DataW H × List MemPlace), elems[i]? = some y ∧ cellsD y.1 = row := by
            intro row hr
            obtain ⟨i, hi, rfl⟩ := List.getElem_of_mem hr
            have h1 : (rowsD (elems.map (·.1)))[i]? = some ((rowsD (elems.map (·.1)))[i]) := List.getElem?_eq_getElem hi
            rw [hrg] at h1
            obtain ⟨y, hy, hye⟩ := Option.map_eq_some_iff.mp h1
            exact ⟨i, y, hy, hye⟩
          have hcd : cellsD (DataW.slice (elems.map (·.1)) (rest.map (·.1))) = [.sl (rowsD (elems.map (fun y : DataW H × List MemPlace => y.1)))] := by simp only [cellsD]
          show LR w (cellsD (DataW.slice (elems.map (·.1)) (rest.map (·.1)))) _ ∧ (∃ rows, cellsD (DataW.slice (elems.map (·.1)) (rest.map (·.1))) = [.sl rows] ∧ ∀ row ∈ rows, Ty P m e row) ∧ _
          rw [hcd]
          refine ⟨one (.sl (rowsD (elems.map (fun y : DataW H × List MemPlace => y.1)))) _ ?_, ⟨_, rfl, fun row hr => ?_⟩, h1.symm⟩
          · by_cases hz : len = 0
            · have : rowsD (elems.map (·.1)) = [] := List.eq_nil_of_length_eq_zero (by omega)
              rw [this, hz]
              exact .slz _ _
            · obtain ⟨y0, hy0⟩ : ∃ y, elems[0]? = some y := ⟨elems[0]'(by omega), by simp⟩
              obtain ⟨rc0, hrc0, _, _⟩ := hrow 0 y0 hy0
              obtain ⟨c1, c2⟩ := cells?_some hrc0
              have hc0 : w.cell? a = some (rc0[0]'(by omega)) := by
                have := c2 0 (rc0[0]'(by omega)) (by simp)
                simpa [Addr.add] using this
              have hspot : a.spot = none := by
                unfold World.cell? at hc0
                split at hc0
                · split at hc0
                  · cases hc0
                  · rename_i hs; simpa using hs
                · cases hc0
              obtain ⟨blk, off, sp⟩ := a
              simp only at hspot
              subst hspot
              have hb := block_lt_of_cell hc0
              have hf : ∀ q : Nat × Nat, ∃ v, ∀ x, get2 (rowsD (elems.map (·.1))) q.1 q.2 = some x → w.cell? ⟨blk, off + (q.1 * P.cellsOf e + q.2), none⟩ = some v ∧ PRel w (fun _ => False) x v := by
                intro q
                cases hq : get2 (rowsD (elems.map (·.1))) q.1 q.2 with
                | none => exact ⟨undef, fun x hx => by cases hx⟩
                | some x =>
                  unfold get2 at hq
                  obtain ⟨row, hr1, hr2⟩ := Option.bind_eq_some_iff.mp hq
                  rw [hrg] at hr1
                  obtain ⟨y, hy, rfl⟩ := Option.map_eq_some_iff.mp hr1
                  obtain ⟨rc, hrc, ⟨l1, l2⟩, _⟩ := hrow q.1 y hy
                  obtain ⟨d1, d2⟩ := cells?_some hrc
                  have hj : q.2 < rc.length := by have := getElem?_lt hr2; omega
                  refine ⟨rc[q.2], fun x' hx' => ?_⟩
                  cases hx'
                  refine ⟨?_, l2 q.2 x rc[q.2] hr2 (by simp)⟩
                  have := d2 q.2 rc[q.2] (by simp)
                  rw [Addr.add_lit, Addr.add_lit] at this
                  rw [← Nat.add_assoc]
                  exact this
              obtain ⟨f, hf⟩ := Classical.axiomOfChoice hf
              have := PRel.sl (w := w) (own := fun _ => False) (rowsD (elems.map (·.1))) blk off cap (P.cellsOf e) (fun i j => f (i, j)) (by omega) (by unfold maxLen at hcm; omega) (fun h => h) hb
                (fun row hr => by
                  obtain ⟨i, y, hy, hye⟩ := hmem row hr
                  obtain ⟨rc, hrc, ⟨l1, _⟩, _⟩ := hrow i y hy
                  rw [← hye, l1, (cells?_some hrc).1])
                (fun i j x hx => (hf (i, j) x hx).1) (fun i j x hx => (hf (i, j) x hx).2)
              rwa [hrl] at this
          · obtain ⟨i, y, hy, hye⟩ := hmem row hr
            obtain ⟨rc, hrc, _, q⟩ := hrow i y hy
            rw [← hye]; exact q
      | array n e =>
        simp only [Bool.and_eq_true, beq_iff_eq, List.contains_iff_mem] at hp
        obtain ⟨he, hc⟩ := hp
        obtain ⟨xs, m, hm, rfl, hlen, m1, m2⟩ := DataW.trod_array hu h
        have : m = fuel := by omega
        subst this
        have hrg : ∀ i : Nat, (rowsD (xs.map (·.1)))[i]? = (xs[i]?).map fun y => cellsD y.1 := by
          intro i; rw [rowsD_get]; simp
          cases xs[i]? <;> rfl
        have hrl : (rowsD (xs.map (·.1))).length = n := by rw [rowsD_length]; simp [m1]
        have hrow : ∀ (i : Nat) y, xs[i]? = some y → LR w (cellsD y.1) ((cs.drop (i * P.cellsOf e)).take (P.cellsOf e)) ∧ Ty P m e (cellsD y.1) := by
          intro i y hy
          have hi : i < n := by have := getElem?_lt hy; omega
          obtain ⟨q1, q2, _⟩ := ih e _ y he ((m2 i hi).trans hy)
          exact ⟨q1, q2⟩
        refine ⟨?_, ⟨rowsD (xs.map (·.1)), hrl, by simp only [cellsD, partsD_eq], fun row hr => ?_⟩, hlen⟩
        · simp only [cellsD, partsD_eq]
          have hsum : ∀ m : Nat, (List.replicate m (P.cellsOf e)).foldl (· + ·) 0 = m * P.cellsOf e := by
            intro m
            have hf : ∀ (l : List Nat) (a : Nat), l.foldl (· + ·) a = a + l.foldl (· + ·) 0 := by
              intro l
              induction l with
              | nil => intro a; rfl
              | cons x r ih => intro a; simp only [List.foldl_cons]; rw [ih, ih (0 + x)]; omega
            induction m with
            | zero => simp
            | succ m ih => rw [List.replicate_succ, List.foldl_cons, hf, ih, Nat.succ_mul]; omega
          refine LR.rows _ (List.replicate n (P.cellsOf e)) cs (by simp [hrl]) (by rw [hsum, hlen, hc]) fun i row k hr hk => ?_
          rw [hrg] at hr
          obtain ⟨y, hy, rfl⟩ := Option.map_eq_some_iff.mp hr
          have hi : i < n := by have := getElem?_lt hy; omega
          rw [List.getElem?_replicate, if_pos hi] at hk
          cases hk
          rw [List.take_replicate, show min i n = i by omega, hsum]
          exact (hrow i y hy).1
        · obtain ⟨i, hi, rfl⟩ := List.getElem_of_mem hr
          have h1 : (rowsD (xs.map (·.1)))[i]? = some ((rowsD (xs.map (·.1)))[i]) := List.getElem?_eq_getElem hi
          rw [hrg] at h1
          obtain ⟨y, hy, hye⟩ := Option.map_eq_some_iff.mp h1
          rw [← hye]; exact (hrow i y hy).2
      | struct fs =>
        rw [Bool.and_eq_true, List.all_eq_true, beq_iff_eq] at hp
        obtain ⟨hfs0, hoff⟩ := hp
        have hfs : ∀ f ∈ fs.toList, f.type ∈ S := fun f hf => by simpa using hfs0 f hf
        obtain ⟨xs, m, hm, rfl, hlen, m1, m2⟩ := DataW.trod_struct hu h
        have : m = fuel := by omega
        subst this
        have hrg : ∀ i : Nat, (rowsD (xs.map (·.1)))[i]? = (xs[i]?).map fun y => cellsD y.1 := by
          intro i; rw [rowsD_get]; simp
          cases xs[i]? <;> rfl
        have hrl : (rowsD (xs.map (·.1))).length = fs.toList.length := by rw [rowsD_length]; simp [m1]
        have hrow : ∀ (i : Nat) y f, xs[i]? = some y → fs.toList[i]? = some f → LR w (cellsD y.1) ((cs.drop f.offset).take (P.cellsOf f.type)) ∧ Ty P m f.type (cellsD y.1) := by
          intro i y f hy hf
          obtain ⟨q1, q2, _⟩ := ih f.type _ y (hfs f (List.mem_of_getElem? hf)) ((m2 i f (by simpa using hf)).trans hy)
          exact ⟨q1, q2⟩
        -- the offsets are sums
        have hgen : ∀ (l : List Field) (o tot : Nat), l.foldl (fun (acc : Option Nat) f => acc.bind fun o => if f.offset == o then some (o + P.cellsOf f.type) else none) (some o) = some tot →
            tot = o + (l.map fun f => P.cellsOf f.type).foldl (· + ·) 0 ∧ ∀ (i : Nat) f, l[i]? = some f → f.offset = o + ((l.map fun f => P.cellsOf f.type).take i).foldl (· + ·) 0 := by
          have hf : ∀ (l : List Nat) (a : Nat), l.foldl (· + ·) a = a + l.foldl (· + ·) 0 := by
            intro l
            induction l with
            | nil => intro a; rfl
            | cons x r ih => intro a; simp only [List.foldl_cons]; rw [ih, ih (0 + x)]; omega
          have hnone : ∀ l : List Field, l.foldl (fun (acc : Option Nat) f => acc.bind fun o => if f.offset == o then some (o + P.cellsOf f.type) else none) none = none := by
            intro l; induction l with
            | nil => rfl
            | cons f r ih => simpa using ih
          intro l
          induction l with
          | nil => intro o tot h; simp at h; subst h; simp
          | cons f r ihl =>
            intro o tot h
            simp only [List.foldl_cons, Option.bind_some] at h
            split at h
            · rename_i ho
              obtain ⟨e1, e2⟩ := ihl _ _ h
              refine ⟨by simp only [List.map_cons, List.foldl_cons]; rw [hf]; omega, fun i g hg => ?_⟩
              cases i with
              | zero => simp at hg ho; subst hg; simpa using ho
              | succ i =>
                simp at hg
                have := e2 i g hg
                simp only [List.map_cons, List.take_succ_cons, List.foldl_cons]
                rw [hf]; omega
            · rw [hnone] at h; cases h
        obtain ⟨g1, g2⟩ := hgen fs.toList 0 _ hoff
        refine ⟨?_, ⟨rowsD (xs.map (·.1)), by simpa using hrl, by simp only [cellsD, partsD_eq], fun i f row hf hr => ?_⟩, hlen⟩
        · simp only [cellsD, partsD_eq]
          refine LR.rows _ (fs.toList.map fun f => P.cellsOf f.type) cs (by simpa using hrl) (by omega) fun i row k hr hk => ?_
          rw [hrg] at hr
          obtain ⟨y, hy, rfl⟩ := Option.map_eq_some_iff.mp hr
          simp only [List.getElem?_map, Option.map_eq_some_iff] at hk
          obtain ⟨f, hf, rfl⟩ := hk
          have := g2 i f hf
          rw [Nat.zero_add] at this
          rw [← this]
          exact (hrow i y f hy hf).1
        · rw [hrg] at hr
          obtain ⟨y, hy, rfl⟩ := Option.map_eq_some_iff.mp hr
          exact (hrow i y f hy (by simpa using hf)).2
      | _ => simp at hp

end
end Go.Proofs.Ytkmcecbglomemaa.AM
end

section
set_option linter.unusedVariables false
set_option linter.unusedSimpArgs false
namespace Go.Proofs.Ytkmcecbglomemaa.AM
open Go Go.ChangeShapes Go.WideShapes Go.RowKit

def aggT (P : Program) (t : Nat) : Bool := match P.underlying t with | some (.struct _) | some (.array _ _) => true | _ => false

/-- An argument out of its cells. -/
def argA (P : Program) (t : Nat) (xs : List PV) : AV :=
  if aggT P t then .agg (xs.map .p) else match xs with | x :: _ => .p x | [] => .undef

section
variable {P : Program} {G : Nat → Option (List PV)} {H : Type} {enc : TypeId × Value → H}

/-- 'ChangeSpec.post' where all that was there is as it was. (After the guide's 'post_of_below', howto/extra-small.md, section 9.) -/
theorem post_of_below {f : Func} {s : ChangeSpec} {apart fresh handsOn again : Bool} {W W' : World} {args : Array Value} {v : Value} {ds gs : List (DataW H)} {before pa pv : List MemPlace}
    (hW : DataW.Whole enc P f.params.toList s.vars apart W args.toList ds gs before)
    (hres : ∀ (b : Nat) (sp : Nat → Bool) (hd : Bool), DataW.TrodAll enc P W' b sp hd f.resultTypes.toList (v.resultList f.resultTypes.size) (s.fn H (ds ++ gs)).results [])
    (hargs : ∀ sp : Nat → Bool, (∀ p ∈ before, sp p.block = true) → DataW.TrodAll enc P W' 0 sp true f.params.toList args.toList (s.fn H (ds ++ gs)).args pa)
    (hvars : ∀ sp : Nat → Bool, (∀ p ∈ before, sp p.block = true) → DataW.TrodVars enc P W' sp s.vars (s.fn H (ds ++ gs)).vars pv)
    (hps : before = pa ++ pv) (hb : Below W.heap.size W W')
    (hok : ∀ (j : Nat) (t : TypeId) (r : Value), f.resultTypes[j]? = some t → (v.resultList f.resultTypes.size)[j]? = some r → Value.okWide P W' .any 0 t r) :
    s.post enc P f apart fresh handsOn again W args v W' := by
  have hlt : ∀ p ∈ before, p.block < W.heap.size := fun p hp => hW.lt p hp
  have hold : ∀ p ∈ before, (fun b => decide (b < W.heap.size)) p.block = true := fun p hp => by simpa using hlt p hp
  refine ⟨ds, gs, before, [], pa, pv, hW, hres _ _ _, hargs _ hold, hvars _ hold, World.keptBut_mono (fun p hp => ⟨hp, ?_⟩) (hb.frame (· ∈ before)), fun _ => ?_⟩
  · rw [hps, List.mem_append] at hp
    exact Or.inr hp
  · obtain ⟨_, _, _, _, _, hz, hn⟩ := hW
    refine ⟨hok, _, _, ([] ++ pa) ++ pv, ⟨[] ++ pa, pv, trodAll_append (hargs _ (fun _ _ => rfl)) (hres _ _ _), hvars _ (fun _ _ => rfl), rfl, ?_, ?_⟩, ?_⟩
    · intro b off hp
      have hin : MemPlace.cell b off ∈ before := by rw [hps]; simpa using hp
      rw [hb.frozen (hlt _ hin)]
      exact hz b off hin
    · intro ha
      have := hn ha
      rw [hps] at this
      simpa using this
    · intro p hp _
      rw [hps]
      simpa using hp

theorem own_nil {ι : Nat → Nat × Nat} {k : Nat} : ¬ own ι [] k := fun ⟨b, bk, h, _⟩ => by simp at h

theorem PRel.weak {w : World} {o : Nat → Prop} {x : PV} {v : Value} (h : PRel w (fun _ => False) x v) (ho : ∀ k, ¬ o k) : PRel w o x v :=
  h.mono (Nat.le_refl _) fun k _ _ => ⟨rfl, ho k⟩

theorem arg_rel {W : World} {S : List Nat} (hS : plainB P S = true) {t : Nat} (ht : t ∈ S) {sp : Nat → Bool} {held : Bool} {v : Value} {d : DataW H} {ps : List MemPlace} (hd : DataW.Trod enc P W 0 sp held t v d ps)
    {r : Reach} {b0 : Nat} (hok : Value.okWide P W r b0 t v) (ι : Nat → Nat × Nat) : VRel ι [] W (argA P t (cellsD d)) v ∧ ∃ fuel, Ty P fuel t (cellsD d) := by
  obtain ⟨fuel, hf⟩ := hd
  obtain ⟨⟨l1, l2⟩, hty, hlen⟩ := trodPV hS fuel t _ _ ht hf
  refine ⟨?_, fuel, hty⟩
  unfold argA aggT
  unfold Value.okWide at hok
  have hpl : plainT P S t = true := by
    have : ∀ t ∈ S, plainT P S t = true := by simpa [plainB] using hS
    exact this t ht
  unfold plainT at hpl
  have agg : ∀ cs, v = .agg cs → VRel ι [] W (.agg ((cellsD d).map .p)) v := by
    intro cs hc
    subst hc
    refine .agg _ _ (by simpa [Value.cells] using l1) fun i x u hx hu => ?_
    simp only [List.getElem?_map, Option.map_eq_some_iff] at hx
    obtain ⟨y, hy, rfl⟩ := hx
    exact .p _ _ ((l2 i y u hy (by simpa [Value.cells] using hu)).weak fun _ => own_nil)
  cases hu : P.underlying t with
  | none => rw [hu] at hpl; simp at hpl
  | some D =>
    rw [hu] at hok hpl
    have one : P.cellsOf t = 1 → (∀ cs, v ≠ .agg cs) → VRel ι [] W (match cellsD d with | x :: _ => .p x | [] => .undef) v := by
      intro h1 hna
      have hc : v.cells = #[v] := by cases v <;> first | rfl | exact absurd rfl (hna _)
      rw [hc] at l1 l2
      match hq : cellsD d, l1, l2 with
      | [x], l1, l2 => exact .p _ _ ((l2 0 x v rfl rfl).weak fun _ => own_nil)
      | [], l1, _ => simp at l1
      | _ :: _ :: _, l1, _ => simp at l1
    cases D with
    | struct fs => obtain ⟨cs, hc, _⟩ := hok; simpa using agg cs hc
    | array n e => obtain ⟨cs, hc, _⟩ := hok; simpa using agg cs hc
    | bool => simpa using one (by simpa using hpl) (fun cs e => by subst e; simp [Cell.okWide, hu, Cell.ok] at hok)
    | int k => simpa using one (by simpa using hpl) (fun cs e => by subst e; simp [Cell.okWide, hu, Cell.ok] at hok)
    | string => simpa using one (by simpa using hpl) (fun cs e => by subst e; simp [Cell.okWide, hu, Cell.ok] at hok)
    | slice e => 
      have h1 : P.cellsOf t = 1 := by simp only [Bool.and_eq_true, beq_iff_eq] at hpl; exact hpl.2
      simpa using one h1 (fun cs e => by subst e; simp [Cell.okWide, hu, Cell.ok] at hok)
    | _ => simp at hpl

theorem args_rel {W : World} {S : List Nat} (hS : plainB P S = true) {sp : Nat → Bool} {held : Bool} {r : Reach} {b0 : Nat} (ι : Nat → Nat × Nat) :
    ∀ (ts : List Nat) (vs : List Value) (ds : List (DataW H)) (ps : List MemPlace), (∀ t ∈ ts, t ∈ S) → DataW.TrodAll enc P W 0 sp held ts vs ds ps →
      (∀ (j : Nat) t v, ts[j]? = some t → vs[j]? = some v → Value.okWide P W r b0 t v) →
      ds.length = ts.length ∧ vs.length = ts.length ∧ (∀ (j : Nat) t v d, ts[j]? = some t → vs[j]? = some v → ds[j]? = some d → VRel ι [] W (argA P t (cellsD d)) v ∧ ∃ fuel, Ty P fuel t (cellsD d))
  | [], [], [], ps, _, h, _ => ⟨rfl, rfl, fun j t v d ht => by simp at ht⟩
  | t :: ts, v :: vs, d :: ds, ps, hin, h, hok => by
    obtain ⟨p, q, h1, h2, rfl⟩ := h
    obtain ⟨l1, l2, l3⟩ := args_rel hS ι ts vs ds q (fun t ht => hin t (by simp [ht])) h2 (fun j t v ht hv => hok (j + 1) t v (by simpa using ht) (by simpa using hv))
    refine ⟨by simp [l1], by simp [l2], fun j t' v' d' ht hv hd => ?_⟩
    cases j with
    | zero =>
      simp at ht hv hd
      subst ht; subst hv; subst hd
      exact arg_rel hS (hin t (by simp)) h1 (hok 0 t v rfl rfl) ι
    | succ j => simp at ht hv hd; exact l3 j t' v' d' ht hv hd
  | [], [], _ :: _, _, _, h, _ => h.elim
  | [], _ :: _, _, _, _, h, _ => h.elim
  | _ :: _, [], _, _, _, h, _ => h.elim
  | _ :: _, _ :: _, [], _, _, h, _ => h.elim

theorem args_stay {W W' : World} (hl : laidOutB P = true) (hb : Below W.heap.size W W') {sp' : Nat → Bool} : ∀ (ts : List Nat) (vs : List Value) (ds : List (DataW H)) (ps : List MemPlace),
    (∀ t ∈ ts, P.readableRec t = true ∧ t < P.types.size) → DataW.TrodAll enc P W 0 (fun _ => true) true ts vs ds ps → (∀ p ∈ ps, p.block < W.heap.size) → (∀ p ∈ ps, sp' p.block = true) →
      DataW.TrodAll enc P W' 0 sp' true ts vs ds ps
  | [], [], [], ps, _, h, _, _ => h
  | t :: ts, v :: vs, d :: ds, ps, hin, h, hlt, hsp => by
    obtain ⟨p, q, h1, h2, rfl⟩ := h
    obtain ⟨r1, r2⟩ := hin t (by simp)
    exact ⟨p, q, WideElems.Trod_stays hl r1 r2 h1 (fun x hx => hb.same (hlt x (by simp [hx]))) (fun x hx => hsp x (by simp [hx])),
      args_stay hl hb ts vs ds q (fun t ht => hin t (by simp [ht])) h2 (fun x hx => hlt x (by simp [hx])) (fun x hx => hsp x (by simp [hx])), rfl⟩
  | [], [], _ :: _, _, _, h, _, _ => h.elim
  | [], _ :: _, _, _, _, h, _, _ => h.elim
  | _ :: _, [], _, _, _, h, _, _ => h.elim
  | _ :: _, _ :: _, [], _, _, h, _, _ => h.elim

/-- **A LAW**: from what abstract calls of it come to, what its row asks of each call. -/
theorem law_contract {f : FuncId} {fn : Func} {S : List Nat} (hS : plainB P S = true) (hl : laidOutB P = true) {ts : List Nat} (hts : fn.params.toList = ts) (hin : ∀ t ∈ ts, t ∈ S) (hrd : ∀ t ∈ ts, P.readableRec t = true ∧ t < P.types.size)
    {bt : Nat} (hres : fn.resultTypes = #[bt]) (hbt : P.underlying bt = some .bool)
    {s : ChangeSpec} (hsv : s.vars = []) (hsf : ∀ (H : Type) (ds : List (DataW H)), ds.length = ts.length → s.fn H ds = { results := [.lit (.bool true)], args := ds })
    (hlaw : ∀ xss : List (List PV), xss.length = ts.length → (∀ (j : Nat) t xs, ts[j]? = some t → xss[j]? = some xs → ∃ fuel, Ty P fuel t xs) →
      ACalls P G f (List.zipWith (argA P) ts xss) [] fun r h' => r = .b true ∧ h' = [])
    {apart fresh handsOn again : Bool} {W : World} (hG : ∀ g cells, G g = some cells → PinRel W (fun _ => False) cells g 0) {base : Nat} {args : Array Value} {ds gs : List (DataW H)} {before : List MemPlace}
    (hval : ∀ (j : Nat) t v, fn.params[j]? = some t → args[j]? = some v → Value.okWide P W .any base t v)
    (hW : DataW.Whole enc P fn.params.toList s.vars apart W args.toList ds gs before) :
    Calls P f args W fun e W' => ∃ v, e = .returned v ∧ s.post enc P fn apart fresh handsOn again W args v W' := by
  have hW' := hW
  obtain ⟨p, q, hA, hV, hps, hfz, hnd⟩ := hW
  rw [hsv] at hV
  obtain ⟨rfl, rfl⟩ := trodVars_none hV
  rw [hts] at hA
  obtain ⟨l1, l2, l3⟩ := args_rel hS (fun _ => (0, 0)) ts args.toList ds p hin hA (fun j t v ht hv => hval j t v (by rw [← hts] at ht; simpa using ht) (by simpa using hv))
  have hSim : SimH P G (fun _ => (0, 0)) [] W := ⟨⟨fun b bk hb => by simp at hb, fun b b' bk bk' hb => by simp at hb⟩, fun g cells hg => (hG g cells hg).mono (Nat.le_refl _) fun k _ _ => ⟨rfl, own_nil⟩⟩
  have hcall := hlaw (ds.map cellsD) (by simp [l1]) (fun j t xs ht hx => by
    simp only [List.getElem?_map, Option.map_eq_some_iff] at hx
    obtain ⟨d, hd, rfl⟩ := hx
    have hj : j < args.toList.length := by have := getElem?_lt ht; omega
    exact (l3 j t args.toList[j] d ht (List.getElem?_eq_getElem hj) hd).2) (fun _ => (0, 0)) W args hSim ⟨by simp [l1]; simpa using l2.symm, fun i x v hx hv => by
      simp only [List.getElem?_zipWith, List.getElem?_map] at hx
      cases ht : ts[i]? with
      | none => simp [ht] at hx
      | some t =>
        cases hd : ds[i]? with
        | none => simp [ht, hd] at hx
        | some d =>
          simp [ht, hd] at hx
          rw [← hx]
          exact (l3 i t v d ht (by simpa using hv) hd).1⟩
  refine hcall.mono fun e W' ⟨v, r, h', ι', he, ⟨hr, hh⟩, hS', hv, hev⟩ => ⟨v, he, ?_⟩
  subst hr
  subst hh
  have := hv.bool_inv
  subst this
  have hb : Below W.heap.size W W' := ⟨hev.os, hev.tape, hev.output, hev.size, fun k hk => (hev.keep k hk own_nil).1⟩
  have hbefore : before = p := by simpa using hps
  have hfn : s.fn H (ds ++ []) = { results := [.lit (.bool true)], args := ds } := by rw [List.append_nil]; exact hsf H ds l1
  have hlt : ∀ x ∈ before, x.block < W.heap.size := fun x hx => hW'.lt x hx
  refine post_of_below (pa := p) (pv := []) hW' (fun b sp hd => ?_) (fun sp hsp => ?_) (fun sp _ => ?_) (by simpa using hps) hb ?_
  · rw [hfn, hres]
    exact trodAll_mk1 (shut_bool hbt true)
  · rw [hfn, hts]
    exact args_stay hl hb ts args.toList ds p hrd hA (fun x hx => hlt x (by rw [hbefore]; exact hx)) (fun x hx => hsp x (by rw [hbefore]; exact hx))
  · rw [hfn, hsv]; rfl
  · exact ok_one hres rfl (okWide_bool_mk hbt true)

end
end Go.Proofs.Ytkmcecbglomemaa.AM
end

section
set_option linter.unusedVariables false
set_option linter.unusedSimpArgs false
namespace Go.Proofs.Ytkmcecbglomemaa.AM
open Go

mutual
def nrm : PV → PV
  | .nils => .sl []
  | .sl rows => .sl (nrmRows rows)
  | .int k n => .int k n
  | .bool b => .bool b
  | .str s => .str s
  | .nilp => .nilp
  | .nilf => .nilf
  | .nilm => .nilm
def nrmRow : List PV → List PV
  | [] => []
  | x :: r => nrm x :: nrmRow r
def nrmRows : List (List PV) → List (List PV)
  | [] => []
  | x :: r => nrmRow x :: nrmRows r
end

mutual
def nrmA : AV → AV
  | .p x => .p (nrm x)
  | .agg l => .agg (nrmAs l)
  | .tup l => .tup (nrmAs l)
  | .ref b g o s l => .ref b g o s l
  | .ptr b g o => .ptr b g o
  | .pin c => .pin c
  | .mref b g => .mref b g
  | .mp es => .mp es
  | .fn f l => .fn f l
def nrmAs : List AV → List AV
  | [] => []
  | x :: r => nrmA x :: nrmAs r
end

section
variable {P : Program} {G : Nat → Option (List PV)} {ι : Nat → Nat × Nat} {h : Heap} {w : World}

end
end Go.Proofs.Ytkmcecbglomemaa.AM
end

section
set_option linter.unusedVariables false
set_option linter.unusedSimpArgs false
namespace Go.Proofs.Ytkmcecbglomemaa.AM
open Go

section
variable {P : Program}

theorem ty_int {k : IntKind} {a b : Nat} {z : Option (List PV)} {t fuel : Nat} {xs : List PV} (ht : tinfo P t = some ⟨.int k, a, b, z⟩) (h : Ty P fuel t xs) : ∃ n, InRange k n ∧ xs = [.int k n] := by
  obtain ⟨_, d, _, h2, h3, _⟩ := tinfo_some ht
  have := kind_int h3; subst this
  cases fuel with
  | zero => exact h.elim
  | succ m => unfold Ty at h; rw [h2] at h; exact h

theorem ty_bool {a b : Nat} {z : Option (List PV)} {t fuel : Nat} {xs : List PV} (ht : tinfo P t = some ⟨.bool, a, b, z⟩) (h : Ty P fuel t xs) : ∃ x, xs = [.bool x] := by
  obtain ⟨_, d, _, h2, h3, _⟩ := tinfo_some ht
  have := kind_bool h3; subst this
  cases fuel with
  | zero => exact h.elim
  | succ m => unfold Ty at h; rw [h2] at h; exact h

theorem ty_slice {e a b : Nat} {z : Option (List PV)} {t fuel : Nat} {xs : List PV} (ht : tinfo P t = some ⟨.slice e, a, b, z⟩) (h : Ty P fuel t xs) : ∃ (m : Nat) (rows : List (List PV)), fuel = m + 1 ∧ xs = [.sl rows] ∧ ∀ row ∈ rows, Ty P m e row := by
  obtain ⟨_, d, _, h2, h3, _⟩ := tinfo_some ht
  have := kind_slice h3; subst this
  cases fuel with
  | zero => exact h.elim
  | succ m => unfold Ty at h; rw [h2] at h; obtain ⟨rows, h1, h2⟩ := h; exact ⟨m, rows, rfl, h1, h2⟩

theorem ty_struct {fs : List (Nat × Nat × Nat)} {a b : Nat} {z : Option (List PV)} {t fuel : Nat} {xs : List PV} (ht : tinfo P t = some ⟨.struct fs, a, b, z⟩) (h : Ty P fuel t xs) :
    ∃ (m : Nat) (rows : List (List PV)), fuel = m + 1 ∧ rows.length = fs.length ∧ xs = rows.flatMap id ∧ ∀ (i : Nat) f row, fs[i]? = some f → rows[i]? = some row → Ty P m f.2.2 row := by
  obtain ⟨_, d, _, h2, h3, _⟩ := tinfo_some ht
  obtain ⟨F, rfl, h4⟩ := kind_struct h3
  cases fuel with
  | zero => exact h.elim
  | succ m =>
    unfold Ty at h
    rw [h2] at h
    obtain ⟨rows, g1, g2, g3⟩ := h
    refine ⟨m, rows, rfl, by rw [h4]; simpa using g1, g2, fun i f row hf hr => ?_⟩
    rw [h4] at hf
    simp only [List.getElem?_map, Option.map_eq_some_iff] at hf
    obtain ⟨fd, hfd, rfl⟩ := hf
    exact g3 i fd row (by simpa using hfd) hr

theorem argA_at {i : TI} {t : Nat} (ht : tinfo P t = some i) (xs : List PV) : argA P t xs = if i.isAgg then .agg (xs.map .p) else match xs with | x :: _ => .p x | [] => .undef := by
  obtain ⟨_, d, _, h2, h3, _⟩ := tinfo_some ht
  have : aggT P t = i.isAgg := by
    unfold aggT TI.isAgg
    rw [h2, ← h3]
    cases d <;> rfl
  unfold argA
  rw [this]
  all_goals (cases xs <;> rfl)
end
end Go.Proofs.Ytkmcecbglomemaa.AM
end

section
set_option linter.unusedVariables false
namespace Go.Proofs.Ytkmcecbglomemaa.AM
open Go Go.Proofs Go.Sort

/-- k whole numbers. -/
abbrev Rec (k : Nat) := {l : List Int // l.length = k ∧ ∀ n ∈ l, InRange .i64 n}
theorem zero_in : InRange .i64 0 := by constructor <;> decide
instance (k : Nat) : Inhabited (Rec k) := ⟨⟨List.replicate k 0, by simp, fun n hn => by rw [List.eq_of_mem_replicate hn]; exact zero_in⟩⟩
section
variable {P : Program} {G : Nat → Option (List PV)}

/-- A world that kept all blocks that were there, with draws and new blocks alone. -/
theorem grown_of {w w' : World} (hs : w.heap.size ≤ w'.heap.size) (hk : ∀ q, q < w.heap.size → w'.heap[q]? = w.heap[q]?) (ho : w'.os = w.os) (hu : w'.output = w.output) (ht : w'.tape = w.tape) (hd : w.drawn ≤ w'.drawn) :
    ∃ q os', w' = grow (w.drewN q) os' := by
  refine ⟨w'.drawn - w.drawn, w'.heap.extract w.heap.size w'.heap.size, ?_⟩
  have hh : w'.heap = w.heap ++ w'.heap.extract w.heap.size w'.heap.size := by
    apply Array.ext_getElem?
    intro i
    rcases Nat.lt_or_ge i w.heap.size with hi | hi
    · rw [Array.getElem?_append_left hi, hk i hi]
    · rw [Array.getElem?_append_right hi, Array.getElem?_extract]
      split
      · congr 1; omega
      · rw [Array.getElem?_eq_none]; omega
  cases w' with
  | mk h t d o u =>
    simp only at hh ho hu ht hd
    subst ho hu ht
    unfold grow World.drewN
    simp only
    rw [← hh, Nat.add_sub_cancel' hd]

/-! ### sync/atomic of one goroutine: what the library's two methods do, as calls of ours. -/
end
end Go.Proofs.Ytkmcecbglomemaa.AM
end

section
set_option linter.unusedVariables false
set_option linter.unusedSimpArgs false
set_option maxRecDepth 4000
set_option maxHeartbeats 4000000
namespace Go.Proofs.Ytkmcecbglomemaa.AM
open Go Go.Proofs Go.Sort Go.Lib Go.Shelf Go.RowKit
set_option linter.defProp false in
def TTScH := And.intro T2 (And.intro T3 (And.intro T4 (And.intro T45 T51)))
section
attribute [local irreducible] awp aops aqops aeops arun arunT arunN
variable {G : Nat → Option (List PV)}
def eJ (n : Int) : List PV := [.int .i64 n]
abbrev aJ (l : List Int) : AV := .p (.sl (l.map eJ))
theorem rowJ {l : List Int} {i : Nat} {k : Int} (h : l[i]? = some k) : (l.map eJ)[i]? = some [.int .i64 k] := by simp [h, eJ]
def cmpZ (a b : Int) : Int := if a < b then -1 else if b < a then 1 else 0
theorem index_calls (l : List Int) (v : Int) (hn : l.length ≤ 1000) (h : Heap) : ACalls Try.prog G 39 [aJ l, .i v] h (fun r h' => r = .i (findI (fun a => v == a) l 0) ∧ h' = h) := by
  refine acalls_pure (rl := []) mixed Try.func39 rfl (rs := [.tmp 4]) rfl Try.ntmps39 (by simp) ?_
  repeat' (first | ((first | refine aops_nil ?_ | refine aqops_nil ?_); (try simp only [NB])) | ((repeat ((fail_if_success (refine hK _ ?_)); clear hK K)); refine hK _ ?_; clear hK K) | ((first | refine aops_k fun K1 hK1 => ?_ | refine aqops_k fun K1 hK1 => ?_ | refine awp_cond_k fun A B hA hB => ?_); simp only [S1, simprocAttr, TTScH, List.length_map]; first | (refine hK1 _ ?_; clear hK1 K1) | ((first | refine hA ?_ | refine hB ?_); clear hA hB A B) | (((first | (refine ⟨fun hg => hA ?_, fun hg => hB ?_⟩ <;> clear hA hB A B) | refine ⟨fun hg => ?_, fun hg => ?_⟩) <;> (try simp only [BN2] at hg) <;> (try simp only [hg, cond_true, cond_false])) <;> (try (refine hK1 _ ?_; clear hK1 K1)) <;> (try simp only [BN3] at hg))) | (refine awp_seq_k fun K hK => ?_) | ((first | refine awp_region ?_ | refine awp_draw (by kernel_rfl) ?_ | refine awp_block ?_ | refine awp_exit ?_ | refine awp_skip ?_ | refine awp_ret ?_); (try simp only [NB, simprocAttr])))
  refine awp_for l.length 19 (fun i => [(8, .i i), (7, .i l.length), (1, .i v), (0, aJ l)]) (fun i => []) (fun i => findI (fun a => v == a) l 0 = findI (fun a => v == a) (l.drop i) i) ?_ rfl fun i hi hp K hK => ?_
  · (refine ⟨rfl, (by first | exact ⟨_, rfl⟩ | exact ⟨[], by simp⟩), ?_, ?_⟩ <;> simp only [keeps, avlt, avlts, blksLt, frL, upd_get, S1, simprocAttr, List.length_map, Int.natCast_zero, AV.p.injEq, PV.int.injEq, PV.bool.injEq, PV.sl.injEq] <;> (try and_intros) <;> (try assumption) <;> (try trivial) <;> (try omega))
  rcases Nat.lt_or_ge i l.length with hlt2 | hge
  · obtain ⟨k, hx⟩ : ∃ k, l[i]? = some k := ⟨_, List.getElem?_eq_getElem hlt2⟩
    rw [findI_step hx] at hp
    have jl : (i : Int) < (l.length : Int) := by omega
    have j0 : (0 : Int) ≤ (i : Int) := by omega
    have hnx := nextJ (n := l.length) (by omega) hlt2
    cases hc : (v == k) with
    | true =>
      rw [hc, if_pos rfl] at hp
      repeat' (first | ((first | refine aops_nil ?_ | refine aqops_nil ?_); (try simp only [NB])) | ((repeat ((fail_if_success (refine hK _ ?_)); clear hK K)); refine hK _ ?_; clear hK K) | ((first | refine aops_k fun K1 hK1 => ?_ | refine aqops_k fun K1 hK1 => ?_ | refine awp_cond_k fun A B hA hB => ?_); simp only [S1, simprocAttr, TTScH, jl, j0, hnx, hc, rowJ hx, Int.toNat_natCast, List.length_map]; first | (refine hK1 _ ?_; clear hK1 K1) | ((first | refine hA ?_ | refine hB ?_); clear hA hB A B) | (((first | (refine ⟨fun hg => hA ?_, fun hg => hB ?_⟩ <;> clear hA hB A B) | refine ⟨fun hg => ?_, fun hg => ?_⟩) <;> (try simp only [BN2] at hg) <;> (try simp only [hg, cond_true, cond_false])) <;> (try (refine hK1 _ ?_; clear hK1 K1)) <;> (try simp only [BN3] at hg))) | (refine awp_seq_k fun K hK => ?_) | ((first | refine awp_region ?_ | refine awp_draw (by kernel_rfl) ?_ | refine awp_block ?_ | refine awp_exit ?_ | refine awp_skip ?_ | refine awp_ret ?_); (try simp only [NB, simprocAttr])))
      all_goals simp only [EndP, FinP, resA, resL, resA1, lastV, lastA, lastAs, pur, purs, take_app, List.take_length, S1, simprocAttr, TTScH, Nat.le_add_right, Nat.le_refl]
      all_goals simp [hp]
    | false =>
      rw [hc, if_neg (by simp)] at hp
      repeat' (first | ((first | refine aops_nil ?_ | refine aqops_nil ?_); (try simp only [NB])) | ((repeat ((fail_if_success (refine hK _ ?_)); clear hK K)); refine hK _ ?_; clear hK K) | ((first | refine aops_k fun K1 hK1 => ?_ | refine aqops_k fun K1 hK1 => ?_ | refine awp_cond_k fun A B hA hB => ?_); simp only [S1, simprocAttr, TTScH, jl, j0, hnx, hc, rowJ hx, Int.toNat_natCast, List.length_map]; first | (refine hK1 _ ?_; clear hK1 K1) | ((first | refine hA ?_ | refine hB ?_); clear hA hB A B) | (((first | (refine ⟨fun hg => hA ?_, fun hg => hB ?_⟩ <;> clear hA hB A B) | refine ⟨fun hg => ?_, fun hg => ?_⟩) <;> (try simp only [BN2] at hg) <;> (try simp only [hg, cond_true, cond_false])) <;> (try (refine hK1 _ ?_; clear hK1 K1)) <;> (try simp only [BN3] at hg))) | (refine awp_seq_k fun K hK => ?_) | ((first | refine awp_region ?_ | refine awp_draw (by kernel_rfl) ?_ | refine awp_block ?_ | refine awp_exit ?_ | refine awp_skip ?_ | refine awp_ret ?_); (try simp only [NB, simprocAttr])))
      all_goals exact ⟨hlt2, hp, by (refine ⟨rfl, (by first | exact ⟨_, rfl⟩ | exact ⟨[], by simp⟩), ?_, ?_⟩ <;> simp only [keeps, avlt, avlts, blksLt, frL, upd_get, S1, simprocAttr, List.length_map, Int.natCast_zero, AV.p.injEq, PV.int.injEq, PV.bool.injEq, PV.sl.injEq] <;> (try and_intros) <;> (try assumption) <;> (try trivial) <;> (try omega))⟩
  · obtain rfl : i = l.length := by omega
    repeat' (first | ((first | refine aops_nil ?_ | refine aqops_nil ?_); (try simp only [NB])) | ((repeat ((fail_if_success (refine hK _ ?_)); clear hK K)); refine hK _ ?_; clear hK K) | ((first | refine aops_k fun K1 hK1 => ?_ | refine aqops_k fun K1 hK1 => ?_ | refine awp_cond_k fun A B hA hB => ?_); simp only [S1, simprocAttr, TTScH, Int.lt_irrefl]; first | (refine hK1 _ ?_; clear hK1 K1) | ((first | refine hA ?_ | refine hB ?_); clear hA hB A B) | (((first | (refine ⟨fun hg => hA ?_, fun hg => hB ?_⟩ <;> clear hA hB A B) | refine ⟨fun hg => ?_, fun hg => ?_⟩) <;> (try simp only [BN2] at hg) <;> (try simp only [hg, cond_true, cond_false])) <;> (try (refine hK1 _ ?_; clear hK1 K1)) <;> (try simp only [BN3] at hg))) | (refine awp_seq_k fun K hK => ?_) | ((first | refine awp_region ?_ | refine awp_draw (by kernel_rfl) ?_ | refine awp_block ?_ | refine awp_exit ?_ | refine awp_skip ?_ | refine awp_ret ?_); (try simp only [NB, simprocAttr])))
    all_goals simp only [EndP, FinP, resA, resL, resA1, lastV, lastA, lastAs, pur, purs, take_app, List.take_length, S1, simprocAttr, TTScH, Nat.le_add_right, Nat.le_refl]
    all_goals (rw [List.drop_length] at hp; simp [hp, findI])
theorem isnan_calls (x : Int) (h : Heap) : ACalls Try.prog G 43 [.i x] h (fun r h' => r = .b false ∧ h' = h) := by
  have hx : (x != x) = false := by simp
  refine acalls_pure (rl := []) mixed Try.func43 rfl (rs := [.tmp 2]) rfl Try.ntmps43 (by simp) ?_
  repeat' (first | ((first | refine aops_nil ?_ | refine aqops_nil ?_); (try simp only [NB])) | ((repeat ((fail_if_success (refine hK _ ?_)); clear hK K)); refine hK _ ?_; clear hK K) | ((first | refine aops_k fun K1 hK1 => ?_ | refine aqops_k fun K1 hK1 => ?_ | refine awp_cond_k fun A B hA hB => ?_); simp only [S1, simprocAttr, TTScH, hx]; first | (refine hK1 _ ?_; clear hK1 K1) | ((first | refine hA ?_ | refine hB ?_); clear hA hB A B) | (((first | (refine ⟨fun hg => hA ?_, fun hg => hB ?_⟩ <;> clear hA hB A B) | refine ⟨fun hg => ?_, fun hg => ?_⟩) <;> (try simp only [BN2] at hg) <;> (try simp only [hg, cond_true, cond_false])) <;> (try (refine hK1 _ ?_; clear hK1 K1)) <;> (try simp only [BN3] at hg))) | (refine awp_seq_k fun K hK => ?_) | ((first | refine awp_region ?_ | refine awp_draw (by kernel_rfl) ?_ | refine awp_block ?_ | refine awp_exit ?_ | refine awp_skip ?_ | refine awp_ret ?_); (try simp only [NB, simprocAttr])))
  all_goals simp only [EndP, FinP, resA, resL, resA1, lastV, lastA, lastAs, pur, purs, take_app, List.take_length, S1, simprocAttr, TTScH, Nat.le_add_right, Nat.le_refl]
theorem compare_calls (x y : Int) (h : Heap) : ACalls Try.prog G 38 [.i x, .i y] h (fun r h' => r = .i (cmpZ x y) ∧ h' = h) := by
  unfold cmpZ
  by_cases c1 : x < y
  · rw [if_pos c1]
    refine acalls_pure (rl := []) mixed Try.func38 rfl (rs := [.tmp 4]) rfl Try.ntmps38 (by simp) ?_
    repeat' (first | ((first | refine aops_nil ?_ | refine aqops_nil ?_); (try simp only [NB])) | ((repeat ((fail_if_success (refine hK _ ?_)); clear hK K)); refine hK _ ?_; clear hK K) | ((first | refine aops_k fun K1 hK1 => ?_ | refine aqops_k fun K1 hK1 => ?_ | refine awp_cond_k fun A B hA hB => ?_); simp only [S1, simprocAttr, TTScH, c1]; first | (refine hK1 _ ?_; clear hK1 K1) | ((first | refine hA ?_ | refine hB ?_); clear hA hB A B) | ((first | apply call_a E43 | apply call_q E43); exact (isnan_calls _ _); (refine hK1 _ ?_; clear hK1 K1)) | (((first | (refine ⟨fun hg => hA ?_, fun hg => hB ?_⟩ <;> clear hA hB A B) | refine ⟨fun hg => ?_, fun hg => ?_⟩) <;> (try simp only [BN2] at hg) <;> (try simp only [hg, cond_true, cond_false])) <;> (try (refine hK1 _ ?_; clear hK1 K1)) <;> (try simp only [BN3] at hg))) | (refine awp_seq_k fun K hK => ?_) | ((first | refine awp_region ?_ | refine awp_draw (by kernel_rfl) ?_ | refine awp_block ?_ | refine awp_exit ?_ | refine awp_skip ?_ | refine awp_ret ?_); (try simp only [NB, simprocAttr])))
    all_goals simp only [EndP, FinP, resA, resL, resA1, lastV, lastA, lastAs, pur, purs, take_app, List.take_length, S1, simprocAttr, TTScH, Nat.le_add_right, Nat.le_refl]
  · rw [if_neg c1]
    by_cases c2 : y < x
    · rw [if_pos c2]
      refine acalls_pure (rl := []) mixed Try.func38 rfl (rs := [.tmp 4]) rfl Try.ntmps38 (by simp) ?_
      repeat' (first | ((first | refine aops_nil ?_ | refine aqops_nil ?_); (try simp only [NB])) | ((repeat ((fail_if_success (refine hK _ ?_)); clear hK K)); refine hK _ ?_; clear hK K) | ((first | refine aops_k fun K1 hK1 => ?_ | refine aqops_k fun K1 hK1 => ?_ | refine awp_cond_k fun A B hA hB => ?_); simp only [S1, simprocAttr, TTScH, c1, c2]; first | (refine hK1 _ ?_; clear hK1 K1) | ((first | refine hA ?_ | refine hB ?_); clear hA hB A B) | ((first | apply call_a E43 | apply call_q E43); exact (isnan_calls _ _); (refine hK1 _ ?_; clear hK1 K1)) | (((first | (refine ⟨fun hg => hA ?_, fun hg => hB ?_⟩ <;> clear hA hB A B) | refine ⟨fun hg => ?_, fun hg => ?_⟩) <;> (try simp only [BN2] at hg) <;> (try simp only [hg, cond_true, cond_false])) <;> (try (refine hK1 _ ?_; clear hK1 K1)) <;> (try simp only [BN3] at hg))) | (refine awp_seq_k fun K hK => ?_) | ((first | refine awp_region ?_ | refine awp_draw (by kernel_rfl) ?_ | refine awp_block ?_ | refine awp_exit ?_ | refine awp_skip ?_ | refine awp_ret ?_); (try simp only [NB, simprocAttr])))
      all_goals simp only [EndP, FinP, resA, resL, resA1, lastV, lastA, lastAs, pur, purs, take_app, List.take_length, S1, simprocAttr, TTScH, Nat.le_add_right, Nat.le_refl]
    · rw [if_neg c2]
      refine acalls_pure (rl := []) mixed Try.func38 rfl (rs := [.tmp 4]) rfl Try.ntmps38 (by simp) ?_
      repeat' (first | ((first | refine aops_nil ?_ | refine aqops_nil ?_); (try simp only [NB])) | ((repeat ((fail_if_success (refine hK _ ?_)); clear hK K)); refine hK _ ?_; clear hK K) | ((first | refine aops_k fun K1 hK1 => ?_ | refine aqops_k fun K1 hK1 => ?_ | refine awp_cond_k fun A B hA hB => ?_); simp only [S1, simprocAttr, TTScH, c1, c2]; first | (refine hK1 _ ?_; clear hK1 K1) | ((first | refine hA ?_ | refine hB ?_); clear hA hB A B) | ((first | apply call_a E43 | apply call_q E43); exact (isnan_calls _ _); (refine hK1 _ ?_; clear hK1 K1)) | (((first | (refine ⟨fun hg => hA ?_, fun hg => hB ?_⟩ <;> clear hA hB A B) | refine ⟨fun hg => ?_, fun hg => ?_⟩) <;> (try simp only [BN2] at hg) <;> (try simp only [hg, cond_true, cond_false])) <;> (try (refine hK1 _ ?_; clear hK1 K1)) <;> (try simp only [BN3] at hg))) | (refine awp_seq_k fun K hK => ?_) | ((first | refine awp_region ?_ | refine awp_draw (by kernel_rfl) ?_ | refine awp_block ?_ | refine awp_exit ?_ | refine awp_skip ?_ | refine awp_ret ?_); (try simp only [NB, simprocAttr])))
      all_goals simp only [EndP, FinP, resA, resL, resA1, lastV, lastA, lastAs, pur, purs, take_app, List.take_length, S1, simprocAttr, TTScH, Nat.le_add_right, Nat.le_refl]
end

set_option maxHeartbeats 1000000 in
set_option maxRecDepth 1000000 in
theorem part_cmp (W : World) (bk bo rk ro : Nat) (DA : Option Addr) (dn dc : Nat) (a b : _root_.Fin 64) (ix : _root_.Fin 64 → Int) (h1 : W.cell? ⟨bk, bo, none⟩ = some (.pointer (some ⟨rk, ro, none⟩))) (hb1 : bk < W.heap.size)
    (h2 : W.cell? ⟨rk, ro + 2, none⟩ = some (.slice DA dn dc)) (hb2 : rk < W.heap.size)
    (hI : ∀ (n : Nat) (os : Array Obj) (v : _root_.Fin 64), Calls Try.prog 39 #[.slice DA dn dc, Go.Value.int .i64 (v.val : Int)] (grow (W.drewN n) os) fun e w' => e = .returned (Go.Value.int .i64 (ix v)) ∧ ∃ q os', w' = grow ((grow (W.drewN n) os).drewN q) os')
    (hC : ∀ (n : Nat) (os : Array Obj) (x y : _root_.Fin 64), Calls Try.prog 38 #[Go.Value.int .i64 (ix x), Go.Value.int .i64 (ix y)] (grow (W.drewN n) os) fun e w' => e = .returned (Go.Value.int .i64 (cmpZ (ix x) (ix y))) ∧ ∃ q os', w' = grow ((grow (W.drewN n) os).drewN q) os') :
    Calls Try.prog 37 #[Go.Value.int .i64 (a.val : Int), Go.Value.int .i64 (b.val : Int), .pointer (some ⟨bk, bo, none⟩)] W fun e w' => e = .returned (Go.Value.int .i64 (cmpZ (ix b) (ix a))) ∧ ∃ q os', w' = grow (W.drewN q) os' := by
  have mixed : Try.prog.follows .mixedOrders = true := mixed
  have c1 := fun n os => cell_grown (w := W) (a := ⟨bk, bo, none⟩) hb1 h1 n os
  have c2 := fun n os => cell_grown (w := W) (a := ⟨rk, ro + 2, none⟩) hb2 h2 n os
  clear h1 h2
  go_enter Try.func37, Try.ntmps37
  go_wp2_with fail
  go_quiet_grown (first | (go_at_call 39; refine Calls.grown_of (hI _ _ _)) | (go_at_call 38; refine Calls.grown_of (hC _ _ _ _)))
  go_wp2
  go_ret
  exact ⟨rfl, _, _, rfl⟩
end Go.Proofs.Ytkmcecbglomemaa.AM
end

section
set_option linter.unusedVariables false
set_option linter.unusedSimpArgs false
set_option maxRecDepth 4000
set_option maxHeartbeats 4000000
namespace Go.Proofs.Ytkmcecbglomemaa.AM
open Go Go.Proofs Go.Sort Go.Lib Go.Shelf
set_option linter.defProp false in
def encN (x : _root_.Fin 64) : Go.Value := .int .i64 (x.val : Int)
def ixN (dn : List Int) (x : _root_.Fin 64) : Int := findI (fun a => (x.val : Int) == a) dn 0
def cfN (dn : List Int) (x y : _root_.Fin 64) : Int := cmpZ (ixN dn y) (ixN dn x)
theorem cmpZ_lt {a b : Int} : cmpZ a b < 0 ↔ a < b := by unfold cmpZ; split <;> (try split) <;> omega
theorem cfN_lt {dn : List Int} {x y : _root_.Fin 64} : cfN dn x y < 0 ↔ ixN dn y < ixN dn x := cmpZ_lt
theorem cfN_swo (dn : List Int) : SWO (ltOf (cfN dn)) := by
  have hL : ∀ x y, ltOf (cfN dn) x y = decide (ixN dn y < ixN dn x) := fun x y => decide_eq_decide.mpr cfN_lt
  refine ⟨fun x => ?_, fun x y z h1 h2 => ?_, fun x y z h1 h2 => ?_⟩
  · rw [hL]; simp
  all_goals
    simp only [hL, decide_eq_true_eq, decide_eq_false_iff_not] at h1 h2 ⊢
    omega
theorem ixN_range {dn : List Int} (hn : dn.length ≤ 1000) (x : _root_.Fin 64) : InRange .i64 (ixN dn x) := by
  have hmin : IntKind.i64.min = -9223372036854775808 := by decide
  have hmax : IntKind.i64.max = 9223372036854775807 := by decide
  unfold InRange
  rw [hmin, hmax]
  unfold ixN
  rcases findI_spec (p := fun a => (x.val : Int) == a) dn 0 with ⟨h, _⟩ | ⟨i, h, h2, _⟩ <;> rw [h] <;> omega
theorem valN_range (x : _root_.Fin 64) : InRange .i64 (x.val : Int) := by
  have hmin : IntKind.i64.min = -9223372036854775808 := by decide
  have hmax : IntKind.i64.max = 9223372036854775807 := by decide
  unfold InRange
  rw [hmin, hmax]
  have := x.isLt
  omega

theorem sortI_other (w : World) (blk off m : Nat) (d : Array (_root_.Fin 64)) (os : Array Obj) (q : Nat) (hq : q < w.heap.size) (hne : q ≠ blk) : (sortWorld encN w blk off m d os).heap[q]? = w.heap[q]? := by
  have hs : (putRow encN (Sort.ahead w m) blk off d).heap.size = w.heap.size := size_putRow ..
  show ((putRow encN (Sort.ahead w m) blk off d).heap ++ os)[q]? = _
  rw [Array.getElem?_append_left (by rw [hs]; exact hq)]
  show ((Sort.ahead w m).heap.modify blk _)[q]? = _
  rw [Array.getElem?_modify, if_neg (Ne.symm hne)]
  rfl
theorem sortI_size (w : World) (blk off m : Nat) (d : Array (_root_.Fin 64)) (os : Array Obj) : w.heap.size ≤ (sortWorld encN w blk off m d os).heap.size := by
  have hs : (putRow encN (Sort.ahead w m) blk off d).heap.size = w.heap.size := size_putRow ..
  show _ ≤ ((putRow encN (Sort.ahead w m) blk off d).heap ++ os).size
  rw [Array.size_append, hs]
  exact Nat.le_add_right _ _
theorem sortI_blk (w : World) (blk off m : Nat) (d : Array (_root_.Fin 64)) (os : Array Obj) {c : Array Go.Value} {ty : TypeId} {fr : Nat × Nat} (hc : w.heap[blk]? = some (.cells c ty fr)) :
    (sortWorld encN w blk off m d os).heap[blk]? = some (.cells (putCells encN off d c) ty fr) := by
  have hs : (putRow encN (Sort.ahead w m) blk off d).heap.size = w.heap.size := size_putRow ..
  have hb : blk < w.heap.size := lt_of_heap hc
  show ((putRow encN (Sort.ahead w m) blk off d).heap ++ os)[blk]? = _
  rw [Array.getElem?_append_left (by rw [hs]; exact hb)]
  show ((Sort.ahead w m).heap.modify blk _)[blk]? = _
  rw [Array.getElem?_modify, if_pos rfl]
  show w.heap[blk]?.map _ = _
  rw [hc]
  rfl
theorem grow_get (W : World) (n : Nat) (os : Array Obj) (q : Nat) (hq : q < W.heap.size) : (grow (W.drewN n) os).heap[q]? = W.heap[q]? := by
  show (W.heap ++ os)[q]? = _
  rw [Array.getElem?_append_left hq]
theorem grow_size (W : World) (n : Nat) (os : Array Obj) : W.heap.size ≤ (grow (W.drewN n) os).heap.size := by
  show _ ≤ (W.heap ++ os).size
  rw [Array.size_append]; exact Nat.le_add_right _ _
theorem no_own {ι : Nat → Nat × Nat} {q : Nat} : ¬ own ι [] q := by
  rintro ⟨b', bk, hb', _⟩
  simp at hb'

section
variable {G : Nat → Option (List PV)}
theorem sortP_calls {H : Heap} {bx rb db ls gd gl : Nat} {c0 c1 : AV} {rest : List AV} {dn : List Int} {z : List AV} {l out : List (_root_.Fin 64)}
    (hbx : H[bx]? = some (some ⟨0, [.ptr rb 0 0]⟩)) (hrb : H[rb]? = some (some ⟨0, c0 :: c1 :: .ref db gd 0 1 dn.length :: rest⟩)) (hdb : H[db]? = some (some ⟨gd, dn.map AV.i ++ z⟩)) (hls : H[ls]? = some (some ⟨gl, l.map fun x => AV.i (x.val : Int)⟩))
    (n1 : bx ≠ ls) (n2 : rb ≠ ls) (n3 : db ≠ ls) (hn : dn.length ≤ 1000) (hl0 : l ≠ []) (hl : l.length ≤ 1000)
    (ho : out.Perm l) (hso : out.Pairwise fun x y => ixN dn y ≤ ixN dn x) (hanti : ∀ x y, x ∈ l → y ∈ l → ixN dn x = ixN dn y → x = y) :
    ACalls Try.prog G 36 [.ref ls gl 0 1 l.length, .fn 37 [.ptr bx 0 0]] H (fun r h' => r = .undef ∧ h' = H.set ls (some ⟨gl, out.map fun x => AV.i (x.val : Int)⟩)) := by
  intro ι w vs hS hv
  obtain ⟨hlv, hv⟩ := hv
  have hl2 : vs.size = 2 := by simpa using hlv.symm
  obtain ⟨v0, v1, rfl⟩ : ∃ v0 v1, vs = #[v0, v1] := by
    obtain ⟨l⟩ := vs
    match l, hl2 with
    | [a, b], _ => exact ⟨a, b, rfl⟩
  have h0 := hv 0 _ v0 rfl rfl
  have h1 := hv 1 _ v1 rfl rfl
  have hpos : 0 < l.length := List.length_pos_iff.mpr hl0
  have hlt := getElem?_lt hls
  have hml : (l.map fun x => AV.i (x.val : Int)).length = l.length := List.length_map ..
  have hne : (l.map fun x => AV.i (x.val : Int)) ≠ [] := by simpa using hl0
  have hown : own ι H (ι ls).1 := ⟨ls, _, hls, hne, rfl⟩
  cases h1 with
  | fn _ _ vs1 hl1 hv1 =>
  obtain ⟨vb, rfl⟩ : ∃ vb, vs1 = #[vb] := by
    obtain ⟨k⟩ := vs1
    match k, (show k.length = 1 by simpa using hl1.symm) with
    | [a], _ => exact ⟨a, rfl⟩
  have hb := hv1 0 _ vb rfl rfl
  cases hb with
  | ptr _ _ _ Ab hb0 hg0 hvb =>
  obtain ⟨rfl, csb, tyb, frb, hcb⟩ := hvb ⟨_, hbx, rfl⟩
  cases h0 with
  | ref _ _ _ _ _ A c hn0 hb1 hg1 hv0 =>
  rcases hv0 ⟨_, hls, rfl⟩ with ⟨hz, _⟩ | ⟨rfl, _, _, cs1, ty1, fr1, hcc, hfit⟩
  · omega
  obtain ⟨cl, tyl, hcl, hlc, hcell⟩ := (hS.hr.blk ls _ hls hne).cells hcc
  simp only [hml] at hlc
  have hblk : (ι ls).1 < w.heap.size := lt_of_heap hcl
  -- the box
  obtain ⟨cb, tyb2, hcb2, _, hcellb⟩ := (hS.hr.blk bx _ hbx (by simp)).cells hcb
  obtain ⟨vr, hvr1, hvr2⟩ := hcellb 0 _ rfl
  cases hvr2 with
  | ptr _ _ _ Ar hb2 hg2 hvr =>
  obtain ⟨rfl, csr, tyr, frr, hcr⟩ := hvr ⟨_, hrb, rfl⟩
  -- the run
  obtain ⟨cr, tyr2, hcr2, _, hcellr⟩ := (hS.hr.blk rb _ hrb (by simp)).cells hcr
  obtain ⟨vd, hvd1, hvd2⟩ := hcellr 2 _ rfl
  cases hvd2 with
  | ref _ _ _ _ _ DA dc hdn0 hb3 hg3 hvd =>
  have kb : (ι bx).1 ≠ (ι ls).1 := fun e => n1 (hS.hr.inj bx ls _ _ hbx hls (by simp) hne e)
  have kr : (ι rb).1 ≠ (ι ls).1 := fun e => n2 (hS.hr.inj rb ls _ _ hrb hls (by simp) hne e)
  -- the list of those that are done, as a lasting value
  have hprel : ∀ W : World, (∀ q, q < w.heap.size → q ≠ (ι ls).1 → W.heap[q]? = w.heap[q]?) → w.heap.size ≤ W.heap.size → PRel W (own ι []) (.sl (dn.map eJ)) (.slice DA dn.length dc) := by
    intro W hW hsz
    by_cases hd0 : dn = []
    · subst hd0; exact .slz DA dc
    have hdne : dn.map AV.i ++ z ≠ [] := by simp [hd0]
    have kd : (ι db).1 ≠ (ι ls).1 := fun e => n3 (hS.hr.inj db ls _ _ hdb hls hdne hne e)
    rcases hvd ⟨_, hdb, rfl⟩ with ⟨hz, _⟩ | ⟨rfl, hle, _, csd, tyd, frd, hcd, _⟩
    · exact absurd (List.eq_nil_of_length_eq_zero hz) hd0
    obtain ⟨cd, tyd2, hcd2, _, hcelld⟩ := (hS.hr.blk db _ hdb hdne).cells hcd
    have hlen : (dn.map eJ).length = dn.length := List.length_map ..
    have key : ∀ (i : Nat) (n : Int), dn[i]? = some n → cd[(ι db).2 + i]? = some (.int .i64 n) ∧ InRange .i64 n := by
      intro i n hi
      obtain ⟨v, q1, q2⟩ := hcelld i (AV.i n) (by
        show (dn.map AV.i ++ z)[i]? = _
        rw [List.getElem?_append_left (by rw [List.length_map]; exact (List.getElem?_eq_some_iff.mp hi).1), List.getElem?_map, hi]; rfl)
      obtain ⟨rfl, q3⟩ := q2.int_inv
      exact ⟨q1, q3⟩
    have hget : ∀ i j x, get2 (dn.map eJ) i j = some x → ∃ n, j = 0 ∧ dn[i]? = some n ∧ x = .int .i64 n := by
      intro i j x hx
      unfold get2 at hx
      rw [List.getElem?_map] at hx
      cases hq : dn[i]? with
      | none => rw [hq] at hx; simp at hx
      | some n =>
        rw [hq] at hx
        match j, hx with
        | 0, hx => simp [eJ] at hx; exact ⟨n, rfl, rfl, hx.symm⟩
        | j + 1, hx => simp [eJ] at hx
    have := PRel.sl (w := W) (own := own ι []) (dn.map eJ) (ι db).1 ((ι db).2 + 0) dc 1 (fun i j => (cd[(ι db).2 + i]?).getD undef) (by rw [hlen]; exact hle) (by rw [hlen]; omega) no_own (Nat.lt_of_lt_of_le (lt_of_heap hcd2) hsz)
      (fun r hr => by obtain ⟨n, _, rfl⟩ := List.mem_map.mp hr; rfl) (fun i j x hx => by
        obtain ⟨n, rfl, h1, rfl⟩ := hget i j x hx
        unfold World.cell?
        rw [hW _ (lt_of_heap hcd2) kd]
        simp only [hcd2]
        rw [show (ι db).2 + 0 + (i * 1 + 0) = (ι db).2 + i by omega, (key i n h1).1]; rfl) (fun i j x hx => by
        obtain ⟨n, rfl, h1, rfl⟩ := hget i j x hx
        rw [(key i n h1).1]
        exact .int _ _ (key i n h1).2)
    rw [hlen] at this
    exact this
  have hsim : ∀ W : World, (∀ q, q < w.heap.size → q ≠ (ι ls).1 → W.heap[q]? = w.heap[q]?) → w.heap.size ≤ W.heap.size → SimH Try.prog G ι [] W := by
    intro W hW hsz
    refine ⟨⟨fun b bk hb => by simp at hb, fun b b' bk bk' hb => by simp at hb⟩, fun g' cells hg => (hS.gr g' cells hg).mono hsz fun q hq ho => ⟨hW q hq (fun e => ho (e ▸ hown)), no_own⟩⟩
  have hcmp : CmpLays1 Try.prog 37 #[.pointer (some ⟨(ι bx).1, (ι bx).2 + 0, none⟩)] encN (cfN dn) (ι ls).1 ((ι ls).2 + 0) l.toArray.size w := by
    intro m os dk hdk x y
    have hWs := sortI_size w (ι ls).1 ((ι ls).2 + 0) m dk os
    have hWo := fun q hq hqn => sortI_other w (ι ls).1 ((ι ls).2 + 0) m dk os q hq hqn
    have hcellW : ∀ (k o : Nat) (v : Go.Value) (cs : Array Go.Value) (ty : TypeId) (fr : Nat × Nat), w.heap[k]? = some (.cells cs ty fr) → k ≠ (ι ls).1 → cs[o]? = some v → (sortWorld encN w (ι ls).1 ((ι ls).2 + 0) m dk os).cell? ⟨k, o, none⟩ = some v := by
      intro k o v cs ty fr hk hkn ho
      unfold World.cell?
      rw [hWo k (lt_of_heap hk) hkn]
      simp only [hk]
      exact ho
    have g1 := hcellW _ ((ι bx).2 + 0) _ _ _ _ hcb2 kb hvr1
    have g2 := hcellW _ ((ι rb).2 + 0 + 2) _ _ _ _ hcr2 kr (by rw [Nat.add_zero]; exact hvd1)
    have b1 : (ι bx).1 < (sortWorld encN w (ι ls).1 ((ι ls).2 + 0) m dk os).heap.size := Nat.lt_of_lt_of_le (lt_of_heap hcb2) hWs
    have b2 : (ι rb).1 < (sortWorld encN w (ι ls).1 ((ι ls).2 + 0) m dk os).heap.size := Nat.lt_of_lt_of_le (lt_of_heap hcr2) hWs
    generalize hWe : sortWorld encN w (ι ls).1 ((ι ls).2 + 0) m dk os = W at *
    have hgo : ∀ (n : Nat) (os : Array Obj) (q : Nat), q < w.heap.size → q ≠ (ι ls).1 → (grow (W.drewN n) os).heap[q]? = w.heap[q]? := fun n os q hq hqn => by rw [grow_get _ _ _ _ (Nat.lt_of_lt_of_le hq hWs)]; exact hWo q hq hqn
    have hgs : ∀ (n : Nat) (os : Array Obj), w.heap.size ≤ (grow (W.drewN n) os).heap.size := fun n os => Nat.le_trans hWs (grow_size _ _ _)
    refine part_cmp W (ι bx).1 ((ι bx).2 + 0) (ι rb).1 ((ι rb).2 + 0) DA dn.length dc x y (ixN dn) g1 b1 g2 b2 (fun n os v => ?_) (fun n os a b => ?_)
    · refine (index_calls dn (v.val : Int) hn [] (G := G) ι (grow (W.drewN n) os) #[.slice DA dn.length dc, .int .i64 (v.val : Int)] (hsim _ (hgo n os) (hgs n os)) ⟨rfl, fun i u t hu ht => ?_⟩).mono ?_
      · match i, hu, ht with
        | 0, hu, ht => simp at hu ht; subst hu ht; exact .p _ _ (hprel _ (hgo n os) (hgs n os))
        | 1, hu, ht => simp at hu ht; subst hu ht; exact .p _ _ (.int _ _ (valN_range v))
      · rintro e w' ⟨v', r, h', ι', rfl, ⟨rfl, rfl⟩, hS', hvr', hev⟩
        obtain ⟨rfl, _⟩ := hvr'.int_inv
        exact ⟨rfl, grown_of hev.size (fun q hq => (hev.keep q hq no_own).1) hev.os hev.output hev.tape hev.drawn⟩
    · refine (compare_calls (ixN dn a) (ixN dn b) [] (G := G) ι (grow (W.drewN n) os) #[.int .i64 (ixN dn a), .int .i64 (ixN dn b)] (hsim _ (hgo n os) (hgs n os)) ⟨rfl, fun i u t hu ht => ?_⟩).mono ?_
      · match i, hu, ht with
        | 0, hu, ht => simp at hu ht; subst hu ht; exact .p _ _ (.int _ _ (ixN_range hn a))
        | 1, hu, ht => simp at hu ht; subst hu ht; exact .p _ _ (.int _ _ (ixN_range hn b))
      · rintro e w' ⟨v', r, h', ι', rfl, ⟨rfl, rfl⟩, hS', hvr', hev⟩
        obtain ⟨rfl, _⟩ := hvr'.int_inv
        exact ⟨rfl, grown_of hev.size (fun q hq => (hev.keep q hq no_own).1) hev.os hev.output hev.tape hev.drawn⟩
  have hcat : ∀ (j : Nat) (x : _root_.Fin 64), l[j]? = some x → cl[(ι ls).2 + j]? = some (encN x) := by
    intro j x hj
    obtain ⟨v, q1, q2⟩ := hcell j (AV.i (x.val : Int)) (by show (l.map _)[j]? = _; rw [List.getElem?_map, hj]; rfl)
    obtain ⟨rfl, _⟩ := q2.int_inv
    exact q1
  have hold : Holds encN w (ι ls).1 ((ι ls).2 + 0) l.toArray := by
    intro j hj
    have hj' : j < l.length := by simpa using hj
    have e := hcat j _ (List.getElem?_eq_getElem hj')
    have eF : l.toArray[j]! = l[j] := by rw [getElem!_pos _ j hj]; simp
    refine ⟨?_, ?_⟩
    · unfold World.cell?
      simp only [hcl]
      rw [Nat.add_zero, e, eF]; rfl
    · unfold World.frozen?
      simp only [hcl]
      simp
  have eg : ∀ args w, (callFunc 37 args).run Try.prog w = .ok (.enter 37 args) w := enters_of Try.func37 (by kernel_rfl) rfl
  have key := Any.slices_SortFunc Try.sortIv encN (fun x => rfl) (cfN dn) (cfN_swo dn) 37 #[.pointer (some ⟨(ι bx).1, (ι bx).2 + 0, none⟩)] (ι ls).1 ((ι ls).2 + 0) c l.toArray w eg hcmp hold hblk (by simp; omega)
  have hd : l.toArray.size = l.length := by simp
  rw [hd] at key
  refine key.mono ?_
  rintro e w' ⟨rfl, d', n, os, ⟨hsz, _, hperm⟩, hsort, rfl⟩
  rw [hd] at hsz
  have hperm' : d'.toList.Perm l := by
    have e1 : d'.extract 0 l.length = d' := by rw [← hsz]; exact Array.extract_size
    have e2 : l.toArray.extract 0 l.length = l.toArray := by rw [← hd]; exact Array.extract_size
    rw [e1, e2] at hperm
    exact hperm
  have hpw : d'.toList.Pairwise fun x y => ixN dn y ≤ ixN dn x := by
    rw [List.pairwise_iff_getElem]
    intro i j hi hj hij
    have hj' : j < l.length := by rw [← hsz]; simpa using hj
    have := hsort i j (Nat.zero_le _) hij hj'
    simp only [Array.length_toList] at hi hj
    rw [getElem!_pos d' i hi, getElem!_pos d' j hj] at this
    have := of_decide_eq_false this
    rw [cfN_lt] at this
    simp only [Array.getElem_toList]
    omega
  have hout : d'.toList = out := by
    refine List.Perm.eq_of_pairwise (le := fun x y => ixN dn y ≤ ixN dn x) (fun x y hx hy a1 a2 => hanti x y (hperm'.mem_iff.mp hx) (ho.mem_iff.mp hy) (by omega)) hpw hso (hperm'.trans ho.symm)
  rw [← hout]
  have hlen' : d'.toList.length = l.length := by simpa using hsz
  have hml' : (d'.toList.map fun x => AV.i (x.val : Int)).length = l.length := by rw [List.length_map, hlen']
  have hne' : (d'.toList.map fun x => AV.i (x.val : Int)) ≠ [] := by intro e; have := congrArg List.length e; rw [hml'] at this; simp at this; exact hl0 this
  obtain ⟨u1, u2⟩ := hS.upd (h' := H.set ls (some ⟨gl, d'.toList.map fun x => AV.i (x.val : Int)⟩)) (ι' := ι) (w' := sortWorld encN w (ι ls).1 ((ι ls).2 + 0) n d' os) ls
    ⟨gl, d'.toList.map fun x => AV.i (x.val : Int)⟩ (ι ls).1 (ι ls).2 (putCells encN ((ι ls).2 + 0) d' cl) tyl (.inr ⟨hlt, ⟨_, hls, Nat.le_refl _⟩, rfl⟩)
    (fun i => by split <;> rename_i q <;> first | (subst q; rfl) | rfl) (.inr ⟨_, hls, hne, rfl, fun cs ty' fr hq => by rw [hcl] at hq; cases hq; simp [putCells]⟩) hne'
    (sortI_blk _ _ _ _ _ _ hcl) (by simp only [putCells, Array.size_mapIdx, hml']; exact hlc) (fun j x hx => by
      rw [List.getElem?_map] at hx
      cases hq : d'.toList[j]? with
      | none => rw [hq] at hx; simp at hx
      | some y =>
        rw [hq] at hx
        simp only [Option.map_some, Option.some.injEq] at hx
        subst hx
        have hj : j < d'.size := by simpa using (List.getElem?_eq_some_iff.mp hq).1
        have hin : (ι ls).2 + j < cl.size := by omega
        refine ⟨encN y, ?_, .p _ _ (.int _ _ (valN_range y))⟩
        simp only [putCells, Array.getElem?_mapIdx, Array.getElem?_eq_getElem hin, Option.map_some]
        rw [if_pos (by omega)]
        have : (ι ls).2 + j - ((ι ls).2 + 0) = j := by omega
        rw [this, getElem!_pos d' j hj]
        rw [Array.getElem?_toList, Array.getElem?_eq_getElem hj] at hq
        cases hq; rfl)
    (sortI_size ..) (fun q hq hqn => sortI_other _ _ _ _ _ _ q hq hqn) (fun bk hbk _ => rfl) rfl rfl rfl (show w.drawn ≤ w.drawn + n from Nat.le_add_right _ _)
  exact ⟨_, .undef, _, ι, rfl, ⟨rfl, rfl⟩, u1, .tup _ _ rfl (fun i x v hx => by simp at hx), u2⟩
end
end Go.Proofs.Ytkmcecbglomemaa.AM
end

section
set_option linter.unusedVariables false
set_option linter.unusedSimpArgs false
set_option maxRecDepth 4000
set_option maxHeartbeats 4000000
namespace Go.Proofs.Ytkmcecbglomemaa.AM
open Go Go.Proofs
set_option linter.defProp false in
def TTScJ := And.intro T2 (And.intro T3 (And.intro T4 (And.intro T22 (And.intro T25 (And.intro T26 (And.intro T37 (And.intro T41 (And.intro T45 (And.intro T49 (And.intro T51 (And.intro T54 T72)))))))))))
attribute [local irreducible] awp aops aqops aeops arun arunT arunN
variable {G : Nat → Option (List PV)}

theorem sort_none {H : Heap} {b g : Nat} {x : AV} (hb : H[b]? = some (some ⟨g, []⟩)) : ACalls Try.prog G 36 [.ref b g 0 1 0, x] H (fun r h' => r = .undef ∧ h' = H) := by
  intro ι w vs hS hv
  obtain ⟨hl, hv⟩ := hv
  obtain ⟨v0, v1, rfl⟩ : ∃ v0 v1, vs = #[v0, v1] := by
    obtain ⟨l⟩ := vs
    match l, (show l.length = 2 by simpa using hl.symm) with
    | [a, b], _ => exact ⟨a, b, rfl⟩
  have h0 := hv 0 _ v0 rfl rfl
  obtain ⟨A, c, rfl, _⟩ := h0.ref_inv ⟨_, hb, rfl⟩
  refine (AnyF.slices_SortFunc_none (P := Try.prog) (ρ := Try.sortIv_ren) { Try.sortIv with } A c v1 w).mono ?_
  rintro e w' ⟨rfl, rfl⟩
  exact ⟨_, .undef, H, ι, rfl, ⟨rfl, rfl⟩, hS, .tup _ _ rfl (fun i x v hx => by simp at hx), Evo.refl (Nat.le_refl _)⟩

def gU (g : Rg) (s t : Rs) : Rg := ⟨g.gd, g.z + (s.dn.length - t.dn.length), g.ga + (t.ac.length - s.ac.length)⟩
theorem gU_trans {g : Rg} {s t u : Rs} (h1 : s.ac.length ≤ t.ac.length) (h2 : t.ac.length ≤ u.ac.length) (h3 : t.dn.length ≤ s.dn.length) (h4 : u.dn.length ≤ t.dn.length) : gU (gU g s t) t u = gU g s u := by
  unfold gU
  simp only [Rg.mk.injEq, true_and]
  omega
theorem gU_self (g : Rg) (s : Rs) : gU g s s = g := by unfold gU; rw [Nat.sub_self, Nat.sub_self, Nat.add_zero, Nat.add_zero]
theorem gA_U {g : Rg} {s t : Rs} (h : t.dn = s.dn) : gA g s t = gU g s t := by unfold gA gU; rw [h, Nat.sub_self, Nat.add_zero]
def toN (k : Nat) : _root_.Fin 64 := ⟨k % 64, Nat.mod_lt _ (by omega)⟩
theorem toN_map {l : List Nat} (h : ∀ k ∈ l, k < 64) : (l.map toN).map (fun x => AV.i (x.val : Int)) = (l.map fun k : Nat => (k : Int)).map AV.i := by
  rw [List.map_map, List.map_map]
  refine List.map_congr_left fun k hk => ?_
  have := h k hk
  simp only [Function.comp, toN]
  rw [Nat.mod_eq_of_lt this]
theorem kept_ns (k : Nat) (dn : List Nat) : kept (fun a => a == (k : Int)) (dn.map fun k : Nat => (k : Int)) = (dn.filter (· != k)).map fun k : Nat => (k : Int) := by
  unfold kept
  rw [List.filter_map]
  congr 1
  refine List.filter_congr fun x _ => ?_
  simp only [Function.comp]
  rw [Bool.eq_iff_iff]
  simp only [Bool.not_eq_true', beq_eq_false_iff_ne, bne_iff_ne, ne_eq]
  omega
theorem ix_idx {k : Nat} (hk : k < 64) : ∀ (dn : List Nat) (c : Nat), k ∈ dn → findI (fun a => ((toN k).val : Int) == a) (dn.map fun k : Nat => (k : Int)) c = ((c + dn.idxOf k : Nat) : Int)
  | [], c, h => by simp at h
  | x :: dn, c, h => by
    have e : (((toN k).val : Nat) : Int) = (k : Int) := by simp only [toN]; rw [Nat.mod_eq_of_lt hk]
    rw [List.map_cons, List.idxOf_cons]
    unfold findI
    rw [e]
    by_cases hx : x = k
    · subst hx; simp
    · have hb : ((k : Int) == (x : Int)) = false := by simp; omega
      have hb2 : (x == k) = false := by simpa using hx
      have hm : k ∈ dn := by
        rcases List.mem_cons.mp h with h | h
        · exact absurd h.symm hx
        · exact h
      have := ix_idx hk dn (c + 1) hm
      rw [e] at this
      rw [hb, hb2]
      simp only [Bool.false_eq_true, if_false, cond_false]
      rw [this]
      omega

section
variable {h : Heap} {P : List Sc} {s : Rs}
theorem undo_of (pl : PlOk P) {k : Nat} {t : Rs} (hk : k < P.length) (hst : t.st.length = P.length) (hac : t.ac.length ≤ 1000) (hdn : t.dn.length ≤ 1000) (ha : s.ac.length ≤ t.ac.length) (hd : t.dn.length ≤ s.dn.length)
    (hU : undA P k = false → ∀ (g : Rg) (L : Heap), ACalls Try.prog G 31 [.ptr (h.length + 1) 0 0, .i k] (rnH h P g s L) (fun r h' => r = .undef ∧ h' = rnH h P (gU g s t) t L)) (hT : undA P k = true → t = s) (g : Rg) (L : Heap) :
    ACalls Try.prog G 40 [.ptr (h.length + 1) 0 0, .i k] (rnH h P g s L) (fun r h' => r = .undef ∧ h' = rnH h P (gU g s ⟨t.st.set k 4, t.dn.filter (· != k), t.ac ++ if undA P k = true then [(2, k)] else []⟩) ⟨t.st.set k 4, t.dn.filter (· != k), t.ac ++ if undA P k = true then [(2, k)] else []⟩ L) := by
  obtain ⟨sc, hx⟩ : ∃ z, P[k]? = some z := ⟨_, List.getElem?_eq_getElem hk⟩
  have hu : undA P k = sc.2.2 := by unfold undA; rw [hx]
  have hxr := rowSc hx
  have k0 : (0 : Int) ≤ (k : Int) := by omega
  have kl : (k : Int) < (P.length : Int) := by omega
  have ks : (k : Int) < (t.st.length : Int) := by omega
  have kt1 : k + 1 ≤ t.st.length := by omega
  have kt2 : k < t.st.length := by omega
  have hos := map_setI t.st k 4
  have hrun : ∀ (g : Rg) (s : Rs) (L : Heap), (rnH h P g s L)[h.length + 1]? = some (runB h.length P g s) := fun _ _ _ => rn_run
  have hbox : ∀ (g : Rg) (s : Rs) (x : Option Blk), (rnH h P g s (L ++ [x]))[h.length + (L.length + 4)]? = some x := fun g s x => by rw [show L.length + 4 = 4 + L.length by omega, rn_at, List.getElem?_append_right (Nat.le_refl _), Nat.sub_self]; rfl
  have hstb : ∀ (g : Rg) (s : Rs) (L : Heap), (rnH h P g s L)[h.length]? = some (stB s) := fun _ _ _ => rn_st
  have hdnb : ∀ (g : Rg) (s : Rs) (L : Heap), (rnH h P g s L)[h.length + 2]? = some (dnB g s) := fun _ _ _ => rn_dn
  have hsst : ∀ (g : Rg) (ac : List (Int × Nat)) (L : Heap), (rnH h P g ⟨t.st, t.dn, ac⟩ L).set h.length (some ⟨0, (t.st.set k 4).map AV.i⟩) = rnH h P g ⟨t.st.set k 4, t.dn, ac⟩ L := fun g ac L => rn_sst (s := ⟨t.st, t.dn, ac⟩) _ (by simp)
  have hE := E45
  have hdel : ∀ (g : Rg) (ac : List (Int × Nat)), ACalls Try.prog G 44 [.ref (h.length + 2) g.gd 0 1 t.dn.length, .fn 45 [.ptr (h.length + (L.length + 4)) 0 0]] (rnH h P g ⟨t.st.set k 4, t.dn, ac⟩ (L ++ [some ⟨0, [.i k]⟩]))
      (fun r h' => r = .ref (h.length + 2) g.gd 0 1 (t.dn.filter (· != k)).length ∧ h' = (rnH h P g ⟨t.st.set k 4, t.dn, ac⟩ (L ++ [some ⟨0, [.i k]⟩])).set (h.length + 2) (some ⟨g.gd, ((t.dn.filter (· != k)).map fun k : Nat => (k : Int)).map AV.i ++ List.replicate (t.dn.length - (t.dn.filter (· != k)).length + g.z) (AV.i 0)⟩)) := by
    intro g ac
    have := delete_calls (G := G) hE (caps := [.ptr (h.length + (L.length + 4)) 0 0]) (p := fun a => a == (k : Int)) (l := t.dn.map fun k : Nat => (k : Int)) (z := g.z) (lb := h.length + 2) (gg := g.gd) (by rw [List.length_map]; exact hdn) (H := rnH h P g ⟨t.st.set k 4, t.dn, ac⟩ (L ++ [some ⟨0, [.i k]⟩]))
      (by rw [hdnb]; unfold dnB cDn; rw [li_map]) (by simp only [avlts, avlt, rn_len, List.length_append, List.length_cons, List.length_nil]; exact ⟨by omega, trivial⟩)
      (fun x a => del1_calls a k (by rw [List.getElem?_set_ne (by omega)]; exact hbox _ _ _))
    simp only [kept_ns, List.length_map] at this
    exact this
  have hfin : ∀ (g : Rg) (ac : List (Int × Nat)) (L : Heap), ((rnH h P g ⟨t.st.set k 4, t.dn, ac⟩ L).set (h.length + 2) (some ⟨g.gd, ((t.dn.filter (· != k)).map fun k : Nat => (k : Int)).map AV.i ++ List.replicate (t.dn.length - (t.dn.filter (· != k)).length + g.z) (AV.i 0)⟩)).set (h.length + 1) (some ⟨0, [aSc P, .ref h.length 0 0 1 t.st.length, .ref (h.length + 2) g.gd 0 1 (t.dn.filter (· != k)).length, .ref (h.length + 3) g.ga 0 2 ac.length]⟩)
      = rnH h P ⟨g.gd, t.dn.length - (t.dn.filter (· != k)).length + g.z, g.ga⟩ ⟨t.st.set k 4, t.dn.filter (· != k), ac⟩ L := fun g ac L => by
    unfold rnH
    rw [set_app, set_app]
    unfold runB stB dnB acB cDn
    rw [li_map]
    simp
  have hr2 : ∀ (g : Rg) (s : Rs) (L : Heap) (x : Option Blk), ((rnH h P g s L).set (h.length + 2) x)[h.length + 1]? = some (runB h.length P g s) := fun g s L x => by rw [List.getElem?_set_ne (by omega)]; exact rn_run
  have hfl : (t.dn.filter (· != k)).length ≤ t.dn.length := List.length_filter_le _ _
  cases hf : sc.2.2 with
  | true =>
    rw [hu, hf] at hT
    obtain rfl := hT rfl
    rw [hu, hf, if_pos rfl]
    have hact := act_calls (G := G) (h := h) (P := P) (g := g) (s := t) (L := L ++ [some ⟨0, [.i k]⟩]) hac 2 k
    have hg : (⟨g.gd, t.dn.length - (t.dn.filter (· != k)).length + g.z, g.ga + 1⟩ : Rg) = gU g t ⟨t.st.set k 4, t.dn.filter (· != k), t.ac ++ [(2, k)]⟩ := by
      unfold gU
      simp only [List.length_append, List.length_cons, List.length_nil, Rg.mk.injEq, true_and]
      omega
    rw [← hg]
    rw [hf] at hxr
    have hdl := hdel ⟨g.gd, g.z, g.ga + 1⟩ (t.ac ++ [(2, k)])
    have hfn := hfin ⟨g.gd, g.z, g.ga + 1⟩ (t.ac ++ [(2, k)])
    have hlac : (t.ac ++ [((2 : Int), k)]).length = t.ac.length + 1 := by simp
    simp only [hlac] at hfn
    refine acalls_heap (rl := []) mixed Try.func40 rfl (rs := []) rfl Try.ntmps40 (by simp) ?_
    repeat' (first | ((first | refine aops_nil ?_ | refine aqops_nil ?_ | refine arunN_nil ?_); (try simp only [NB])) | ((repeat ((fail_if_success (refine hK _ ?_)); clear hK K)); refine hK _ ?_; clear hK K) | ((first | refine aops_k fun K1 hK1 => ?_ | refine aqops_k fun K1 hK1 => ?_ | refine arunN_eff rfl rfl rfl fun K1 hK1 => ?_ | refine arunN_q rfl rfl rfl fun K1 hK1 => ?_ | refine awp_cond_k fun A B hA hB => ?_); simp only [S1, simprocAttr, TTScJ, hxr, k0, kl, ks, kt1, kt2, hos, hrun, hbox, hstb, hsst, hfn, hr2, hlac, rn_len, rn_app, runB, stB, Int.toNat_natCast, List.length_map, List.length_set, Nat.mul_one, Nat.zero_add]; first | (refine hK1 _ ?_; clear hK1 K1) | ((first | refine hA ?_ | refine hB ?_); clear hA hB A B) | ((first | apply call_a E32 | apply call_q E32); exact hact; (refine hK1 _ ?_; clear hK1 K1)) | ((first | apply call_a E44 | apply call_q E44); exact hdl; (refine hK1 _ ?_; clear hK1 K1)) | (((first | (refine ⟨fun hg => hA ?_, fun hg => hB ?_⟩ <;> clear hA hB A B) | refine ⟨fun hg => ?_, fun hg => ?_⟩) <;> (try simp only [BN2] at hg) <;> (try simp only [hg, cond_true, cond_false])) <;> (try (refine hK1 _ ?_; clear hK1 K1)) <;> (try simp only [BN3] at hg))) | (refine awp_seq_k fun K hK => ?_) | (refine awp_drawN (es := []) [0, 1, 2, 3, 4, 5, 6, 7] rfl (by kernel_rfl) ?_) | (refine awp_drawN (es := []) [0, 1, 2, 3, 4, 5, 6] rfl (by kernel_rfl) ?_) | ((first | refine awp_region ?_ | refine awp_draw (by kernel_rfl) ?_ | refine awp_block ?_ | refine awp_exit ?_ | refine awp_skip ?_ | refine awp_ret ?_); (try simp only [NB, simprocAttr])))
    all_goals simp only [EndH, FinH, resA, resL, resA1, lastV, lastA, lastAs, pur, purs, rn_len, rn_take, rn_takeM, List.length_append, List.length_cons, List.length_nil, S1, simprocAttr, Nat.le_add_right, Nat.le_refl]
    all_goals first | exact rn_keep | exact ⟨by omega, rn_keep⟩ | exact ⟨by omega, rn_keep, rfl⟩
  | false =>
    rw [hu, hf] at hU ⊢
    rw [if_neg (by simp), List.append_nil]
    have hup := hU rfl g (L ++ [some ⟨0, [.i k]⟩])
    have hg : (⟨(gU g s t).gd, t.dn.length - (t.dn.filter (· != k)).length + (gU g s t).z, (gU g s t).ga⟩ : Rg) = gU g s ⟨t.st.set k 4, t.dn.filter (· != k), t.ac⟩ := by
      unfold gU
      simp only [Rg.mk.injEq, true_and, and_true]
      omega
    rw [← hg]
    rw [hf] at hxr
    have hdl := hdel (gU g s t) t.ac
    have hfn := hfin (gU g s t) t.ac
    have hsst' := fun g L => hsst g t.ac L
    refine acalls_heap (rl := []) mixed Try.func40 rfl (rs := []) rfl Try.ntmps40 (by simp) ?_
    repeat' (first | ((first | refine aops_nil ?_ | refine aqops_nil ?_ | refine arunN_nil ?_); (try simp only [NB])) | ((repeat ((fail_if_success (refine hK _ ?_)); clear hK K)); refine hK _ ?_; clear hK K) | ((first | refine aops_k fun K1 hK1 => ?_ | refine aqops_k fun K1 hK1 => ?_ | refine arunN_eff rfl rfl rfl fun K1 hK1 => ?_ | refine arunN_q rfl rfl rfl fun K1 hK1 => ?_ | refine awp_cond_k fun A B hA hB => ?_); simp only [S1, simprocAttr, TTScJ, hxr, k0, kl, ks, kt1, kt2, hos, hrun, hbox, hstb, hsst', hfn, hr2, rn_len, rn_app, runB, stB, Int.toNat_natCast, List.length_map, List.length_set, Nat.mul_one, Nat.zero_add]; first | (refine hK1 _ ?_; clear hK1 K1) | ((first | refine hA ?_ | refine hB ?_); clear hA hB A B) | ((first | apply call_a E31 | apply call_q E31); exact hup; (refine hK1 _ ?_; clear hK1 K1)) | ((first | apply call_a E44 | apply call_q E44); exact hdl; (refine hK1 _ ?_; clear hK1 K1)) | (((first | (refine ⟨fun hg => hA ?_, fun hg => hB ?_⟩ <;> clear hA hB A B) | refine ⟨fun hg => ?_, fun hg => ?_⟩) <;> (try simp only [BN2] at hg) <;> (try simp only [hg, cond_true, cond_false])) <;> (try (refine hK1 _ ?_; clear hK1 K1)) <;> (try simp only [BN3] at hg))) | (refine awp_seq_k fun K hK => ?_) | (refine awp_drawN (es := []) [0, 1, 2, 3, 4, 5, 6, 7] rfl (by kernel_rfl) ?_) | (refine awp_drawN (es := []) [0, 1, 2, 3, 4, 5, 6] rfl (by kernel_rfl) ?_) | ((first | refine awp_region ?_ | refine awp_draw (by kernel_rfl) ?_ | refine awp_block ?_ | refine awp_exit ?_ | refine awp_skip ?_ | refine awp_ret ?_); (try simp only [NB, simprocAttr])))
    all_goals simp only [EndH, FinH, resA, resL, resA1, lastV, lastA, lastAs, pur, purs, rn_len, rn_take, rn_takeM, List.length_append, List.length_cons, List.length_nil, S1, simprocAttr, Nat.le_add_right, Nat.le_refl]
    all_goals first | exact rn_keep | exact ⟨by omega, rn_keep⟩ | exact ⟨by omega, rn_keep, rfl⟩
end
end Go.Proofs.Ytkmcecbglomemaa.AM
end

section
set_option linter.unusedVariables false
set_option linter.unusedSimpArgs false
set_option maxRecDepth 4000
set_option maxHeartbeats 4000000
namespace Go.Proofs.Ytkmcecbglomemaa.AM
open Go Go.Proofs
set_option linter.defProp false in
def TTScL := And.intro T2 (And.intro T3 (And.intro T4 (And.intro T22 (And.intro T25 (And.intro T26 (And.intro T37 (And.intro T41 (And.intro T45 (And.intro T49 (And.intro T51 (And.intro T54 T72)))))))))))
attribute [local irreducible] awp aops aqops aeops arun arunT arunN
variable {G : Nat → Option (List PV)}

theorem findI_inj {l : List Int} {a b : Int} (ha : a ∈ l) (h : findI (fun x => a == x) l 0 = findI (fun x => b == x) l 0) : a = b := by
  rcases findI_spec (p := fun x => a == x) l 0 with ⟨h1, h2⟩ | ⟨i, h1, h2, h3, y, h4, h5⟩
  · have := h2 a ha; simp at this
  rcases findI_spec (p := fun x => b == x) l 0 with ⟨g1, g2⟩ | ⟨j, g1, g2, g3, z, g4, g5⟩
  · rw [h1, g1] at h; omega
  · rw [h1, g1] at h
    obtain rfl : i = j := by omega
    rw [h4] at g4
    cases g4
    simp only [beq_iff_eq] at h5 g5
    rw [h5, g5]

section
variable {h : Heap} {P : List Sc} {s : Rs}
theorem srt_nodup (ok : RsOk P s) (i : Nat) : (srtD P s i).Nodup := (List.pairwise_reverse.mpr (ok.ndp.imp Ne.symm)).filter _
theorem srt_perm (ok : RsOk P s) (i : Nat) : (srtD P s i).Perm (prts P s.st i 2) := by
  rw [List.perm_iff_count]
  intro a
  have h1 := srt_nodup ok i
  have h2 : (prts P s.st i 2).Nodup := range_nodup _ _
  have hm : a ∈ srtD P s i ↔ a ∈ prts P s.st i 2 := by
    rw [mem_srt, mem_prts, ok.dnp]
    exact ⟨fun ⟨x, y⟩ => ⟨ok.lt (by omega), y, x⟩, fun ⟨_, y, x⟩ => ⟨x, y⟩⟩
  rw [h1.count, h2.count]
  by_cases c : a ∈ srtD P s i
  · rw [if_pos c, if_pos (hm.mp c)]
  · rw [if_neg c, if_neg (fun e => c (hm.mpr e))]

theorem sortU_calls (pl : PlOk P) (ok : RsOk P s) (i : Nat) (g : Rg) (L : Heap) (x : Option Blk) (hx : x = some ⟨0, [.ptr (h.length + 1) 0 0]⟩) :
    ACalls Try.prog G 36 [.ref (h.length + ((L ++ [x]).length + 4)) (prts P s.st i 2).length 0 1 (prts P s.st i 2).length, .fn 37 [.ptr (h.length + (L.length + 4)) 0 0]]
      (rnH h P g s (L ++ [x] ++ [some ⟨(prts P s.st i 2).length, (prts P s.st i 2).map fun k : Nat => AV.i (k : Int)⟩]))
      (fun r h' => r = .undef ∧ h' = rnH h P g s (L ++ [x] ++ [some ⟨(prts P s.st i 2).length, ((srtD P s i).map fun k : Nat => (k : Int)).map AV.i⟩])) := by
  have hls : ∀ y : Option Blk, (rnH h P g s (L ++ [x] ++ [y]))[h.length + ((L ++ [x]).length + 4)]? = some y := fun y => by rw [show (L ++ [x]).length + 4 = 4 + (L ++ [x]).length by omega, rn_at, List.getElem?_append_right (Nat.le_refl _), Nat.sub_self]; rfl
  have hset : ∀ y z : Option Blk, (rnH h P g s (L ++ [x] ++ [y])).set (h.length + ((L ++ [x]).length + 4)) z = rnH h P g s (L ++ [x] ++ [z]) := fun y z => by rw [show (L ++ [x]).length + 4 = 4 + (L ++ [x]).length by omega, rn_set, List.set_append_right _ _ (Nat.le_refl _), Nat.sub_self]; rfl
  have hpm := srt_perm ok i
  by_cases h0 : prts P s.st i 2 = []
  · rw [h0] at hpm ⊢
    rw [List.Perm.eq_nil hpm]
    exact sort_none (hls _)
  have hlt : ∀ k ∈ prts P s.st i 2, k < 64 := fun k hk => by have := (mem_prts.mp hk).1; have := pl.n32; omega
  have hlt2 : ∀ k ∈ srtD P s i, k < 64 := fun k hk => hlt k (hpm.mem_iff.mp hk)
  have hbxx : (rnH h P g s (L ++ [x] ++ [some ⟨(prts P s.st i 2).length, (prts P s.st i 2).map fun k : Nat => AV.i (k : Int)⟩]))[h.length + (L.length + 4)]? = some (some ⟨0, [.ptr (h.length + 1) 0 0]⟩) := by
    rw [show L.length + 4 = 4 + L.length by omega, rn_at, List.append_assoc, List.getElem?_append_right (Nat.le_refl _), Nat.sub_self, hx]; rfl
  have hdl := ok.dnle
  have h32 := pl.n32
  have hple : (prts P s.st i 2).length ≤ 32 := Nat.le_trans (prN_le P s.st i 2 P.length) h32
  have hix : ∀ k ∈ srtD P s i, ixN (s.dn.map fun k : Nat => (k : Int)) (toN k) = (s.dn.idxOf k : Int) := fun k hk => by
    have := ix_idx (hlt2 k hk) s.dn 0 (mem_srt.mp hk).1
    rw [Nat.zero_add] at this; exact this
  have hpw : (srtD P s i).Pairwise fun a b => s.dn.idxOf b < s.dn.idxOf a := (List.pairwise_reverse.mpr (idx_pw ok.ndp)).filter _
  have key := sortP_calls (G := G) (H := rnH h P g s (L ++ [x] ++ [some ⟨(prts P s.st i 2).length, (prts P s.st i 2).map fun k : Nat => AV.i (k : Int)⟩])) (bx := h.length + (L.length + 4)) (rb := h.length + 1) (db := h.length + 2) (ls := h.length + ((L ++ [x]).length + 4)) (gd := g.gd) (gl := (prts P s.st i 2).length)
    (c0 := aSc P) (c1 := .ref h.length 0 0 1 s.st.length) (rest := [.ref (h.length + 3) g.ga 0 2 s.ac.length]) (dn := s.dn.map fun k : Nat => (k : Int)) (z := List.replicate g.z (.i 0)) (l := (prts P s.st i 2).map toN) (out := (srtD P s i).map toN)
    hbxx (by rw [List.length_map]; exact rn_run) (by rw [rn_dn]; unfold dnB cDn; rw [li_map]) (by rw [hls, toN_map hlt, li_map]) (by simp) (by omega) (by omega) (by rw [List.length_map]; omega) (by simpa using h0) (by rw [List.length_map]; omega)
    (hpm.map _) (by
      rw [List.pairwise_map]
      refine hpw.imp_of_mem fun {a b} ha hb hab => ?_
      rw [hix a ha, hix b hb]; omega) (fun a b ha hb e => by
      obtain ⟨p, hp, rfl⟩ := List.mem_map.mp ha
      obtain ⟨q, hq, rfl⟩ := List.mem_map.mp hb
      have hp' := (mem_srt.mp (hpm.mem_iff.mpr hp)).1
      have hpk := hlt p hp
      have hqk := hlt q hq
      have ep : (((toN p).val : Nat) : Int) = (p : Int) := by simp only [toN]; rw [Nat.mod_eq_of_lt hpk]
      have eq : (((toN q).val : Nat) : Int) = (q : Int) := by simp only [toN]; rw [Nat.mod_eq_of_lt hqk]
      unfold ixN at e
      rw [ep, eq] at e
      have := findI_inj (List.mem_map.mpr ⟨p, hp', rfl⟩) e
      have : p = q := by omega
      rw [this])
  rw [List.length_map, hset, toN_map hlt2] at key
  exact key

theorem undoParts_of (pl : PlOk P) (ok : RsOk P s) {i : Nat} (E : Nat → Rs) (h0 : E 0 = s) (hm : ∀ j, j < (srtD P s i).length → (E j).ac.length ≤ (E (j + 1)).ac.length) (hd : ∀ j, j < (srtD P s i).length → (E (j + 1)).dn.length ≤ (E j).dn.length)
    (hun : ∀ (j k : Nat), (srtD P s i)[j]? = some k → ∀ (g : Rg) (L : Heap), ACalls Try.prog G 40 [.ptr (h.length + 1) 0 0, .i k] (rnH h P g (E j) L) (fun r h' => r = .undef ∧ h' = rnH h P (gU g (E j) (E (j + 1))) (E (j + 1)) L)) (g : Rg) (L : Heap) :
    ACalls Try.prog G 31 [.ptr (h.length + 1) 0 0, .i i] (rnH h P g s L) (fun r h' => r = .undef ∧ h' = rnH h P (gU g s (E (srtD P s i).length)) (E (srtD P s i).length) L) := by
  obtain ⟨x, hx⟩ : ∃ x : Option Blk, x = some ⟨0, [.ptr (h.length + 1) 0 0]⟩ := ⟨_, rfl⟩
  have hpt := parts_calls (G := G) (h := h) (g := g) (L := L ++ [x]) ok.len pl.n32 i 2
  have hso := sortU_calls (G := G) (h := h) pl ok i g L x hx
  have hle : (prts P s.st i 2).length ≤ 32 := Nat.le_trans (prN_le P s.st i 2 P.length) pl.n32
  have hpl := (srt_perm ok i).length_eq
  have hmono : ∀ j, j ≤ (srtD P s i).length → s.ac.length ≤ (E j).ac.length ∧ (E j).dn.length ≤ s.dn.length := by
    intro j
    induction j with
    | zero => intro _; rw [h0]; exact ⟨Nat.le_refl _, Nat.le_refl _⟩
    | succ j ih => intro hj; have := ih (by omega); have := hm j (by omega); have := hd j (by omega); omega
  rw [← hpl] at hpt hso hle
  have hbx : ∀ (g : Rg) (s : Rs) (M : Heap), (rnH h P g s (L ++ ([x] ++ M)))[h.length + (L.length + 4)]? = some (some ⟨0, [.ptr (h.length + 1) 0 0]⟩) := fun g s M => by
    rw [show L.length + 4 = 4 + L.length by omega, rn_at, List.getElem?_append_right (Nat.le_refl _), Nat.sub_self, hx]; rfl
  have hbx0 : ∀ (g : Rg) (s : Rs), (rnH h P g s (L ++ [x]))[h.length + (L.length + 4)]? = some (some ⟨0, [.ptr (h.length + 1) 0 0]⟩) := fun g s => by have := hbx g s []; simpa using this
  simp only [List.append_assoc] at hpt hso
  subst hx
  generalize hl : srtD P s i = l at *
  simp only [List.length_append, List.length_cons, List.length_nil, Nat.zero_add] at hpt hso
  refine acalls_heap (rl := []) mixed Try.func31 rfl (rs := []) rfl Try.ntmps31 (by simp) ?_
  repeat' (first | ((first | refine aops_nil ?_ | refine aqops_nil ?_); (try simp only [NB])) | ((repeat ((fail_if_success (refine hK _ ?_)); clear hK K)); refine hK _ ?_; clear hK K) | ((first | refine aops_k fun K1 hK1 => ?_ | refine aqops_k fun K1 hK1 => ?_ | refine awp_cond_k fun A B hA hB => ?_); simp only [S1, simprocAttr, TTScL, rn_len, rn_app, hbx0]; first | (refine hK1 _ ?_; clear hK1 K1) | ((first | refine hA ?_ | refine hB ?_); clear hA hB A B) | ((first | apply call_a E26 | apply call_q E26); exact hpt; (refine hK1 _ ?_; clear hK1 K1)) | ((first | apply call_a E36 | apply call_q E36); exact hso; (refine hK1 _ ?_; clear hK1 K1)) | (((first | (refine ⟨fun hg => hA ?_, fun hg => hB ?_⟩ <;> clear hA hB A B) | refine ⟨fun hg => ?_, fun hg => ?_⟩) <;> (try simp only [BN2] at hg) <;> (try simp only [hg, cond_true, cond_false])) <;> (try (refine hK1 _ ?_; clear hK1 K1)) <;> (try simp only [BN3] at hg))) | (refine awp_seq_k fun K hK => ?_) | ((first | refine awp_region ?_ | refine awp_draw (by kernel_rfl) ?_ | refine awp_block ?_ | refine awp_exit ?_ | refine awp_skip ?_ | refine awp_ret ?_); (try simp only [NB, simprocAttr])))
  refine awp_forH l.length 23 (fun j => rnH h P (gU g s (E j)) (E j) L) (fun j => [(15, .i j), (14, .i l.length), (13, .ref (h.length + (L.length + 1 + 4)) l.length 0 1 l.length), (2, .ptr (h.length + (L.length + 4)) 0 0)]) (fun j => [some ⟨0, [.ptr (h.length + 1) 0 0]⟩, some ⟨l.length, (l.map fun k : Nat => (k : Int)).map AV.i⟩]) (fun j => True)
    (fun j => ⟨by rw [rn_len, rn_len], fun i bk hi => by rw [rn_len]; exact rn_keepA i bk hi⟩) ?_ trivial fun j hj hp K hK => ?_
  · simp only [h0, gU_self]
    refine ⟨rfl, ⟨[], by rw [rn_app]; simp⟩, ?_, ?_⟩
    · simp only [keeps, avlt, avlts, blksLt, frL, upd_get, rn_len, S1, simprocAttr, List.length_map, List.length_cons, List.length_nil, Int.natCast_zero, AV.p.injEq, PV.int.injEq, PV.bool.injEq, PV.sl.injEq] <;> (try and_intros) <;> (try assumption) <;> (try trivial) <;> (try omega)
    · exact ⟨⟨by simp only [avlt, rn_len]; omega, trivial⟩, avlts_i _ _, trivial⟩
  rw [rn_app]
  rcases Nat.lt_or_ge j l.length with hlt | hge
  · obtain ⟨k, hk⟩ : ∃ k, l[j]? = some k := ⟨_, List.getElem?_eq_getElem (by omega)⟩
    have jl : (j : Int) < (l.length : Int) := by omega
    have j0 : (0 : Int) ≤ (j : Int) := by omega
    have hnx := nextJ (n := l.length) (by omega) hlt
    have hdd := dropSt (l := l.map fun k : Nat => (k : Int)) (i := j) (x := (k : Int)) (by rw [List.getElem?_map, hk]; rfl)
    have hat : ∀ (g : Rg) (s : Rs) (y : Option Blk), (rnH h P g s (L ++ [some ⟨0, [.ptr (h.length + 1) 0 0]⟩, y]))[h.length + (L.length + 1 + 4)]? = some y := fun g s y => by rw [show L.length + 1 + 4 = 4 + (L.length + 1) by omega, rn_at, List.getElem?_append_right (by omega), show L.length + 1 - L.length = 1 by omega]; rfl
    have hbx2 : ∀ (g : Rg) (s : Rs) (y : Option Blk), (rnH h P g s (L ++ [some ⟨0, [.ptr (h.length + 1) 0 0]⟩, y]))[h.length + (L.length + 4)]? = some (some ⟨0, [.ptr (h.length + 1) 0 0]⟩) := fun g s y => hbx g s [y]
    have he := hun j k hk (gU g s (E j)) (L ++ [some ⟨0, [.ptr (h.length + 1) 0 0]⟩, some ⟨l.length, (l.map fun k : Nat => (k : Int)).map AV.i⟩])
    rw [gU_trans (hmono j (by omega)).1 (hm j hlt) (hmono j (by omega)).2 (hd j hlt)] at he
    repeat' (first | ((first | refine aops_nil ?_ | refine aqops_nil ?_); (try simp only [NB])) | ((repeat ((fail_if_success (refine hK _ ?_)); clear hK K)); refine hK _ ?_; clear hK K) | ((first | refine aops_k fun K1 hK1 => ?_ | refine aqops_k fun K1 hK1 => ?_ | refine awp_cond_k fun A B hA hB => ?_); simp only [S1, simprocAttr, TTScL, jl, j0, hnx, hdd, hat, hbx2, Int.toNat_natCast, List.length_map, Nat.mul_one, Nat.zero_add]; first | (refine hK1 _ ?_; clear hK1 K1) | ((first | refine hA ?_ | refine hB ?_); clear hA hB A B) | ((first | apply call_a E40 | apply call_q E40); exact he; (refine hK1 _ ?_; clear hK1 K1)) | (((first | (refine ⟨fun hg => hA ?_, fun hg => hB ?_⟩ <;> clear hA hB A B) | refine ⟨fun hg => ?_, fun hg => ?_⟩) <;> (try simp only [BN2] at hg) <;> (try simp only [hg, cond_true, cond_false])) <;> (try (refine hK1 _ ?_; clear hK1 K1)) <;> (try simp only [BN3] at hg))) | (refine awp_seq_k fun K hK => ?_) | ((first | refine awp_region ?_ | refine awp_draw (by kernel_rfl) ?_ | refine awp_block ?_ | refine awp_exit ?_ | refine awp_skip ?_ | refine awp_ret ?_); (try simp only [NB, simprocAttr])))
    all_goals refine ⟨hlt, trivial, rfl, ⟨[], by rw [rn_app]; simp⟩, ?_, ?_⟩
    · simp only [keeps, avlt, avlts, blksLt, frL, upd_get, rn_len, S1, simprocAttr, List.length_map, List.length_cons, List.length_nil, Int.natCast_zero, AV.p.injEq, PV.int.injEq, PV.bool.injEq, PV.sl.injEq] <;> (try and_intros) <;> (try assumption) <;> (try trivial) <;> (try omega)
    · exact ⟨⟨by simp only [avlt, rn_len]; omega, trivial⟩, avlts_i _ _, trivial⟩
  · obtain rfl : j = l.length := by omega
    repeat' (first | ((first | refine aops_nil ?_ | refine aqops_nil ?_); (try simp only [NB])) | ((repeat ((fail_if_success (refine hK _ ?_)); clear hK K)); refine hK _ ?_; clear hK K) | ((first | refine aops_k fun K1 hK1 => ?_ | refine aqops_k fun K1 hK1 => ?_ | refine awp_cond_k fun A B hA hB => ?_); simp only [S1, simprocAttr, TTScL, Int.lt_irrefl]; first | (refine hK1 _ ?_; clear hK1 K1) | ((first | refine hA ?_ | refine hB ?_); clear hA hB A B) | (((first | (refine ⟨fun hg => hA ?_, fun hg => hB ?_⟩ <;> clear hA hB A B) | refine ⟨fun hg => ?_, fun hg => ?_⟩) <;> (try simp only [BN2] at hg) <;> (try simp only [hg, cond_true, cond_false])) <;> (try (refine hK1 _ ?_; clear hK1 K1)) <;> (try simp only [BN3] at hg))) | (refine awp_seq_k fun K hK => ?_) | ((first | refine awp_region ?_ | refine awp_draw (by kernel_rfl) ?_ | refine awp_block ?_ | refine awp_exit ?_ | refine awp_skip ?_ | refine awp_ret ?_); (try simp only [NB, simprocAttr])))
    all_goals simp only [EndH, FinH, resA, resL, resA1, lastV, lastA, lastAs, pur, purs, rn_len, rn_take, rn_takeM, List.length_append, List.length_cons, List.length_nil, S1, simprocAttr, Nat.le_add_right, Nat.le_refl]
    all_goals first | exact rn_keep | exact ⟨by omega, rn_keep⟩ | exact ⟨by omega, rn_keep, rfl⟩
end
end Go.Proofs.Ytkmcecbglomemaa.AM
end

section
set_option linter.unusedVariables false
set_option linter.unusedSimpArgs false
set_option maxRecDepth 4000
set_option maxHeartbeats 4000000
namespace Go.Proofs.Ytkmcecbglomemaa.AM
open Go Go.Proofs
set_option linter.defProp false in
def TTScM := And.intro T2 (And.intro T3 (And.intro T4 (And.intro T22 (And.intro T25 (And.intro T26 (And.intro T37 (And.intro T41 (And.intro T45 (And.intro T49 T54)))))))))
attribute [local irreducible] awp aops aqops aeops arun arunT arunN
variable {G : Nat → Option (List PV)}

section
variable {h : Heap} {P : List Sc}
theorem undos_calls (pl : PlOk P) : ∀ (d i : Nat) (s : Rs), P.length ≤ i + d → RsOk P s → ∀ (g : Rg) (L : Heap),
    ACalls Try.prog G 31 [.ptr (h.length + 1) 0 0, .i i] (rnH h P g s L) (fun r h' => r = .undef ∧ h' = rnH h P (gU g s (undosF P d i s)) (undosF P d i s) L)
  | 0, i, s, hd, ok, g, L => by
    have h0 : srtD P s i = [] := by
      rw [List.eq_nil_iff_forall_not_mem]
      intro k hk
      have := (pl.lt (mem_srt.mp hk).2).1
      have := (pl.lt (mem_srt.mp hk).2).2
      omega
    exact undoParts_of (G := G) (h := h) (i := i) pl ok (fun _ => s) rfl (fun j hj => Nat.le_refl _) (fun j hj => Nat.le_refl _) (fun j k hk => by rw [h0] at hk; simp at hk) g L
  | d + 1, i, s, hd, ok, g, L => by
    have IH := fun (k : Nat) (t : Rs) (hk : i < k) (ht : RsOk P t) => undos_spec pl d k t (by omega) ht
    have hnd := srt_nodup ok i
    have hin : ∀ k ∈ srtD P s i, parA P k = (i : Int) ∧ stA s.st k = 2 := fun k hk => ⟨(mem_srt.mp hk).2, (ok.dnp k).mp (mem_srt.mp hk).1⟩
    have hpre : ∀ j, RsOk P (((srtD P s i).take j).foldl (undB P d) s) := fun j =>
      (undos_loop pl IH _ s (hnd.sublist (List.take_sublist _ _)) (fun k hk => hin k (List.mem_of_mem_take hk)) ok).1.ok
    have hstep : ∀ (j k : Nat), (srtD P s i)[j]? = some k → ((srtD P s i).take (j + 1)).foldl (undB P d) s = undB P d (((srtD P s i).take j).foldl (undB P d) s) k := fun j k hk => by
      rw [List.take_add_one, hk, List.foldl_append]; rfl
    have hmon : ∀ (t : Rs) (k : Nat), RsOk P t → i < k → t.ac.length ≤ (undB P d t k).ac.length ∧ (undB P d t k).dn.length ≤ t.dn.length := by
      intro t k ht hk
      have hu := (IH k t hk ht).1
      unfold undB
      split
      · exact ⟨by simp, List.length_filter_le _ _⟩
      · exact ⟨hu.acl, Nat.le_trans (List.length_filter_le _ _) hu.sub.length_le⟩
    have e1 : undosF P (d + 1) i s = ((srtD P s i).take (srtD P s i).length).foldl (undB P d) s := by
      rw [List.take_length]; rfl
    rw [e1]
    refine undoParts_of (G := G) (h := h) (i := i) pl ok (fun j => ((srtD P s i).take j).foldl (undB P d) s) rfl (fun j hj => ?_) (fun j hj => ?_) (fun j k hk g L => ?_) g L
    · obtain ⟨k, hk⟩ : ∃ k, (srtD P s i)[j]? = some k := ⟨_, List.getElem?_eq_getElem hj⟩
      simp only [hstep j k hk]
      exact (hmon _ k (hpre j) (pl.lt (hin k (List.mem_of_getElem? hk)).1).1).1
    · obtain ⟨k, hk⟩ : ∃ k, (srtD P s i)[j]? = some k := ⟨_, List.getElem?_eq_getElem hj⟩
      simp only [hstep j k hk]
      exact (hmon _ k (hpre j) (pl.lt (hin k (List.mem_of_getElem? hk)).1).1).2
    · obtain ⟨hp, _⟩ := hin k (List.mem_of_getElem? hk)
      have hik := (pl.lt hp).1
      have hkn := (pl.lt hp).2
      simp only [hstep j k hk]
      have okj := hpre j
      generalize ((srtD P s i).take j).foldl (undB P d) s = e at okj ⊢
      have hu := (IH k e hik okj).1
      have h32 := pl.n32
      cases hf : undA P k with
      | true =>
        have key := undo_of (G := G) (h := h) (s := e) pl (t := e) hkn okj.len (by have := okj.acle; omega) (by have := okj.dnle; omega) (Nat.le_refl _) (Nat.le_refl _) (fun h0 => by rw [hf] at h0; cases h0) (fun _ => rfl) g L
        rw [hf, if_pos rfl] at key
        have e3 : undB P d e k = ⟨e.st.set k 4, e.dn.filter (· != k), e.ac ++ [(2, k)]⟩ := by unfold undB; rw [if_pos hf]
        rw [e3]; exact key
      | false =>
        have key := undo_of (G := G) (h := h) (s := e) pl (t := undosF P d k e) hkn hu.ok.len (by have := hu.ok.acle; omega) (by have := hu.ok.dnle; omega) hu.acl hu.sub.length_le (fun _ g L => undos_calls pl d k e (by omega) okj g L) (fun h0 => by rw [hf] at h0; cases h0) g L
        rw [hf, if_neg (by simp), List.append_nil] at key
        have e3 : undB P d e k = ⟨(undosF P d k e).st.set k 4, (undosF P d k e).dn.filter (· != k), (undosF P d k e).ac⟩ := by unfold undB; rw [if_neg (by rw [hf]; simp)]
        rw [e3]; exact key

theorem RvOk.more {dn0 : List Nat} {s t : Rs} (hr : RvOk P dn0 s) (hd : t.dn.Sublist s.dn) (m : List (Int × Nat)) (ha : t.ac = s.ac ++ m) (hm : ∀ a ∈ m, a.1 ≠ 2) (hst : ∀ k, stA s.st k = 4 → stA t.st k = 4) : RvOk P dn0 t := by
  have hin : ∀ a ∈ t.ac, a.1 = 2 → a ∈ s.ac := fun a h1 h2 => by
    rw [ha] at h1
    rcases List.mem_append.mp h1 with h1 | h1
    · exact h1
    · exact absurd h2 (hm a h1)
  refine ⟨hd.trans hr.sub, fun a h1 h2 => ?_, fun a h1 h2 k hk hp => hr.later a (hin a h1 h2) h2 k (hd.subset hk) hp, ?_⟩
  · have := hr.ac4 a (hin a h1 h2) h2
    exact ⟨this.1, hst _ this.2.1, this.2.2⟩
  · rw [ha, List.pairwise_append]
    refine ⟨hr.ord, ?_, fun a _ b hb _ h2 => absurd h2 (hm b hb)⟩
    rw [List.pairwise_iff_getElem]
    intro i j hi hj _ h1
    exact absurd h1 (hm _ (List.getElem_mem hi))
theorem RsOk.noIn {s : Rs} (ok : RsOk P s) {c : Nat} (hc : stA s.st c ≠ 1) {k : Nat} (hk : Ins P c k) : stA s.st k ≠ 1 := by
  induction hk with
  | self => exact hc
  | up k j hp hj ih => exact fun e => ih (ok.inp k j hp e)

structure FltTo (P : List Sc) (i : Nat) (s t : Rs) : Prop where
  ok : RsOk P t
  acl : s.ac.length ≤ t.ac.length
  sub : t.dn.Sublist s.dn
  le : ∀ k, 3 ≤ stA s.st k → stA t.st k = stA s.st k
  rv : ∀ dn0 : List Nat, dn0.Nodup → RvOk P dn0 s → RvOk P dn0 t
  last : ∃ (c : Nat) (w : Int) (m : List (Int × Nat)), Ins P c i ∧ t.ac = m ++ [(w, c)] ∧ (w = 3 ∨ (w = 4 ∧ c = 0)) ∧ ∀ k, Ins P c k → stA t.st k ≠ 1

/-- What a fault begins with. -/
def fltB (P : List Sc) (i : Nat) (s : Rs) : Rs := undosF P P.length i (endsF P P.length i s)
theorem flt_begin (pl : PlOk P) {i : Nat} {s : Rs} (hi : i < P.length) (ok : RsOk P s) (h1 : stA s.st i = 1) (what x : Int) (hx : 5 ≤ x) (hx6 : x ≤ 6) (hw : what ≠ 2) :
    RsOk P (fltB P i s) ∧ stA (fltB P i s).st i = 1 ∧ s.ac.length ≤ (fltB P i s).ac.length ∧ (fltB P i s).dn.Sublist s.dn ∧
    RsOk P ⟨(fltB P i s).st.set i x, (fltB P i s).dn, (fltB P i s).ac ++ [(what, i)]⟩ ∧ (∀ k, 3 ≤ stA s.st k → stA ((fltB P i s).st.set i x) k = stA s.st k) ∧
    (∀ dn0 : List Nat, dn0.Nodup → RvOk P dn0 s → RvOk P dn0 ⟨(fltB P i s).st.set i x, (fltB P i s).dn, (fltB P i s).ac ++ [(what, i)]⟩) := by
  obtain ⟨e1, e2⟩ := ends_spec pl P.length i s (by omega) ok
  obtain ⟨u1, u2⟩ := undos_spec pl P.length i _ (by omega) e1.ok
  have hb1 : stA (fltB P i s).st i = 1 := by
    unfold fltB
    rw [u1.only i (fun e => e.2 rfl), e1.only i (fun e => e.2 rfl)]; exact h1
  have hlt : i < (fltB P i s).st.length := stA_lt (by omega)
  have hs := fun j => stA_set (x := x) hlt j
  have hle : ∀ k, 3 ≤ stA s.st k → stA (fltB P i s).st k = stA s.st k := fun k hk => by
    have a1 := e1.how k
    have a2 := u1.how k
    unfold fltB
    omega
  have hne : ∀ j, parA P j = (i : Int) → stA (fltB P i s).st j ≠ 1 := fun j hj => by
    have a1 := e2 j hj
    have a2 := u1.how j
    unfold fltB
    omega
  refine ⟨u1.ok, hb1, Nat.le_trans e1.acle u1.acl, u1.sub.trans (by rw [e1.dn]; exact List.Sublist.refl _), u1.ok.out hb1 hne (by omega) hx6, fun k hk => ?_, fun dn0 hd0 hr => ?_⟩
  · rw [hs, if_neg (by intro e; subst e; omega)]
    exact hle k hk
  · obtain ⟨m, em, hm⟩ := e1.app
    have r1 : RvOk P dn0 (endsF P P.length i s) := hr.more (by rw [e1.dn]; exact List.Sublist.refl _) m em (fun a ha => by rw [hm a ha]; decide) fun k hk => by have := e1.how k; omega
    have r2 := u2 dn0 hd0 r1
    refine RvOk.more (s := undosF P P.length i (endsF P P.length i s)) r2 (List.Sublist.refl _) [(what, i)] rfl (fun a ha => by rw [List.mem_singleton] at ha; subst ha; exact hw) fun k hk => ?_
    show stA ((fltB P i s).st.set i x) k = 4
    rw [hs]
    split
    · rename_i e
      subst e
      change stA (fltB P k s).st k = 4 at hk
      omega
    · exact hk

theorem fault_eq (d i : Nat) (s : Rs) : faultF P (d + 1) i s = if catA P i = true then ⟨(fltB P i s).st.set i 5, (fltB P i s).dn, (fltB P i s).ac ++ [(3, i)]⟩
    else if 0 < i then faultF P d (parA P i).toNat ⟨(fltB P i s).st.set i 6, (fltB P i s).dn, (fltB P i s).ac ++ [(4, i)]⟩ else ⟨(fltB P i s).st.set i 6, (fltB P i s).dn, (fltB P i s).ac ++ [(4, i)]⟩ := rfl

theorem fault_spec (pl : PlOk P) : ∀ (d i : Nat) (s : Rs), i < d → i < P.length → RsOk P s → stA s.st i = 1 → FltTo P i s (faultF P d i s)
  | 0, i, s, hd, _, _, _ => by omega
  | d + 1, i, s, hd, hi, ok, h1 => by
    rw [fault_eq]
    obtain ⟨b1, b2, b3, b4, b5, b6, b7⟩ := flt_begin pl hi ok h1 3 5 (by omega) (by omega) (by decide)
    obtain ⟨_, _, _, _, c5, c6, c7⟩ := flt_begin pl hi ok h1 4 6 (by omega) (by omega) (by decide)
    have hlt : i < (fltB P i s).st.length := stA_lt (by omega)
    have hs5 := fun j => stA_set (x := 5) hlt j
    have hs6 := fun j => stA_set (x := 6) hlt j
    split
    · refine ⟨b5, by simp only [List.length_append]; omega, b4, b6, b7, i, 3, _, .self, rfl, .inl rfl, fun k hk => b5.noIn ?_ hk⟩
      show stA ((fltB P i s).st.set i 5) i ≠ 1
      rw [hs5, if_pos rfl]; decide
    split
    · rename_i h0
      obtain ⟨hp0, hpi⟩ := pl.par i h0 hi
      obtain ⟨q, hq⟩ : ∃ q : Nat, parA P i = (q : Int) := ⟨(parA P i).toNat, by omega⟩
      rw [hq, Int.toNat_natCast]
      have hq1 : stA ((fltB P i s).st.set i 6) q = 1 := by
        rw [hs6, if_neg (by omega)]
        exact b1.inp i q hq b2
      have IH := fault_spec pl d q ⟨(fltB P i s).st.set i 6, (fltB P i s).dn, (fltB P i s).ac ++ [(4, i)]⟩ (by omega) (by omega) c5 hq1
      obtain ⟨c, w, m, k1, k2, k3, k4⟩ := IH.last
      refine ⟨IH.ok, Nat.le_trans (by simp only [List.length_append]; omega) IH.acl, IH.sub.trans b4, fun k hk => ?_, fun dn0 hd0 hr => IH.rv dn0 hd0 (c7 dn0 hd0 hr), c, w, m, .up i q hq k1, k2, k3, k4⟩
      have e := c6 k hk
      rw [IH.le k (by show 3 ≤ stA ((fltB P i s).st.set i 6) k; rw [e]; exact hk)]
      exact e
    · rename_i h0
      have h00 : i = 0 := by omega
      refine ⟨c5, by simp only [List.length_append]; omega, b4, c6, c7, i, 4, _, .self, rfl, .inr ⟨rfl, h00⟩, fun k hk => c5.noIn ?_ hk⟩
      show stA ((fltB P i s).st.set i 6) i ≠ 1
      rw [hs6, if_pos rfl]; decide

theorem fault_calls (pl : PlOk P) : ∀ (d i : Nat) (s : Rs), i < d → i < P.length → RsOk P s → stA s.st i = 1 → ∀ (g : Rg) (L : Heap),
    ACalls Try.prog G 23 [.ptr (h.length + 1) 0 0, .i i] (rnH h P g s L) (fun r h' => r = .undef ∧ h' = rnH h P (gU g s (faultF P d i s)) (faultF P d i s) L)
  | 0, i, s, hd, _, _, _, g, L => by omega
  | d + 1, i, s, hd, hi, ok, h1, g, L => by
    have hsp := fault_spec pl (d + 1) i s hd hi ok h1
    rw [fault_eq] at hsp ⊢
    obtain ⟨b1, b2, b3, b4, b5, _, _⟩ := flt_begin pl hi ok h1 3 5 (by omega) (by omega) (by decide)
    obtain ⟨_, _, _, _, c5, _, _⟩ := flt_begin pl hi ok h1 4 6 (by omega) (by omega) (by decide)
    obtain ⟨e1, _⟩ := ends_spec pl P.length i s (by omega) ok
    obtain ⟨u1, _⟩ := undos_spec pl P.length i _ (by omega) e1.ok
    have hE := ends_calls (G := G) (h := h) pl P.length i s (by omega) ok g L
    rw [gA_U e1.dn] at hE
    have hU := undos_calls (G := G) (h := h) pl P.length i (endsF P P.length i s) (by omega) e1.ok (gU g s (endsF P P.length i s)) L
    rw [gU_trans e1.acle u1.acl (by rw [e1.dn]; exact Nat.le_refl _) u1.sub.length_le] at hU
    rw [show undosF P P.length i (endsF P P.length i s) = fltB P i s from rfl] at hU
    obtain ⟨sc, hx⟩ : ∃ z, P[i]? = some z := ⟨_, List.getElem?_eq_getElem hi⟩
    have hc : catA P i = sc.2.1 := by unfold catA; rw [hx]
    have hpr : parA P i = sc.1 := by unfold parA; rw [hx]
    have hxr := rowSc hx
    have h32 := pl.n32
    have hbl := b1.len
    have hba := b1.acle
    generalize hb : fltB P i s = b at *
    have k0 : (0 : Int) ≤ (i : Int) := by omega
    have kl : (i : Int) < (P.length : Int) := by omega
    have ks : (i : Int) < (b.st.length : Int) := by omega
    have kt1 : i + 1 ≤ b.st.length := by omega
    have kt2 : i < b.st.length := by omega
    have hos5 := map_setI b.st i 5
    have hos6 := map_setI b.st i 6
    have hrun : ∀ (g : Rg) (s : Rs) (L : Heap), (rnH h P g s L)[h.length + 1]? = some (runB h.length P g s) := fun _ _ _ => rn_run
    have hstb : ∀ (g : Rg) (s : Rs) (L : Heap), (rnH h P g s L)[h.length]? = some (stB s) := fun _ _ _ => rn_st
    have hss5 := rn_sst (h := h) (P := P) (g := gU g s b) (s := b) (L := L) (b.st.set i 5) (by simp)
    have hss6 := rn_sst (h := h) (P := P) (g := gU g s b) (s := b) (L := L) (b.st.set i 6) (by simp)
    have hgg : ∀ (st : List Int) (w : Int), (⟨(gU g s b).gd, (gU g s b).z, (gU g s b).ga + 1⟩ : Rg) = gU g s ⟨st, b.dn, b.ac ++ [(w, i)]⟩ := fun st w => by
      unfold gU
      simp only [List.length_append, List.length_cons, List.length_nil, Rg.mk.injEq, true_and]
      omega
    have ha5 := act_calls (G := G) (h := h) (P := P) (g := gU g s b) (s := ⟨b.st.set i 5, b.dn, b.ac⟩) (L := L) (by show b.ac.length ≤ 1000; omega) 3 i
    have ha6 := act_calls (G := G) (h := h) (P := P) (g := gU g s b) (s := ⟨b.st.set i 6, b.dn, b.ac⟩) (L := L) (by show b.ac.length ≤ 1000; omega) 4 i
    simp only [hgg (b.st.set i 5) 3] at ha5
    simp only [hgg (b.st.set i 6) 4] at ha6
    cases hf : sc.2.1 with
    | true =>
      rw [hc, hf, if_pos rfl]
      rw [hf] at hxr
      refine acalls_heap (rl := []) mixed Try.func23 rfl (rs := []) rfl Try.ntmps23 (by simp) ?_
      repeat' (first | ((first | refine aops_nil ?_ | refine aqops_nil ?_); (try simp only [NB])) | ((repeat ((fail_if_success (refine hK _ ?_)); clear hK K)); refine hK _ ?_; clear hK K) | ((first | refine aops_k fun K1 hK1 => ?_ | refine aqops_k fun K1 hK1 => ?_ | refine awp_cond_k fun A B hA hB => ?_); simp only [S1, simprocAttr, TTScM, hxr, k0, kl, ks, kt1, kt2, hos5, hrun, hstb, hss5, runB, stB, Int.toNat_natCast, List.length_map, List.length_set, Nat.mul_one, Nat.zero_add]; first | (refine hK1 _ ?_; clear hK1 K1) | ((first | refine hA ?_ | refine hB ?_); clear hA hB A B) | ((first | apply call_a E30 | apply call_q E30); exact hE; (refine hK1 _ ?_; clear hK1 K1)) | ((first | apply call_a E31 | apply call_q E31); exact hU; (refine hK1 _ ?_; clear hK1 K1)) | ((first | apply call_a E32 | apply call_q E32); exact ha5; (refine hK1 _ ?_; clear hK1 K1)) | (((first | (refine ⟨fun hg => hA ?_, fun hg => hB ?_⟩ <;> clear hA hB A B) | refine ⟨fun hg => ?_, fun hg => ?_⟩) <;> (try simp only [BN2] at hg) <;> (try simp only [hg, cond_true, cond_false])) <;> (try (refine hK1 _ ?_; clear hK1 K1)) <;> (try simp only [BN3] at hg))) | (refine awp_seq_k fun K hK => ?_) | ((first | refine awp_region ?_ | refine awp_draw (by kernel_rfl) ?_ | refine awp_block ?_ | refine awp_exit ?_ | refine awp_skip ?_ | refine awp_ret ?_); (try simp only [NB, simprocAttr])))
      all_goals simp only [EndH, FinH, resA, resL, resA1, lastV, lastA, lastAs, pur, purs, rn_len, rn_take, S1, simprocAttr, Nat.le_add_right, Nat.le_refl]
      all_goals first | exact rn_keep | exact ⟨rn_keep, rfl⟩
    | false =>
      rw [hc, hf, if_neg (by simp)] at hsp ⊢
      rw [hf] at hxr
      by_cases h0 : 0 < i
      · rw [if_pos h0] at hsp ⊢
        obtain ⟨hp0, hpi⟩ := pl.par i h0 hi
        obtain ⟨q, hq⟩ : ∃ q : Nat, parA P i = (q : Int) := ⟨(parA P i).toNat, by omega⟩
        rw [hq, Int.toNat_natCast] at hsp ⊢
        rw [hpr] at hq
        rw [hq] at hxr
        have hq1 : stA (b.st.set i 6) q = 1 := by
          rw [stA_set kt2, if_neg (by omega)]
          exact b1.inp i q (by rw [hpr, hq]) b2
        have IHs := fault_spec pl d q ⟨b.st.set i 6, b.dn, b.ac ++ [(4, i)]⟩ (by omega) (by omega) c5 hq1
        have IH := fault_calls pl d q ⟨b.st.set i 6, b.dn, b.ac ++ [(4, i)]⟩ (by omega) (by omega) c5 hq1 (gU g s ⟨b.st.set i 6, b.dn, b.ac ++ [(4, i)]⟩) L
        rw [gU_trans (by simp only [List.length_append]; omega) IHs.acl b4.length_le IHs.sub.length_le] at IH
        have i0 : (0 : Int) < (i : Int) := by omega
        refine acalls_heap (rl := []) mixed Try.func23 rfl (rs := []) rfl Try.ntmps23 (by simp) ?_
        repeat' (first | ((first | refine aops_nil ?_ | refine aqops_nil ?_); (try simp only [NB])) | ((repeat ((fail_if_success (refine hK _ ?_)); clear hK K)); refine hK _ ?_; clear hK K) | ((first | refine aops_k fun K1 hK1 => ?_ | refine aqops_k fun K1 hK1 => ?_ | refine awp_cond_k fun A B hA hB => ?_); simp only [S1, simprocAttr, TTScM, hxr, k0, i0, kl, ks, kt1, kt2, hos6, hrun, hstb, hss6, runB, stB, Int.toNat_natCast, List.length_map, List.length_set, Nat.mul_one, Nat.zero_add]; first | (refine hK1 _ ?_; clear hK1 K1) | ((first | refine hA ?_ | refine hB ?_); clear hA hB A B) | ((first | apply call_a E30 | apply call_q E30); exact hE; (refine hK1 _ ?_; clear hK1 K1)) | ((first | apply call_a E31 | apply call_q E31); exact hU; (refine hK1 _ ?_; clear hK1 K1)) | ((first | apply call_a E32 | apply call_q E32); exact ha6; (refine hK1 _ ?_; clear hK1 K1)) | ((first | apply call_a E23 | apply call_q E23); exact IH; (refine hK1 _ ?_; clear hK1 K1)) | (((first | (refine ⟨fun hg => hA ?_, fun hg => hB ?_⟩ <;> clear hA hB A B) | refine ⟨fun hg => ?_, fun hg => ?_⟩) <;> (try simp only [BN2] at hg) <;> (try simp only [hg, cond_true, cond_false])) <;> (try (refine hK1 _ ?_; clear hK1 K1)) <;> (try simp only [BN3] at hg))) | (refine awp_seq_k fun K hK => ?_) | ((first | refine awp_region ?_ | refine awp_draw (by kernel_rfl) ?_ | refine awp_block ?_ | refine awp_exit ?_ | refine awp_skip ?_ | refine awp_ret ?_); (try simp only [NB, simprocAttr])))
        all_goals simp only [EndH, FinH, resA, resL, resA1, lastV, lastA, lastAs, pur, purs, rn_len, rn_take, S1, simprocAttr, Nat.le_add_right, Nat.le_refl]
        all_goals first | exact rn_keep | exact ⟨rn_keep, rfl⟩
      · rw [if_neg h0]
        have i0 : ¬ (0 : Int) < (i : Int) := by omega
        refine acalls_heap (rl := []) mixed Try.func23 rfl (rs := []) rfl Try.ntmps23 (by simp) ?_
        repeat' (first | ((first | refine aops_nil ?_ | refine aqops_nil ?_); (try simp only [NB])) | ((repeat ((fail_if_success (refine hK _ ?_)); clear hK K)); refine hK _ ?_; clear hK K) | ((first | refine aops_k fun K1 hK1 => ?_ | refine aqops_k fun K1 hK1 => ?_ | refine awp_cond_k fun A B hA hB => ?_); simp only [S1, simprocAttr, TTScM, hxr, k0, i0, kl, ks, kt1, kt2, hos6, hrun, hstb, hss6, runB, stB, Int.toNat_natCast, List.length_map, List.length_set, Nat.mul_one, Nat.zero_add]; first | (refine hK1 _ ?_; clear hK1 K1) | ((first | refine hA ?_ | refine hB ?_); clear hA hB A B) | ((first | apply call_a E30 | apply call_q E30); exact hE; (refine hK1 _ ?_; clear hK1 K1)) | ((first | apply call_a E31 | apply call_q E31); exact hU; (refine hK1 _ ?_; clear hK1 K1)) | ((first | apply call_a E32 | apply call_q E32); exact ha6; (refine hK1 _ ?_; clear hK1 K1)) | (((first | (refine ⟨fun hg => hA ?_, fun hg => hB ?_⟩ <;> clear hA hB A B) | refine ⟨fun hg => ?_, fun hg => ?_⟩) <;> (try simp only [BN2] at hg) <;> (try simp only [hg, cond_true, cond_false])) <;> (try (refine hK1 _ ?_; clear hK1 K1)) <;> (try simp only [BN3] at hg))) | (refine awp_seq_k fun K hK => ?_) | ((first | refine awp_region ?_ | refine awp_draw (by kernel_rfl) ?_ | refine awp_block ?_ | refine awp_exit ?_ | refine awp_skip ?_ | refine awp_ret ?_); (try simp only [NB, simprocAttr])))
        all_goals simp only [EndH, FinH, resA, resL, resA1, lastV, lastA, lastAs, pur, purs, rn_len, rn_take, S1, simprocAttr, Nat.le_add_right, Nat.le_refl]
        all_goals first | exact rn_keep | exact ⟨rn_keep, rfl⟩
end
end Go.Proofs.Ytkmcecbglomemaa.AM
end

section
set_option linter.unusedVariables false
set_option linter.unusedSimpArgs false
set_option maxRecDepth 4000
set_option maxHeartbeats 4000000
namespace Go.Proofs.Ytkmcecbglomemaa.AM
open Go Go.Proofs
set_option linter.defProp false in
attribute [local irreducible] awp aops aqops aeops arun arunT arunN

section
variable {P : Program} {G : Nat → Option (List PV)}
/-- A row of ours, as whoever owns nothing sees it. -/
theorem ref_lasting {ι : Nat → Nat × Nat} {h : Heap} {w : World} (hS : SimH P G ι h w) {b g sz : Nat} {rows : List (List PV)} {rest : List AV} {v : Go.Value} (hb : h[b]? = some (some ⟨g, (rows.flatMap id).map AV.p ++ rest⟩)) (hrows : ∀ r ∈ rows, r.length = sz) (hsz : sz ≠ 0)
    (hv : VRel ι h w (.ref b g 0 sz rows.length) v) : VRel ι [] w (.p (.sl rows)) v := by
  have oo : ∀ k, k < w.heap.size → ¬ own ι h k → w.heap[k]? = w.heap[k]? ∧ ¬ own ι [] k := fun k _ _ => ⟨rfl, no_own⟩
  obtain ⟨A, c, rfl, hn64, hcase⟩ := hv.ref_inv ⟨_, hb, rfl⟩
  by_cases h0 : rows = []
  · subst h0
    exact .p _ _ (.slz A c)
  rcases hcase with ⟨hz, _⟩ | ⟨rfl, hle, ⟨bk0, hq0, hne⟩, cs0, ty1, fr1, hcc, hfit⟩
  · exact absurd (List.eq_nil_of_length_eq_zero hz) h0
  rw [hb] at hq0; cases hq0
  obtain ⟨c0, ty0, hc0, hl0, hv0⟩ := (hS.hr.blk b _ hb hne).cells hcc
  have key : ∀ i j x, get2 rows i j = some x → ∃ u, c0[(ι b).2 + (i * sz + j)]? = some u ∧ VRel ι h w (.p x) u := by
    intro i j x hx
    have hj : j < sz := by
      unfold get2 at hx
      cases hr : rows[i]? with
      | none => rw [hr] at hx; simp at hx
      | some r =>
        rw [hr] at hx
        have h1 := hrows r (List.mem_of_getElem? hr)
        have h2 := getElem?_lt (show r[j]? = some x from hx)
        omega
    have hf := flat_get rows hrows i j hj
    rw [hx] at hf
    refine hv0 _ _ ?_
    rw [List.getElem?_append_left (by rw [List.length_map]; exact getElem?_lt hf), List.getElem?_map, hf]; rfl
  refine .p _ _ (.sl rows (ι b).1 ((ι b).2 + 0) c sz (fun i j => (c0[(ι b).2 + (i * sz + j)]?).getD undef) hle hn64 no_own (lt_heap hc0) hrows (fun i j x hx => ?_) (fun i j x hx => ?_))
  · obtain ⟨u, q1, q2⟩ := key i j x hx
    rw [Nat.add_zero, q1]
    unfold World.cell?
    simp only [hc0, q1]; rfl
  · obtain ⟨u, q1, q2⟩ := key i j x hx
    rw [q1]
    cases q2 with
    | p _ _ q2 => exact q2.mono (Nat.le_refl _) oo

/-- What a function does that owns nothing, and hands back a block of its own: it does the same whatever others own. -/
theorem ACalls.framed {f : FuncId} {args' args : List AV} {g sz n : Nat} {cells : List AV} (hne : cells ≠ []) (hsc : ∀ x ∈ cells, (∃ k, x = .i k) ∨ ∃ b, x = .b b) (hc : ACalls P G f args' [] (fun r h' => r = .ref 0 g 0 sz n ∧ h' = [some ⟨g, cells⟩])) {h : Heap}
    (hl : args.length = args'.length) (harg : ∀ ι w, SimH P G ι h w → ∀ (i : Nat) x x' v, args[i]? = some x → args'[i]? = some x' → VRel ι h w x v → VRel ι [] w x' v) : ACalls P G f args h (fun r h' => r = .ref h.length g 0 sz n ∧ h' = h ++ [some ⟨g, cells⟩]) := by
  intro ι w vs hS hv
  have hsim : SimH P G ι [] w := ⟨⟨fun b bk hb => by simp at hb, fun b b' bk bk' hb => by simp at hb⟩, fun g' cells hg => (hS.gr g' cells hg).mono (Nat.le_refl _) fun q hq ho => ⟨rfl, no_own⟩⟩
  obtain ⟨hv1, hv2⟩ := hv
  refine (hc ι w vs hsim ⟨by rw [← hl]; exact hv1, fun i x' v hx' hvv => ?_⟩).mono ?_
  · obtain ⟨x, hx⟩ : ∃ x, args[i]? = some x := ⟨_, List.getElem?_eq_getElem (by rw [hl]; exact getElem?_lt hx')⟩
    exact harg ι w hS i x x' v hx hx' (hv2 i x v hx hvv)
  rintro e w' ⟨v, r, h', ι', rfl, ⟨rfl, rfl⟩, hS', hvr, hev⟩
  have hb0 : ([some ⟨g, cells⟩] : Heap)[0]? = some (some ⟨g, cells⟩) := rfl
  have hkeep : ∀ k, k < w.heap.size → w'.heap[k]? = w.heap[k]? := fun k hk => (hev.keep k hk no_own).1
  have hfresh : w.heap.size ≤ (ι' 0).1 := by
    rcases Nat.lt_or_ge (ι' 0).1 w.heap.size with hk | hk
    · exact absurd ⟨0, _, hb0, hne, rfl⟩ (hev.keep _ hk no_own).2
    · exact hk
  obtain ⟨A, c, rfl, hn64, hcase⟩ := hvr.ref_inv ⟨_, hb0, rfl⟩
  obtain ⟨cs, ty, hcs, hlc, hcell⟩ : ∃ cs ty, w'.heap[(ι' 0).1]? = some (.cells cs ty (0, 0)) ∧ (ι' 0).2 + cells.length ≤ cs.size ∧ ∀ (j : Nat) x, cells[j]? = some x → ∃ v, cs[(ι' 0).2 + j]? = some v ∧ VRel ι' [some ⟨g, cells⟩] w' x v := by
    rcases hS'.hr.blk 0 _ hb0 hne with ⟨cs, ty, q1, q2, q3⟩ | ⟨es, q1, _⟩
    · exact ⟨cs, ty, q1, q2, q3⟩
    · have := hsc (.mp es) (by rw [show cells = [.mp es] from q1]; simp)
      rcases this with ⟨_, e⟩ | ⟨_, e⟩ <;> cases e
  obtain ⟨u1, u2⟩ := hS.upd (h' := h ++ [some ⟨g, cells⟩]) (ι' := fun i => if i = h.length then ι' 0 else ι i) (w' := w') h.length ⟨g, cells⟩ (ι' 0).1 (ι' 0).2 cs ty (.inl ⟨rfl, rfl⟩) (fun i => rfl) (.inl hfresh) hne hcs hlc (fun j x hx => by
      obtain ⟨v, q1, q2⟩ := hcell j x hx
      refine ⟨v, q1, ?_⟩
      rcases hsc x (List.mem_of_getElem? hx) with ⟨k, rfl⟩ | ⟨b, rfl⟩
      · obtain ⟨rfl, hin⟩ := q2.int_inv
        exact .p _ _ (.int _ _ hin)
      · have := q2.bool_inv; subst this
        exact .p _ _ (.bool _))
    hev.size (fun k hk _ => hkeep k hk) (fun bk hbk => by simp at hbk) hev.os hev.output hev.tape hev.drawn
  refine ⟨_, .ref h.length g 0 sz n, _, _, rfl, ⟨rfl, rfl⟩, u1, .ref _ _ _ _ _ _ _ hn64 (by simp) (fun bk hbk => by simp at hbk; subst hbk; exact Nat.le_refl _) fun _ => ?_, u2⟩
  rcases hcase with h1 | ⟨rfl, hle, _, cs1, ty1, fr1, hcc, hfit⟩
  · exact .inl h1
  · refine .inr ⟨by simp, hle, ⟨⟨g, cells⟩, by simp, hne⟩, cs1, ty1, fr1, by simpa using hcc, by simpa using hfit⟩
end
end Go.Proofs.Ytkmcecbglomemaa.AM
end

section
set_option linter.unusedVariables false
set_option linter.unusedSimpArgs false
set_option maxRecDepth 4000
set_option maxHeartbeats 4000000
namespace Go.Proofs.Ytkmcecbglomemaa.AM
open Go Go.Proofs
set_option linter.defProp false in
def TTScO := And.intro T2 (And.intro T3 (And.intro T4 (And.intro T22 (And.intro T37 (And.intro T41 (And.intro T45 T49))))))
attribute [local irreducible] awp aops aqops aeops arun arunT arunN
variable {G : Nat → Option (List PV)}

theorem cloneAc (rows : List (List PV)) (hall : rows.all (fun r => r.length == 2) = true) (hne : rows ≠ []) (hn : rows.length ≤ 1000) (h : Heap) : ACalls Try.prog G 24 [.p (.sl rows)] h (fun r h' => r = .ref h.length 1 0 2 rows.length ∧ h' = h ++ [some ⟨1, (rows.flatMap id).map AV.p⟩]) := by
  have he : rows.isEmpty = false := by cases rows with | nil => exact absurd rfl hne | cons a l => rfl
  have hk : ¬ rows.length = 0 := fun e => hne (List.eq_nil_of_length_eq_zero e)
  have hmax : rows.length ≤ maxCount := by unfold maxCount; omega
  refine Sim.evoKeepG (rl := ["slices.go:362"]) mixed Try.func24 rfl (by rw [Try.ntmps24]; simp) ?_
  rw [Try.ntmps24]
  repeat' (first | ((first | refine aops_nil ?_ | refine aqops_nil ?_); (try simp only [NB])) | ((repeat ((fail_if_success (refine hK _ ?_)); clear hK K)); refine hK _ ?_; clear hK K) | ((first | refine aops_k fun K1 hK1 => ?_ | refine aqops_k fun K1 hK1 => ?_ | refine awp_cond_k fun A B hA hB => ?_); simp only [S1, simprocAttr, TTScO, eqA.eq_7, eqA.eq_8, he, hk, hmax, hall, Nat.zero_add, List.drop_nil, List.nil_append]; first | (refine hK1 _ ?_; clear hK1 K1) | ((first | refine hA ?_ | refine hB ?_); clear hA hB A B) | (refine join_x (v := ?_) (fun hg hk9 => ?_) ?_; rotate_left; (focus (try ((try simp only [BN] at hg); simp only [S1, simprocAttr, TTScO, eqA.eq_7, eqA.eq_8, he, hk, hmax, hall, Nat.zero_add, List.drop_nil, List.nil_append, hg] at hk9 ⊢)); first | exact hk9); (refine hK1 _ ?_; clear hK1 K1)) | (((first | (refine ⟨fun hg => hA ?_, fun hg => hB ?_⟩ <;> clear hA hB A B) | refine ⟨fun hg => ?_, fun hg => ?_⟩) <;> (try simp only [BN2] at hg) <;> (try simp only [hg, cond_true, cond_false])) <;> (try (refine hK1 _ ?_; clear hK1 K1)) <;> (try simp only [BN3] at hg))) | (refine awp_seq_k fun K hK => ?_) | ((first | refine awp_region ?_ | refine awp_draw (by kernel_rfl) ?_ | refine awp_block ?_ | refine awp_exit ?_ | refine awp_skip ?_ | refine awp_ret ?_); (try simp only [NB, simprocAttr])))
  all_goals exact ⟨.inr trivial, _, Ghost.refl, FinK_tmp (t := 2) rfl (by simp) ⟨rfl, rfl⟩⟩

theorem cloneIn (rows : List (List PV)) (hall : rows.all (fun r => r.length == 1) = true) (hne : rows ≠ []) (hn : rows.length ≤ 1000) (h : Heap) : ACalls Try.prog G 25 [.p (.sl rows)] h (fun r h' => r = .ref h.length 1 0 1 rows.length ∧ h' = h ++ [some ⟨1, (rows.flatMap id).map AV.p⟩]) := by
  have he : rows.isEmpty = false := by cases rows with | nil => exact absurd rfl hne | cons a l => rfl
  have hk : ¬ rows.length = 0 := fun e => hne (List.eq_nil_of_length_eq_zero e)
  have hmax : rows.length ≤ maxCount := by unfold maxCount; omega
  refine Sim.evoKeepG (rl := ["slices.go:362"]) mixed Try.func25 rfl (by rw [Try.ntmps25]; simp) ?_
  rw [Try.ntmps25]
  repeat' (first | ((first | refine aops_nil ?_ | refine aqops_nil ?_); (try simp only [NB])) | ((repeat ((fail_if_success (refine hK _ ?_)); clear hK K)); refine hK _ ?_; clear hK K) | ((first | refine aops_k fun K1 hK1 => ?_ | refine aqops_k fun K1 hK1 => ?_ | refine awp_cond_k fun A B hA hB => ?_); simp only [S1, simprocAttr, TTScO, eqA.eq_7, eqA.eq_8, he, hk, hmax, hall, Nat.zero_add, List.drop_nil, List.nil_append]; first | (refine hK1 _ ?_; clear hK1 K1) | ((first | refine hA ?_ | refine hB ?_); clear hA hB A B) | (refine join_x (v := ?_) (fun hg hk9 => ?_) ?_; rotate_left; (focus (try ((try simp only [BN] at hg); simp only [S1, simprocAttr, TTScO, eqA.eq_7, eqA.eq_8, he, hk, hmax, hall, Nat.zero_add, List.drop_nil, List.nil_append, hg] at hk9 ⊢)); first | exact hk9); (refine hK1 _ ?_; clear hK1 K1)) | (((first | (refine ⟨fun hg => hA ?_, fun hg => hB ?_⟩ <;> clear hA hB A B) | refine ⟨fun hg => ?_, fun hg => ?_⟩) <;> (try simp only [BN2] at hg) <;> (try simp only [hg, cond_true, cond_false])) <;> (try (refine hK1 _ ?_; clear hK1 K1)) <;> (try simp only [BN3] at hg))) | (refine awp_seq_k fun K hK => ?_) | ((first | refine awp_region ?_ | refine awp_draw (by kernel_rfl) ?_ | refine awp_block ?_ | refine awp_exit ?_ | refine awp_skip ?_ | refine awp_ret ?_); (try simp only [NB, simprocAttr])))
  all_goals exact ⟨.inr trivial, _, Ghost.refl, FinK_tmp (t := 2) rfl (by simp) ⟨rfl, rfl⟩⟩

theorem cloneScP (rows : List (List PV)) (hall : rows.all (fun r => r.length == 3) = true) (hne : rows ≠ []) (hn : rows.length ≤ 1000) (h : Heap) : ACalls Try.prog G 18 [.p (.sl rows)] h (fun r h' => r = .p (.sl rows) ∧ h' = h) := by
  have he : rows.isEmpty = false := by cases rows with | nil => exact absurd rfl hne | cons a l => rfl
  have hk : ¬ rows.length = 0 := fun e => hne (List.eq_nil_of_length_eq_zero e)
  have hmax : rows.length ≤ maxCount := by unfold maxCount; omega
  have hall' : ∀ r ∈ rows, r.length = 3 := fun r hr => by have := List.all_eq_true.mp hall r hr; simpa using this
  refine Sim.evoKeepG (rl := ["slices.go:362"]) mixed Try.func18 rfl (by rw [Try.ntmps18]; simp) ?_
  rw [Try.ntmps18]
  repeat' (first | ((first | refine aops_nil ?_ | refine aqops_nil ?_); (try simp only [NB])) | ((repeat ((fail_if_success (refine hK _ ?_)); clear hK K)); refine hK _ ?_; clear hK K) | ((first | refine aops_k fun K1 hK1 => ?_ | refine aqops_k fun K1 hK1 => ?_ | refine awp_cond_k fun A B hA hB => ?_); simp only [S1, simprocAttr, TTScO, eqA.eq_7, eqA.eq_8, he, hk, hmax, hall, Nat.zero_add, List.drop_nil, List.nil_append]; first | (refine hK1 _ ?_; clear hK1 K1) | ((first | refine hA ?_ | refine hB ?_); clear hA hB A B) | (refine join_x (v := ?_) (fun hg hk9 => ?_) ?_; rotate_left; (focus (try ((try simp only [BN] at hg); simp only [S1, simprocAttr, TTScO, eqA.eq_7, eqA.eq_8, he, hk, hmax, hall, Nat.zero_add, List.drop_nil, List.nil_append, hg] at hk9 ⊢)); first | exact hk9); (refine hK1 _ ?_; clear hK1 K1)) | (((first | (refine ⟨fun hg => hA ?_, fun hg => hB ?_⟩ <;> clear hA hB A B) | refine ⟨fun hg => ?_, fun hg => ?_⟩) <;> (try simp only [BN2] at hg) <;> (try simp only [hg, cond_true, cond_false])) <;> (try (refine hK1 _ ?_; clear hK1 K1)) <;> (try simp only [BN3] at hg))) | (refine awp_seq_k fun K hK => ?_) | ((first | refine awp_region ?_ | refine awp_draw (by kernel_rfl) ?_ | refine awp_block ?_ | refine awp_exit ?_ | refine awp_skip ?_ | refine awp_ret ?_); (try simp only [NB, simprocAttr])))
  all_goals refine ⟨.inr trivial, _, (Ghost.freeze (k := 2) (b := h.length) (sz := 3) (n := rows.length) (rows := rows) (bk := ⟨1, (rows.flatMap id).map AV.p⟩) (rest := []) rfl (by simp) rfl hall' (by omega) (by simp)).trans (Sub.ghost (l := [(2, .p (.sl rows))]) (L := []) ⟨rfl, ⟨[none], by simp⟩, ⟨rfl, trivial, trivial⟩, trivial⟩), FinK_tmp (t := 2) (v := .p (.sl rows)) rfl (by simp) ⟨rfl, by simp⟩⟩
end Go.Proofs.Ytkmcecbglomemaa.AM
end
