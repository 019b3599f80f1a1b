/- Proved here, in parts, for one law: Contracts: what is met, breadth first. Contracts: the program's rule 3 of a node. The abstract machine, part V: slices of rows that are handed back; a cell told otherwise. Contracts: places at which something is wrong. Contracts: what is asked of each place; the third rule; all places; the rule that is broken. Contracts: the third rule; all places; the rule that is broken. Contracts: all places at which a rule is broken; the first. Contracts: the rule that is broken, of the program. Plain: the first place. Plain and heaps: lists of numbers as cells; two blocks of which one bears a list of steps. Contracts: how many tokens there are; whether it is a state, as the document tells it. Plain: tokens that are taken and put; a step. Contracts: a step more, a fault, as the document tells them. Contracts: a step more, wherever it stands; a fault. Contracts: equal lists; one rule more. Plain: what a process is that is right; its rules. Contract: all rules of a process. Contract: all rules of a process, as the document tells them. Contract of the bound of what is gone through: a term is not larger. Contract of the bound of what is gone through: a process is not larger. The abstract machine, part N: what a row's arguments read as; laws. The abstract machine, part O: a law is a function that always answers true. The abstract machine, part S: what typed cells are, told by the facts of their types. What the listed variable gives; processes as arguments. The abstract machine, part X: ground runs: an evaluator of abstract states, and that what it says is so. Plain: how many rules a node has, and what they need. Contracts: the step of a catch that goes. Conditions: none. -/
import Derived.Test.YtjpphhcimpclpaaDoorZTokenStatesB
import Derived.ProofKit
import Derived.LaidMore
import Derived.OpenShut
import Derived.Stop.Joined
import Derived.Test.YtjpphhcimpclpaaDoorRows

section
set_option linter.unusedVariables false
set_option linter.unusedSimpArgs false
set_option maxRecDepth 4000
set_option maxHeartbeats 4000000
namespace Go.Proofs.YtjpphhcimpclpaaDoor.AM
open Go Go.Proofs
set_option linter.defProp false in
def TTNeN := And.intro T2 (And.intro T3 (And.intro T4 (And.intro T22 (And.intro T23 (And.intro T25 (And.intro T40 (And.intro T56 (And.intro T58 (And.intro T60 (And.intro T71 T122))))))))))
attribute [local irreducible] awp aops aqops aeops arun
variable {G : Nat → Option (List PV)}

section
variable {P : Program} {rl : List String} {h : Heap}
/-- A loop whose state is told by anything, and that ends because a number grows less. -/
theorem awp_whileG {σ : Type} {c : Code} {Q : Exit → St → Prop} {s : St} (m : σ → Nat) (nt : Nat) (l : σ → List (Nat × AV)) (L : σ → List (Option Blk)) (p : σ → Prop) (x0 : σ) (hi : Ghost P G h s ⟨frL (l x0), nt, h ++ L x0⟩) (hp : p x0)
    (hb : ∀ x, p x → ∀ K : St → Prop, (∀ s', (∃ y, m y < m x ∧ p y ∧ Sub h s' (l y) (L y) nt) → K s') → awp P G rl h c (thenA K Q) ⟨frL (l x), nt, h ++ L x⟩) : awp P G rl h (.loop c) Q s := by
  refine awp_loop (fun n s => ∃ x, p x ∧ n = m x ∧ s = ⟨frL (l x), nt, h ++ L x⟩) (m x0) _ hi ⟨x0, hp, rfl, rfl⟩ fun n s hI => ?_
  obtain ⟨x, h1, rfl, rfl⟩ := hI
  refine hb x h1 _ fun s' hs => ?_
  obtain ⟨y, h2, h3, h4⟩ := hs
  exact ⟨m y, _, h2, h4.ghost, y, h3, rfl, rfl⟩
theorem awp_while {σ : Type} {c : Code} {Q : Exit → St → Prop} {s : St} (m : σ → Nat) (nt : Nat) (l : σ → List (Nat × AV)) (L : σ → List (Option Blk)) (p : σ → Prop) (x0 : σ) (hi : Sub h s (l x0) (L x0) nt) (hp : p x0)
    (hb : ∀ x, p x → ∀ K : St → Prop, (∀ s', (∃ y, m y < m x ∧ p y ∧ Sub h s' (l y) (L y) nt) → K s') → awp P G rl h c (thenA K Q) ⟨frL (l x), nt, h ++ L x⟩) : awp P G rl h (.loop c) Q s :=
  awp_whileG m nt l L p x0 hi.ghost hp hb
end

def edgeB (back : Bool) (fl : List Fl) : List (Nat × Nat) := if back = true then (esF fl).map Prod.swap else esF fl

abbrev nI (n : Nat) : AV := .p (.int .i64 (n : Int))

theorem avlts_nats (m : Nat) (l : List Nat) : avlts m (l.map nI) := by
  induction l with
  | nil => trivial
  | cons x r ih => exact ⟨trivial, ih⟩
theorem dropQ (pre : List Nat) (x : Nat) (rest : List Nat) : ((pre ++ x :: rest).map nI).drop pre.length = .p (.int .i64 (x : Int)) :: rest.map nI := by
  rw [List.map_append, List.drop_left' (by simp)]; rfl
theorem dropQ2 (pre todo : List Nat) : ((pre ++ todo).map nI).drop pre.length = todo.map nI := by
  rw [List.map_append, List.drop_left' (by simp)]
theorem nexts_take {es : List (Nat × Nat)} {j u v : Nat} (h : es[j]? = some (u, v)) (x : Nat) : nexts (es.take (j + 1)) x = nexts (es.take j) x ++ (if u = x then [v] else []) := by
  unfold nexts
  rw [List.take_add_one, h]
  simp only [Option.toList_some, List.filter_append, List.map_append]
  by_cases e : u = x <;> simp [e]

theorem edgeB_in {n : Nat} {fl : List Fl} (hd : InN n fl) (back : Bool) : ∀ e ∈ edgeB back fl, e.2 < n := by
  intro e he
  unfold edgeB at he
  split at he
  · simp only [esF, List.map_map, List.mem_map, Function.comp] at he
    obtain ⟨f, hf, rfl⟩ := he
    have := hd f hf
    simp only [Prod.swap]; omega
  · simp only [esF, List.mem_map] at he
    obtain ⟨f, hf, rfl⟩ := he
    have := hd f hf
    simp only; omega

structure Qu where
  seen : List Bool
  pre : List Nat
  todo : List Nat
  g : Nat
structure Qi where
  j : Nat
  pre : List Nat
  todo : List Nat
  g : Nat

theorem met_calls (ns : List Nd) (hn : ns.length ≤ 100) (fl : List Fl) (hl : fl.length ≤ 100) (hd : InN ns.length fl) (i : Int) (hi0 : 0 ≤ i) (hi1 : i < (ns.length : Int)) (back : Bool) (h : Heap) :
    ACalls Tryd.prog G 61 [aNet ns fl, .i i, .b back] h (fun r h' => r = aBl (rchL (edgeB back fl) ns.length i.toNat) ∧ h' = h) := by
  obtain ⟨a, rfl⟩ := Int.eq_ofNat_of_zero_le hi0
  have hel : (edgeB back fl).length = fl.length := by unfold edgeB; split <;> simp [esF]
  have g1 : (0 : Int) ≤ (ns.length : Int) := by omega
  have g2 : (ns.length : Int) ≤ 16777216 := by omega
  have g3 : ((ns.length : Int) = 0) = False := eq_false (by omega)
  have r1 : (["net.go:137"].contains "net.go:137") = true := by decide
  have r2 : (["net.go:137"].contains "net.go:148") = false := by decide
  have r3 : (["net.go:137"].contains "net.go:150") = false := by decide
  refine acalls_pure (rl := ["net.go:137"]) mixed Tryd.func61 rfl (rs := [.tmp 6]) rfl Tryd.ntmps61 (by simp) ?_
  refine awp_seq_k fun K hK => ?_
  repeat' (first | ((first | refine aops_nil ?_ | refine aqops_nil ?_); (try simp only [NB]); ((repeat ((fail_if_success (refine hK _ ?_)); clear hK K)); refine hK _ ?_; clear hK K)) | ((first | refine aops_k fun K1 hK1 => ?_ | refine aqops_k fun K1 hK1 => ?_ | refine awp_cond_k fun A B hA hB => ?_); simp only [S1, simprocAttr, TTNeN]; first | (refine hK1 _ ?_; clear hK1 K1) | ((first | refine hA ?_ | refine hB ?_); clear hA hB A B) | (refine join_x (v := ?_) (fun hg hk9 => ?_) ?_; rotate_left; (focus (try ((try simp only [BN] at hg); simp only [S1, simprocAttr, TTNeN, hg] at hk9 ⊢)); first | exact hk9); (refine hK1 _ ?_; clear hK1 K1)) | (((first | (refine ⟨fun hg => hA ?_, fun hg => hB ?_⟩ <;> clear hA hB A B) | refine ⟨fun hg => ?_, fun hg => ?_⟩) <;> (try simp only [BN2] at hg) <;> (try simp only [hg, cond_true, cond_false])) <;> (try (refine hK1 _ ?_; clear hK1 K1)) <;> (try simp only [BN3] at hg))) | (fail) | ((first | refine awp_region ?_ | refine awp_draw (by kernel_rfl) ?_ | refine awp_block ?_ | refine awp_exit ?_ | refine awp_skip ?_ | refine awp_ret ?_); (try simp only [NB, simprocAttr]); (try ((repeat ((fail_if_success (refine hK _ ?_)); clear hK K)); refine hK _ ?_; clear hK K))))
  refine awp_seq_k fun K hK => ?_
  repeat' (first | ((first | refine aops_nil ?_ | refine aqops_nil ?_); (try simp only [NB]); ((repeat ((fail_if_success (refine hK _ ?_)); clear hK K)); refine hK _ ?_; clear hK K)) | ((first | refine aops_k fun K1 hK1 => ?_ | refine aqops_k fun K1 hK1 => ?_ | refine awp_cond_k fun A B hA hB => ?_); simp only [S1, simprocAttr, TTNeN, List.length_map, g1, g2, g3, flat_one, rep_bools, Int.toNat_natCast, List.map_cons, List.map_nil]; first | (refine hK1 _ ?_; clear hK1 K1) | ((first | refine hA ?_ | refine hB ?_); clear hA hB A B) | (refine join_x (v := ?_) (fun hg hk9 => ?_) ?_; rotate_left; (focus (try ((try simp only [BN] at hg); simp only [S1, simprocAttr, TTNeN, List.length_map, g1, g2, g3, flat_one, rep_bools, Int.toNat_natCast, List.map_cons, List.map_nil, hg] at hk9 ⊢)); first | exact hk9); (refine hK1 _ ?_; clear hK1 K1)) | (((first | (refine ⟨fun hg => hA ?_, fun hg => hB ?_⟩ <;> clear hA hB A B) | refine ⟨fun hg => ?_, fun hg => ?_⟩) <;> (try simp only [BN2] at hg) <;> (try simp only [hg, cond_true, cond_false])) <;> (try (refine hK1 _ ?_; clear hK1 K1)) <;> (try simp only [BN3] at hg))) | (fail) | ((first | refine awp_region ?_ | refine awp_draw (by kernel_rfl) ?_ | refine awp_block ?_ | refine awp_exit ?_ | refine awp_skip ?_ | refine awp_ret ?_); (try simp only [NB, simprocAttr]); (try ((repeat ((fail_if_success (refine hK _ ?_)); clear hK K)); refine hK _ ?_; clear hK K))))
  refine awp_seq_k fun K hK => ?_
  repeat' (first | ((first | refine aops_nil ?_ | refine aqops_nil ?_); (try simp only [NB]); ((repeat ((fail_if_success (refine hK _ ?_)); clear hK K)); refine hK _ ?_; clear hK K)) | ((first | refine aops_k fun K1 hK1 => ?_ | refine aqops_k fun K1 hK1 => ?_ | refine awp_cond_k fun A B hA hB => ?_); simp only [S1, simprocAttr, TTNeN, r1]; first | (refine hK1 _ ?_; clear hK1 K1) | ((first | refine hA ?_ | refine hB ?_); clear hA hB A B) | (refine join_x (v := ?_) (fun hg hk9 => ?_) ?_; rotate_left; (focus (try ((try simp only [BN] at hg); simp only [S1, simprocAttr, TTNeN, r1, hg] at hk9 ⊢)); first | exact hk9); (refine hK1 _ ?_; clear hK1 K1)) | (((first | (refine ⟨fun hg => hA ?_, fun hg => hB ?_⟩ <;> clear hA hB A B) | refine ⟨fun hg => ?_, fun hg => ?_⟩) <;> (try simp only [BN2] at hg) <;> (try simp only [hg, cond_true, cond_false])) <;> (try (refine hK1 _ ?_; clear hK1 K1)) <;> (try simp only [BN3] at hg))) | (fail) | ((first | refine awp_region ?_ | refine awp_draw (by kernel_rfl) ?_ | refine awp_block ?_ | refine awp_exit ?_ | refine awp_skip ?_ | refine awp_ret ?_); (try simp only [NB, simprocAttr]); (try ((repeat ((fail_if_success (refine hK _ ?_)); clear hK K)); refine hK _ ?_; clear hK K))))
  refine awp_seq_k fun K hK => ?_
  repeat' (first | ((first | refine aops_nil ?_ | refine aqops_nil ?_); (try simp only [NB]); ((repeat ((fail_if_success (refine hK _ ?_)); clear hK K)); refine hK _ ?_; clear hK K)) | ((first | refine aops_k fun K1 hK1 => ?_ | refine aqops_k fun K1 hK1 => ?_ | refine awp_cond_k fun A B hA hB => ?_); simp only [S1, simprocAttr, TTNeN]; first | (refine hK1 _ ?_; clear hK1 K1) | ((first | refine hA ?_ | refine hB ?_); clear hA hB A B) | (refine join_x (v := ?_) (fun hg hk9 => ?_) ?_; rotate_left; (focus (try ((try simp only [BN] at hg); simp only [S1, simprocAttr, TTNeN, hg] at hk9 ⊢)); first | exact hk9); (refine hK1 _ ?_; clear hK1 K1)) | (((first | (refine ⟨fun hg => hA ?_, fun hg => hB ?_⟩ <;> clear hA hB A B) | refine ⟨fun hg => ?_, fun hg => ?_⟩) <;> (try simp only [BN2] at hg) <;> (try simp only [hg, cond_true, cond_false])) <;> (try (refine hK1 _ ?_; clear hK1 K1)) <;> (try simp only [BN3] at hg))) | (fail) | ((first | refine awp_region ?_ | refine awp_draw (by kernel_rfl) ?_ | refine awp_block ?_ | refine awp_exit ?_ | refine awp_skip ?_ | refine awp_ret ?_); (try simp only [NB, simprocAttr]); (try ((repeat ((fail_if_success (refine hK _ ?_)); clear hK K)); refine hK _ ?_; clear hK K))))
  refine awp_while (σ := Qu) (fun q => bfsM (edgeB back fl) q.seen q.todo) 69 (fun q => [(8, .ref (h.length + 2) q.g q.pre.length 1 q.todo.length), (7, .ref (h.length + 1) 0 0 1 ns.length), (3, .ptr h.length 0 0), (2, .b back)])
    (fun q => [some ⟨0, cNet ns fl⟩, some ⟨0, q.seen.map AV.b⟩, some ⟨q.g, (q.pre ++ q.todo).map nI⟩]) (fun q => Bfs (edgeB back fl) ns.length a q.seen q.todo ∧ bfsM (edgeB back fl) q.seen q.todo ≤ 20000) ⟨List.replicate ns.length false, [], [a], 0⟩ ?_ ?_ fun q hq K hK => ?_
  · refine ⟨rfl, ⟨[], by simp only [List.append_nil, List.nil_append, List.map_cons, List.map_nil]⟩, ?_, ⟨trivial, trivial, trivial⟩, avlts_bools _ _, avlts_nats _ _, trivial⟩
    simp only [keeps, avlt, avlts, blksLt, frL, upd_get, S1, simprocAttr, List.length_map, Int.natCast_zero, AV.p.injEq, PV.int.injEq, PV.bool.injEq, PV.sl.injEq] <;> (try and_intros) <;> (try assumption) <;> (try trivial) <;> (try omega)
  · refine ⟨Bfs.init, ?_⟩
    unfold bfsM
    rw [hel]
    simp only [List.length_replicate, List.length_singleton]
    have : (ns.length - (List.replicate ns.length false).count true) * (fl.length + 1) ≤ 100 * 101 := Nat.mul_le_mul (by omega) (by omega)
    omega
  obtain ⟨seen, pre, todo, g⟩ := q
  obtain ⟨hb, hm⟩ := hq
  simp only at hb hm
  cases todo with
  | nil =>
    have hz : decide ((0 : Int) < 0) = false := rfl
    repeat' (first | ((first | refine aops_nil ?_ | refine aqops_nil ?_); (try simp only [NB])) | ((repeat ((fail_if_success (refine hK _ ?_)); clear hK K)); refine hK _ ?_; clear hK K) | ((first | refine aops_k fun K1 hK1 => ?_ | refine aqops_k fun K1 hK1 => ?_ | refine awp_cond_k fun A B hA hB => ?_); simp only [S1, simprocAttr, TTNeN, List.length_nil, hz]; first | (refine hK1 _ ?_; clear hK1 K1) | ((first | refine hA ?_ | refine hB ?_); clear hA hB A B) | (refine join_x (v := ?_) (fun hg hk9 => ?_) ?_; rotate_left; (focus (try ((try simp only [BN] at hg); simp only [S1, simprocAttr, TTNeN, List.length_nil, hz, hg] at hk9 ⊢)); first | exact hk9); (refine hK1 _ ?_; clear hK1 K1)) | (((first | (refine ⟨fun hg => hA ?_, fun hg => hB ?_⟩ <;> clear hA hB A B) | refine ⟨fun hg => ?_, fun hg => ?_⟩) <;> (try simp only [BN2] at hg) <;> (try simp only [hg, cond_true, cond_false])) <;> (try (refine hK1 _ ?_; clear hK1 K1)) <;> (try simp only [BN3] at hg))) | (refine awp_seq_k fun K hK => ?_) | ((first | refine awp_region ?_ | refine awp_draw (by kernel_rfl) ?_ | refine awp_block ?_ | refine awp_exit ?_ | refine awp_skip ?_ | refine awp_ret ?_); (try simp only [NB, simprocAttr])))
    exact EndP_bools (.inr rfl) hb.len.symm rfl (by simp only [blkAt, get_app, List.getElem?_cons_succ, List.getElem?_cons_zero, if_true]) (by omega) (by simp) (by simp) (by rw [hb.done, Int.toNat_natCast])
  | cons x rest =>
    have hxn : x < ns.length := (hb.soundT x (by simp)).closed (p := fun i => i < ns.length) (by omega) fun e he _ => edgeB_in hd back e he
    have hx1 : (x : Int) < (ns.length : Int) := by omega
    have hx0 : (0 : Int) ≤ (x : Int) := by omega
    have hp0 : decide ((0 : Int) < ((rest.length + 1 : Nat) : Int)) = true := decide_eq_true (by omega)
    have hp1 : (0 : Int) < ((rest.length + 1 : Nat) : Int) := by omega
    have hp2 : 1 ≤ rest.length + 1 := by omega
    have hrl : rest.length ≤ 20000 := by unfold bfsM at hm; simp only [List.length_cons] at hm; omega
    obtain ⟨b, hsx⟩ : ∃ b, seen[x]? = some b := ⟨_, List.getElem?_eq_getElem (by rw [hb.len]; exact hxn)⟩
    have hdr := dropB hsx
    have hdq := dropQ pre x rest
    have hxs : x + 1 ≤ seen.length := by rw [hb.len]; exact hxn
    cases b with
    | true =>
      repeat' (first | ((first | refine aops_nil ?_ | refine aqops_nil ?_); (try simp only [NB])) | ((repeat ((fail_if_success (refine hK _ ?_)); clear hK K)); refine hK _ ?_; clear hK K) | ((first | refine aops_k fun K1 hK1 => ?_ | refine aqops_k fun K1 hK1 => ?_ | refine awp_cond_k fun A B hA hB => ?_); simp only [S1, simprocAttr, TTNeN, hp0, hp1, hp2, hx0, hx1, hdr, hdq, Nat.mul_one, Nat.zero_add, Nat.add_zero, Nat.le_refl, Nat.add_sub_cancel, Int.toNat_natCast, Int.toNat_zero]; first | (refine hK1 _ ?_; clear hK1 K1) | ((first | refine hA ?_ | refine hB ?_); clear hA hB A B) | (refine join_x (v := ?_) (fun hg hk9 => ?_) ?_; rotate_left; (focus (try ((try simp only [BN] at hg); simp only [S1, simprocAttr, TTNeN, hp0, hp1, hp2, hx0, hx1, hdr, hdq, Nat.mul_one, Nat.zero_add, Nat.add_zero, Nat.le_refl, Nat.add_sub_cancel, Int.toNat_natCast, Int.toNat_zero, hg] at hk9 ⊢)); first | exact hk9); (refine hK1 _ ?_; clear hK1 K1)) | (((first | (refine ⟨fun hg => hA ?_, fun hg => hB ?_⟩ <;> clear hA hB A B) | refine ⟨fun hg => ?_, fun hg => ?_⟩) <;> (try simp only [BN2] at hg) <;> (try simp only [hg, cond_true, cond_false])) <;> (try (refine hK1 _ ?_; clear hK1 K1)) <;> (try simp only [BN3] at hg))) | (refine awp_seq_k fun K hK => ?_) | ((first | refine awp_region ?_ | refine awp_draw (by kernel_rfl) ?_ | refine awp_block ?_ | refine awp_exit ?_ | refine awp_skip ?_ | refine awp_ret ?_); (try simp only [NB, simprocAttr])))
      all_goals refine ⟨⟨seen, pre ++ [x], rest, g⟩, bfsM_skip _ _ _ _, ⟨hb.skip hsx, Nat.le_trans (Nat.le_of_lt (bfsM_skip _ _ _ _)) hm⟩, ?_⟩
      all_goals simp only [List.length_append, List.length_cons, List.length_nil, Nat.zero_add, List.append_assoc, List.cons_append, List.nil_append]
      all_goals refine ⟨rfl, ⟨[], by simp only [List.append_nil]⟩, ?_, ⟨trivial, trivial, trivial⟩, avlts_bools _ _, avlts_nats _ _, trivial⟩
      all_goals simp only [keeps, avlt, avlts, blksLt, frL, upd_get, S1, simprocAttr, List.length_map, Int.natCast_zero, AV.p.injEq, PV.int.injEq, PV.bool.injEq, PV.sl.injEq] <;> (try and_intros) <;> (try assumption) <;> (try trivial) <;> (try omega)
    | false =>
      repeat' (first | ((first | refine aops_nil ?_ | refine aqops_nil ?_); (try simp only [NB])) | ((repeat ((fail_if_success (refine hK _ ?_)); clear hK K)); refine hK _ ?_; clear hK K) | ((first | refine aops_k fun K1 hK1 => ?_ | refine aqops_k fun K1 hK1 => ?_ | refine awp_cond_k fun A B hA hB => ?_); simp only [S1, simprocAttr, TTNeN, hp0, hp1, hp2, hx0, hx1, hxs, hdr, hdq, setB_b, List.length_map, Nat.mul_one, Nat.zero_add, Nat.add_zero, Nat.le_refl, Nat.add_sub_cancel, Int.toNat_natCast, Int.toNat_zero]; first | (refine hK1 _ ?_; clear hK1 K1) | ((first | refine hA ?_ | refine hB ?_); clear hA hB A B) | (refine join_x (v := ?_) (fun hg hk9 => ?_) ?_; rotate_left; (focus (try ((try simp only [BN] at hg); simp only [S1, simprocAttr, TTNeN, hp0, hp1, hp2, hx0, hx1, hxs, hdr, hdq, setB_b, List.length_map, Nat.mul_one, Nat.zero_add, Nat.add_zero, Nat.le_refl, Nat.add_sub_cancel, Int.toNat_natCast, Int.toNat_zero, hg] at hk9 ⊢)); first | exact hk9); (refine hK1 _ ?_; clear hK1 K1)) | (((first | (refine ⟨fun hg => hA ?_, fun hg => hB ?_⟩ <;> clear hA hB A B) | refine ⟨fun hg => ?_, fun hg => ?_⟩) <;> (try simp only [BN2] at hg) <;> (try simp only [hg, cond_true, cond_false])) <;> (try (refine hK1 _ ?_; clear hK1 K1)) <;> (try simp only [BN3] at hg))) | (refine awp_seq_k fun K hK => ?_) | ((first | refine awp_region ?_ | refine awp_draw (by kernel_rfl) ?_ | refine awp_block ?_ | refine awp_exit ?_ | refine awp_skip ?_ | refine awp_ret ?_); (try simp only [NB, simprocAttr])))
      refine awp_while (σ := Qi) (fun q => fl.length - q.j) 69 (fun q => [(36, .i q.j), (35, .i fl.length), (34, .p (.sl (fl.map eF))), (9, .i x), (8, .ref (h.length + 2) q.g q.pre.length 1 q.todo.length), (7, .ref (h.length + 1) 0 0 1 ns.length), (3, .ptr h.length 0 0), (2, .b back)])
        (fun q => [some ⟨0, cNet ns fl⟩, some ⟨0, (seen.set x true).map AV.b⟩, some ⟨q.g, (q.pre ++ q.todo).map nI⟩]) (fun q => q.j ≤ fl.length ∧ q.todo = rest ++ nexts ((edgeB back fl).take q.j) x) ⟨0, pre ++ [x], rest, g⟩ ?_ ?_ fun q hq K hK => ?_
      · simp only [List.length_append, List.length_cons, List.length_nil, Nat.zero_add, List.append_assoc, List.cons_append, List.nil_append]
        refine ⟨rfl, ⟨[], by simp only [List.append_nil]⟩, ?_, ⟨trivial, trivial, trivial⟩, avlts_bools _ _, avlts_nats _ _, trivial⟩
        simp only [keeps, avlt, avlts, blksLt, frL, upd_get, S1, simprocAttr, List.length_map, Int.natCast_zero, AV.p.injEq, PV.int.injEq, PV.bool.injEq, PV.sl.injEq] <;> (try and_intros) <;> (try assumption) <;> (try trivial) <;> (try omega)
      · exact ⟨Nat.zero_le _, by simp [nexts]⟩
      obtain ⟨j, qp, qt, qg⟩ := q
      obtain ⟨hj, hqt⟩ := hq
      simp only at hj hqt
      have hql : qt.length ≤ 20100 := by
        have := nexts_len ((edgeB back fl).take j) x
        rw [List.length_take] at this
        rw [hqt, List.length_append]; omega
      have hmax : qt.length + 1 ≤ maxCount := by unfold maxCount; omega
      rcases Nat.lt_or_ge j fl.length with hjl | hjg
      · obtain ⟨f, hx⟩ : ∃ k, fl[j]? = some k := ⟨_, List.getElem?_eq_getElem hjl⟩
        obtain ⟨⟨a1, a2⟩, b1, b2⟩ := hd f (List.mem_of_getElem? hx)
        obtain ⟨u, hu⟩ := Int.eq_ofNat_of_zero_le a1
        obtain ⟨v, hv⟩ := Int.eq_ofNat_of_zero_le b1
        have hmj : fl.length - (j + 1) < fl.length - j := by omega
        have hdq2 := dropQ2 qp qt
        cases back with
        | true =>
          have he : (edgeB true fl)[j]? = some (v, u) := by simp [edgeB, esF, hx, hu, hv]
          have hnt := nexts_take he x
          by_cases hvx : v = x
          · have hbe : (f.dst == (x : Int)) = true := by rw [hv, hvx]; simp
            rw [if_pos hvx] at hnt
            repeat' (first | ((first | refine aops_nil ?_ | refine aqops_nil ?_); (try simp only [NB])) | ((repeat ((fail_if_success (refine hK _ ?_)); clear hK K)); refine hK _ ?_; clear hK K) | ((first | refine aops_k fun K1 hK1 => ?_ | refine aqops_k fun K1 hK1 => ?_ | refine awp_cond_k fun A B hA hB => ?_); simp only [S1, simprocAttr, TTNeN, rowF hx, hitF hjl, nextF hl hjl, eF, hbe, r2, r3, hdq2, hmax, List.length_map, List.length_append, Nat.mul_one, Nat.zero_add, Nat.add_zero]; first | (refine hK1 _ ?_; clear hK1 K1) | ((first | refine hA ?_ | refine hB ?_); clear hA hB A B) | (refine join_x (v := ?_) (fun hg hk9 => ?_) ?_; rotate_left; (focus (try ((try simp only [BN] at hg); simp only [S1, simprocAttr, TTNeN, rowF hx, hitF hjl, nextF hl hjl, eF, hbe, r2, r3, hdq2, hmax, List.length_map, List.length_append, Nat.mul_one, Nat.zero_add, Nat.add_zero, hg] at hk9 ⊢)); first | exact hk9); (refine hK1 _ ?_; clear hK1 K1)) | (((first | (refine ⟨fun hg => hA ?_, fun hg => hB ?_⟩ <;> clear hA hB A B) | refine ⟨fun hg => ?_, fun hg => ?_⟩) <;> (try simp only [BN2] at hg) <;> (try simp only [hg, cond_true, cond_false])) <;> (try (refine hK1 _ ?_; clear hK1 K1)) <;> (try simp only [BN3] at hg))) | (refine awp_seq_k fun K hK => ?_) | ((first | refine awp_region ?_ | refine awp_draw (by kernel_rfl) ?_ | refine awp_block ?_ | refine awp_exit ?_ | refine awp_skip ?_ | refine awp_ret ?_); (try simp only [NB, simprocAttr])))
            all_goals refine ⟨⟨j + 1, [], qt ++ [u], qg + 1⟩, hmj, ⟨hjl, by simp only [hnt, hqt, List.append_assoc]⟩, ?_⟩
            all_goals simp only [hu, List.length_append, List.length_cons, List.length_nil, Nat.zero_add, List.nil_append, List.map_append, List.map_cons, List.map_nil]
            all_goals refine ⟨rfl, ⟨_, rfl⟩, ?_, ⟨trivial, trivial, trivial⟩, avlts_bools _ _, (by have := avlts_nats (h.length + 3) (qt ++ [u]); simpa using this), trivial⟩
            all_goals simp only [keeps, avlt, avlts, blksLt, frL, upd_get, S1, simprocAttr, List.length_map, Int.natCast_zero, AV.p.injEq, PV.int.injEq, PV.bool.injEq, PV.sl.injEq] <;> (try and_intros) <;> (try assumption) <;> (try trivial) <;> (try omega)
          · have hbe : (f.dst == (x : Int)) = false := by rw [hv]; simp; omega
            rw [if_neg hvx, List.append_nil] at hnt
            repeat' (first | ((first | refine aops_nil ?_ | refine aqops_nil ?_); (try simp only [NB])) | ((repeat ((fail_if_success (refine hK _ ?_)); clear hK K)); refine hK _ ?_; clear hK K) | ((first | refine aops_k fun K1 hK1 => ?_ | refine aqops_k fun K1 hK1 => ?_ | refine awp_cond_k fun A B hA hB => ?_); simp only [S1, simprocAttr, TTNeN, rowF hx, hitF hjl, nextF hl hjl, eF, hbe, List.length_map, Nat.mul_one, Nat.zero_add, Nat.add_zero]; first | (refine hK1 _ ?_; clear hK1 K1) | ((first | refine hA ?_ | refine hB ?_); clear hA hB A B) | (refine join_x (v := ?_) (fun hg hk9 => ?_) ?_; rotate_left; (focus (try ((try simp only [BN] at hg); simp only [S1, simprocAttr, TTNeN, rowF hx, hitF hjl, nextF hl hjl, eF, hbe, List.length_map, Nat.mul_one, Nat.zero_add, Nat.add_zero, hg] at hk9 ⊢)); first | exact hk9); (refine hK1 _ ?_; clear hK1 K1)) | (((first | (refine ⟨fun hg => hA ?_, fun hg => hB ?_⟩ <;> clear hA hB A B) | refine ⟨fun hg => ?_, fun hg => ?_⟩) <;> (try simp only [BN2] at hg) <;> (try simp only [hg, cond_true, cond_false])) <;> (try (refine hK1 _ ?_; clear hK1 K1)) <;> (try simp only [BN3] at hg))) | (refine awp_seq_k fun K hK => ?_) | ((first | refine awp_region ?_ | refine awp_draw (by kernel_rfl) ?_ | refine awp_block ?_ | refine awp_exit ?_ | refine awp_skip ?_ | refine awp_ret ?_); (try simp only [NB, simprocAttr])))
            all_goals refine ⟨⟨j + 1, qp, qt, qg⟩, hmj, ⟨hjl, by simp only [hnt, hqt]⟩, ?_⟩
            all_goals refine ⟨rfl, ⟨_, rfl⟩, ?_, ⟨trivial, trivial, trivial⟩, avlts_bools _ _, avlts_nats _ _, trivial⟩
            all_goals simp only [keeps, avlt, avlts, blksLt, frL, upd_get, S1, simprocAttr, List.length_map, Int.natCast_zero, AV.p.injEq, PV.int.injEq, PV.bool.injEq, PV.sl.injEq] <;> (try and_intros) <;> (try assumption) <;> (try trivial) <;> (try omega)
        | false =>
          have he : (edgeB false fl)[j]? = some (u, v) := by simp [edgeB, esF, hx, hu, hv]
          have hnt := nexts_take he x
          by_cases hvx : u = x
          · have hbe : (f.src == (x : Int)) = true := by rw [hu, hvx]; simp
            rw [if_pos hvx] at hnt
            repeat' (first | ((first | refine aops_nil ?_ | refine aqops_nil ?_); (try simp only [NB])) | ((repeat ((fail_if_success (refine hK _ ?_)); clear hK K)); refine hK _ ?_; clear hK K) | ((first | refine aops_k fun K1 hK1 => ?_ | refine aqops_k fun K1 hK1 => ?_ | refine awp_cond_k fun A B hA hB => ?_); simp only [S1, simprocAttr, TTNeN, rowF hx, hitF hjl, nextF hl hjl, eF, hbe, r2, r3, hdq2, hmax, List.length_map, List.length_append, Nat.mul_one, Nat.zero_add, Nat.add_zero]; first | (refine hK1 _ ?_; clear hK1 K1) | ((first | refine hA ?_ | refine hB ?_); clear hA hB A B) | (refine join_x (v := ?_) (fun hg hk9 => ?_) ?_; rotate_left; (focus (try ((try simp only [BN] at hg); simp only [S1, simprocAttr, TTNeN, rowF hx, hitF hjl, nextF hl hjl, eF, hbe, r2, r3, hdq2, hmax, List.length_map, List.length_append, Nat.mul_one, Nat.zero_add, Nat.add_zero, hg] at hk9 ⊢)); first | exact hk9); (refine hK1 _ ?_; clear hK1 K1)) | (((first | (refine ⟨fun hg => hA ?_, fun hg => hB ?_⟩ <;> clear hA hB A B) | refine ⟨fun hg => ?_, fun hg => ?_⟩) <;> (try simp only [BN2] at hg) <;> (try simp only [hg, cond_true, cond_false])) <;> (try (refine hK1 _ ?_; clear hK1 K1)) <;> (try simp only [BN3] at hg))) | (refine awp_seq_k fun K hK => ?_) | ((first | refine awp_region ?_ | refine awp_draw (by kernel_rfl) ?_ | refine awp_block ?_ | refine awp_exit ?_ | refine awp_skip ?_ | refine awp_ret ?_); (try simp only [NB, simprocAttr])))
            all_goals refine ⟨⟨j + 1, [], qt ++ [v], qg + 1⟩, hmj, ⟨hjl, by simp only [hnt, hqt, List.append_assoc]⟩, ?_⟩
            all_goals simp only [hv, List.length_append, List.length_cons, List.length_nil, Nat.zero_add, List.nil_append, List.map_append, List.map_cons, List.map_nil]
            all_goals refine ⟨rfl, ⟨_, rfl⟩, ?_, ⟨trivial, trivial, trivial⟩, avlts_bools _ _, (by have := avlts_nats (h.length + 3) (qt ++ [v]); simpa using this), trivial⟩
            all_goals simp only [keeps, avlt, avlts, blksLt, frL, upd_get, S1, simprocAttr, List.length_map, Int.natCast_zero, AV.p.injEq, PV.int.injEq, PV.bool.injEq, PV.sl.injEq] <;> (try and_intros) <;> (try assumption) <;> (try trivial) <;> (try omega)
          · have hbe : (f.src == (x : Int)) = false := by rw [hu]; simp; omega
            rw [if_neg hvx, List.append_nil] at hnt
            repeat' (first | ((first | refine aops_nil ?_ | refine aqops_nil ?_); (try simp only [NB])) | ((repeat ((fail_if_success (refine hK _ ?_)); clear hK K)); refine hK _ ?_; clear hK K) | ((first | refine aops_k fun K1 hK1 => ?_ | refine aqops_k fun K1 hK1 => ?_ | refine awp_cond_k fun A B hA hB => ?_); simp only [S1, simprocAttr, TTNeN, rowF hx, hitF hjl, nextF hl hjl, eF, hbe, List.length_map, Nat.mul_one, Nat.zero_add, Nat.add_zero]; first | (refine hK1 _ ?_; clear hK1 K1) | ((first | refine hA ?_ | refine hB ?_); clear hA hB A B) | (refine join_x (v := ?_) (fun hg hk9 => ?_) ?_; rotate_left; (focus (try ((try simp only [BN] at hg); simp only [S1, simprocAttr, TTNeN, rowF hx, hitF hjl, nextF hl hjl, eF, hbe, List.length_map, Nat.mul_one, Nat.zero_add, Nat.add_zero, hg] at hk9 ⊢)); first | exact hk9); (refine hK1 _ ?_; clear hK1 K1)) | (((first | (refine ⟨fun hg => hA ?_, fun hg => hB ?_⟩ <;> clear hA hB A B) | refine ⟨fun hg => ?_, fun hg => ?_⟩) <;> (try simp only [BN2] at hg) <;> (try simp only [hg, cond_true, cond_false])) <;> (try (refine hK1 _ ?_; clear hK1 K1)) <;> (try simp only [BN3] at hg))) | (refine awp_seq_k fun K hK => ?_) | ((first | refine awp_region ?_ | refine awp_draw (by kernel_rfl) ?_ | refine awp_block ?_ | refine awp_exit ?_ | refine awp_skip ?_ | refine awp_ret ?_); (try simp only [NB, simprocAttr])))
            all_goals refine ⟨⟨j + 1, qp, qt, qg⟩, hmj, ⟨hjl, by simp only [hnt, hqt]⟩, ?_⟩
            all_goals refine ⟨rfl, ⟨_, rfl⟩, ?_, ⟨trivial, trivial, trivial⟩, avlts_bools _ _, avlts_nats _ _, trivial⟩
            all_goals simp only [keeps, avlt, avlts, blksLt, frL, upd_get, S1, simprocAttr, List.length_map, Int.natCast_zero, AV.p.injEq, PV.int.injEq, PV.bool.injEq, PV.sl.injEq] <;> (try and_intros) <;> (try assumption) <;> (try trivial) <;> (try omega)
      · obtain rfl : j = fl.length := by omega
        have hfull : (edgeB back fl).take fl.length = edgeB back fl := List.take_of_length_le (by rw [hel]; exact Nat.le_refl _)
        rw [hfull] at hqt
        have hlt := bfsM_visit (es := edgeB back fl) (todo := rest) hsx
        have hvi := hb.visit hxn
        rw [← hqt] at hlt hvi
        repeat' (first | ((first | refine aops_nil ?_ | refine aqops_nil ?_); (try simp only [NB])) | ((repeat ((fail_if_success (refine hK _ ?_)); clear hK K)); refine hK _ ?_; clear hK K) | ((first | refine aops_k fun K1 hK1 => ?_ | refine aqops_k fun K1 hK1 => ?_ | refine awp_cond_k fun A B hA hB => ?_); simp only [S1, simprocAttr, TTNeN, endF]; first | (refine hK1 _ ?_; clear hK1 K1) | ((first | refine hA ?_ | refine hB ?_); clear hA hB A B) | (refine join_x (v := ?_) (fun hg hk9 => ?_) ?_; rotate_left; (focus (try ((try simp only [BN] at hg); simp only [S1, simprocAttr, TTNeN, endF, hg] at hk9 ⊢)); first | exact hk9); (refine hK1 _ ?_; clear hK1 K1)) | (((first | (refine ⟨fun hg => hA ?_, fun hg => hB ?_⟩ <;> clear hA hB A B) | refine ⟨fun hg => ?_, fun hg => ?_⟩) <;> (try simp only [BN2] at hg) <;> (try simp only [hg, cond_true, cond_false])) <;> (try (refine hK1 _ ?_; clear hK1 K1)) <;> (try simp only [BN3] at hg))) | (refine awp_seq_k fun K hK => ?_) | ((first | refine awp_region ?_ | refine awp_draw (by kernel_rfl) ?_ | refine awp_block ?_ | refine awp_exit ?_ | refine awp_skip ?_ | refine awp_ret ?_); (try simp only [NB, simprocAttr])))
        all_goals refine ⟨⟨seen.set x true, qp, qt, qg⟩, hlt, ⟨hvi, Nat.le_trans (Nat.le_of_lt hlt) hm⟩, ?_⟩
        all_goals refine ⟨rfl, ⟨_, rfl⟩, ?_, ⟨trivial, trivial, trivial⟩, avlts_bools _ _, avlts_nats _ _, trivial⟩
        all_goals simp only [keeps, avlt, avlts, blksLt, frL, upd_get, S1, simprocAttr, List.length_map, Int.natCast_zero, AV.p.injEq, PV.int.injEq, PV.bool.injEq, PV.sl.injEq] <;> (try and_intros) <;> (try assumption) <;> (try trivial) <;> (try omega)
end Go.Proofs.YtjpphhcimpclpaaDoor.AM
end

section
set_option linter.unusedVariables false
set_option linter.unusedSimpArgs false
set_option maxRecDepth 4000
set_option maxHeartbeats 4000000
namespace Go.Proofs.YtjpphhcimpclpaaDoor.AM
open Go Go.Proofs
set_option linter.defProp false in
def TTNeL := And.intro T2 (And.intro T3 (And.intro T4 (And.intro T22 (And.intro T23 (And.intro T25 (And.intro T40 (And.intro T56 (And.intro T58 (And.intro T60 T71)))))))))
attribute [local irreducible] awp aops aqops aeops arun
variable {G : Nat → Option (List PV)}

theorem linked_calls (ns : List Nd) (hn : ns.length ≤ 100) (fl : List Fl) (hl : fl.length ≤ 100) (hd : ∀ f ∈ fl, 0 ≤ f.dst ∧ f.dst < (ns.length : Int)) (i : Int) (hi0 : 0 ≤ i) (hi1 : i < (ns.length : Int)) (h : Heap) :
    ACalls Tryd.prog G 86 [aNet ns fl, .i i] h (fun r h' => r = .b (threeB ns fl i) ∧ h' = h) := by
  have hle : (outsN fl i).length ≤ 100 := Nat.le_trans (pickF_le _ _ _) hl
  obtain ⟨kd, hkd⟩ : ∃ k, ns[i.toNat]? = some k := ⟨_, List.getElem?_eq_getElem (by omega)⟩
  have hkd' := rowN hkd
  have ekd : kindAt ns i = kd.kind := by unfold kindAt; rw [hkd]
  refine acalls_pure (rl := []) mixed Tryd.func86 rfl (rs := [.tmp 4]) rfl Tryd.ntmps86 (by simp) ?_
  refine awp_seq_k fun K hK => ?_
  repeat' (first | ((first | refine aops_nil ?_ | refine aqops_nil ?_); (try simp only [NB]); ((repeat ((fail_if_success (refine hK _ ?_)); clear hK K)); refine hK _ ?_; clear hK K)) | ((first | refine aops_k fun K1 hK1 => ?_ | refine aqops_k fun K1 hK1 => ?_ | refine awp_cond_k fun A B hA hB => ?_); simp only [S1, simprocAttr, TTNeL]; first | (refine hK1 _ ?_; clear hK1 K1) | ((first | refine hA ?_ | refine hB ?_); clear hA hB A B) | (refine join_x (v := ?_) (fun hg hk9 => ?_) ?_; rotate_left; (focus (try ((try simp only [BN] at hg); simp only [S1, simprocAttr, TTNeL, hg] at hk9 ⊢)); first | exact hk9); (refine hK1 _ ?_; clear hK1 K1)) | (((first | (refine ⟨fun hg => hA ?_, fun hg => hB ?_⟩ <;> clear hA hB A B) | refine ⟨fun hg => ?_, fun hg => ?_⟩) <;> (try simp only [BN2] at hg) <;> (try simp only [hg, cond_true, cond_false])) <;> (try (refine hK1 _ ?_; clear hK1 K1)) <;> (try simp only [BN3] at hg))) | (fail) | ((first | refine awp_region ?_ | refine awp_draw (by kernel_rfl) ?_ | refine awp_block ?_ | refine awp_exit ?_ | refine awp_skip ?_ | refine awp_ret ?_); (try simp only [NB, simprocAttr]); (try ((repeat ((fail_if_success (refine hK _ ?_)); clear hK K)); refine hK _ ?_; clear hK K))))
  refine awp_seq_k fun K hK => ?_
  repeat' (first | ((first | refine aops_nil ?_ | refine aqops_nil ?_); (try simp only [NB]); ((repeat ((fail_if_success (refine hK _ ?_)); clear hK K)); refine hK _ ?_; clear hK K)) | ((first | refine aops_k fun K1 hK1 => ?_ | refine aqops_k fun K1 hK1 => ?_ | refine awp_cond_k fun A B hA hB => ?_); simp only [S1, simprocAttr, TTNeL]; first | (refine hK1 _ ?_; clear hK1 K1) | ((first | refine hA ?_ | refine hB ?_); clear hA hB A B) | ((first | apply call_a E26 | apply call_q E26); exact (outs_calls _ fl hl _ _); (refine hK1 _ ?_; clear hK1 K1)) | (refine join_x (v := ?_) (fun hg hk9 => ?_) ?_; rotate_left; (focus (try ((try simp only [BN] at hg); simp only [S1, simprocAttr, TTNeL, hg] at hk9 ⊢)); first | exact hk9 | ((first | apply call_a E26 | apply call_q E26); exact (outs_calls _ fl hl _ _); exact hk9)); (refine hK1 _ ?_; clear hK1 K1)) | (((first | (refine ⟨fun hg => hA ?_, fun hg => hB ?_⟩ <;> clear hA hB A B) | refine ⟨fun hg => ?_, fun hg => ?_⟩) <;> (try simp only [BN2] at hg) <;> (try simp only [hg, cond_true, cond_false])) <;> (try (refine hK1 _ ?_; clear hK1 K1)) <;> (try simp only [BN3] at hg))) | (fail) | ((first | refine awp_region ?_ | refine awp_draw (by kernel_rfl) ?_ | refine awp_block ?_ | refine awp_exit ?_ | refine awp_skip ?_ | refine awp_ret ?_); (try simp only [NB, simprocAttr]); (try ((repeat ((fail_if_success (refine hK _ ?_)); clear hK K)); refine hK _ ?_; clear hK K))))
  refine awp_seq_k fun K hK => ?_
  repeat' (first | ((first | refine aops_nil ?_ | refine aqops_nil ?_); (try simp only [NB]); ((repeat ((fail_if_success (refine hK _ ?_)); clear hK K)); refine hK _ ?_; clear hK K)) | ((first | refine aops_k fun K1 hK1 => ?_ | refine aqops_k fun K1 hK1 => ?_ | refine awp_cond_k fun A B hA hB => ?_); simp only [S1, simprocAttr, TTNeL, List.length_map, hi0, hkd', eN]; first | (refine hK1 _ ?_; clear hK1 K1) | ((first | refine hA ?_ | refine hB ?_); clear hA hB A B) | ((first | apply call_a E25 | apply call_q E25); exact (ins_calls _ fl hl _ _); (refine hK1 _ ?_; clear hK1 K1)) | (refine join_x (v := ?_) (fun hg hk9 => ?_) ?_; rotate_left; (focus (try ((try simp only [BN] at hg); simp only [S1, simprocAttr, TTNeL, List.length_map, hi0, hkd', eN, hg] at hk9 ⊢)); first | exact hk9 | ((first | apply call_a E25 | apply call_q E25); exact (ins_calls _ fl hl _ _); exact hk9)); (refine hK1 _ ?_; clear hK1 K1)) | (((first | (refine ⟨fun hg => hA ?_, fun hg => hB ?_⟩ <;> clear hA hB A B) | refine ⟨fun hg => ?_, fun hg => ?_⟩) <;> (try simp only [BN2] at hg) <;> (try simp only [hg, cond_true, cond_false])) <;> (try (refine hK1 _ ?_; clear hK1 K1)) <;> (try simp only [BN3] at hg))) | (fail) | ((first | refine awp_region ?_ | refine awp_draw (by kernel_rfl) ?_ | refine awp_block ?_ | refine awp_exit ?_ | refine awp_skip ?_ | refine awp_ret ?_); (try simp only [NB, simprocAttr]); (try ((repeat ((fail_if_success (refine hK _ ?_)); clear hK K)); refine hK _ ?_; clear hK K))))
  refine awp_seq_k fun K hK => ?_
  repeat' (first | ((first | refine aops_nil ?_ | refine aqops_nil ?_); (try simp only [NB]); ((repeat ((fail_if_success (refine hK _ ?_)); clear hK K)); refine hK _ ?_; clear hK K)) | ((first | refine aops_k fun K1 hK1 => ?_ | refine aqops_k fun K1 hK1 => ?_ | refine awp_cond_k fun A B hA hB => ?_); simp only [S1, simprocAttr, TTNeL]; first | (refine hK1 _ ?_; clear hK1 K1) | ((first | refine hA ?_ | refine hB ?_); clear hA hB A B) | (refine join_x (v := ?_) (fun hg hk9 => ?_) ?_; rotate_left; (focus (try ((try simp only [BN] at hg); simp only [S1, simprocAttr, TTNeL, hg] at hk9 ⊢)); first | exact hk9); (refine hK1 _ ?_; clear hK1 K1)) | (((first | (refine ⟨fun hg => hA ?_, fun hg => hB ?_⟩ <;> clear hA hB A B) | refine ⟨fun hg => ?_, fun hg => ?_⟩) <;> (try simp only [BN2] at hg) <;> (try simp only [hg, cond_true, cond_false])) <;> (try (refine hK1 _ ?_; clear hK1 K1)) <;> (try simp only [BN3] at hg))) | (fail) | ((first | refine awp_region ?_ | refine awp_draw (by kernel_rfl) ?_ | refine awp_block ?_ | refine awp_exit ?_ | refine awp_skip ?_ | refine awp_ret ?_); (try simp only [NB, simprocAttr]); (try ((repeat ((fail_if_success (refine hK _ ?_)); clear hK K)); refine hK _ ?_; clear hK K))))
  refine awp_seq_k fun K hK => ?_
  repeat' (first | ((first | refine aops_nil ?_ | refine aqops_nil ?_); (try simp only [NB]); ((repeat ((fail_if_success (refine hK _ ?_)); clear hK K)); refine hK _ ?_; clear hK K)) | ((first | refine aops_k fun K1 hK1 => ?_ | refine aqops_k fun K1 hK1 => ?_ | refine awp_cond_k fun A B hA hB => ?_); simp only [S1, simprocAttr, TTNeL]; first | (refine hK1 _ ?_; clear hK1 K1) | ((first | refine hA ?_ | refine hB ?_); clear hA hB A B) | (refine join_x (v := ?_) (fun hg hk9 => ?_) ?_; rotate_left; (focus (try ((try simp only [BN] at hg); simp only [S1, simprocAttr, TTNeL, hg] at hk9 ⊢)); first | exact hk9); (refine hK1 _ ?_; clear hK1 K1)) | (((first | (refine ⟨fun hg => hA ?_, fun hg => hB ?_⟩ <;> clear hA hB A B) | refine ⟨fun hg => ?_, fun hg => ?_⟩) <;> (try simp only [BN2] at hg) <;> (try simp only [hg, cond_true, cond_false])) <;> (try (refine hK1 _ ?_; clear hK1 K1)) <;> (try simp only [BN3] at hg))) | (fail) | ((first | refine awp_region ?_ | refine awp_draw (by kernel_rfl) ?_ | refine awp_block ?_ | refine awp_exit ?_ | refine awp_skip ?_ | refine awp_ret ?_); (try simp only [NB, simprocAttr]); (try ((repeat ((fail_if_success (refine hK _ ?_)); clear hK K)); refine hK _ ?_; clear hK K))))
  refine awp_seq_k fun K hK => ?_
  repeat' (first | ((first | refine aops_nil ?_ | refine aqops_nil ?_); (try simp only [NB])) | ((repeat ((fail_if_success (refine hK _ ?_)); clear hK K)); refine hK _ ?_; clear hK K) | ((first | refine aops_k fun K1 hK1 => ?_ | refine aqops_k fun K1 hK1 => ?_ | refine awp_cond_k fun A B hA hB => ?_); simp only [S1, simprocAttr, TTNeL, List.length_map]; first | (refine hK1 _ ?_; clear hK1 K1) | ((first | refine hA ?_ | refine hB ?_); clear hA hB A B) | (refine join_x (v := ?_) (fun hg hk9 => ?_) ?_; rotate_left; (focus (try ((try simp only [BN] at hg); simp only [S1, simprocAttr, TTNeL, List.length_map, hg] at hk9 ⊢)); first | exact hk9); (refine hK1 _ ?_; clear hK1 K1)) | (((first | (refine ⟨fun hg => hA ?_, fun hg => hB ?_⟩ <;> clear hA hB A B) | refine ⟨fun hg => ?_, fun hg => ?_⟩) <;> (try simp only [BN2] at hg) <;> (try simp only [hg, cond_true, cond_false])) <;> (try (refine hK1 _ ?_; clear hK1 K1)) <;> (try simp only [BN3] at hg))) | (refine awp_seq_k fun K hK => ?_) | ((first | refine awp_region ?_ | refine awp_draw (by kernel_rfl) ?_ | refine awp_block ?_ | refine awp_exit ?_ | refine awp_skip ?_ | refine awp_ret ?_); (try simp only [NB, simprocAttr])))
  refine awp_for (outsN fl i).length 122 (fun j => [(28, .i j), (27, .i (outsN fl i).length), (26, aI (outsN fl i)), (9, .b (cntB (othAt ns fl) (outsN fl i) j == 0)), (8, .i (cntB (elsAt fl) (outsN fl i) j)), (7, .i kd.kind), (6, .i (insN fl i).length), (5, aI (outsN fl i)), (2, .ptr h.length 0 0), (1, .i i)])
    (fun j => [some ⟨0, [.p (.sl (ns.map eN)), .p (.sl (fl.map eF))]⟩]) (fun j => True) ?_ trivial fun j hj hp K hK => ?_
  · (refine ⟨rfl, (by first | exact ⟨_, rfl⟩ | exact ⟨[], by simp⟩), ?_, ?_⟩ <;> simp only [keeps, avlt, avlts, blksLt, frL, upd_get, S1, simprocAttr, List.length_map, Int.natCast_zero, AV.p.injEq, PV.int.injEq, PV.bool.injEq, PV.sl.injEq] <;> (try and_intros) <;> (try assumption) <;> (try trivial) <;> (try omega))
  rcases Nat.lt_or_ge j (outsN fl i).length with hlt | hge
  · obtain ⟨x, hx⟩ : ∃ k, (outsN fl i)[j]? = some k := ⟨_, List.getElem?_eq_getElem hlt⟩
    obtain ⟨xi, f, hxi, rfl, hf, _⟩ := pickF_mem (List.mem_of_getElem? hx)
    obtain ⟨d1, d2⟩ := hd f (List.mem_of_getElem? hf)
    obtain ⟨kx, hkx⟩ : ∃ k, ns[f.dst.toNat]? = some k := ⟨_, List.getElem?_eq_getElem (by omega)⟩
    have hkx' := rowN hkx
    have hf' := rowF hf
    have x0 : (0 : Int) ≤ (xi : Int) := Int.natCast_nonneg _
    have s1 := cntB_step (p := elsAt fl) hx
    have s2 := cntB_step (p := othAt ns fl) hx
    have b1 := cntB_le (elsAt fl) (outsN fl i) j
    have e1 : elsAt fl (xi : Int) = f.els := by unfold elsAt; rw [Int.toNat_natCast, hf]
    have e2 : othAt ns fl (xi : Int) = (kx.kind != 8) := by unfold othAt; rw [Int.toNat_natCast, hf]; simp only [kindAt, hkx]
    rw [e1] at s1
    rw [e2] at s2
    have w1 := IntWalk.i64_in ((cntB (elsAt fl) (outsN fl i) j : Int) + 1) (by omega)
    have n1 := nextI (l := outsN fl i) (i := j) (by omega) hlt
    have s3 : (cntB (othAt ns fl) (outsN fl i) (j + 1) == 0) = ((cntB (othAt ns fl) (outsN fl i) j == 0) && (kx.kind == 8)) := by
      rw [s2, Bool.eq_iff_iff]
      by_cases h8 : kx.kind = 8 <;> simp [h8]
    cases h1 : f.els <;> simp only [h1, if_true, Bool.false_eq_true, if_false, Nat.add_zero] at s1
    all_goals (repeat' (first | ((first | refine aops_nil ?_ | refine aqops_nil ?_); (try simp only [NB])) | ((repeat ((fail_if_success (refine hK _ ?_)); clear hK K)); refine hK _ ?_; clear hK K) | ((first | refine aops_k fun K1 hK1 => ?_ | refine aqops_k fun K1 hK1 => ?_ | refine awp_cond_k fun A B hA hB => ?_); simp only [S1, simprocAttr, TTNeL, rowI hx, hitI hlt, n1, eF, eN, hf', hkx', h1, d1, d2, x0, w1, Int.toNat_natCast, List.length_map]; first | (refine hK1 _ ?_; clear hK1 K1) | ((first | refine hA ?_ | refine hB ?_); clear hA hB A B) | (refine join_x (v := ?_) (fun hg hk9 => ?_) ?_; rotate_left; (focus (try ((try simp only [BN] at hg); simp only [S1, simprocAttr, TTNeL, rowI hx, hitI hlt, n1, eF, eN, hf', hkx', h1, d1, d2, x0, w1, Int.toNat_natCast, List.length_map, hg] at hk9 ⊢)); first | exact hk9); (refine hK1 _ ?_; clear hK1 K1)) | (((first | (refine ⟨fun hg => hA ?_, fun hg => hB ?_⟩ <;> clear hA hB A B) | refine ⟨fun hg => ?_, fun hg => ?_⟩) <;> (try simp only [BN2] at hg) <;> (try simp only [hg, cond_true, cond_false])) <;> (try (refine hK1 _ ?_; clear hK1 K1)) <;> (try simp only [BN3] at hg))) | (refine awp_seq_k fun K hK => ?_) | ((first | refine awp_region ?_ | refine awp_draw (by kernel_rfl) ?_ | refine awp_block ?_ | refine awp_exit ?_ | refine awp_skip ?_ | refine awp_ret ?_); (try simp only [NB, simprocAttr]))))
    all_goals refine ⟨hlt, trivial, ?_⟩
    all_goals simp only [s1, s3]
    all_goals (refine ⟨rfl, (by first | exact ⟨_, rfl⟩ | exact ⟨[], by simp⟩), ?_, ?_⟩ <;> simp only [keeps, avlt, avlts, blksLt, frL, upd_get, S1, simprocAttr, List.length_map, Int.natCast_zero, AV.p.injEq, PV.int.injEq, PV.bool.injEq, PV.sl.injEq] <;> (try and_intros) <;> (try assumption) <;> (try trivial) <;> (try omega))
  · obtain rfl : j = (outsN fl i).length := by omega
    have e0 : threeB ns fl i = threeB ns fl i := rfl
    conv at e0 => rhs; unfold threeB
    rw [ekd] at e0
    by_cases k1 : kd.kind = 1
    · repeat' (first | ((first | refine aops_nil ?_ | refine aqops_nil ?_); (try simp only [NB])) | ((repeat ((fail_if_success (refine hK _ ?_)); clear hK K)); refine hK _ ?_; clear hK K) | ((first | refine aops_k fun K1 hK1 => ?_ | refine aqops_k fun K1 hK1 => ?_ | refine awp_cond_k fun A B hA hB => ?_); simp only [S1, simprocAttr, TTNeL, endI, k1, List.length_map]; first | (refine hK1 _ ?_; clear hK1 K1) | ((first | refine hA ?_ | refine hB ?_); clear hA hB A B) | (refine join_x (v := ?_) (fun hg hk9 => ?_) ?_; rotate_left; (focus (try ((try simp only [BN] at hg); simp only [S1, simprocAttr, TTNeL, endI, k1, List.length_map, hg] at hk9 ⊢)); first | exact hk9); (refine hK1 _ ?_; clear hK1 K1)) | (((first | (refine ⟨fun hg => hA ?_, fun hg => hB ?_⟩ <;> clear hA hB A B) | refine ⟨fun hg => ?_, fun hg => ?_⟩) <;> (try simp only [BN2] at hg) <;> (try simp only [hg, cond_true, cond_false])) <;> (try (refine hK1 _ ?_; clear hK1 K1)) <;> (try simp only [BN3] at hg))) | (refine awp_seq_k fun K hK => ?_) | ((first | refine awp_region ?_ | refine awp_draw (by kernel_rfl) ?_ | refine awp_block ?_ | refine awp_exit ?_ | refine awp_skip ?_ | refine awp_ret ?_); (try simp only [NB, simprocAttr])))
      all_goals simp only [EndP, FinP, resA, resL, resA1, lastV, lastA, lastAs, pur, purs, take_app, List.take_length, S1, simprocAttr, TTNeL, Nat.le_add_right, Nat.le_refl]
      all_goals simp [e0, k1]
      all_goals (rw [Bool.eq_iff_iff]; simp only [Bool.or_eq_true, Bool.and_eq_true, beq_iff_eq, decide_eq_true_eq]; omega)
    by_cases k2 : kd.kind = 2
    · repeat' (first | ((first | refine aops_nil ?_ | refine aqops_nil ?_); (try simp only [NB])) | ((repeat ((fail_if_success (refine hK _ ?_)); clear hK K)); refine hK _ ?_; clear hK K) | ((first | refine aops_k fun K1 hK1 => ?_ | refine aqops_k fun K1 hK1 => ?_ | refine awp_cond_k fun A B hA hB => ?_); simp only [S1, simprocAttr, TTNeL, endI, k2, List.length_map]; first | (refine hK1 _ ?_; clear hK1 K1) | ((first | refine hA ?_ | refine hB ?_); clear hA hB A B) | (refine join_x (v := ?_) (fun hg hk9 => ?_) ?_; rotate_left; (focus (try ((try simp only [BN] at hg); simp only [S1, simprocAttr, TTNeL, endI, k2, List.length_map, hg] at hk9 ⊢)); first | exact hk9); (refine hK1 _ ?_; clear hK1 K1)) | (((first | (refine ⟨fun hg => hA ?_, fun hg => hB ?_⟩ <;> clear hA hB A B) | refine ⟨fun hg => ?_, fun hg => ?_⟩) <;> (try simp only [BN2] at hg) <;> (try simp only [hg, cond_true, cond_false])) <;> (try (refine hK1 _ ?_; clear hK1 K1)) <;> (try simp only [BN3] at hg))) | (refine awp_seq_k fun K hK => ?_) | ((first | refine awp_region ?_ | refine awp_draw (by kernel_rfl) ?_ | refine awp_block ?_ | refine awp_exit ?_ | refine awp_skip ?_ | refine awp_ret ?_); (try simp only [NB, simprocAttr])))
      all_goals simp only [EndP, FinP, resA, resL, resA1, lastV, lastA, lastAs, pur, purs, take_app, List.take_length, S1, simprocAttr, TTNeL, Nat.le_add_right, Nat.le_refl]
      all_goals simp [e0, k2]
      all_goals (rw [Bool.eq_iff_iff]; simp only [Bool.or_eq_true, Bool.and_eq_true, beq_iff_eq, decide_eq_true_eq]; omega)
    by_cases k5 : kd.kind = 5
    · repeat' (first | ((first | refine aops_nil ?_ | refine aqops_nil ?_); (try simp only [NB])) | ((repeat ((fail_if_success (refine hK _ ?_)); clear hK K)); refine hK _ ?_; clear hK K) | ((first | refine aops_k fun K1 hK1 => ?_ | refine aqops_k fun K1 hK1 => ?_ | refine awp_cond_k fun A B hA hB => ?_); simp only [S1, simprocAttr, TTNeL, endI, k5, List.length_map]; first | (refine hK1 _ ?_; clear hK1 K1) | ((first | refine hA ?_ | refine hB ?_); clear hA hB A B) | (refine join_x (v := ?_) (fun hg hk9 => ?_) ?_; rotate_left; (focus (try ((try simp only [BN] at hg); simp only [S1, simprocAttr, TTNeL, endI, k5, List.length_map, hg] at hk9 ⊢)); first | exact hk9); (refine hK1 _ ?_; clear hK1 K1)) | (((first | (refine ⟨fun hg => hA ?_, fun hg => hB ?_⟩ <;> clear hA hB A B) | refine ⟨fun hg => ?_, fun hg => ?_⟩) <;> (try simp only [BN2] at hg) <;> (try simp only [hg, cond_true, cond_false])) <;> (try (refine hK1 _ ?_; clear hK1 K1)) <;> (try simp only [BN3] at hg))) | (refine awp_seq_k fun K hK => ?_) | ((first | refine awp_region ?_ | refine awp_draw (by kernel_rfl) ?_ | refine awp_block ?_ | refine awp_exit ?_ | refine awp_skip ?_ | refine awp_ret ?_); (try simp only [NB, simprocAttr])))
      all_goals simp only [EndP, FinP, resA, resL, resA1, lastV, lastA, lastAs, pur, purs, take_app, List.take_length, S1, simprocAttr, TTNeL, Nat.le_add_right, Nat.le_refl]
      all_goals simp [e0, k5]
      all_goals (rw [Bool.eq_iff_iff]; simp only [Bool.or_eq_true, Bool.and_eq_true, beq_iff_eq, decide_eq_true_eq]; omega)
    by_cases k6 : kd.kind = 6
    · repeat' (first | ((first | refine aops_nil ?_ | refine aqops_nil ?_); (try simp only [NB])) | ((repeat ((fail_if_success (refine hK _ ?_)); clear hK K)); refine hK _ ?_; clear hK K) | ((first | refine aops_k fun K1 hK1 => ?_ | refine aqops_k fun K1 hK1 => ?_ | refine awp_cond_k fun A B hA hB => ?_); simp only [S1, simprocAttr, TTNeL, endI, k6, List.length_map]; first | (refine hK1 _ ?_; clear hK1 K1) | ((first | refine hA ?_ | refine hB ?_); clear hA hB A B) | (refine join_x (v := ?_) (fun hg hk9 => ?_) ?_; rotate_left; (focus (try ((try simp only [BN] at hg); simp only [S1, simprocAttr, TTNeL, endI, k6, List.length_map, hg] at hk9 ⊢)); first | exact hk9); (refine hK1 _ ?_; clear hK1 K1)) | (((first | (refine ⟨fun hg => hA ?_, fun hg => hB ?_⟩ <;> clear hA hB A B) | refine ⟨fun hg => ?_, fun hg => ?_⟩) <;> (try simp only [BN2] at hg) <;> (try simp only [hg, cond_true, cond_false])) <;> (try (refine hK1 _ ?_; clear hK1 K1)) <;> (try simp only [BN3] at hg))) | (refine awp_seq_k fun K hK => ?_) | ((first | refine awp_region ?_ | refine awp_draw (by kernel_rfl) ?_ | refine awp_block ?_ | refine awp_exit ?_ | refine awp_skip ?_ | refine awp_ret ?_); (try simp only [NB, simprocAttr])))
      all_goals simp only [EndP, FinP, resA, resL, resA1, lastV, lastA, lastAs, pur, purs, take_app, List.take_length, S1, simprocAttr, TTNeL, Nat.le_add_right, Nat.le_refl]
      all_goals simp [e0, k6]
      all_goals (rw [Bool.eq_iff_iff]; simp only [Bool.or_eq_true, Bool.and_eq_true, beq_iff_eq, decide_eq_true_eq]; omega)
    by_cases k7 : kd.kind = 7
    · repeat' (first | ((first | refine aops_nil ?_ | refine aqops_nil ?_); (try simp only [NB])) | ((repeat ((fail_if_success (refine hK _ ?_)); clear hK K)); refine hK _ ?_; clear hK K) | ((first | refine aops_k fun K1 hK1 => ?_ | refine aqops_k fun K1 hK1 => ?_ | refine awp_cond_k fun A B hA hB => ?_); simp only [S1, simprocAttr, TTNeL, endI, k7, List.length_map]; first | (refine hK1 _ ?_; clear hK1 K1) | ((first | refine hA ?_ | refine hB ?_); clear hA hB A B) | (refine join_x (v := ?_) (fun hg hk9 => ?_) ?_; rotate_left; (focus (try ((try simp only [BN] at hg); simp only [S1, simprocAttr, TTNeL, endI, k7, List.length_map, hg] at hk9 ⊢)); first | exact hk9); (refine hK1 _ ?_; clear hK1 K1)) | (((first | (refine ⟨fun hg => hA ?_, fun hg => hB ?_⟩ <;> clear hA hB A B) | refine ⟨fun hg => ?_, fun hg => ?_⟩) <;> (try simp only [BN2] at hg) <;> (try simp only [hg, cond_true, cond_false])) <;> (try (refine hK1 _ ?_; clear hK1 K1)) <;> (try simp only [BN3] at hg))) | (refine awp_seq_k fun K hK => ?_) | ((first | refine awp_region ?_ | refine awp_draw (by kernel_rfl) ?_ | refine awp_block ?_ | refine awp_exit ?_ | refine awp_skip ?_ | refine awp_ret ?_); (try simp only [NB, simprocAttr])))
      all_goals simp only [EndP, FinP, resA, resL, resA1, lastV, lastA, lastAs, pur, purs, take_app, List.take_length, S1, simprocAttr, TTNeL, Nat.le_add_right, Nat.le_refl]
      all_goals simp [e0, k7]
      all_goals (rw [Bool.eq_iff_iff]; simp only [Bool.or_eq_true, Bool.and_eq_true, beq_iff_eq, decide_eq_true_eq]; omega)
    · have f1 : (kd.kind == 1) = false := by simp [k1]
      have f2 : (kd.kind == 2) = false := by simp [k2]
      have f5 : (kd.kind == 5) = false := by simp [k5]
      have f6 : (kd.kind == 6) = false := by simp [k6]
      have f7 : (kd.kind == 7) = false := by simp [k7]
      repeat' (first | ((first | refine aops_nil ?_ | refine aqops_nil ?_); (try simp only [NB])) | ((repeat ((fail_if_success (refine hK _ ?_)); clear hK K)); refine hK _ ?_; clear hK K) | ((first | refine aops_k fun K1 hK1 => ?_ | refine aqops_k fun K1 hK1 => ?_ | refine awp_cond_k fun A B hA hB => ?_); simp only [S1, simprocAttr, TTNeL, endI, f1, f2, f5, f6, f7, List.length_map]; first | (refine hK1 _ ?_; clear hK1 K1) | ((first | refine hA ?_ | refine hB ?_); clear hA hB A B) | (refine join_x (v := ?_) (fun hg hk9 => ?_) ?_; rotate_left; (focus (try ((try simp only [BN] at hg); simp only [S1, simprocAttr, TTNeL, endI, f1, f2, f5, f6, f7, List.length_map, hg] at hk9 ⊢)); first | exact hk9); (refine hK1 _ ?_; clear hK1 K1)) | (((first | (refine ⟨fun hg => hA ?_, fun hg => hB ?_⟩ <;> clear hA hB A B) | refine ⟨fun hg => ?_, fun hg => ?_⟩) <;> (try simp only [BN2] at hg) <;> (try simp only [hg, cond_true, cond_false])) <;> (try (refine hK1 _ ?_; clear hK1 K1)) <;> (try simp only [BN3] at hg))) | (refine awp_seq_k fun K hK => ?_) | ((first | refine awp_region ?_ | refine awp_draw (by kernel_rfl) ?_ | refine awp_block ?_ | refine awp_exit ?_ | refine awp_skip ?_ | refine awp_ret ?_); (try simp only [NB, simprocAttr])))
      all_goals simp only [EndP, FinP, resA, resL, resA1, lastV, lastA, lastAs, pur, purs, take_app, List.take_length, S1, simprocAttr, TTNeL, Nat.le_add_right, Nat.le_refl]
      all_goals simp [e0, k1, k2, k5, k6, k7]
      all_goals (rw [Bool.eq_iff_iff]; simp only [Bool.or_eq_true, Bool.and_eq_true, beq_iff_eq, decide_eq_true_eq]; omega)
end Go.Proofs.YtjpphhcimpclpaaDoor.AM
end

section
set_option linter.unusedVariables false
set_option linter.unusedSimpArgs false
namespace Go.Proofs.YtjpphhcimpclpaaDoor.AM
open Go

/-- Heaps that differ in what stands in blocks alone. -/
def Alike (h h' : Heap) : Prop := h'.length = h.length ∧ ∀ (b : Nat) (bk' : Blk), h'[b]? = some (some bk') → ∃ bk : Blk, h[b]? = some (some bk) ∧ bk.g = bk'.g ∧ (bk.cells = [] ↔ bk'.cells = [])

theorem own_alike {ι : Nat → Nat × Nat} {h h' : Heap} (ha : Alike h h') {k : Nat} (ho : own ι h' k) : own ι h k := by
  obtain ⟨b, bk', q1, q2, q3⟩ := ho
  obtain ⟨bk, p1, p2, p3⟩ := ha.2 b bk' q1
  exact ⟨b, bk, p1, fun e => q2 (p3.mp e), q3⟩

theorem VRel.alike {ι : Nat → Nat × Nat} {h h' : Heap} {w : World} {x : AV} {v : Value} (ha : Alike h h') (hx : VRel ι h w x v) : VRel ι h' w x v := by
  have lv : ∀ b g : Nat, liveAt h' b g → liveAt h b g := by
    rintro b g ⟨bk', q1, q2⟩
    obtain ⟨bk, p1, p2, p3⟩ := ha.2 b bk' q1
    exact ⟨bk, p1, by omega⟩
  have gg : ∀ b g : Nat, (∀ bk : Blk, h[b]? = some (some bk) → g ≤ bk.g) → ∀ bk : Blk, h'[b]? = some (some bk) → g ≤ bk.g := by
    intro b g hg bk' q1
    obtain ⟨bk, p1, p2, p3⟩ := ha.2 b bk' q1
    have := hg bk p1; omega
  have oo : ∀ k, k < w.heap.size → ¬ own ι h k → w.heap[k]? = w.heap[k]? ∧ ¬ own ι h' k := fun k _ ho => ⟨rfl, fun e => ho (own_alike ha e)⟩
  induction hx with
  | p x v hx => exact .p _ _ (hx.mono (Nat.le_refl _) oo)
  | agg cells vs hl hv ih => exact .agg _ _ hl ih
  | tup cells vs hl hv ih => exact .tup _ _ hl ih
  | fn f cells vs hl hv ih => exact .fn _ _ _ hl ih
  | ref b g off sz len A c hn hb hg hv =>
    refine .ref _ _ _ _ _ _ _ hn (by rw [ha.1]; exact hb) (gg b g hg) fun hl => ?_
    rcases hv (lv b g hl) with hz | ⟨hA, hle, ⟨bk0, q0, hne⟩, hcs⟩
    · exact .inl hz
    · obtain ⟨bk', q1, q2⟩ := hl
      obtain ⟨bk, p1, p2, p3⟩ := ha.2 b bk' q1
      rw [p1] at q0
      obtain rfl := Option.some.inj (Option.some.inj q0)
      exact .inr ⟨hA, hle, ⟨bk', q1, fun e => hne (p3.mpr e)⟩, hcs⟩
  | ptr b g off A hb hg hv => exact .ptr _ _ _ _ (by rw [ha.1]; exact hb) (gg b g hg) fun hl => hv (lv b g hl)
  | pin cells blk off hv => exact .pin _ _ _ (hv.mono (Nat.le_refl _) oo)

section
variable {P : Program} {G : Nat → Option (List PV)} {h0 : Heap} {s : St}

theorem alike_set {h : Heap} {b j : Nat} {bk : Blk} {x' : AV} (hb : h[b]? = some (some bk)) : Alike h (h.set b (some ⟨bk.g, bk.cells.set j x'⟩)) := by
  refine ⟨by simp, fun c bk' hc => ?_⟩
  rw [List.getElem?_set] at hc
  split at hc
  · rename_i e; subst e
    split at hc
    · obtain rfl := Option.some.inj (Option.some.inj hc)
      exact ⟨bk, hb, rfl, by simp only [← List.length_eq_zero_iff, List.length_set]⟩
    · cases hc
  · exact ⟨bk', hc, rfl, Iff.rfl⟩

/-- A cell of a block is told otherwise. -/
theorem Ghost.cell {b j : Nat} {bk : Blk} {x x' : AV} (hb : s.heap[b]? = some (some bk)) (hx : bk.cells[j]? = some x) (hv : ∀ ι w v, VRel ι s.heap w x v → VRel ι s.heap w x' v) (hbl : h0.length ≤ b) :
    Ghost P G h0 s ⟨s.fr, s.nt, s.heap.set b (some ⟨bk.g, bk.cells.set j x'⟩)⟩ := by
  intro ι a w ι0 w0 hS hs he
  have ha := alike_set (j := j) (x' := x') hb
  have hlo : ∀ (c : Nat) (bk' : Blk), (s.heap.set b (some ⟨bk.g, bk.cells.set j x'⟩))[c]? = some (some bk') → (c = b ∧ bk' = ⟨bk.g, bk.cells.set j x'⟩) ∨ s.heap[c]? = some (some bk') := by
    intro c bk' hc
    rw [List.getElem?_set] at hc
    split at hc
    · rename_i e
      split at hc
      · exact .inl ⟨e.symm, (Option.some.inj (Option.some.inj hc)).symm⟩
      · cases hc
    · exact .inr hc
  have oo : ∀ k, k < w.heap.size → ¬ own ι s.heap k → w.heap[k]? = w.heap[k]? ∧ ¬ own ι (s.heap.set b (some ⟨bk.g, bk.cells.set j x'⟩)) k := fun k _ ho => ⟨rfl, fun e => ho (own_alike ha e)⟩
  refine ⟨ι, ⟨⟨⟨fun c bk' hc hne => ?_, fun c c' k k' q1 q2 n1 n2 e => ?_⟩, fun g cells hg => (hs.hS.gr g cells hg).mono (Nat.le_refl _) oo⟩, fun k y hy => ?_, hs.nt, hs.df⟩, ?_⟩
  · rcases hlo c bk' hc with ⟨rfl, rfl⟩ | hc
    · have hne' : bk.cells ≠ [] := by
        intro e
        rw [e] at hx; simp at hx
      obtain ⟨cs, ty, p1, p2, p3⟩ := hs.hS.hr.blk c bk hb hne'
      refine ⟨cs, ty, p1, by simpa using p2, fun i y hy => ?_⟩
      simp only [List.getElem?_set] at hy
      split at hy
      · rename_i e; subst e
        split at hy
        · cases hy
          obtain ⟨v, r1, r2⟩ := p3 j x hx
          exact ⟨v, r1, (hv ι w v r2).alike ha⟩
        · cases hy
      · obtain ⟨v, r1, r2⟩ := p3 i y hy
        exact ⟨v, r1, r2.alike ha⟩
    · obtain ⟨cs, ty, p1, p2, p3⟩ := hs.hS.hr.blk c bk' hc hne
      exact ⟨cs, ty, p1, p2, fun i y hy => by obtain ⟨v, r1, r2⟩ := p3 i y hy; exact ⟨v, r1, r2.alike ha⟩⟩
  · obtain ⟨k0, p1, p2, p3⟩ := ha.2 c k q1
    obtain ⟨k1, r1, r2, r3⟩ := ha.2 c' k' q2
    exact hs.hS.hr.inj c c' k0 k1 p1 r1 (fun e => n1 (p3.mp e)) (fun e => n2 (r3.mp e)) e
  · obtain ⟨v, p1, p2⟩ := hs.fr k y hy
    exact ⟨v, p1, p2.alike ha⟩
  · refine ⟨he.size, fun k hk ho => ⟨(he.keep k hk ho).1, fun e => (he.keep k hk ho).2 (own_alike ha e)⟩, by rw [ha.1]; exact he.len, fun c bk' hc hq => ?_, he.os, he.output, he.tape⟩
    rcases hlo c bk' hq with ⟨rfl, _⟩ | hq
    · omega
    · exact he.gens c bk' hc hq

/-- A nil slice in a cell is told as a block of ours that is still empty. -/
theorem Ghost.adoptCell {b j : Nat} {bk : Blk} (sz : Nat) (hb : s.heap[b]? = some (some bk)) (hx : bk.cells[j]? = some (.p .nils)) (hbl : h0.length ≤ b) :
    Ghost P G h0 s ⟨s.fr, s.nt, (s.heap ++ [some ⟨0, []⟩] : Heap).set b (some ⟨bk.g, bk.cells.set j (.ref s.heap.length 0 0 sz 0)⟩)⟩ := by
  have hlt : b < s.heap.length := getElem?_lt hb
  refine (Ghost.lay (s := s)).trans (Ghost.cell (s := (⟨s.fr, s.nt, s.heap ++ [some ⟨0, []⟩]⟩ : St)) (b := b) (j := j) (bk := bk) (by rw [List.getElem?_append_left hlt]; exact hb) hx (fun ι w v hv => ?_) hbl)
  have := hv.nils_inv; subst this
  exact VRel.ref _ _ _ _ _ none 0 (by omega) (by simp) (fun bk hq => Nat.zero_le _) fun _ => Or.inl ⟨rfl, rfl⟩
end

/-! ### Rows -/

def flatE {α : Type} (e : α → List PV) (l : List α) : List PV := l.flatMap e

theorem flatE_len {α : Type} {e : α → List PV} {sz : Nat} (he : ∀ a, (e a).length = sz) : ∀ l : List α, (flatE e l).length = l.length * sz
  | [] => by simp [flatE]
  | x :: r => by
    have := flatE_len he r
    unfold flatE at this ⊢
    rw [List.flatMap_cons, List.length_append, this, he, List.length_cons, Nat.add_mul]; omega
theorem chunk_rowsE {α : Type} {e : α → List PV} {sz : Nat} (he : ∀ a, (e a).length = sz) : ∀ l : List α, chunk sz l.length (flatE e l) = l.map e
  | [] => rfl
  | x :: r => by
    have := chunk_rowsE he r
    have e1 : flatE e (x :: r) = e x ++ flatE e r := rfl
    rw [List.length_cons, chunk, e1, List.take_left' (he x), List.drop_left' (he x), this]; rfl
theorem purs_p (h : Heap) (n fuel : Nat) : ∀ l : List PV, (∀ x ∈ l, x ≠ .nils) → purs h n fuel (l.map AV.p) = some l
  | [], _ => by unfold purs; rfl
  | x :: r, hx => by
    have ih := purs_p h n fuel r fun y hy => hx y (by simp [hy])
    have h0 := hx x (by simp)
    simp only [List.map_cons]
    unfold purs
    rw [ih]
    have : pur h n fuel (AV.p x) = some x := by
      cases x with
      | nils => exact absurd rfl h0
      | _ => unfold pur; rfl
    rw [this]
theorem pur_rows {α : Type} {e : α → List PV} {sz : Nat} (he : ∀ a, (e a).length = sz) (hz : ∀ a, ∀ x ∈ e a, x ≠ .nils) {h : Heap} {n fuel b g m : Nat} {l : List α} (hm : m = l.length) (hb : blkAt h b g = some ((flatE e l).map AV.p)) (hn : n ≤ b) :
    pur h n (fuel + 1) (.ref b g 0 sz m) = some (.sl (l.map e)) := by
  subst hm
  unfold pur
  by_cases h0 : l.length = 0
  · rw [if_pos h0]; have := List.eq_nil_of_length_eq_zero h0; subst this; rfl
  · rw [if_neg h0, hb]
    simp only [hn, true_and, Nat.zero_add, List.length_map, flatE_len he, Nat.le_refl, if_true, List.drop_zero]
    rw [List.take_of_length_le (by rw [List.length_map, flatE_len he]; exact Nat.le_refl _), purs_p _ _ _ _ (fun x hx => by
      unfold flatE at hx
      obtain ⟨a, _, ha⟩ := List.mem_flatMap.mp hx
      exact hz a x ha)]
    simp only [Option.map_some, chunk_rowsE he]

theorem EndP_rows {α : Type} {e : α → List PV} {sz : Nat} (he : ∀ a, (e a).length = sz) (hz : ∀ a, ∀ x ∈ e a, x ≠ .nils) {P : Program} {h : Heap} {K : AV → Prop} {x : Exit} {s : St} (hx : x = .normal ∨ x = .ret) {t b g m : Nat} {l : List α} (hm : m = l.length) (hf : s.fr t = some (.ref b g 0 sz m))
    (hb : blkAt s.heap b g = some ((flatE e l).map AV.p)) (hn : h.length ≤ b) (ht : s.heap.take h.length = h) (hle : h.length ≤ s.heap.length) (hk : K (.p (.sl (l.map e)))) : EndP P [.tmp t] h K x s := by
  have key : FinP P [.tmp t] h K s := by
    unfold FinP
    simp only [resA, resL, resA1, hf, lastV, lastA, pur_rows he hz hm hb hn, Option.map_some]
    exact ⟨ht, hle, hk⟩
  rcases hx with rfl | rfl <;> exact key

theorem FinK_tmp {P : Program} {h : Heap} {K : AV → Heap → Prop} {s : St} {t : Nat} {v : AV} (hf : s.fr t = some v) (hl : h.length ≤ s.heap.length) (hk : K v s.heap) : FinK P [.tmp t] h K s := by
  unfold FinK
  refine ⟨hl, ?_⟩
  simp only [resA, resL, resA1, hf]
  exact hk
end Go.Proofs.YtjpphhcimpclpaaDoor.AM
end

section
set_option linter.unusedVariables false
set_option linter.unusedSimpArgs false
set_option maxRecDepth 4000
set_option maxHeartbeats 4000000
namespace Go.Proofs.YtjpphhcimpclpaaDoor.AM
open Go Go.Proofs
set_option linter.defProp false in
def TTNeO := And.intro T2 (And.intro T3 (And.intro T4 (And.intro T22 (And.intro T23 (And.intro T25 (And.intro T40 (And.intro T56 (And.intro T58 (And.intro T60 (And.intro T71 (And.intro T89 (And.intro T100 (And.intro T103 T122)))))))))))))
attribute [local irreducible] awp aops aqops aeops arun
variable {G : Nat → Option (List PV)}

def eQ (q : Int × Int) : List PV := [.int .i64 q.1, .int .i64 q.2]
abbrev aQ (l : List (Int × Int)) : AV := .p (.sl (l.map eQ))
def flatQ (l : List (Int × Int)) : List Int := l.flatMap fun q => [q.1, q.2]

theorem flatQ_len : ∀ l : List (Int × Int), (flatQ l).length = l.length * 2
  | [] => rfl
  | x :: r => by
    have := flatQ_len r
    unfold flatQ at this ⊢
    rw [List.flatMap_cons, List.length_append, this, List.length_cons]; simp only [List.length_cons, List.length_nil]; omega
theorem flatQ_app (l : List (Int × Int)) (a b : Int) : flatQ (l ++ [(a, b)]) = flatQ l ++ [a, b] := by
  unfold flatQ; rw [List.flatMap_append]; rfl

theorem chunk_pairs : ∀ l : List (Int × Int), chunk 2 l.length ((flatQ l).map (PV.int .i64)) = l.map eQ
  | [] => rfl
  | x :: r => by
    have := chunk_pairs r
    show chunk 2 (r.length + 1) ((flatQ (x :: r)).map (PV.int .i64)) = eQ x :: r.map eQ
    have e : flatQ (x :: r) = x.1 :: x.2 :: flatQ r := rfl
    rw [e, ← this]
    rfl

theorem pur_pairs {h : Heap} {n fuel b g m : Nat} {l : List (Int × Int)} (hm : m = l.length) (hb : blkAt h b g = some ((flatQ l).map AV.i)) (hn : n ≤ b) : pur h n (fuel + 1) (.ref b g 0 2 m) = some (.sl (l.map eQ)) := by
  subst hm
  unfold pur
  by_cases h0 : l.length = 0
  · rw [if_pos h0]; have := List.eq_nil_of_length_eq_zero h0; subst this; rfl
  · rw [if_neg h0, hb]
    simp only [hn, true_and, Nat.zero_add, List.length_map, flatQ_len, Nat.le_refl, if_true, List.drop_zero]
    rw [List.take_of_length_le (by rw [List.length_map, flatQ_len]; exact Nat.le_refl _), purs_ints]
    simp only [Option.map_some, chunk_pairs]

/-- All numbers below one at which something is wrong. -/
def plF (rule : Int) (p : Nat → Bool) (n : Nat) : List (Int × Int) := ((List.range n).filter p).map fun (i : Nat) => (rule, (i : Int))

theorem plF_succ (rule : Int) (p : Nat → Bool) (n : Nat) : plF rule p (n + 1) = plF rule p n ++ (if p n = true then [(rule, (n : Int))] else []) := by
  unfold plF
  rw [List.range_succ, List.filter_append, List.map_append]
  congr 1
  cases h : p n <;> simp [h]
theorem plF_le (rule : Int) (p : Nat → Bool) (n : Nat) : (plF rule p n).length ≤ n := by
  unfold plF
  rw [List.length_map]
  exact Nat.le_trans (List.length_filter_le _ _) (by simp)
theorem nextK {n i : Nat} (hk : n ≤ 1000) (h : i < n) : IntKind.i64.wrap ((i : Int) + 1) = ((i + 1 : Nat) : Int) := by rw [IntWalk.i64_in _ (by omega)]; omega
theorem hitK {n i : Nat} (h : i < n) : decide ((i : Int) < (n : Int)) = true := by simp; omega
theorem endK {n : Nat} : decide ((n : Int) < (n : Int)) = false := by simp

theorem places_calls {f : FuncId} (hE : Enters Tryd.prog f) {caps : List AV} {p : Nat → Bool} (rule : Int) (n : Nat) (hn : n ≤ 100) (h : Heap) (hcap : avlts h.length caps)
    (hc : ∀ L, ∀ i : Nat, i < n → ACalls Tryd.prog G f (.i i :: caps) (h ++ L) (fun r h' => r = .b (p i) ∧ h' = h ++ L)) :
    ACalls Tryd.prog G 55 [.i rule, .i n, .fn f caps] h (fun r h' => r = .ref h.length (plF rule p n).length 0 2 (plF rule p n).length ∧ h' = h ++ [some ⟨(plF rule p n).length, (flatQ (plF rule p n)).map AV.i⟩]) := by
  refine Sim.evoKeep (rl := []) mixed Tryd.func55 rfl (by rw [Tryd.ntmps55]; simp) ?_
  rw [Tryd.ntmps55]
  refine awp_seq_k fun K hK => ?_
  repeat' (first | ((first | refine aops_nil ?_ | refine aqops_nil ?_); (try simp only [NB]); ((repeat ((fail_if_success (refine hK _ ?_)); clear hK K)); refine hK _ ?_; clear hK K)) | ((first | refine aops_k fun K1 hK1 => ?_ | refine aqops_k fun K1 hK1 => ?_ | refine awp_cond_k fun A B hA hB => ?_); simp only [S1, simprocAttr, TTNeO]; first | (refine hK1 _ ?_; clear hK1 K1) | ((first | refine hA ?_ | refine hB ?_); clear hA hB A B) | (refine join_x (v := ?_) (fun hg hk9 => ?_) ?_; rotate_left; (focus (try ((try simp only [BN] at hg); simp only [S1, simprocAttr, TTNeO, hg] at hk9 ⊢)); first | exact hk9); (refine hK1 _ ?_; clear hK1 K1)) | (((first | (refine ⟨fun hg => hA ?_, fun hg => hB ?_⟩ <;> clear hA hB A B) | refine ⟨fun hg => ?_, fun hg => ?_⟩) <;> (try simp only [BN2] at hg) <;> (try simp only [hg, cond_true, cond_false])) <;> (try (refine hK1 _ ?_; clear hK1 K1)) <;> (try simp only [BN3] at hg))) | (fail) | ((first | refine awp_region ?_ | refine awp_draw (by kernel_rfl) ?_ | refine awp_block ?_ | refine awp_exit ?_ | refine awp_skip ?_ | refine awp_ret ?_); (try simp only [NB, simprocAttr]); (try ((repeat ((fail_if_success (refine hK _ ?_)); clear hK K)); refine hK _ ?_; clear hK K))))
  refine awp_seq_k fun K hK => ?_
  repeat' (first | ((first | refine aops_nil ?_ | refine aqops_nil ?_); (try simp only [NB]); ((repeat ((fail_if_success (refine hK _ ?_)); clear hK K)); refine hK _ ?_; clear hK K)) | ((first | refine aops_k fun K1 hK1 => ?_ | refine aqops_k fun K1 hK1 => ?_ | refine awp_cond_k fun A B hA hB => ?_); simp only [S1, simprocAttr, TTNeO]; first | (refine hK1 _ ?_; clear hK1 K1) | ((first | refine hA ?_ | refine hB ?_); clear hA hB A B) | (refine join_x (v := ?_) (fun hg hk9 => ?_) ?_; rotate_left; (focus (try ((try simp only [BN] at hg); simp only [S1, simprocAttr, TTNeO, hg] at hk9 ⊢)); first | exact hk9); (refine hK1 _ ?_; clear hK1 K1)) | (((first | (refine ⟨fun hg => hA ?_, fun hg => hB ?_⟩ <;> clear hA hB A B) | refine ⟨fun hg => ?_, fun hg => ?_⟩) <;> (try simp only [BN2] at hg) <;> (try simp only [hg, cond_true, cond_false])) <;> (try (refine hK1 _ ?_; clear hK1 K1)) <;> (try simp only [BN3] at hg))) | (fail) | ((first | refine awp_region ?_ | refine awp_draw (by kernel_rfl) ?_ | refine awp_block ?_ | refine awp_exit ?_ | refine awp_skip ?_ | refine awp_ret ?_); (try simp only [NB, simprocAttr]); (try ((repeat ((fail_if_success (refine hK _ ?_)); clear hK K)); refine hK _ ?_; clear hK K))))
  refine awp_seq_k fun K hK => ?_
  repeat' (first | ((first | refine aops_nil ?_ | refine aqops_nil ?_); (try simp only [NB])) | ((repeat ((fail_if_success (refine hK _ ?_)); clear hK K)); refine hK _ ?_; clear hK K) | ((first | refine aops_k fun K1 hK1 => ?_ | refine aqops_k fun K1 hK1 => ?_ | refine awp_cond_k fun A B hA hB => ?_); simp only [S1, simprocAttr, TTNeO]; first | (refine hK1 _ ?_; clear hK1 K1) | ((first | refine hA ?_ | refine hB ?_); clear hA hB A B) | (refine join_x (v := ?_) (fun hg hk9 => ?_) ?_; rotate_left; (focus (try ((try simp only [BN] at hg); simp only [S1, simprocAttr, TTNeO, hg] at hk9 ⊢)); first | exact hk9); (refine hK1 _ ?_; clear hK1 K1)) | (((first | (refine ⟨fun hg => hA ?_, fun hg => hB ?_⟩ <;> clear hA hB A B) | refine ⟨fun hg => ?_, fun hg => ?_⟩) <;> (try simp only [BN2] at hg) <;> (try simp only [hg, cond_true, cond_false])) <;> (try (refine hK1 _ ?_; clear hK1 K1)) <;> (try simp only [BN3] at hg))) | (refine awp_seq_k fun K hK => ?_) | ((first | refine awp_region ?_ | refine awp_draw (by kernel_rfl) ?_ | refine awp_block ?_ | refine awp_exit ?_ | refine awp_skip ?_ | refine awp_ret ?_); (try simp only [NB, simprocAttr])))
  have hcap1 := avlts_mono (Nat.le_add_right h.length 1) caps hcap
  refine awp_forG n 24 (fun j => [(10, .i j), (9, .i n), (7, .ref h.length (plF rule p j).length 0 2 (plF rule p j).length), (2, .fn f caps), (0, .i rule)])
    (fun j => [some ⟨(plF rule p j).length, (flatQ (plF rule p j)).map AV.i⟩]) (fun j => True) ?_ trivial fun j hj hp K hK => ?_
  · refine (Ghost.adopt 7 2 rfl).trans (Sub.ghost ⟨rfl, ⟨[], by simp [plF, flatQ]⟩, ?_, ?_⟩)
    · simp only [keeps, avlt, plF, upd_get, frL, List.length_cons, List.length_nil]
      simp
      exact hcap1
    · simp [blksLt, avlts, avlt, plF, flatQ]
  rcases Nat.lt_or_ge j n with hlt | hge
  · have hck := fun L => hc L j hlt
    have hle := plF_le rule p j
    have hmax : (plF rule p j).length + 1 ≤ maxCount := by unfold maxCount; omega
    have e1 := plF_succ rule p j
    cases hq : p j with
    | false =>
      rw [hq] at hck
      rw [hq, if_neg (by decide), List.append_nil] at e1
      repeat' (first | ((first | refine aops_nil ?_ | refine aqops_nil ?_); (try simp only [NB])) | ((repeat ((fail_if_success (refine hK _ ?_)); clear hK K)); refine hK _ ?_; clear hK K) | ((first | refine aops_k fun K1 hK1 => ?_ | refine aqops_k fun K1 hK1 => ?_ | refine awp_cond_k fun A B hA hB => ?_); simp only [S1, simprocAttr, TTNeO, hitK hlt, nextK (by omega : n ≤ 1000) hlt]; first | (refine hK1 _ ?_; clear hK1 K1) | ((first | refine hA ?_ | refine hB ?_); clear hA hB A B) | ((first | apply call_a hE | apply call_q hE); exact (hck _); (refine hK1 _ ?_; clear hK1 K1)) | (refine join_x (v := ?_) (fun hg hk9 => ?_) ?_; rotate_left; (focus (try ((try simp only [BN] at hg); simp only [S1, simprocAttr, TTNeO, hitK hlt, nextK (by omega : n ≤ 1000) hlt, hg] at hk9 ⊢)); first | exact hk9 | ((first | apply call_a hE | apply call_q hE); exact (hck _); exact hk9)); (refine hK1 _ ?_; clear hK1 K1)) | (((first | (refine ⟨fun hg => hA ?_, fun hg => hB ?_⟩ <;> clear hA hB A B) | refine ⟨fun hg => ?_, fun hg => ?_⟩) <;> (try simp only [BN2] at hg) <;> (try simp only [hg, cond_true, cond_false])) <;> (try (refine hK1 _ ?_; clear hK1 K1)) <;> (try simp only [BN3] at hg))) | (refine awp_seq_k fun K hK => ?_) | ((first | refine awp_region ?_ | refine awp_draw (by kernel_rfl) ?_ | refine awp_block ?_ | refine awp_exit ?_ | refine awp_skip ?_ | refine awp_ret ?_); (try simp only [NB, simprocAttr])))
      all_goals refine ⟨hlt, trivial, ?_⟩
      all_goals simp only [e1]
      all_goals refine ⟨rfl, ⟨_, rfl⟩, ?_, avlts_ints _ _, trivial⟩
      all_goals simp only [keeps, avlt, avlts, blksLt, frL, upd_get, S1, simprocAttr, List.length_map, Int.natCast_zero, AV.p.injEq, PV.int.injEq, PV.bool.injEq, PV.sl.injEq] <;> (try and_intros) <;> (try assumption) <;> (try trivial) <;> (try omega)
    | true =>
      rw [hq] at hck
      rw [hq, if_pos rfl] at e1
      repeat' (first | ((first | refine aops_nil ?_ | refine aqops_nil ?_); (try simp only [NB])) | ((repeat ((fail_if_success (refine hK _ ?_)); clear hK K)); refine hK _ ?_; clear hK K) | ((first | refine aops_k fun K1 hK1 => ?_ | refine aqops_k fun K1 hK1 => ?_ | refine awp_cond_k fun A B hA hB => ?_); simp only [S1, simprocAttr, TTNeO, hitK hlt, nextK (by omega : n ≤ 1000) hlt, flatQ_len, hmax, List.length_map, Nat.mul_one, Nat.zero_add]; first | (refine hK1 _ ?_; clear hK1 K1) | ((first | refine hA ?_ | refine hB ?_); clear hA hB A B) | ((first | apply call_a hE | apply call_q hE); exact (hck _); (refine hK1 _ ?_; clear hK1 K1)) | (refine join_x (v := ?_) (fun hg hk9 => ?_) ?_; rotate_left; (focus (try ((try simp only [BN] at hg); simp only [S1, simprocAttr, TTNeO, hitK hlt, nextK (by omega : n ≤ 1000) hlt, flatQ_len, hmax, List.length_map, Nat.mul_one, Nat.zero_add, hg] at hk9 ⊢)); first | exact hk9 | ((first | apply call_a hE | apply call_q hE); exact (hck _); exact hk9)); (refine hK1 _ ?_; clear hK1 K1)) | (((first | (refine ⟨fun hg => hA ?_, fun hg => hB ?_⟩ <;> clear hA hB A B) | refine ⟨fun hg => ?_, fun hg => ?_⟩) <;> (try simp only [BN2] at hg) <;> (try simp only [hg, cond_true, cond_false])) <;> (try (refine hK1 _ ?_; clear hK1 K1)) <;> (try simp only [BN3] at hg))) | (refine awp_seq_k fun K hK => ?_) | ((first | refine awp_region ?_ | refine awp_draw (by kernel_rfl) ?_ | refine awp_block ?_ | refine awp_exit ?_ | refine awp_skip ?_ | refine awp_ret ?_); (try simp only [NB, simprocAttr])))
      all_goals refine ⟨hlt, trivial, ?_⟩
      all_goals simp only [e1, flatQ_app, List.length_append, List.map_append, List.length_cons, List.length_nil, List.map_cons, List.map_nil, Nat.zero_add]
      all_goals refine ⟨rfl, ⟨_, rfl⟩, ?_, ?_⟩
      · simp only [keeps, avlt, avlts, blksLt, frL, upd_get, S1, simprocAttr, List.length_map, Int.natCast_zero, AV.p.injEq, PV.int.injEq, PV.bool.injEq, PV.sl.injEq] <;> (try and_intros) <;> (try assumption) <;> (try trivial) <;> (try omega)
      · simp only [blksLt]; exact ⟨(by have := avlts_ints (h.length + 1) (flatQ (plF rule p j) ++ [rule, (j : Int)]); simpa using this), trivial⟩
  · obtain rfl : j = n := by omega
    repeat' (first | ((first | refine aops_nil ?_ | refine aqops_nil ?_); (try simp only [NB])) | ((repeat ((fail_if_success (refine hK _ ?_)); clear hK K)); refine hK _ ?_; clear hK K) | ((first | refine aops_k fun K1 hK1 => ?_ | refine aqops_k fun K1 hK1 => ?_ | refine awp_cond_k fun A B hA hB => ?_); simp only [S1, simprocAttr, TTNeO, endK]; first | (refine hK1 _ ?_; clear hK1 K1) | ((first | refine hA ?_ | refine hB ?_); clear hA hB A B) | (refine join_x (v := ?_) (fun hg hk9 => ?_) ?_; rotate_left; (focus (try ((try simp only [BN] at hg); simp only [S1, simprocAttr, TTNeO, endK, hg] at hk9 ⊢)); first | exact hk9); (refine hK1 _ ?_; clear hK1 K1)) | (((first | (refine ⟨fun hg => hA ?_, fun hg => hB ?_⟩ <;> clear hA hB A B) | refine ⟨fun hg => ?_, fun hg => ?_⟩) <;> (try simp only [BN2] at hg) <;> (try simp only [hg, cond_true, cond_false])) <;> (try (refine hK1 _ ?_; clear hK1 K1)) <;> (try simp only [BN3] at hg))) | (refine awp_seq_k fun K hK => ?_) | ((first | refine awp_region ?_ | refine awp_draw (by kernel_rfl) ?_ | refine awp_block ?_ | refine awp_exit ?_ | refine awp_skip ?_ | refine awp_ret ?_); (try simp only [NB, simprocAttr])))
    exact ⟨.inr trivial, FinK_tmp (t := 6) rfl (by simp) ⟨rfl, rfl⟩⟩
end Go.Proofs.YtjpphhcimpclpaaDoor.AM
end

section
set_option linter.unusedVariables false
set_option linter.unusedSimpArgs false
set_option maxRecDepth 4000
set_option maxHeartbeats 4000000
namespace Go.Proofs.YtjpphhcimpclpaaDoor.AM
open Go Go.Proofs
set_option linter.defProp false in
def TTNeP := And.intro T2 (And.intro T3 (And.intro T4 (And.intro T22 (And.intro T23 (And.intro T25 (And.intro T40 (And.intro T56 (And.intro T58 (And.intro T60 (And.intro T71 (And.intro T89 (And.intro T100 (And.intro T103 T122)))))))))))))
attribute [local irreducible] awp aops aqops aeops arun
variable {G : Nat → Option (List PV)}

/-- A process whose terms are gone through. -/
structure NetOk (ns : List Nd) (fl : List Fl) : Prop where
  n : ns.length ≤ 100
  f : fl.length ≤ 100
  tn : ∃ m, m ≤ 200 ∧ ∀ k ∈ ns, Tm.Ok m k.term
  tf : ∃ m, m ≤ 200 ∧ ∀ k ∈ fl, Tm.Ok m k.cond

def bad1 (ns : List Nd) (i : Nat) : Bool := match ns[i]? with | some k => !(oneB k.kind k.a k.term) | none => false
def bad2 (ns : List Nd) (fl : List Fl) (i : Nat) : Bool := match fl[i]? with | some f => !(twoB ns fl f) | none => false
def bad3 (ns : List Nd) (fl : List Fl) (i : Nat) : Bool := (!(threeB ns fl i) || (kindAt ns i == 1 && ((i : Int) != firstN ns 1))) || (kindAt ns i == 2 && ((i : Int) != firstN ns 2))
noncomputable def bad4 (ns : List Nd) (fl : List Fl) (i : Nat) : Bool :=
  !((rchL (edgeB false fl) ns.length (firstN ns 1).toNat)[i]?.getD false) || !((rchL (edgeB true fl) ns.length (firstN ns 2).toNat)[i]?.getD false)

theorem all1_calls (ns : List Nd) (fl : List Fl) (ok : NetOk ns fl) (i : Nat) (hi : i < ns.length) (H : Heap) {b g : Nat} (hb : H[b]? = some (some ⟨g, cNet ns fl⟩)) : ACalls Tryd.prog gW 56 [.i i, .ptr b g 0] H (fun r h' => r = .b (bad1 ns i) ∧ h' = H) := by
  obtain ⟨k, hk⟩ : ∃ k, ns[i]? = some k := ⟨_, List.getElem?_eq_getElem hi⟩
  obtain ⟨m, hm, ht⟩ := ok.tn
  have hk' := rowN hk
  have i0 : (0 : Int) ≤ (i : Int) := by omega
  have e : bad1 ns i = !(oneB k.kind k.a k.term) := by unfold bad1; rw [hk]
  rw [e]
  refine acalls_pure (rl := []) mixed Tryd.func56 rfl (rs := [.tmp 3]) rfl Tryd.ntmps56 (by simp) ?_
  repeat' (first | ((first | refine aops_nil ?_ | refine aqops_nil ?_); (try simp only [NB])) | ((repeat ((fail_if_success (refine hK _ ?_)); clear hK K)); refine hK _ ?_; clear hK K) | ((first | refine aops_k fun K1 hK1 => ?_ | refine aqops_k fun K1 hK1 => ?_ | refine awp_cond_k fun A B hA hB => ?_); simp only [S1, simprocAttr, TTNeP, hb, app_get hb, i0, hk', eN, Int.toNat_natCast]; first | (refine hK1 _ ?_; clear hK1 K1) | ((first | refine hA ?_ | refine hB ?_); clear hA hB A B) | ((first | apply call_a E57 | apply call_q E57); exact (right_calls (ht k (List.mem_of_getElem? hk)) _ _ _); (refine hK1 _ ?_; clear hK1 K1)) | (((first | (refine ⟨fun hg => hA ?_, fun hg => hB ?_⟩ <;> clear hA hB A B) | refine ⟨fun hg => ?_, fun hg => ?_⟩) <;> (try simp only [BN2] at hg) <;> (try simp only [hg, cond_true, cond_false])) <;> (try (refine hK1 _ ?_; clear hK1 K1)) <;> (try simp only [BN3] at hg))) | (refine awp_seq_k fun K hK => ?_) | ((first | refine awp_region ?_ | refine awp_draw (by kernel_rfl) ?_ | refine awp_block ?_ | refine awp_exit ?_ | refine awp_skip ?_ | refine awp_ret ?_); (try simp only [NB, simprocAttr])))
  all_goals simp only [EndP, FinP, resA, resL, resA1, lastV, lastA, lastAs, pur, purs, take_app, List.take_length, S1, simprocAttr, TTNeP, Nat.le_add_right, Nat.le_refl]

theorem all2_calls (ns : List Nd) (fl : List Fl) (ok : NetOk ns fl) (i : Nat) (hi : i < fl.length) (H : Heap) {b g : Nat} (hb : H[b]? = some (some ⟨g, cNet ns fl⟩)) : ACalls Tryd.prog gW 58 [.i i, .ptr b g 0] H (fun r h' => r = .b (bad2 ns fl i) ∧ h' = H) := by
  obtain ⟨k, hk⟩ : ∃ k, fl[i]? = some k := ⟨_, List.getElem?_eq_getElem hi⟩
  obtain ⟨m, hm, ht⟩ := ok.tf
  have hk' := rowF hk
  have i0 : (0 : Int) ≤ (i : Int) := by omega
  have e : bad2 ns fl i = !(twoB ns fl k) := by unfold bad2; rw [hk]
  rw [e]
  refine acalls_pure (rl := []) mixed Tryd.func58 rfl (rs := [.tmp 3]) rfl Tryd.ntmps58 (by simp) ?_
  repeat' (first | ((first | refine aops_nil ?_ | refine aqops_nil ?_); (try simp only [NB])) | ((repeat ((fail_if_success (refine hK _ ?_)); clear hK K)); refine hK _ ?_; clear hK K) | ((first | refine aops_k fun K1 hK1 => ?_ | refine aqops_k fun K1 hK1 => ?_ | refine awp_cond_k fun A B hA hB => ?_); simp only [S1, simprocAttr, TTNeP, hb, app_get hb, i0, hk', eF, Int.toNat_natCast]; first | (refine hK1 _ ?_; clear hK1 K1) | ((first | refine hA ?_ | refine hB ?_); clear hA hB A B) | ((first | apply call_a E59 | apply call_q E59); exact (leads_calls ns ok.n fl ok.f k (ht k (List.mem_of_getElem? hk)) _); (refine hK1 _ ?_; clear hK1 K1)) | (((first | (refine ⟨fun hg => hA ?_, fun hg => hB ?_⟩ <;> clear hA hB A B) | refine ⟨fun hg => ?_, fun hg => ?_⟩) <;> (try simp only [BN2] at hg) <;> (try simp only [hg, cond_true, cond_false])) <;> (try (refine hK1 _ ?_; clear hK1 K1)) <;> (try simp only [BN3] at hg))) | (refine awp_seq_k fun K hK => ?_) | ((first | refine awp_region ?_ | refine awp_draw (by kernel_rfl) ?_ | refine awp_block ?_ | refine awp_exit ?_ | refine awp_skip ?_ | refine awp_ret ?_); (try simp only [NB, simprocAttr])))
  all_goals simp only [EndP, FinP, resA, resL, resA1, lastV, lastA, lastAs, pur, purs, take_app, List.take_length, S1, simprocAttr, TTNeP, Nat.le_add_right, Nat.le_refl]

theorem third1_calls (ns : List Nd) (fl : List Fl) (ok : NetOk ns fl) (hd : InN ns.length fl) (i : Nat) (hi : i < ns.length) (H : Heap) {b g b1 g1 b2 g2 : Nat} (hb : H[b]? = some (some ⟨g, cNet ns fl⟩)) (hb1 : H[b1]? = some (some ⟨g1, [.i (firstN ns 1)]⟩)) (hb2 : H[b2]? = some (some ⟨g2, [.i (firstN ns 2)]⟩)) :
    ACalls Tryd.prog G 85 [.i i, .ptr b g 0, .ptr b1 g1 0, .ptr b2 g2 0] H (fun r h' => r = .b (bad3 ns fl i) ∧ h' = H) := by
  obtain ⟨k, hk⟩ : ∃ k, ns[i]? = some k := ⟨_, List.getElem?_eq_getElem hi⟩
  have hk' := rowN hk
  have i0 : (0 : Int) ≤ (i : Int) := by omega
  have e : kindAt ns i = k.kind := by unfold kindAt; rw [Int.toNat_natCast, hk]
  unfold bad3
  rw [e]
  refine acalls_pure (rl := []) mixed Tryd.func85 rfl (rs := [.tmp 5]) rfl Tryd.ntmps85 (by simp) ?_
  repeat' (first | ((first | refine aops_nil ?_ | refine aqops_nil ?_); (try simp only [NB])) | ((repeat ((fail_if_success (refine hK _ ?_)); clear hK K)); refine hK _ ?_; clear hK K) | ((first | refine aops_k fun K1 hK1 => ?_ | refine aqops_k fun K1 hK1 => ?_ | refine awp_cond_k fun A B hA hB => ?_); simp only [S1, simprocAttr, TTNeP, hb, hb1, hb2, i0, hk', eN, Int.toNat_natCast]; first | (refine hK1 _ ?_; clear hK1 K1) | ((first | refine hA ?_ | refine hB ?_); clear hA hB A B) | ((first | apply call_a E86 | apply call_q E86); exact (linked_calls ns ok.n fl ok.f (fun f hf => (hd f hf).2) i i0 (by omega) _); (refine hK1 _ ?_; clear hK1 K1)) | (refine join_x (v := ?_) (fun hg hk9 => ?_) ?_; rotate_left; (focus (try ((try simp only [BN] at hg); simp only [S1, simprocAttr, TTNeP, hb, hb1, hb2, i0, hk', eN, Int.toNat_natCast, hg] at hk9 ⊢)); first | exact hk9 | ((first | apply call_a E86 | apply call_q E86); exact (linked_calls ns ok.n fl ok.f (fun f hf => (hd f hf).2) i i0 (by omega) _); exact hk9)); (refine hK1 _ ?_; clear hK1 K1)) | (((first | (refine ⟨fun hg => hA ?_, fun hg => hB ?_⟩ <;> clear hA hB A B) | refine ⟨fun hg => ?_, fun hg => ?_⟩) <;> (try simp only [BN2] at hg) <;> (try simp only [hg, cond_true, cond_false])) <;> (try (refine hK1 _ ?_; clear hK1 K1)) <;> (try simp only [BN3] at hg))) | (refine awp_seq_k fun K hK => ?_) | ((first | refine awp_region ?_ | refine awp_draw (by kernel_rfl) ?_ | refine awp_block ?_ | refine awp_exit ?_ | refine awp_skip ?_ | refine awp_ret ?_); (try simp only [NB, simprocAttr])))
  all_goals simp only [EndP, FinP, resA, resL, resA1, lastV, lastA, lastAs, pur, purs, take_app, List.take_length, S1, simprocAttr, TTNeP, Nat.le_add_right, Nat.le_refl]

theorem all3_calls (ns : List Nd) (fl : List Fl) (i : Nat) (hi : i < ns.length) (H : Heap) {b1 g1 b2 g2 : Nat} (hb1 : H[b1]? = some (some ⟨g1, [aBl (rchL (edgeB false fl) ns.length (firstN ns 1).toNat)]⟩)) (hb2 : H[b2]? = some (some ⟨g2, [aBl (rchL (edgeB true fl) ns.length (firstN ns 2).toNat)]⟩)) :
    ACalls Tryd.prog G 63 [.i i, .ptr b1 g1 0, .ptr b2 g2 0] H (fun r h' => r = .b (bad4 ns fl i) ∧ h' = H) := by
  have l1 := rchL_len (edgeB false fl) ns.length (firstN ns 1).toNat
  have l2 := rchL_len (edgeB true fl) ns.length (firstN ns 2).toNat
  have i0 : (0 : Int) ≤ (i : Int) := by omega
  unfold bad4
  generalize rchL (edgeB false fl) ns.length (firstN ns 1).toNat = a at *
  generalize rchL (edgeB true fl) ns.length (firstN ns 2).toNat = c at *
  obtain ⟨x, hx⟩ : ∃ x, a[i]? = some x := ⟨_, List.getElem?_eq_getElem (by omega)⟩
  obtain ⟨y, hy⟩ : ∃ x, c[i]? = some x := ⟨_, List.getElem?_eq_getElem (by omega)⟩
  have hx' : (a.map eB)[i]? = some [.bool x] := by simp [hx, eB]
  have hy' : (c.map eB)[i]? = some [.bool y] := by simp [hy, eB]
  rw [hx, hy]
  simp only [Option.getD_some]
  refine acalls_pure (rl := []) mixed Tryd.func63 rfl (rs := [.tmp 4]) rfl Tryd.ntmps63 (by simp) ?_
  repeat' (first | ((first | refine aops_nil ?_ | refine aqops_nil ?_); (try simp only [NB])) | ((repeat ((fail_if_success (refine hK _ ?_)); clear hK K)); refine hK _ ?_; clear hK K) | ((first | refine aops_k fun K1 hK1 => ?_ | refine aqops_k fun K1 hK1 => ?_ | refine awp_cond_k fun A B hA hB => ?_); simp only [S1, simprocAttr, TTNeP, hb1, hb2, i0, hx', hy', Int.toNat_natCast]; first | (refine hK1 _ ?_; clear hK1 K1) | ((first | refine hA ?_ | refine hB ?_); clear hA hB A B) | (refine join_x (v := ?_) (fun hg hk9 => ?_) ?_; rotate_left; (focus (try ((try simp only [BN] at hg); simp only [S1, simprocAttr, TTNeP, hb1, hb2, i0, hx', hy', Int.toNat_natCast, hg] at hk9 ⊢)); first | exact hk9); (refine hK1 _ ?_; clear hK1 K1)) | (((first | (refine ⟨fun hg => hA ?_, fun hg => hB ?_⟩ <;> clear hA hB A B) | refine ⟨fun hg => ?_, fun hg => ?_⟩) <;> (try simp only [BN2] at hg) <;> (try simp only [hg, cond_true, cond_false])) <;> (try (refine hK1 _ ?_; clear hK1 K1)) <;> (try simp only [BN3] at hg))) | (refine awp_seq_k fun K hK => ?_) | ((first | refine awp_region ?_ | refine awp_draw (by kernel_rfl) ?_ | refine awp_block ?_ | refine awp_exit ?_ | refine awp_skip ?_ | refine awp_ret ?_); (try simp only [NB, simprocAttr])))
  all_goals simp only [EndP, FinP, resA, resL, resA1, lastV, lastA, lastAs, pur, purs, take_app, List.take_length, S1, simprocAttr, TTNeP, Nat.le_add_right, Nat.le_refl]
end Go.Proofs.YtjpphhcimpclpaaDoor.AM
end

section
set_option linter.unusedVariables false
set_option linter.unusedSimpArgs false
set_option maxRecDepth 4000
set_option maxHeartbeats 4000000
namespace Go.Proofs.YtjpphhcimpclpaaDoor.AM
open Go Go.Proofs
set_option linter.defProp false in
def TTNeQ := And.intro T2 (And.intro T3 (And.intro T4 (And.intro T22 (And.intro T23 (And.intro T25 (And.intro T40 (And.intro T56 (And.intro T58 (And.intro T60 (And.intro T71 (And.intro T89 (And.intro T100 (And.intro T103 T122)))))))))))))
attribute [local irreducible] awp aops aqops aeops arun arunT
variable {G : Nat → Option (List PV)}

theorem EndP_pairs {P : Program} {h : Heap} {K : AV → Prop} {e : Exit} {s : St} (he : e = .normal ∨ e = .ret) {t b g m : Nat} {l : List (Int × Int)} (hm : m = l.length) (hf : s.fr t = some (.ref b g 0 2 m)) (hb : blkAt s.heap b g = some ((flatQ l).map AV.i)) (hn : h.length ≤ b)
    (ht : s.heap.take h.length = h) (hle : h.length ≤ s.heap.length) (hk : K (aQ l)) : EndP P [.tmp t] h K e s := by
  have key : FinP P [.tmp t] h K s := by
    unfold FinP
    simp only [resA, resL, resA1, hf, lastV, lastA, pur_pairs hm hb hn, Option.map_some]
    exact ⟨ht, hle, hk⟩
  rcases he with rfl | rfl <;> exact key

def noEnds (ns : List Nd) : Bool := decide (firstN ns 1 < 0) || decide (firstN ns 2 < 0)
def thirdN (ns : List Nd) (fl : List Fl) : List (Int × Int) := plF 3 (bad3 ns fl) ns.length ++ (if noEnds ns = true then [(3, (ns.length : Int))] else [])

theorem third_calls (ns : List Nd) (fl : List Fl) (ok : NetOk ns fl) (hd : InN ns.length fl) (h : Heap) : ACalls Tryd.prog G 60 [aNet ns fl] h (fun r h' => r = aQ (thirdN ns fl) ∧ h' = h) := by
  have hpl := places_calls (G := G) (f := 85) E85 (caps := [.ptr h.length 0 0, .ptr (h.length + 1) 1 0, .ptr (h.length + 2) 1 0]) (p := bad3 ns fl) 3 ns.length ok.n (h ++ [some ⟨0, cNet ns fl⟩, some ⟨1, [.i (firstN ns 1)]⟩, some ⟨1, [.i (firstN ns 2)]⟩]) (by simp [avlts, avlt])
    (fun L i hi => third1_calls ns fl ok hd i hi _ (b := h.length) (app_get (by simp [get_app0]) L) (app_get (by simp [get_app]) L) (app_get (by simp [get_app]) L))
  simp only [List.length_append, List.length_cons, List.length_nil, Nat.zero_add, Nat.reduceAdd, List.append_assoc, List.cons_append, List.nil_append] at hpl
  have hle := plF_le 3 (bad3 ns fl) ns.length
  have hn := ok.n
  have hmax : (plF 3 (bad3 ns fl) ns.length).length + 1 ≤ maxCount := by unfold maxCount; omega
  have a2 : h.length + 1 + 1 = h.length + 2 := rfl
  cases hne : noEnds ns with
  | false =>
    have e : thirdN ns fl = plF 3 (bad3 ns fl) ns.length := by unfold thirdN; rw [hne]; simp
    unfold noEnds at hne
    rw [e]
    refine acalls_pure (rl := []) mixed Tryd.func60 rfl (rs := [.tmp 2]) rfl Tryd.ntmps60 (by simp) ?_
    repeat' (first | ((first | refine aops_nil ?_ | refine aqops_nil ?_ | refine arun_nil ?_ | refine arunT_nil ?_); (try simp only [NB])) | ((repeat ((fail_if_success (refine hK _ ?_)); clear hK K)); refine hK _ ?_; clear hK K) | ((first | refine aops_k fun K1 hK1 => ?_ | refine aqops_k fun K1 hK1 => ?_ | refine arun_eff rfl rfl rfl fun K1 hK1 => ?_ | refine awp_cond_k fun A B hA hB => ?_); simp only [S1, simprocAttr, TTNeQ, List.length_map, hne, a2]; first | (refine hK1 _ ?_; clear hK1 K1) | ((first | refine hA ?_ | refine hB ?_); clear hA hB A B) | ((first | apply call_a E35 | apply call_q E35); exact (start_calls ns hn _ _); (refine hK1 _ ?_; clear hK1 K1)) | ((first | apply call_a E62 | apply call_q E62); exact (end_calls ns hn _ _); (refine hK1 _ ?_; clear hK1 K1)) | ((first | apply call_a E55 | apply call_q E55); exact hpl; (refine hK1 _ ?_; clear hK1 K1)) | (refine join_x (v := ?_) (fun hg hk9 => ?_) ?_; rotate_left; (focus (try ((try simp only [BN] at hg); simp only [S1, simprocAttr, TTNeQ, List.length_map, hne, a2, hg] at hk9 ⊢)); first | exact hk9 | ((first | apply call_a E35 | apply call_q E35); exact (start_calls ns hn _ _); exact hk9) | ((first | apply call_a E62 | apply call_q E62); exact (end_calls ns hn _ _); exact hk9) | ((first | apply call_a E55 | apply call_q E55); exact hpl; exact hk9)); (refine hK1 _ ?_; clear hK1 K1)) | (((first | (refine ⟨fun hg => hA ?_, fun hg => hB ?_⟩ <;> clear hA hB A B) | refine ⟨fun hg => ?_, fun hg => ?_⟩) <;> (try simp only [BN2] at hg) <;> (try simp only [hg, cond_true, cond_false])) <;> (try (refine hK1 _ ?_; clear hK1 K1)) <;> (try simp only [BN3] at hg))) | ((first | refine arun_q (v := ?_) rfl rfl rfl rfl (by decide) (fun R1 K1 hK1 => ?_) ?_ | refine arun_f (v := ?_) rfl rfl rfl (by decide) (fun K1 hK1 => ?_) ?_ | refine arunT_f (v := ?_) rfl rfl rfl (by decide) (fun K1 hK1 => ?_) ?_); rotate_left; (focus (simp only [S1, simprocAttr, TTNeQ, List.length_map, hne, a2]; first | (exact hK1 _ _ _) | ((first | apply call_a E35 | apply call_q E35); exact (start_calls ns hn _ _); exact hK1 _ _ _) | ((first | apply call_a E62 | apply call_q E62); exact (end_calls ns hn _ _); exact hK1 _ _ _) | ((first | apply call_a E55 | apply call_q E55); exact hpl; exact hK1 _ _ _)))) | (refine arun_tail rfl rfl rfl ?_) | ((first | refine arun_allocj (z := ?_) 0 rfl rfl rfl rfl (by decide) rfl ?_ ?_ | refine arun_allocj (z := ?_) 1 rfl rfl rfl rfl (by decide) rfl ?_ ?_ | refine arun_allocj (z := ?_) 2 rfl rfl rfl rfl (by decide) rfl ?_ ?_); rotate_left; (focus (simp only [S1, simprocAttr, TTNeQ, List.length_map, hne, a2, zeroB]; rfl))) | (refine awp_seq_k fun K hK => ?_) | (refine awp_drawR [0, 1, 2, 3, 4, 5, 6, 7] 2 (fs := []) rfl (by kernel_rfl) (by kernel_rfl) ?_) | ((first | refine awp_region ?_ | refine awp_draw (by kernel_rfl) ?_ | refine awp_block ?_ | refine awp_exit ?_ | refine awp_skip ?_ | refine awp_ret ?_); (try simp only [NB, simprocAttr])))
    exact EndP_pairs (.inr rfl) rfl rfl (by simp only [blkAt, get_app, List.getElem?_cons_succ, List.getElem?_cons_zero, if_true]) (by omega) (by simp) (by simp) rfl
  | true =>
    have e : thirdN ns fl = plF 3 (bad3 ns fl) ns.length ++ [(3, (ns.length : Int))] := by unfold thirdN; rw [hne]; simp
    unfold noEnds at hne
    rw [e]
    refine acalls_pure (rl := []) mixed Tryd.func60 rfl (rs := [.tmp 2]) rfl Tryd.ntmps60 (by simp) ?_
    repeat' (first | ((first | refine aops_nil ?_ | refine aqops_nil ?_ | refine arun_nil ?_ | refine arunT_nil ?_); (try simp only [NB])) | ((repeat ((fail_if_success (refine hK _ ?_)); clear hK K)); refine hK _ ?_; clear hK K) | ((first | refine aops_k fun K1 hK1 => ?_ | refine aqops_k fun K1 hK1 => ?_ | refine arun_eff rfl rfl rfl fun K1 hK1 => ?_ | refine awp_cond_k fun A B hA hB => ?_); simp only [S1, simprocAttr, TTNeQ, List.length_map, hne, a2, flatQ_len, hmax, Nat.mul_one, Nat.zero_add]; first | (refine hK1 _ ?_; clear hK1 K1) | ((first | refine hA ?_ | refine hB ?_); clear hA hB A B) | ((first | apply call_a E35 | apply call_q E35); exact (start_calls ns hn _ _); (refine hK1 _ ?_; clear hK1 K1)) | ((first | apply call_a E62 | apply call_q E62); exact (end_calls ns hn _ _); (refine hK1 _ ?_; clear hK1 K1)) | ((first | apply call_a E55 | apply call_q E55); exact hpl; (refine hK1 _ ?_; clear hK1 K1)) | (refine join_x (v := ?_) (fun hg hk9 => ?_) ?_; rotate_left; (focus (try ((try simp only [BN] at hg); simp only [S1, simprocAttr, TTNeQ, List.length_map, hne, a2, flatQ_len, hmax, Nat.mul_one, Nat.zero_add, hg] at hk9 ⊢)); first | exact hk9 | ((first | apply call_a E35 | apply call_q E35); exact (start_calls ns hn _ _); exact hk9) | ((first | apply call_a E62 | apply call_q E62); exact (end_calls ns hn _ _); exact hk9) | ((first | apply call_a E55 | apply call_q E55); exact hpl; exact hk9)); (refine hK1 _ ?_; clear hK1 K1)) | (((first | (refine ⟨fun hg => hA ?_, fun hg => hB ?_⟩ <;> clear hA hB A B) | refine ⟨fun hg => ?_, fun hg => ?_⟩) <;> (try simp only [BN2] at hg) <;> (try simp only [hg, cond_true, cond_false])) <;> (try (refine hK1 _ ?_; clear hK1 K1)) <;> (try simp only [BN3] at hg))) | ((first | refine arun_q (v := ?_) rfl rfl rfl rfl (by decide) (fun R1 K1 hK1 => ?_) ?_ | refine arun_f (v := ?_) rfl rfl rfl (by decide) (fun K1 hK1 => ?_) ?_ | refine arunT_f (v := ?_) rfl rfl rfl (by decide) (fun K1 hK1 => ?_) ?_); rotate_left; (focus (simp only [S1, simprocAttr, TTNeQ, List.length_map, hne, a2, flatQ_len, hmax, Nat.mul_one, Nat.zero_add]; first | (exact hK1 _ _ _) | ((first | apply call_a E35 | apply call_q E35); exact (start_calls ns hn _ _); exact hK1 _ _ _) | ((first | apply call_a E62 | apply call_q E62); exact (end_calls ns hn _ _); exact hK1 _ _ _) | ((first | apply call_a E55 | apply call_q E55); exact hpl; exact hK1 _ _ _)))) | (refine arun_tail rfl rfl rfl ?_) | ((first | refine arun_allocj (z := ?_) 0 rfl rfl rfl rfl (by decide) rfl ?_ ?_ | refine arun_allocj (z := ?_) 1 rfl rfl rfl rfl (by decide) rfl ?_ ?_ | refine arun_allocj (z := ?_) 2 rfl rfl rfl rfl (by decide) rfl ?_ ?_); rotate_left; (focus (simp only [S1, simprocAttr, TTNeQ, List.length_map, hne, a2, flatQ_len, hmax, Nat.mul_one, Nat.zero_add, zeroB]; rfl))) | (refine awp_seq_k fun K hK => ?_) | (refine awp_drawR [0, 1, 2, 3, 4, 5, 6, 7] 2 (fs := []) rfl (by kernel_rfl) (by kernel_rfl) ?_) | ((first | refine awp_region ?_ | refine awp_draw (by kernel_rfl) ?_ | refine awp_block ?_ | refine awp_exit ?_ | refine awp_skip ?_ | refine awp_ret ?_); (try simp only [NB, simprocAttr])))
    exact EndP_pairs (.inr rfl) (l := plF 3 (bad3 ns fl) ns.length ++ [(3, (ns.length : Int))]) (by simp) rfl (by simp only [blkAt, get_app, List.getElem?_cons_succ, List.getElem?_cons_zero, if_true, flatQ_app, List.map_append, List.map_cons, List.map_nil]) (by omega) (by simp) (by simp) rfl

theorem inB_of {n : Nat} {i : Int} (h : inB n i = true) : 0 ≤ i ∧ i < (n : Int) := inB_iff.mp h

theorem plF_nil {rule : Int} {p : Nat → Bool} {n : Nat} (h : plF rule p n = []) (i : Nat) (hi : i < n) : p i = false := by
  cases hp : p i with
  | false => rfl
  | true =>
    have : (rule, (i : Int)) ∈ plF rule p n := by
      unfold plF
      exact List.mem_map.mpr ⟨i, List.mem_filter.mpr ⟨List.mem_range.mpr hi, hp⟩, rfl⟩
    rw [h] at this; cases this

theorem bad2_in {ns : List Nd} {fl : List Fl} (h : plF 2 (bad2 ns fl) fl.length = []) : InN ns.length fl := by
  intro f hf
  obtain ⟨i, hi, e⟩ := List.mem_iff_getElem.mp hf
  have := plF_nil h i hi
  unfold bad2 at this
  rw [List.getElem?_eq_getElem hi, e] at this
  simp only [Bool.not_eq_false'] at this
  unfold twoB at this
  simp only [Bool.and_eq_true] at this
  obtain ⟨⟨⟨a, b⟩, _⟩, _⟩ := this
  exact ⟨inB_of a, inB_of b⟩

theorem findG_range {α : Type} (p : α → Bool) : ∀ (l : List α) (i : Nat), findG p l i = -1 ∨ ((i : Int) ≤ findG p l i ∧ findG p l i < (i : Int) + l.length)
  | [], i => .inl rfl
  | k :: r, i => by
    unfold findG
    split
    · right; simp only [List.length_cons]; omega
    · rcases findG_range p r (i + 1) with h | h
      · exact .inl h
      · right; simp only [List.length_cons]; omega

theorem ends_in {ns : List Nd} (h : noEnds ns = false) : (0 ≤ firstN ns 1 ∧ firstN ns 1 < (ns.length : Int)) ∧ 0 ≤ firstN ns 2 ∧ firstN ns 2 < (ns.length : Int) := by
  unfold noEnds at h
  simp only [Bool.or_eq_false_iff, decide_eq_false_iff_not] at h
  have a := findG_range (fun x : Nd => x.kind == 1) ns 0
  have b := findG_range (fun x : Nd => x.kind == 2) ns 0
  unfold firstN at *
  omega

/-- All places at which the first rule that is broken is. -/
noncomputable def allN (ns : List Nd) (fl : List Fl) : List (Int × Int) :=
  if (decide (24 < (ns.length : Int)) || decide (40 < (fl.length : Int))) = true then [(1, 0)]
  else if plF 1 (bad1 ns) ns.length ≠ [] then plF 1 (bad1 ns) ns.length
  else if plF 2 (bad2 ns fl) fl.length ≠ [] then plF 2 (bad2 ns fl) fl.length
  else if thirdN ns fl ≠ [] then thirdN ns fl
  else plF 4 (bad4 ns fl) ns.length
end Go.Proofs.YtjpphhcimpclpaaDoor.AM
end

section
set_option linter.unusedVariables false
set_option linter.unusedSimpArgs false
set_option maxRecDepth 4000


set_option maxHeartbeats 4000000
namespace Go.Proofs.YtjpphhcimpclpaaDoor.AM
open Go Go.Proofs
set_option linter.defProp false in
def TTNeR := And.intro T2 (And.intro T3 (And.intro T4 (And.intro T22 (And.intro T23 (And.intro T25 (And.intro T40 (And.intro T56 (And.intro T58 (And.intro T60 (And.intro T71 (And.intro T89 (And.intro T100 (And.intro T103 T122)))))))))))))
attribute [local irreducible] awp aops aqops aeops arun arunT
variable {G : Nat → Option (List PV)}

theorem len_pos {α : Type} {l : List α} (h : l ≠ []) : decide ((0 : Int) < (l.length : Int)) = true := by
  have : 0 < l.length := List.length_pos_iff.mpr h
  exact decide_eq_true (by omega)
theorem len_zero {α : Type} {l : List α} (h : l = []) : decide ((0 : Int) < (l.length : Int)) = false := by subst h; rfl

theorem All_calls (ns : List Nd) (fl : List Fl) (ok : NetOk ns fl) (h : Heap) : ACalls Tryd.prog gW 36 [aNet ns fl] h (fun r h' => r = aQ (allN ns fl) ∧ h' = h) := by
  have a3 : h.length + 3 + 1 = h.length + 4 := rfl
  have hn := ok.n
  have hl := ok.f
  have p1 := places_calls (G := gW) (f := 56) E56 (caps := [.ptr h.length 0 0]) (p := bad1 ns) 1 ns.length ok.n (h ++ [some ⟨0, cNet ns fl⟩]) (by simp [avlts, avlt])
    (fun L i hi => all1_calls ns fl ok i hi _ (b := h.length) (app_get (by simp [get_app0]) L))
  have p2 := fun b1 : Option Blk => places_calls (G := gW) (f := 58) E58 (caps := [.ptr h.length 0 0]) (p := bad2 ns fl) 2 fl.length ok.f (h ++ [some ⟨0, cNet ns fl⟩, b1]) (by simp [avlts, avlt])
    (fun L i hi => all2_calls ns fl ok i hi _ (b := h.length) (app_get (by simp [get_app0]) L))
  have p4 := fun b1 b2 : Option Blk => places_calls (G := gW) (f := 63) E63 (caps := [.ptr (h.length + 3) 1 0, .ptr (h.length + 4) 1 0]) (p := bad4 ns fl) 4 ns.length ok.n (h ++ [some ⟨0, cNet ns fl⟩, b1, b2, some ⟨1, [aBl (rchL (edgeB false fl) ns.length (firstN ns 1).toNat)]⟩, some ⟨1, [aBl (rchL (edgeB true fl) ns.length (firstN ns 2).toNat)]⟩]) (by simp [avlts, avlt])
    (fun L i hi => all3_calls ns fl i hi _ (app_get (by simp [get_app]) L) (app_get (by simp [get_app]) L))
  simp only [List.length_append, List.length_cons, List.length_nil, Nat.zero_add, Nat.reduceAdd, List.append_assoc, List.cons_append, List.nil_append] at p1 p2 p4
  by_cases hsz : (decide (24 < (ns.length : Int)) || decide (40 < (fl.length : Int))) = true
  · have e : allN ns fl = [(1, 0)] := by unfold allN; rw [if_pos hsz]
    rw [e]
    refine acalls_pure (rl := []) mixed Tryd.func36 rfl (rs := [.tmp 2]) rfl Tryd.ntmps36 (by simp) ?_
    repeat' (first | ((first | refine aops_nil ?_ | refine aqops_nil ?_); (try simp only [NB])) | ((repeat ((fail_if_success (refine hK _ ?_)); clear hK K)); refine hK _ ?_; clear hK K) | ((first | refine aops_k fun K1 hK1 => ?_ | refine aqops_k fun K1 hK1 => ?_ | refine awp_cond_k fun A B hA hB => ?_); simp only [S1, simprocAttr, TTNeR, List.length_map, hsz]; first | (refine hK1 _ ?_; clear hK1 K1) | ((first | refine hA ?_ | refine hB ?_); clear hA hB A B) | (refine join_x (v := ?_) (fun hg hk9 => ?_) ?_; rotate_left; (focus (try ((try simp only [BN] at hg); simp only [S1, simprocAttr, TTNeR, List.length_map, hsz, hg] at hk9 ⊢)); first | exact hk9); (refine hK1 _ ?_; clear hK1 K1)) | (((first | (refine ⟨fun hg => hA ?_, fun hg => hB ?_⟩ <;> clear hA hB A B) | refine ⟨fun hg => ?_, fun hg => ?_⟩) <;> (try simp only [BN2] at hg) <;> (try simp only [hg, cond_true, cond_false])) <;> (try (refine hK1 _ ?_; clear hK1 K1)) <;> (try simp only [BN3] at hg))) | (refine awp_seq_k fun K hK => ?_) | ((first | refine awp_region ?_ | refine awp_draw (by kernel_rfl) ?_ | refine awp_block ?_ | refine awp_exit ?_ | refine awp_skip ?_ | refine awp_ret ?_); (try simp only [NB, simprocAttr])))
    all_goals simp only [EndP, FinP, resA, resL, resA1, lastV, lastA, lastAs, pur, purs, take_app, List.take_length, S1, simprocAttr, TTNeR, Nat.le_add_right, Nat.le_refl]
    all_goals rfl
  rw [Bool.not_eq_true] at hsz
  by_cases h1 : plF 1 (bad1 ns) ns.length = []
  case neg =>
    have e : allN ns fl = plF 1 (bad1 ns) ns.length := by unfold allN; rw [if_neg (by rw [hsz]; decide), if_pos h1]
    rw [e]
    have c1 := len_pos h1
    refine acalls_pure (rl := []) mixed Tryd.func36 rfl (rs := [.tmp 2]) rfl Tryd.ntmps36 (by simp) ?_
    repeat' (first | ((first | refine aops_nil ?_ | refine aqops_nil ?_); (try simp only [NB])) | ((repeat ((fail_if_success (refine hK _ ?_)); clear hK K)); refine hK _ ?_; clear hK K) | ((first | refine aops_k fun K1 hK1 => ?_ | refine aqops_k fun K1 hK1 => ?_ | refine awp_cond_k fun A B hA hB => ?_); simp only [S1, simprocAttr, TTNeR, List.length_map, hsz, c1]; first | (refine hK1 _ ?_; clear hK1 K1) | ((first | refine hA ?_ | refine hB ?_); clear hA hB A B) | ((first | apply call_a E55 | apply call_q E55); exact p1; (refine hK1 _ ?_; clear hK1 K1)) | (refine join_x (v := ?_) (fun hg hk9 => ?_) ?_; rotate_left; (focus (try ((try simp only [BN] at hg); simp only [S1, simprocAttr, TTNeR, List.length_map, hsz, c1, hg] at hk9 ⊢)); first | exact hk9 | ((first | apply call_a E55 | apply call_q E55); exact p1; exact hk9)); (refine hK1 _ ?_; clear hK1 K1)) | (((first | (refine ⟨fun hg => hA ?_, fun hg => hB ?_⟩ <;> clear hA hB A B) | refine ⟨fun hg => ?_, fun hg => ?_⟩) <;> (try simp only [BN2] at hg) <;> (try simp only [hg, cond_true, cond_false])) <;> (try (refine hK1 _ ?_; clear hK1 K1)) <;> (try simp only [BN3] at hg))) | (refine awp_seq_k fun K hK => ?_) | ((first | refine awp_region ?_ | refine awp_draw (by kernel_rfl) ?_ | refine awp_block ?_ | refine awp_exit ?_ | refine awp_skip ?_ | refine awp_ret ?_); (try simp only [NB, simprocAttr])))
    exact EndP_pairs (.inr rfl) rfl rfl (by simp only [blkAt, get_app, List.getElem?_cons_succ, List.getElem?_cons_zero, if_true]) (by omega) (by simp) (by simp) rfl
  have c1 := len_zero h1
  by_cases h2 : plF 2 (bad2 ns fl) fl.length = []
  case neg =>
    have e : allN ns fl = plF 2 (bad2 ns fl) fl.length := by unfold allN; rw [if_neg (by rw [hsz]; decide), if_neg (by simpa using h1), if_pos h2]
    rw [e]
    have c2 := len_pos h2
    refine acalls_pure (rl := []) mixed Tryd.func36 rfl (rs := [.tmp 2]) rfl Tryd.ntmps36 (by simp) ?_
    repeat' (first | ((first | refine aops_nil ?_ | refine aqops_nil ?_); (try simp only [NB])) | ((repeat ((fail_if_success (refine hK _ ?_)); clear hK K)); refine hK _ ?_; clear hK K) | ((first | refine aops_k fun K1 hK1 => ?_ | refine aqops_k fun K1 hK1 => ?_ | refine awp_cond_k fun A B hA hB => ?_); simp only [S1, simprocAttr, TTNeR, List.length_map, hsz, c1, c2]; first | (refine hK1 _ ?_; clear hK1 K1) | ((first | refine hA ?_ | refine hB ?_); clear hA hB A B) | ((first | apply call_a E55 | apply call_q E55); exact p1; (refine hK1 _ ?_; clear hK1 K1)) | ((first | apply call_a E55 | apply call_q E55); exact (p2 _); (refine hK1 _ ?_; clear hK1 K1)) | (refine join_x (v := ?_) (fun hg hk9 => ?_) ?_; rotate_left; (focus (try ((try simp only [BN] at hg); simp only [S1, simprocAttr, TTNeR, List.length_map, hsz, c1, c2, hg] at hk9 ⊢)); first | exact hk9 | ((first | apply call_a E55 | apply call_q E55); exact p1; exact hk9) | ((first | apply call_a E55 | apply call_q E55); exact (p2 _); exact hk9)); (refine hK1 _ ?_; clear hK1 K1)) | (((first | (refine ⟨fun hg => hA ?_, fun hg => hB ?_⟩ <;> clear hA hB A B) | refine ⟨fun hg => ?_, fun hg => ?_⟩) <;> (try simp only [BN2] at hg) <;> (try simp only [hg, cond_true, cond_false])) <;> (try (refine hK1 _ ?_; clear hK1 K1)) <;> (try simp only [BN3] at hg))) | (refine awp_seq_k fun K hK => ?_) | ((first | refine awp_region ?_ | refine awp_draw (by kernel_rfl) ?_ | refine awp_block ?_ | refine awp_exit ?_ | refine awp_skip ?_ | refine awp_ret ?_); (try simp only [NB, simprocAttr])))
    exact EndP_pairs (.inr rfl) rfl rfl (by simp only [blkAt, get_app, List.getElem?_cons_succ, List.getElem?_cons_zero, if_true]) (by omega) (by simp) (by simp) rfl
  have c2 := len_zero h2
  have hd := bad2_in h2
  by_cases h3 : thirdN ns fl = []
  case neg =>
    have e : allN ns fl = thirdN ns fl := by unfold allN; rw [if_neg (by rw [hsz]; decide), if_neg (by simpa using h1), if_neg (by simpa using h2), if_pos h3]
    rw [e]
    have c3 := len_pos h3
    refine acalls_pure (rl := []) mixed Tryd.func36 rfl (rs := [.tmp 2]) rfl Tryd.ntmps36 (by simp) ?_
    repeat' (first | ((first | refine aops_nil ?_ | refine aqops_nil ?_); (try simp only [NB])) | ((repeat ((fail_if_success (refine hK _ ?_)); clear hK K)); refine hK _ ?_; clear hK K) | ((first | refine aops_k fun K1 hK1 => ?_ | refine aqops_k fun K1 hK1 => ?_ | refine awp_cond_k fun A B hA hB => ?_); simp only [S1, simprocAttr, TTNeR, List.length_map, hsz, c1, c2, c3]; first | (refine hK1 _ ?_; clear hK1 K1) | ((first | refine hA ?_ | refine hB ?_); clear hA hB A B) | ((first | apply call_a E55 | apply call_q E55); exact p1; (refine hK1 _ ?_; clear hK1 K1)) | ((first | apply call_a E55 | apply call_q E55); exact (p2 _); (refine hK1 _ ?_; clear hK1 K1)) | ((first | apply call_a E60 | apply call_q E60); exact (third_calls ns fl ok hd _); (refine hK1 _ ?_; clear hK1 K1)) | (refine join_x (v := ?_) (fun hg hk9 => ?_) ?_; rotate_left; (focus (try ((try simp only [BN] at hg); simp only [S1, simprocAttr, TTNeR, List.length_map, hsz, c1, c2, c3, hg] at hk9 ⊢)); first | exact hk9 | ((first | apply call_a E55 | apply call_q E55); exact p1; exact hk9) | ((first | apply call_a E55 | apply call_q E55); exact (p2 _); exact hk9) | ((first | apply call_a E60 | apply call_q E60); exact (third_calls ns fl ok hd _); exact hk9)); (refine hK1 _ ?_; clear hK1 K1)) | (((first | (refine ⟨fun hg => hA ?_, fun hg => hB ?_⟩ <;> clear hA hB A B) | refine ⟨fun hg => ?_, fun hg => ?_⟩) <;> (try simp only [BN2] at hg) <;> (try simp only [hg, cond_true, cond_false])) <;> (try (refine hK1 _ ?_; clear hK1 K1)) <;> (try simp only [BN3] at hg))) | (refine awp_seq_k fun K hK => ?_) | ((first | refine awp_region ?_ | refine awp_draw (by kernel_rfl) ?_ | refine awp_block ?_ | refine awp_exit ?_ | refine awp_skip ?_ | refine awp_ret ?_); (try simp only [NB, simprocAttr])))
    all_goals simp only [EndP, FinP, resA, resL, resA1, lastV, lastA, lastAs, pur, purs, take_app, List.take_length, S1, simprocAttr, TTNeR, Nat.le_add_right, Nat.le_refl]
  have c3 := len_zero h3
  have e : allN ns fl = plF 4 (bad4 ns fl) ns.length := by unfold allN; rw [if_neg (by rw [hsz]; decide), if_neg (by simpa using h1), if_neg (by simpa using h2), if_neg (by simpa using h3)]
  rw [e]
  have hne : noEnds ns = false := by
    unfold thirdN at h3
    cases hx : noEnds ns with
    | false => rfl
    | true => rw [hx] at h3; simp at h3
  obtain ⟨⟨s0, s1⟩, e0, e1⟩ := ends_in hne
  refine acalls_pure (rl := []) mixed Tryd.func36 rfl (rs := [.tmp 2]) rfl Tryd.ntmps36 (by simp) ?_
  repeat' (first | ((first | refine aops_nil ?_ | refine aqops_nil ?_ | refine arun_nil ?_ | refine arunT_nil ?_); (try simp only [NB])) | ((repeat ((fail_if_success (refine hK _ ?_)); clear hK K)); refine hK _ ?_; clear hK K) | ((first | refine aops_k fun K1 hK1 => ?_ | refine aqops_k fun K1 hK1 => ?_ | refine arun_eff rfl rfl rfl fun K1 hK1 => ?_ | refine awp_cond_k fun A B hA hB => ?_); simp only [S1, simprocAttr, TTNeR, List.length_map, hsz, c1, c2, c3, a3]; first | (refine hK1 _ ?_; clear hK1 K1) | ((first | refine hA ?_ | refine hB ?_); clear hA hB A B) | ((first | apply call_a E55 | apply call_q E55); exact p1; (refine hK1 _ ?_; clear hK1 K1)) | ((first | apply call_a E55 | apply call_q E55); exact (p2 _); (refine hK1 _ ?_; clear hK1 K1)) | ((first | apply call_a E55 | apply call_q E55); exact (p4 _ _); (refine hK1 _ ?_; clear hK1 K1)) | ((first | apply call_a E60 | apply call_q E60); exact (third_calls ns fl ok hd _); (refine hK1 _ ?_; clear hK1 K1)) | ((first | apply call_a E35 | apply call_q E35); exact (start_calls ns hn _ _); (refine hK1 _ ?_; clear hK1 K1)) | ((first | apply call_a E62 | apply call_q E62); exact (end_calls ns hn _ _); (refine hK1 _ ?_; clear hK1 K1)) | ((first | apply call_a E61 | apply call_q E61); exact (met_calls ns hn fl hl hd _ s0 s1 false _); (refine hK1 _ ?_; clear hK1 K1)) | ((first | apply call_a E61 | apply call_q E61); exact (met_calls ns hn fl hl hd _ e0 e1 true _); (refine hK1 _ ?_; clear hK1 K1)) | (refine join_x (v := ?_) (fun hg hk9 => ?_) ?_; rotate_left; (focus (try ((try simp only [BN] at hg); simp only [S1, simprocAttr, TTNeR, List.length_map, hsz, c1, c2, c3, a3, hg] at hk9 ⊢)); first | exact hk9 | ((first | apply call_a E55 | apply call_q E55); exact p1; exact hk9) | ((first | apply call_a E55 | apply call_q E55); exact (p2 _); exact hk9) | ((first | apply call_a E55 | apply call_q E55); exact (p4 _ _); exact hk9) | ((first | apply call_a E60 | apply call_q E60); exact (third_calls ns fl ok hd _); exact hk9) | ((first | apply call_a E35 | apply call_q E35); exact (start_calls ns hn _ _); exact hk9) | ((first | apply call_a E62 | apply call_q E62); exact (end_calls ns hn _ _); exact hk9) | ((first | apply call_a E61 | apply call_q E61); exact (met_calls ns hn fl hl hd _ s0 s1 false _); exact hk9) | ((first | apply call_a E61 | apply call_q E61); exact (met_calls ns hn fl hl hd _ e0 e1 true _); exact hk9)); (refine hK1 _ ?_; clear hK1 K1)) | (((first | (refine ⟨fun hg => hA ?_, fun hg => hB ?_⟩ <;> clear hA hB A B) | refine ⟨fun hg => ?_, fun hg => ?_⟩) <;> (try simp only [BN2] at hg) <;> (try simp only [hg, cond_true, cond_false])) <;> (try (refine hK1 _ ?_; clear hK1 K1)) <;> (try simp only [BN3] at hg))) | ((first | refine arun_q (v := ?_) rfl rfl rfl rfl (by decide) (fun R1 K1 hK1 => ?_) ?_ | refine arun_f (v := ?_) rfl rfl rfl (by decide) (fun K1 hK1 => ?_) ?_ | refine arunT_f (v := ?_) rfl rfl rfl (by decide) (fun K1 hK1 => ?_) ?_); rotate_left; (focus (simp only [S1, simprocAttr, TTNeR, List.length_map, hsz, c1, c2, c3, a3]; first | (exact hK1 _ _ _) | ((first | apply call_a E55 | apply call_q E55); exact p1; exact hK1 _ _ _) | ((first | apply call_a E55 | apply call_q E55); exact (p2 _); exact hK1 _ _ _) | ((first | apply call_a E55 | apply call_q E55); exact (p4 _ _); exact hK1 _ _ _) | ((first | apply call_a E60 | apply call_q E60); exact (third_calls ns fl ok hd _); exact hK1 _ _ _) | ((first | apply call_a E35 | apply call_q E35); exact (start_calls ns hn _ _); exact hK1 _ _ _) | ((first | apply call_a E62 | apply call_q E62); exact (end_calls ns hn _ _); exact hK1 _ _ _) | ((first | apply call_a E61 | apply call_q E61); exact (met_calls ns hn fl hl hd _ s0 s1 false _); exact hK1 _ _ _) | ((first | apply call_a E61 | apply call_q E61); exact (met_calls ns hn fl hl hd _ e0 e1 true _); exact hK1 _ _ _)))) | (refine arun_tail rfl rfl rfl ?_) | ((first | refine arun_allocj (z := ?_) 0 rfl rfl rfl rfl (by decide) rfl ?_ ?_ | refine arun_allocj (z := ?_) 1 rfl rfl rfl rfl (by decide) rfl ?_ ?_ | refine arun_allocj (z := ?_) 2 rfl rfl rfl rfl (by decide) rfl ?_ ?_); rotate_left; (focus (simp only [S1, simprocAttr, TTNeR, List.length_map, hsz, c1, c2, c3, a3, zeroB]; rfl))) | (refine awp_seq_k fun K hK => ?_) | (refine awp_drawR [0, 1, 2, 3, 4, 5, 6, 7, 8, 9, 10, 11] 2 (fs := []) rfl (by kernel_rfl) (by kernel_rfl) ?_) | ((first | refine awp_region ?_ | refine awp_draw (by kernel_rfl) ?_ | refine awp_block ?_ | refine awp_exit ?_ | refine awp_skip ?_ | refine awp_ret ?_); (try simp only [NB, simprocAttr])))
  exact EndP_pairs (.inr rfl) rfl rfl (by simp only [blkAt, get_app, List.getElem?_cons_succ, List.getElem?_cons_zero, if_true]) (by omega) (by simp) (by simp) rfl
end Go.Proofs.YtjpphhcimpclpaaDoor.AM
end

section
set_option linter.unusedVariables false
set_option linter.unusedSimpArgs false
set_option maxRecDepth 4000
set_option maxHeartbeats 4000000
namespace Go.Proofs.YtjpphhcimpclpaaDoor.AM
open Go Go.Proofs
set_option linter.defProp false in
def TTNeS := And.intro T2 (And.intro T3 (And.intro T4 (And.intro T22 (And.intro T23 (And.intro T25 (And.intro T40 (And.intro T56 (And.intro T58 (And.intro T60 (And.intro T71 (And.intro T100 (And.intro T103 T122))))))))))))
attribute [local irreducible] awp aops aqops aeops arun arunT
variable {G : Nat → Option (List PV)}

/-- The rule that is broken, and where; 0: none is. -/
noncomputable def netN (ns : List Nd) (fl : List Fl) : Int × Int := (allN ns fl).head?.getD (0, 0)

theorem ne_of_head {α : Type} {l : List α} {x : α} (h : l.head? = some x) : l ≠ [] := by rintro rfl; cases h

theorem Check_calls (ns : List Nd) (fl : List Fl) (ok : NetOk ns fl) (h : Heap) : ACalls Tryd.prog gW 21 [aNet ns fl] h (fun r h' => r = .tup [.i (netN ns fl).1, .i (netN ns fl).2] ∧ h' = h) := by
  have ha := fun h => All_calls ns fl ok h
  unfold netN
  generalize allN ns fl = l at *
  cases hx : l.head? with
  | none =>
    have e : l = [] := by cases l with
      | nil => rfl
      | cons => cases hx
    have c : decide ((0 : Int) < 0) = false := rfl
    subst e
    refine acalls_pure (rl := []) mixed Tryd.func21 rfl (rs := [.tmp 2, .tmp 3]) rfl Tryd.ntmps21 (by simp) ?_
    repeat' (first | ((first | refine aops_nil ?_ | refine aqops_nil ?_); (try simp only [NB])) | ((repeat ((fail_if_success (refine hK _ ?_)); clear hK K)); refine hK _ ?_; clear hK K) | ((first | refine aops_k fun K1 hK1 => ?_ | refine aqops_k fun K1 hK1 => ?_ | refine awp_cond_k fun A B hA hB => ?_); simp only [S1, simprocAttr, TTNeS, List.length_map, List.length_nil, c]; first | (refine hK1 _ ?_; clear hK1 K1) | ((first | refine hA ?_ | refine hB ?_); clear hA hB A B) | ((first | apply call_a E36 | apply call_q E36); exact (ha _); (refine hK1 _ ?_; clear hK1 K1)) | (((first | (refine ⟨fun hg => hA ?_, fun hg => hB ?_⟩ <;> clear hA hB A B) | refine ⟨fun hg => ?_, fun hg => ?_⟩) <;> (try simp only [BN2] at hg) <;> (try simp only [hg, cond_true, cond_false])) <;> (try (refine hK1 _ ?_; clear hK1 K1)) <;> (try simp only [BN3] at hg))) | (refine awp_seq_k fun K hK => ?_) | ((first | refine awp_region ?_ | refine awp_draw (by kernel_rfl) ?_ | refine awp_block ?_ | refine awp_exit ?_ | refine awp_skip ?_ | refine awp_ret ?_); (try simp only [NB, simprocAttr])))
    all_goals simp only [EndP, FinP, resA, resL, resA1, lastV, lastA, lastAs, pur, purs, take_app, List.take_length, S1, simprocAttr, TTNeS, Nat.le_add_right, Nat.le_refl]
    all_goals rfl
  | some x =>
    have c := len_pos (ne_of_head hx)
    have c0 : (0 : Int) ≤ 0 := Int.le_refl 0
    have hr : (l.map eQ)[0]? = some [.int .i64 x.1, .int .i64 x.2] := by rw [← List.head?_eq_getElem?, List.head?_map, hx]; rfl
    refine acalls_pure (rl := []) mixed Tryd.func21 rfl (rs := [.tmp 2, .tmp 3]) rfl Tryd.ntmps21 (by simp) ?_
    repeat' (first | ((first | refine aops_nil ?_ | refine aqops_nil ?_); (try simp only [NB])) | ((repeat ((fail_if_success (refine hK _ ?_)); clear hK K)); refine hK _ ?_; clear hK K) | ((first | refine aops_k fun K1 hK1 => ?_ | refine aqops_k fun K1 hK1 => ?_ | refine awp_cond_k fun A B hA hB => ?_); simp only [S1, simprocAttr, TTNeS, List.length_map, c, c0, hr]; first | (refine hK1 _ ?_; clear hK1 K1) | ((first | refine hA ?_ | refine hB ?_); clear hA hB A B) | ((first | apply call_a E36 | apply call_q E36); exact (ha _); (refine hK1 _ ?_; clear hK1 K1)) | (((first | (refine ⟨fun hg => hA ?_, fun hg => hB ?_⟩ <;> clear hA hB A B) | refine ⟨fun hg => ?_, fun hg => ?_⟩) <;> (try simp only [BN2] at hg) <;> (try simp only [hg, cond_true, cond_false])) <;> (try (refine hK1 _ ?_; clear hK1 K1)) <;> (try simp only [BN3] at hg))) | (refine awp_seq_k fun K hK => ?_) | ((first | refine awp_region ?_ | refine awp_draw (by kernel_rfl) ?_ | refine awp_block ?_ | refine awp_exit ?_ | refine awp_skip ?_ | refine awp_ret ?_); (try simp only [NB, simprocAttr])))
    all_goals simp only [EndP, FinP, resA, resL, resA1, lastV, lastA, lastAs, pur, purs, take_app, List.take_length, S1, simprocAttr, TTNeS, Nat.le_add_right, Nat.le_refl]
    all_goals rfl

theorem plF_none {rule : Int} {p : Nat → Bool} {n : Nat} (h1 : ∀ i, i < n → p i = false) : plF rule p n = [] := by
  unfold plF
  rw [List.filter_eq_nil_iff.mpr (fun i hi => by rw [h1 i (List.mem_range.mp hi)]; decide)]
  rfl
end Go.Proofs.YtjpphhcimpclpaaDoor.AM
end

section
set_option linter.unusedVariables false
set_option linter.unusedSimpArgs false
set_option maxRecDepth 4000
namespace Go.Proofs.YtjpphhcimpclpaaDoor.AM
open Go Go.Proofs

/-! ### Numbers as cells. -/
theorem dropI {S : List Int} {k : Nat} {x : Int} (h : S[k]? = some x) : (S.map AV.i).drop k = .p (.int .i64 x) :: (S.drop (k + 1)).map AV.i := by
  obtain ⟨hk, e⟩ := List.getElem?_eq_some_iff.mp h
  rw [← List.map_drop, List.drop_eq_getElem_cons hk, e]; rfl
theorem takeA_arr (n e sz by' : Nat) (z : Option (List PV)) (cells : List AV) : takeA ⟨.array n e, sz, by', z⟩ cells = if sz ≤ cells.length then some (.agg (cells.take sz)) else none := by unfold takeA; rfl
theorem takeA_st (fs : List (Nat × Nat × Nat)) (sz by' : Nat) (z : Option (List PV)) (cells : List AV) : takeA ⟨.struct fs, sz, by', z⟩ cells = if sz ≤ cells.length then some (.agg (cells.take sz)) else none := by unfold takeA; rfl
theorem setI_c (S : List Int) (k : Nat) (v : Int) : (S.map AV.i).set k (.p (.int .i64 v)) = (S.set k v).map AV.i := by
  rw [List.map_set]
theorem avlts_is (m : Nat) (S : List Int) : avlts m (S.map AV.i) := by
  induction S with
  | nil => trivial
  | cons x r ih => exact ⟨trivial, ih⟩
theorem all_scalar (S : List Int) : (S.map AV.i).all AV.scalar = true := by
  induction S with
  | nil => rfl
  | cons x r ih => simp only [List.map_cons, List.all_cons, ih]; rfl
theorem ne_is {S : List Int} {n : Nat} (h : S.length = n + 1) : (S.map AV.i).isEmpty = false := by
  cases S with
  | nil => cases h
  | cons => rfl
/-! ### Steps. -/
structure Sp where
  node : Int
  arg : Int
  lk : Int
  ln : Int
  la : Int
  to : List Int

/-- A state: 40 tokens, 4 variables, 4 queues, a mode. -/
abbrev aS (S : List Int) : AV := .agg (S.map AV.i)
def cSp (x : Sp) : List Int := [x.node, x.arg, x.lk, x.ln, x.la] ++ x.to
def eSp (x : Sp) : List PV := (cSp x).map (PV.int .i64)
/-- The cells of steps. -/
def cSps (l : List Sp) : List AV := (l.flatMap cSp).map AV.i
theorem cSp_len {x : Sp} (h : x.to.length = 49) : (cSp x).length = 54 := by simp [cSp, h]
theorem cSps_len : ∀ {l : List Sp}, (∀ x ∈ l, x.to.length = 49) → (cSps l).length = l.length * 54
  | [], _ => rfl
  | x :: r, h => by
    have := cSps_len (l := r) fun y hy => h y (by simp [hy])
    unfold cSps at this ⊢
    rw [List.length_map] at this ⊢
    rw [List.flatMap_cons, List.length_append, this, cSp_len (h x (by simp)), List.length_cons]; omega
theorem cSps_app (l : List Sp) (x : Sp) : cSps (l ++ [x]) = cSps l ++ (cSp x).map AV.i := by
  unfold cSps; rw [List.flatMap_append, List.map_append]; simp

/-- A block with a process, a state and a list of steps; the block of the steps. -/
def gmC (ns : List Nd) (fl : List Fl) (S : List Int) (lb n : Nat) : List AV := .p (.sl (ns.map eN)) :: .p (.sl (fl.map eF)) :: (S.map AV.i ++ [.ref lb n 0 54 n])
def gmB (ns : List Nd) (fl : List Fl) (S : List Int) (lb : Nat) (l : List Sp) : Option Blk := some ⟨0, gmC ns fl S lb l.length⟩

section
variable {ns : List Nd} {fl : List Fl} {S : List Int} {lb n m : Nat}
theorem gmC_len (hS : S.length = 49) : (gmC ns fl S lb n).length = 52 := by simp [gmC, hS]
theorem gmC_1 : (gmC ns fl S lb n).drop 1 = .p (.sl (fl.map eF)) :: (S.map AV.i ++ [.ref lb n 0 54 n]) := rfl
theorem gmC_net : (gmC ns fl S lb n).take 2 = [.p (.sl (ns.map eN)), .p (.sl (fl.map eF))] := rfl
theorem gmC_S (k : Nat) (hk : k ≤ S.length) : (gmC ns fl S lb n).drop (2 + k) = (S.drop k).map AV.i ++ [.ref lb n 0 54 n] := by
  unfold gmC
  rw [show 2 + k = k + 1 + 1 by omega, List.drop_succ_cons, List.drop_succ_cons, List.drop_append_of_le_length (by simpa using hk), List.map_drop]
theorem gmC_at {k : Nat} {x : Int} (h : S[k]? = some x) : (gmC ns fl S lb n).drop (2 + k) = .p (.int .i64 x) :: ((S.drop (k + 1)).map AV.i ++ [.ref lb n 0 54 n]) := by
  have hk := (List.getElem?_eq_some_iff.mp h).1
  rw [gmC_S k (by omega), List.map_drop, dropI h]; rfl
theorem gmC_ref (hS : S.length = 49) : (gmC ns fl S lb n).drop 51 = [.ref lb n 0 54 n] := by
  rw [show 51 = 2 + 49 by rfl, gmC_S 49 (by omega), List.drop_of_length_le (by omega)]; rfl
theorem gmC_take (k c : Nat) (hk : k + c ≤ S.length) : ((gmC ns fl S lb n).drop (2 + k)).take c = ((S.drop k).take c).map AV.i := by
  rw [gmC_S k (by omega), List.take_append_of_le_length (by rw [List.length_map, List.length_drop]; omega), List.map_take]
theorem gmC_set (hS : S.length = 49) : (gmC ns fl S lb n).set 51 (.ref lb m 0 54 m) = gmC ns fl S lb m := by
  unfold gmC
  rw [show (51 : Nat) = 49 + 1 + 1 by rfl, List.set_cons_succ, List.set_cons_succ, List.set_append_right _ _ (by simp [hS])]
  simp [hS]
end
def spB (l : List Sp) : Option Blk := some ⟨l.length, cSps l⟩

/-- A heap in which so many steps stand. -/
def putG (h : Heap) (b lb : Nat) (ns : List Nd) (fl : List Fl) (S : List Int) (l : List Sp) : Heap := (h.set b (gmB ns fl S lb l)).set lb (spB l)

section
variable {h : Heap} {b lb : Nat} {ns : List Nd} {fl : List Fl} {S : List Int} {l l' : List Sp}
theorem pg_len : (putG h b lb ns fl S l).length = h.length := by simp [putG]
theorem pg_b (hb : b < h.length) (hne : b ≠ lb) (L : Heap) : (putG h b lb ns fl S l ++ L)[b]? = some (gmB ns fl S lb l) := by
  rw [List.getElem?_append_left (by rw [pg_len]; exact hb)]
  unfold putG
  rw [List.getElem?_set_ne (fun e => hne e.symm), List.getElem?_set]; simp [hb]
theorem pg_lb (hl : lb < h.length) (L : Heap) : (putG h b lb ns fl S l ++ L)[lb]? = some (spB l) := by
  rw [List.getElem?_append_left (by rw [pg_len]; exact hl)]
  unfold putG
  rw [List.getElem?_set]; simp [hl]
theorem pg_b0 (hb : b < h.length) (hne : b ≠ lb) : (putG h b lb ns fl S l)[b]? = some (gmB ns fl S lb l) := by have := pg_b (ns := ns) (fl := fl) (S := S) (l := l) hb hne []; rwa [List.append_nil] at this
theorem pg_lb0 (hl : lb < h.length) : (putG h b lb ns fl S l)[lb]? = some (spB l) := by have := pg_lb (b := b) (ns := ns) (fl := fl) (S := S) (l := l) hl []; rwa [List.append_nil] at this
theorem pg_app (hb : b < h.length) (hl : lb < h.length) (L : Heap) : putG (h ++ L) b lb ns fl S l = putG h b lb ns fl S l ++ L := by
  unfold putG
  rw [List.set_append_left _ _ hb, List.set_append_left _ _ (by simpa using hl)]
theorem pg_get0 (L : Heap) : (putG h b lb ns fl S l ++ L)[h.length]? = L[0]? := by rw [List.getElem?_append_right (by rw [pg_len]; omega), pg_len]; congr 1; omega
theorem pg_geti (L : Heap) (i : Nat) : (putG h b lb ns fl S l ++ L)[h.length + i]? = L[i]? := by rw [List.getElem?_append_right (by rw [pg_len]; omega), pg_len]; congr 1; omega
theorem pg_set0 (L : Heap) (x : Option Blk) : (putG h b lb ns fl S l ++ L).set h.length x = putG h b lb ns fl S l ++ L.set 0 x := by rw [List.set_append_right _ _ (by rw [pg_len]; omega), pg_len]; congr 2; omega
theorem pg_seti (L : Heap) (i : Nat) (x : Option Blk) : (putG h b lb ns fl S l ++ L).set (h.length + i) x = putG h b lb ns fl S l ++ L.set i x := by rw [List.set_append_right _ _ (by rw [pg_len]; omega), pg_len]; congr 2; omega
theorem pg_take (L : Heap) : (putG h b lb ns fl S l ++ L).take h.length = putG h b lb ns fl S l := by
  have := pg_len (h := h) (b := b) (lb := lb) (ns := ns) (fl := fl) (S := S) (l := l)
  rw [← this, List.take_left']; rfl
theorem pg_take0 : (putG h b lb ns fl S l).take h.length = putG h b lb ns fl S l := by
  have := pg_len (h := h) (b := b) (lb := lb) (ns := ns) (fl := fl) (S := S) (l := l)
  rw [← this, List.take_length]
theorem pg_set_lb (hl : lb < h.length) (L : Heap) (x : Option Blk) : (putG h b lb ns fl S l ++ L).set lb x = (h.set b (gmB ns fl S lb l)).set lb x ++ L := by
  rw [List.set_append_left _ _ (by rw [pg_len]; exact hl)]
  unfold putG; rw [List.set_set]
theorem pg_avl (hl : lb < h.length) : avlts h.length (gmC ns fl S lb l.length) := by
  have : ∀ (m : Nat) (a c : List AV), avlts m a → avlts m c → avlts m (a ++ c) := by
    intro m a c ha hc
    induction a with
    | nil => exact hc
    | cons x r ih => exact ⟨ha.1, ih ha.2⟩
  exact ⟨trivial, trivial, this _ _ _ (avlts_is _ S) ⟨hl, trivial⟩⟩
theorem pg_keep {l0 : List Sp} (hl : lb < h.length) : ∀ (i : Nat) (bk : Blk), (putG h b lb ns fl S l)[i]? = some (some bk) → (putG h b lb ns fl S l0)[i]? = some (some bk) ∨ avlts (putG h b lb ns fl S l0).length bk.cells := by
  intro i bk hi
  rw [pg_len]
  unfold putG at hi ⊢
  rw [List.getElem?_set] at hi
  split at hi
  · split at hi
    · cases hi; exact .inr (avlts_is _ _)
    · cases hi
  · rename_i e
    rw [List.getElem?_set] at hi
    split at hi
    · split at hi
      · cases hi; exact .inr (pg_avl hl)
      · cases hi
    · rename_i e2
      left
      rw [List.getElem?_set_ne e, List.getElem?_set_ne e2]; exact hi
theorem pg_keep' {l0 : List Sp} (hl : lb < h.length) (i : Nat) (bk : Blk) (hi : (putG h b lb ns fl S l)[i]? = some (some bk)) : (putG h b lb ns fl S l0)[i]? = some (some bk) ∨ ∀ x, x ∈ bk.cells → AVlt h.length x :=
  (pg_keep hl i bk hi).imp id fun hx => by rw [pg_len] at hx; exact avlts_lt _ hx
end
end Go.Proofs.YtjpphhcimpclpaaDoor.AM
end

section
set_option linter.unusedVariables false
set_option linter.unusedSimpArgs false
set_option maxRecDepth 4000
set_option maxHeartbeats 4000000
namespace Go.Proofs.YtjpphhcimpclpaaDoor.AM
open Go Go.Proofs
set_option linter.defProp false in
attribute [local irreducible] awp aops aqops aeops arun arunT
variable {G : Nat → Option (List PV)}

def sumW (l : List Int) : Int := l.foldl (fun n x => IntKind.i64.wrap (n + x)) 0

theorem sumW_step {l : List Int} {i : Nat} {x : Int} (h : l[i]? = some x) : sumW (l.take (i + 1)) = IntKind.i64.wrap (sumW (l.take i) + x) := by
  unfold sumW; rw [List.take_add_one, h]; simp

theorem hit40 {i n : Nat} {m : Int} (h : i < n) (hm : m = n) : decide ((i : Int) < m) = true := by subst hm; simp; omega
theorem next40 {i n : Nat} (hn : n ≤ 1000) (h : i < n) : IntKind.i64.wrap ((i : Int) + 1) = ((i + 1 : Nat) : Int) := by rw [IntWalk.i64_in _ (by omega)]; omega

end Go.Proofs.YtjpphhcimpclpaaDoor.AM
end

section
set_option linter.unusedVariables false
set_option linter.unusedSimpArgs false
set_option maxRecDepth 4000
set_option maxHeartbeats 4000000
namespace Go.Proofs.YtjpphhcimpclpaaDoor.AM
open Go Go.Proofs
set_option linter.defProp false in
attribute [local irreducible] awp aops aqops aeops arun arunT
variable {G : Nat → Option (List PV)}

def tk (S : List Int) (f : Int) : Int := S.getD f.toNat 0
def stepT (S : List Int) (f : Int) : Option (List Int) := if tk S f < 1 then none else some (S.set f.toNat (tk S f - 1))
def stepP (S : List Int) (f : Int) : Option (List Int) := if 2 < tk S f then none else some (S.set f.toNat (tk S f + 1))
def runO (step : List Int → Int → Option (List Int)) (l : List Int) (S : List Int) : Option (List Int) := l.foldlM step S

/-- Tokens within their bounds. -/
def Held (S : List Int) : Prop := S.length = 49 ∧ ∀ i x, i < 40 → S[i]? = some x → 0 ≤ x ∧ x ≤ 3

theorem Held.at {S : List Int} (h : Held S) {k : Nat} (hk : k < 40) : S[k]? = some (tk S k) ∧ 0 ≤ tk S k ∧ tk S k ≤ 3 := by
  have hl := h.1
  have e : S[k]? = some (tk S k) := by
    unfold tk
    rw [Int.toNat_natCast, List.getD_eq_getElem?_getD, List.getElem?_eq_getElem (by omega)]; rfl
  exact ⟨e, h.2 k _ hk e⟩
theorem Held.set {S : List Int} (h : Held S) {k : Nat} (hk : k < 40) {v : Int} (h0 : 0 ≤ v) (h3 : v ≤ 3) : Held (S.set k v) := by
  refine ⟨by rw [List.length_set]; exact h.1, fun i x hi hx => ?_⟩
  rw [List.getElem?_set] at hx
  split at hx
  · split at hx
    · cases hx; exact ⟨h0, h3⟩
    · cases hx
  · exact h.2 i x hi hx

/-- The tokens of one state, all else of another. -/
def joinS (S T : List Int) : List Int := S.take 40 ++ T.drop 40
/-- A step that takes tokens from flows and puts some on others, if that can be. -/
def moveG (S : List Int) (x : Sp) (fr to : List Int) : List Sp :=
  match runO stepT fr (joinS S x.to) with
  | none => []
  | some T => match runO stepP to T with
    | none => []
    | some U => [{ x with to := U }]

def InF (l : List Int) : Prop := l.length ≤ 100 ∧ ∀ f ∈ l, 0 ≤ f ∧ f < 40

structure Qt where
  i : Nat
  T : List Int

theorem pvs_is : ∀ S : List Int, pvs (S.map AV.i) = some (S.map (PV.int .i64))
  | [] => rfl
  | x :: r => by simp only [List.map_cons, pvs, pvs_is r, Option.map_some]
/-- Steps in a heap: where they may stand. -/
structure GmOk (h : Heap) (b lb : Nat) (S : List Int) (l : List Sp) : Prop where
  hb : b < h.length
  hl : lb < h.length
  ne : b ≠ lb
  held : Held S
  len : ∀ x ∈ l, x.to.length = 49
  few : l.length ≤ 1000000

theorem mapmap (S : List Int) : (S.map (PV.int .i64)).map AV.p = S.map AV.i := by rw [List.map_map]; rfl
theorem pg_fin {h : Heap} {b lb : Nat} {ns : List Nd} {fl : List Fl} {S : List Int} {l l' : List Sp} (hb : b < h.length) (hl : lb < h.length) (hne : b ≠ lb) (L : Heap) : ((putG h b lb ns fl S l ++ L).set lb (spB l')).set b (gmB ns fl S lb l') = putG h b lb ns fl S l' ++ L := by
  rw [pg_set_lb hl, List.set_append_left _ _ (by simpa using hb)]
  unfold putG
  rw [List.set_comm _ _ hne.symm, List.set_set]
theorem pg_gb {h : Heap} {b lb : Nat} {ns : List Nd} {fl : List Fl} {S : List Int} {l : List Sp} (hb : b < h.length) (hne : b ≠ lb) (X : Option Blk) (L : Heap) : ((putG h b lb ns fl S l ++ L).set lb X)[b]? = some (gmB ns fl S lb l) := by
  rw [List.getElem?_set_ne hne.symm, pg_b hb hne]
theorem over_full {cs : List AV} {n : Nat} (hc : cs.length = n) (c : List AV) (h : c.length = n) : over c 0 cs = cs := by
  rw [over_at cs c 0 (by omega)]; rfl

end Go.Proofs.YtjpphhcimpclpaaDoor.AM
end

section
set_option linter.unusedVariables false
set_option linter.unusedSimpArgs false
set_option maxRecDepth 4000
set_option maxHeartbeats 4000000
namespace Go.Proofs.YtjpphhcimpclpaaDoor.AM
open Go Go.Proofs
set_option linter.defProp false in
attribute [local irreducible] awp aops aqops aeops arun arunT
variable {G : Nat → Option (List PV)}

theorem GmOk.ext {h : Heap} {b lb : Nat} {S : List Int} {l : List Sp} (ok : GmOk h b lb S l) (L : Heap) : GmOk (h ++ L) b lb S l :=
  ⟨by have := ok.hb; simp; omega, by have := ok.hl; simp; omega, ok.ne, ok.held, ok.len, ok.few⟩
theorem moveG_len (S : List Int) (x : Sp) (fr to : List Int) : (moveG S x fr to).length ≤ 1 := by
  unfold moveG
  split
  · simp
  · split <;> simp

theorem over_tail {S : List Int} {n : Nat} (hS : S.length = n) (a b c d e : AV) (t : List AV) (ht : t.length = n) : over (a :: b :: c :: d :: e :: t) 5 (S.map AV.i) = a :: b :: c :: d :: e :: S.map AV.i := by
  rw [over_at (S.map AV.i) _ 5 (by simp [hS, ht]; omega)]; rfl

theorem gmC_state {ns : List Nd} {fl : List Fl} {S : List Int} {lb n : Nat} (hS : S.length = 49) : ((gmC ns fl S lb n).drop 2).take 49 = S.map AV.i := by
  have := gmC_take (ns := ns) (fl := fl) (lb := lb) (n := n) (S := S) 0 49 (by omega)
  simp only [Nat.add_zero, List.drop_zero] at this
  rw [this, List.take_of_length_le (by omega)]

/-- The step of a fault. -/
def faultS (S : List Int) (i e : Int) : Sp := ⟨i, 0, 6, i, e, S.set 48 2⟩

theorem cSp_eq (x : Sp) : (cSp x).map AV.i = .p (.int .i64 x.node) :: .p (.int .i64 x.arg) :: .p (.int .i64 x.lk) :: .p (.int .i64 x.ln) :: .p (.int .i64 x.la) :: x.to.map AV.i := rfl

end Go.Proofs.YtjpphhcimpclpaaDoor.AM
end

section
set_option linter.unusedVariables false
set_option linter.unusedSimpArgs false
set_option maxRecDepth 4000
set_option maxHeartbeats 4000000
namespace Go.Proofs.YtjpphhcimpclpaaDoor.AM
open Go Go.Proofs
set_option linter.defProp false in
attribute [local irreducible] awp aops aqops aeops arun arunT
variable {G : Nat → Option (List PV)}

/- left out: not in this program -/

structure Ru where
  kind : Int
  node : Int
  needs : List Int
  gives : List Int

def eRu (r : Ru) : List PV := [.int .i64 r.kind, .int .i64 r.node, .sl (r.needs.map eI), .sl (r.gives.map eI)]
/-- The cells of rules. -/
def cRu (l : List Ru) : List AV := (flatE eRu l).map AV.p
/-- A maker, and its rules so far. -/
def mkB (lb : Nat) (l : List Ru) : Option Blk := some ⟨0, [.ref lb l.length 0 4 l.length]⟩
def ruB (l : List Ru) : Option Blk := some ⟨l.length, cRu l⟩

end Go.Proofs.YtjpphhcimpclpaaDoor.AM
end

section
set_option linter.unusedVariables false
set_option linter.unusedSimpArgs false
namespace Go.Proofs.YtjpphhcimpclpaaDoor.AM
open Go Go.Proofs

/-- No rule is broken. -/
structure Right (ns : List Nd) (fl : List Fl) : Prop where
  n : ns.length ≤ 24
  f : fl.length ≤ 40
  b1 : ∀ i, i < ns.length → bad1 ns i = false
  b2 : ∀ i, i < fl.length → bad2 ns fl i = false
  b3 : ∀ i, i < ns.length → bad3 ns fl i = false
  ends : noEnds ns = false
  b4 : ∀ i, i < ns.length → bad4 ns fl i = false

theorem plF_fst {rule : Int} {p : Nat → Bool} {n : Nat} {x : Int × Int} (h : (plF rule p n).head? = some x) : x.1 = rule := by
  have hm := List.mem_of_head? h
  unfold plF at hm
  obtain ⟨i, _, rfl⟩ := List.mem_map.mp hm
  rfl
theorem head_none {α : Type} {l : List α} (h : l.head? = none) : l = [] := by
  cases l with
  | nil => rfl
  | cons => cases h

theorem Right.of {ns : List Nd} {fl : List Fl} (h : (netN ns fl).1 = 0) : Right ns fl := by
  have key : ∀ (rule : Int) (l : List (Int × Int)), rule ≠ 0 → (∀ x, l.head? = some x → x.1 = rule) → (l.head?.getD (0, 0)).1 = 0 → l = [] := by
    intro rule l hr hl h0
    cases hx : l.head? with
    | none => exact head_none hx
    | some x =>
      rw [hx] at h0
      have := hl x hx
      simp only [Option.getD_some] at h0
      omega
  unfold netN allN at h
  split at h
  · simp at h
  rename_i hs
  split at h
  · rename_i h1; exact absurd (key 1 _ (by decide) (fun x hx => plF_fst hx) h) h1
  rename_i h1
  split at h
  · rename_i h2; exact absurd (key 2 _ (by decide) (fun x hx => plF_fst hx) h) h2
  rename_i h2
  split at h
  · rename_i h3
    refine absurd (key 3 _ (by decide) (fun x hx => ?_) h) h3
    unfold thirdN at hx
    rw [List.head?_append] at hx
    cases hq : (plF 3 (bad3 ns fl) ns.length).head? with
    | some y => rw [hq] at hx; cases hx; exact plF_fst hq
    | none =>
      rw [hq] at hx
      split at hx
      · cases hx; rfl
      · cases hx
  rename_i h3
  have h4 := key 4 _ (by decide) (fun x hx => plF_fst hx) h
  rw [Decidable.not_not] at h1 h2 h3
  have h3' : plF 3 (bad3 ns fl) ns.length = [] ∧ noEnds ns = false := by
    unfold thirdN at h3
    rw [List.append_eq_nil_iff] at h3
    refine ⟨h3.1, ?_⟩
    cases hq : noEnds ns with
    | false => rfl
    | true => rw [hq] at h3; simp at h3
  simp only [Bool.or_eq_true, decide_eq_true_eq, not_or] at hs
  exact ⟨by omega, by omega, plF_nil h1, plF_nil h2, plF_nil h3'.1, h3'.2, plF_nil h4⟩

theorem Right.isIn {ns : List Nd} {fl : List Fl} (h : Right ns fl) : InN ns.length fl := bad2_in (plF_none (rule := 2) h.b2)
theorem Right.three {ns : List Nd} {fl : List Fl} (h : Right ns fl) {i : Nat} (hi : i < ns.length) : threeB ns fl i = true := by
  have := h.b3 i hi
  unfold bad3 at this
  simp only [Bool.or_eq_false_iff, Bool.not_eq_false'] at this
  exact this.1.1
def dstAt (fl : List Fl) (x : Int) : Int := match fl[x.toNat]? with | some f => f.dst | none => 0

def ruOf (fl : List Fl) (i : Nat) (kind : Int) : List Ru :=
  if kind = 1 then []
  else if kind = 7 then (outsN fl i).map fun f => ⟨3, i, insN fl i, outsN fl (dstAt fl f)⟩
  else if kind = 8 then [⟨3, i, insN fl i, outsN fl i⟩]
  else if kind = 5 then (if 1 < (outsN fl i).length then (outsN fl i).map fun f => ⟨2, i, insN fl i, [f]⟩ else (insN fl i).map fun f => ⟨1, i, [f], [(outsN fl i).headD 0]⟩)
  else [⟨1, i, insN fl i, outsN fl i⟩]

theorem insN_le (fl : List Fl) (i : Int) : (insN fl i).length ≤ fl.length := pickF_le _ _ _
theorem outsN_le (fl : List Fl) (i : Int) : (outsN fl i).length ≤ fl.length := pickF_le _ _ _

theorem kind_of {ns : List Nd} {i : Nat} {k : Nd} (h : ns[i]? = some k) : kindAt ns i = k.kind := by unfold kindAt; rw [Int.toNat_natCast, h]

/-- What an Xor of a right process has. -/
theorem Right.xor {ns : List Nd} {fl : List Fl} (h : Right ns fl) {i : Nat} (hi : i < ns.length) (hk : kindAt ns i = 5) : ((insN fl i).length = 1 ∧ 2 ≤ (outsN fl i).length) ∨ (2 ≤ (insN fl i).length ∧ (outsN fl i).length = 1) := by
  have := h.three hi
  unfold threeB at this
  simp only [hk] at this
  simp only [Int.reduceEq, reduceIte, Bool.or_eq_true, Bool.and_eq_true, beq_iff_eq, decide_eq_true_eq] at this
  omega
end Go.Proofs.YtjpphhcimpclpaaDoor.AM
end

section
set_option linter.unusedVariables false
set_option linter.unusedSimpArgs false
set_option maxRecDepth 4000
set_option maxHeartbeats 4000000
namespace Go.Proofs.YtjpphhcimpclpaaDoor.AM
open Go Go.Proofs
set_option linter.defProp false in
attribute [local irreducible] awp aops aqops aeops arun arunT
variable {G : Nat → Option (List PV)}

theorem Ghost.maker {P : Program} {h : Heap} {s : St} {A : Option Blk} (hh : s.heap = h ++ [A, some ⟨0, [.p .nils]⟩]) : Ghost P G h s ⟨s.fr, s.nt, h ++ [A, mkB (h.length + 2) [], ruB []]⟩ := by
  have := Ghost.adoptCell (P := P) (G := G) (h0 := h) (s := s) (b := h.length + 1) (j := 0) (bk := ⟨0, [.p .nils]⟩) 4 (by rw [hh]; simp [get_app]) rfl (by omega)
  rw [hh] at this
  simp only [List.length_append, List.length_cons, List.length_nil, List.append_assoc, List.cons_append, List.nil_append, set_app, List.set_cons_succ, List.set_cons_zero, Nat.zero_add, Nat.reduceAdd] at this
  exact this

end Go.Proofs.YtjpphhcimpclpaaDoor.AM
end

section
set_option linter.unusedVariables false
set_option linter.unusedSimpArgs false
set_option maxRecDepth 4000
set_option maxHeartbeats 4000000
namespace Go.Proofs.YtjpphhcimpclpaaDoor.AM
open Go Go.Proofs
set_option linter.defProp false in
attribute [local irreducible] awp aops aqops aeops arun arunT
variable {G : Nat → Option (List PV)}

structure Qg where
  j : Nat
  g : Nat

/- left out: not in this program -/

end Go.Proofs.YtjpphhcimpclpaaDoor.AM
end

section
set_option linter.unusedVariables false
set_option linter.unusedSimpArgs false
set_option maxRecDepth 4000
set_option maxHeartbeats 4000000
namespace Go.Proofs.YtjpphhcimpclpaaDoor.AM
open Go Go.Proofs
set_option linter.defProp false in
attribute [local irreducible] awp aops aqops
variable {G : Nat → Option (List PV)}

mutual
def lgT : Tm → Int → Int → Bool × Int
  | .mk _ _ ks, d, n => if n - 1 < 0 ∨ 40 < d ∨ 50 < (ks.length : Int) then (true, n - 1) else lgS ks (d + 1) (n - 1)
def lgS : List Tm → Int → Int → Bool × Int
  | [], _, n => (false, n)
  | k :: r, d, n => if (lgT k d n).1 = true then lgT k d n else lgS r d (lgT k d n).2
end

theorem lgT_eq (t : Tm) (d n : Int) : lgT t d n = if n - 1 < 0 ∨ 40 < d ∨ 50 < (t.kids.length : Int) then (true, n - 1) else lgS t.kids (d + 1) (n - 1) := by
  cases t; rw [lgT]; rfl

theorem lgS_app : ∀ (a b : List Tm) (d n : Int), lgS (a ++ b) d n = if (lgS a d n).1 = true then lgS a d n else lgS b d (lgS a d n).2
  | [], b, d, n => by simp [lgS]
  | k :: r, b, d, n => by
    simp only [List.cons_append, lgS]
    by_cases h : (lgT k d n).1 = true
    · simp [h]
    · simp only [h, if_false]
      exact lgS_app r b d _

theorem lgS_take {l : List Tm} {i : Nat} {k : Tm} (hk : l[i]? = some k) {d n : Int} (hp : (lgS (l.take i) d n).1 = false) :
    lgS (l.take (i + 1)) d n = lgT k d (lgS (l.take i) d n).2 := by
  rw [List.take_add_one, hk, lgS_app]
  simp only [hp, Bool.false_eq_true, if_false, Option.toList_some, lgS]
  split
  · rfl
  · rename_i h
    have : (lgT k d (lgS (List.take i l) d n).2).1 = false := by simpa using h
    rw [Prod.ext_iff]; exact ⟨this.symm, rfl⟩

theorem lgS_stop {l : List Tm} {i : Nat} {k : Tm} (hk : l[i]? = some k) {d n : Int} (hp : (lgS (l.take i) d n).1 = false) (ht : (lgT k d (lgS (l.take i) d n).2).1 = true) :
    lgS l d n = lgT k d (lgS (l.take i) d n).2 := by
  have h := lgS_take hk hp
  conv => lhs; rw [← List.take_append_drop (i + 1) l]
  rw [lgS_app, h, if_pos ht]

/-- What is left of the room. -/
theorem lg_room : ∀ t : Tm, ∀ d n : Int, 0 ≤ n → -1 ≤ (lgT t d n).2 ∧ (lgT t d n).2 ≤ n ∧ ((lgT t d n).1 = false → 0 ≤ (lgT t d n).2) := by
  intro t
  refine Tm.ind (p := fun t => ∀ d n : Int, 0 ≤ n → -1 ≤ (lgT t d n).2 ∧ (lgT t d n).2 ≤ n ∧ ((lgT t d n).1 = false → 0 ≤ (lgT t d n).2)) (fun t ih => ?_) t
  have hs : ∀ l : List Tm, (∀ k ∈ l, k ∈ t.kids) → ∀ d n : Int, 0 ≤ n → -1 ≤ (lgS l d n).2 ∧ (lgS l d n).2 ≤ n ∧ ((lgS l d n).1 = false → 0 ≤ (lgS l d n).2) := by
    intro l
    induction l with
    | nil => intro _ d n hn; simp [lgS]; omega
    | cons k r ihr =>
      intro hm d n hn
      have h1 := ih k (hm k (by simp)) d n hn
      simp only [lgS]
      split
      · exact h1
      · rename_i h
        have h2 := h1.2.2 (by simpa using h)
        have h3 := ihr (fun x hx => hm x (by simp [hx])) d _ h2
        exact ⟨by omega, by omega, h3.2.2⟩
  intro d n hn
  rw [lgT_eq]
  split
  · simp; omega
  · rename_i h
    have := hs t.kids (fun _ h => h) (d + 1) (n - 1) (by omega)
    exact ⟨by omega, by omega, this.2.2⟩

theorem lgS_room {l : List Tm} {d n : Int} (hn : 0 ≤ n) : -1 ≤ (lgS l d n).2 ∧ (lgS l d n).2 ≤ n ∧ ((lgS l d n).1 = false → 0 ≤ (lgS l d n).2) := by
  induction l generalizing n with
  | nil => simp [lgS]; omega
  | cons k r ih =>
    have h1 := lg_room k d n hn
    simp only [lgS]
    split
    · exact h1
    · rename_i h
      have h2 := h1.2.2 (by simpa using h)
      have h3 := ih h2
      exact ⟨by omega, by omega, h3.2.2⟩

/-- What is not larger. -/
theorem lg_ok : ∀ t : Tm, ∀ d n : Int, (lgT t d n).1 = false → 1 ≤ d → Tm.Ok (41 - d).toNat t := by
  intro t
  refine Tm.ind (p := fun t => ∀ d n : Int, (lgT t d n).1 = false → 1 ≤ d → Tm.Ok (41 - d).toNat t) (fun t ih => ?_) t
  intro d n hf hd
  rw [lgT_eq] at hf
  split at hf
  · cases hf
  · rename_i h
    have hs : ∀ l : List Tm, ∀ d n : Int, (lgS l d n).1 = false → ∀ k ∈ l, ∃ m, (lgT k d m).1 = false := by
      intro l
      induction l with
      | nil => intro d n _ k hk; simp at hk
      | cons x r ihr =>
        intro d n hf k hk
        simp only [lgS] at hf
        split at hf
        · rename_i h2; rw [h2] at hf; cases hf
        · rename_i h2
          rcases List.mem_cons.mp hk with rfl | hk
          · exact ⟨n, by simpa using h2⟩
          · exact ihr _ _ hf k hk
    have e : (41 - d).toNat = (41 - (d + 1)).toNat + 1 := by omega
    rw [e]
    refine .mk _ t (by omega) fun k hk => ?_
    obtain ⟨m, hm⟩ := hs _ _ _ hf k hk
    exact ih k hk _ _ hm (by omega)

/-- A heap whose block b was changed. -/
def withB (h : Heap) (b : Nat) (c : Option Blk) : Heap := h.set b c

section
variable {h : Heap} {b : Nat} {c c' : Option Blk}
theorem wb_self (hb : h[b]? = some c) : withB h b c = h := by
  apply List.ext_getElem?
  intro i
  unfold withB
  rw [List.getElem?_set]
  split
  · rename_i e; subst e; split
    · exact hb.symm
    · rename_i hn; rw [List.getElem?_eq_none (by omega)] at hb; cases hb
  · rfl
theorem wb_len : (withB h b c).length = h.length := by unfold withB; rw [List.length_set]
theorem wb_at (hb : b < h.length) : (withB h b c)[b]? = some c := by unfold withB; rw [List.getElem?_set]; simp [hb]
theorem wb_get (hb : b < h.length) (L : Heap) : (withB h b c ++ L)[b]? = some c := by rw [List.getElem?_append_left (by rw [wb_len]; exact hb), wb_at hb]
theorem wb_put : (withB h b c).set b c' = withB h b c' := by unfold withB; rw [List.set_set]
theorem wb_set (hb : b < h.length) (L : Heap) : (withB h b c ++ L).set b c' = withB h b c' ++ L := by rw [List.set_append_left _ _ (by rw [wb_len]; exact hb), wb_put]
theorem wb_get0 (L : Heap) : (withB h b c ++ L)[h.length]? = L[0]? := by rw [List.getElem?_append_right (by rw [wb_len]; omega), wb_len]; congr 1; omega
theorem wb_geti (L : Heap) (i : Nat) : (withB h b c ++ L)[h.length + i]? = L[i]? := by rw [List.getElem?_append_right (by rw [wb_len]; omega), wb_len]; congr 1; omega
theorem wb_set0 (L : Heap) (x : Option Blk) : (withB h b c ++ L).set h.length x = withB h b c ++ L.set 0 x := by rw [List.set_append_right _ _ (by rw [wb_len]; omega), wb_len]; congr 2; omega
theorem wb_seti (L : Heap) (i : Nat) (x : Option Blk) : (withB h b c ++ L).set (h.length + i) x = withB h b c ++ L.set i x := by rw [List.set_append_right _ _ (by rw [wb_len]; omega), wb_len]; congr 2; omega
theorem wb_take (L : Heap) : (withB h b c ++ L).take h.length = withB h b c := by
  have := wb_len (h := h) (b := b) (c := c)
  rw [← this, List.take_left']; rfl
theorem wb_app (L : Heap) (hb : b < h.length) : withB (withB h b c ++ L) b c' = withB h b c' ++ L := by
  show (withB h b c ++ L).set b c' = _
  exact wb_set hb L
theorem wb_keep {c0 : Option Blk} {g : Nat} {n : Int} : ∀ (i : Nat) (bk : Blk), (withB h b (some ⟨g, [.i n]⟩))[i]? = some (some bk) → (withB h b c0)[i]? = some (some bk) ∨ avlts (withB h b c0).length bk.cells := by
  intro i bk hi
  unfold withB at hi ⊢
  rw [List.getElem?_set] at hi ⊢
  split at hi
  · rename_i e
    split at hi
    · cases hi; exact .inr (by simp [avlts, avlt])
    · cases hi
  · rename_i e; rw [if_neg e]; exact .inl hi
theorem wb_keep' {c0 : Option Blk} {g : Nat} {n : Int} (i : Nat) (bk : Blk) (hi : (withB h b (some ⟨g, [.i n]⟩))[i]? = some (some bk)) : (withB h b c0)[i]? = some (some bk) ∨ ∀ x, x ∈ bk.cells → AVlt h.length x :=
  (wb_keep i bk hi).imp id fun hx => by rw [wb_len] at hx; exact avlts_lt _ hx
theorem wb_wb : withB (withB h b c) b c' = withB h b c' := wb_put
theorem wb_take0 : (withB h b c).take h.length = withB h b c := by
  rw [← wb_len (h := h) (b := b) (c := c), List.take_length]
end

abbrev rB (g : Nat) (n : Int) : Option Blk := some ⟨g, [.i n]⟩

end Go.Proofs.YtjpphhcimpclpaaDoor.AM
end

section
set_option linter.unusedVariables false
set_option linter.unusedSimpArgs false
set_option maxRecDepth 4000
set_option maxHeartbeats 4000000
namespace Go.Proofs.YtjpphhcimpclpaaDoor.AM
open Go Go.Proofs
set_option linter.defProp false in
attribute [local irreducible] awp aops aqops aeops arun arunT
variable {G : Nat → Option (List PV)}

/-- All terms of a process. -/
def termsN (ns : List Nd) (fl : List Fl) : List Tm := ns.map (·.term) ++ fl.map (·.cond)
theorem lgS_all {l : List Tm} : ∀ {d n : Int}, 1 ≤ d → (lgS l d n).1 = false → ∀ k ∈ l, Tm.Ok (41 - d).toNat k := by
  induction l with
  | nil => intro d n _ _ k hk; simp at hk
  | cons x r ih =>
    intro d n hd hf k hk
    simp only [lgS] at hf
    split at hf
    · rename_i h2; rw [h2] at hf; cases hf
    · rename_i h2
      rcases List.mem_cons.mp hk with rfl | hk
      · exact lg_ok _ _ _ (by simpa using h2) hd
      · exact ih hd hf k hk

end Go.Proofs.YtjpphhcimpclpaaDoor.AM
end

section
set_option linter.unusedVariables false
set_option linter.unusedSimpArgs false
namespace Go.Proofs.YtjpphhcimpclpaaDoor.AM
open Go Go.ChangeShapes Go.WideShapes Go.RowKit

mutual
/-- The cells of a datum. -/
def cellsD {H : Type} : DataW H → List PV
  | .lit (.bool b) => [.bool b]
  | .lit (.int k n) => [.int k n]
  | .lit (.string l) => [.str ⟨l.toArray⟩]
  | .lit _ => []
  | .nil => [.sl []]
  | .slice elems _ => [.sl (rowsD elems)]
  | .agg parts => partsD parts
  | .ptr _ => []
  | .iface _ _ => []
  | .map _ => []
  | .held _ => []
def rowsD {H : Type} : List (DataW H) → List (List PV)
  | [] => []
  | d :: r => cellsD d :: rowsD r
def partsD {H : Type} : List (DataW H) → List PV
  | [] => []
  | d :: r => cellsD d ++ partsD r
end

/-- Types that are read as plain data, and lie in a row. -/
def plainT (P : Program) (S : List Nat) (t : Nat) : Bool :=
  match P.underlying t with
  | some .bool | some (.int _) | some .string => P.cellsOf t == 1
  | some (.slice e) => S.contains e && decide (0 < P.cellsOf e) && P.cellsOf t == 1
  | some (.array n e) => S.contains e && P.cellsOf t == n * P.cellsOf e
  | some (.struct fs) => fs.toList.all (fun f => S.contains f.type) &&
      (fs.toList.foldl (fun (acc : Option Nat) f => acc.bind fun o => if f.offset == o then some (o + P.cellsOf f.type) else none) (some 0) == some (P.cellsOf t))
  | _ => false

def plainB (P : Program) (S : List Nat) : Bool := S.all (plainT P S)

/-- Typed cells. -/
def Ty (P : Program) : Nat → Nat → List PV → Prop
  | 0, _, _ => False
  | fuel + 1, t, xs =>
    match P.underlying t with
    | some .bool => ∃ b, xs = [.bool b]
    | some (.int k) => ∃ n, InRange k n ∧ xs = [.int k n]
    | some .string => ∃ s, xs = [.str s]
    | some (.slice e) => ∃ rows, xs = [.sl rows] ∧ ∀ row ∈ rows, Ty P fuel e row
    | some (.array n e) => ∃ rows : List (List PV), rows.length = n ∧ xs = rows.flatMap id ∧ ∀ row ∈ rows, Ty P fuel e row
    | some (.struct fs) => ∃ rows : List (List PV), rows.length = fs.size ∧ xs = rows.flatMap id ∧ ∀ (i : Nat) f row, fs[i]? = some f → rows[i]? = some row → Ty P fuel f.type row
    | _ => False

def LR (w : World) (xs : List PV) (cs : List Value) : Prop := xs.length = cs.length ∧ ∀ (i : Nat) x v, xs[i]? = some x → cs[i]? = some v → PRel w (fun _ => False) x v

section
variable {P : Program} {w : World} {H : Type} {enc : TypeId × Value → H} {spare : Nat → Bool} {held : Bool}

theorem mapM_some' {α β : Type} {f : α → Option β} : ∀ {l : List α} {r : List β}, l.mapM f = some r → r.length = l.length ∧ ∀ (i : Nat) x y, l[i]? = some x → r[i]? = some y → f x = some y
  | [], r, h => by simp at h; subst h; simp
  | a :: l, r, h => by
    simp only [List.mapM_cons] at h
    cases ha : f a with
    | none => simp [ha] at h
    | some b =>
      cases hl : l.mapM f with
      | none => simp [ha, hl] at h
      | some bs =>
        simp [ha, hl] at h
        subst h
        obtain ⟨l1, l2⟩ := mapM_some' hl
        refine ⟨by simp [l1], fun i x y hx hy => ?_⟩
        cases i with
        | zero => simp at hx hy; rw [← hx, ← hy]; exact ha
        | succ i => simp at hx hy; exact l2 i x y hx hy

theorem LR.append {xs ys : List PV} {cs ds : List Value} (h1 : LR w xs cs) (h2 : LR w ys ds) : LR w (xs ++ ys) (cs ++ ds) := by
  refine ⟨by simp [h1.1, h2.1], fun i x v hx hv => ?_⟩
  by_cases hi : i < xs.length
  · rw [List.getElem?_append_left hi] at hx
    rw [List.getElem?_append_left (by rw [← h1.1]; exact hi)] at hv
    exact h1.2 i x v hx hv
  · rw [List.getElem?_append_right (by omega)] at hx
    rw [List.getElem?_append_right (by rw [← h1.1]; omega), ← h1.1] at hv
    exact h2.2 _ x v hx hv

theorem rowsD_get (ds : List (DataW H)) : ∀ i : Nat, (rowsD ds)[i]? = (ds[i]?).map cellsD := by
  induction ds with
  | nil => intro i; simp [rowsD]
  | cons d r ih => intro i; cases i with
    | zero => simp [rowsD]
    | succ i => simp [rowsD, ih]

theorem rowsD_length (ds : List (DataW H)) : (rowsD ds).length = ds.length := by
  induction ds with
  | nil => rfl
  | cons d r ih => simp [rowsD, ih]

theorem partsD_eq (ds : List (DataW H)) : partsD ds = (rowsD ds).flatMap id := by
  induction ds with
  | nil => rfl
  | cons d r ih => simp [partsD, rowsD, ih]

/-- Rows that lie behind each other. -/
theorem LR.rows : ∀ (rows : List (List PV)) (sizes : List Nat) (cs : List Value), rows.length = sizes.length → cs.length = sizes.foldl (· + ·) 0 →
    (∀ (i : Nat) row n, rows[i]? = some row → sizes[i]? = some n → LR w row ((cs.drop ((sizes.take i).foldl (· + ·) 0)).take n)) → LR w (rows.flatMap id) cs := by
  have hf : ∀ (l : List Nat) (a : Nat), l.foldl (· + ·) a = a + l.foldl (· + ·) 0 := by
    intro l
    induction l with
    | nil => intro a; rfl
    | cons x r ih => intro a; simp only [List.foldl_cons]; rw [ih, ih (0 + x)]; omega
  intro rows
  induction rows with
  | nil =>
    intro sizes cs hl hc _
    cases sizes with
    | nil => simp at hc; subst hc; exact ⟨rfl, fun i x v hx => by simp at hx⟩
    | cons => simp at hl
  | cons row rest ih =>
    intro sizes cs hl hc h
    cases sizes with
    | nil => simp at hl
    | cons n ns =>
      simp only [List.foldl_cons] at hc
      rw [hf] at hc
      have h0 := h 0 row n rfl rfl
      simp at h0
      have hrest : LR w (rest.flatMap id) (cs.drop n) := by
        refine ih ns (cs.drop n) (by simpa using hl) (by simp; omega) fun i r m hr hm => ?_
        have := h (i + 1) r m (by simpa using hr) (by simpa using hm)
        simp only [List.take_succ_cons, List.foldl_cons] at this
        rw [hf] at this
        rw [List.drop_drop]
        simpa using this
      have := h0.append hrest
      simpa using this

theorem cells?_some {a : Addr} {n : Nat} {cs : List Value} (h : w.cells? 0 a n = some cs) : cs.length = n ∧ ∀ (i : Nat) v, cs[i]? = some v → w.cell? (a.add i) = some v := by
  unfold World.cells? at h
  simp only [Nat.zero_le, if_true] at h
  obtain ⟨l1, l2⟩ := mapM_some' h
  refine ⟨by simpa using l1, fun i v hv => ?_⟩
  have hi : i < n := by have := getElem?_lt hv; simp at l1; omega
  exact l2 i i v (by simp [hi]) hv

theorem trodPV {S : List Nat} (hS : plainB P S = true) : ∀ (fuel t : Nat) (cs : List Value) (x : DataW H × List MemPlace), t ∈ S → DataW.trod enc P w 0 spare held fuel t cs = some x →
    LR w (cellsD x.1) cs ∧ Ty P fuel t (cellsD x.1) ∧ cs.length = P.cellsOf t := by
  have hpl : ∀ t ∈ S, plainT P S t = true := by simpa [plainB] using hS
  intro fuel
  induction fuel with
  | zero => intro t cs x _ h; simp [DataW.trod] at h
  | succ fuel ih =>
    intro t cs x ht h
    have hp := hpl t ht
    unfold plainT at hp
    unfold Ty
    have one : ∀ (y : PV) (v : Value), PRel w (fun _ => False) y v → LR w [y] [v] := by
      intro y v hy
      refine ⟨rfl, fun i x v hx hv => ?_⟩
      cases i with
      | zero => simp at hx hv; rw [← hx, ← hv]; exact hy
      | succ i => simp at hx
    cases hu : P.underlying t with
    | none => rw [hu] at hp; simp at hp
    | some d =>
      rw [hu] at hp
      cases d with
      | bool =>
        simp only [beq_iff_eq] at hp
        obtain ⟨b, rfl, rfl⟩ := DataW.trod_bool hu h
        exact ⟨one _ _ (.bool b), ⟨b, rfl⟩, hp.symm⟩
      | int k =>
        simp only [beq_iff_eq] at hp
        obtain ⟨n, rfl, rfl, hw⟩ := DataW.trod_int hu h
        have hr : InRange k n := by
          simp only [Lit.wf] at hw
          unfold InRange
          simpa using hw
        exact ⟨one _ _ (.int _ _ hr), ⟨n, hr, rfl⟩, hp.symm⟩
      | string =>
        simp only [beq_iff_eq] at hp
        obtain ⟨s, rfl, rfl, hs⟩ := DataW.trod_string hu h
        have hm : s.size ≤ 9223372036854775807 := by unfold maxLen at hs; omega
        have e : (⟨s.data.toList.toArray⟩ : ByteArray) = s := by simp
        refine ⟨?_, ⟨_, rfl⟩, hp.symm⟩
        simp only [cellsD, e]
        exact one _ _ (.str s hm)
      | slice e =>
        simp only [Bool.and_eq_true, beq_iff_eq, decide_eq_true_eq, List.contains_iff_mem] at hp
        obtain ⟨⟨he, hpos⟩, h1⟩ := hp
        rcases DataW.trod_slice hu h with ⟨rfl, rfl⟩ | ⟨a, len, cap, elems, rest, m, hm, rfl, rfl, _, hlc, hcm, m1, m2, _⟩
        · exact ⟨one _ _ (.slz _ _), ⟨[], rfl, by simp⟩, h1.symm⟩
        · have : m = fuel := by omega
          subst this
          have hrow : ∀ (i : Nat) y, elems[i]? = some y → ∃ rc, w.cells? 0 (a.add (i * P.cellsOf e)) (P.cellsOf e) = some rc ∧ LR w (cellsD y.1) rc ∧ Ty P m e (cellsD y.1) := by
            intro i y hy
            have hi : i < len := by have := getElem?_lt hy; omega
            have := m2 i hi
            rw [hy] at this
            obtain ⟨rc, hrc, ht'⟩ := Option.bind_eq_some_iff.mp this
            obtain ⟨q1, q2, _⟩ := ih e rc y he ht'
            exact ⟨rc, hrc, q1, q2⟩
          have hrg : ∀ i : Nat, (rowsD (elems.map (·.1)))[i]? = (elems[i]?).map fun y => cellsD y.1 := by
            intro i; rw [rowsD_get]; simp
            cases elems[i]? <;> rfl
          have hrl : (rowsD (elems.map (·.1))).length = len := by rw [rowsD_length]; simp [m1]
          have hmem : ∀ row ∈ rowsD (elems.map (·.1)), ∃ (i : Nat) (y : DataW H × List MemPlace), elems[i]? = some y ∧ cellsD y.1 = row := by
            intro row hr
            obtain ⟨i, hi, rfl⟩ := List.getElem_of_mem hr
            have h1 : (rowsD (elems.map (·.1)))[i]? = some ((rowsD (elems.map (·.1)))[i]) := List.getElem?_eq_getElem hi
            rw [hrg] at h1
            obtain ⟨y, hy, hye⟩ := Option.map_eq_some_iff.mp h1
            exact ⟨i, y, hy, hye⟩
          have hcd : cellsD (DataW.slice (elems.map (·.1)) (rest.map (·.1))) = [.sl (rowsD (elems.map (fun y : DataW H × List MemPlace => y.1)))] := by simp only [cellsD]
          show LR w (cellsD (DataW.slice (elems.map (·.1)) (rest.map (·.1)))) _ ∧ (∃ rows, cellsD (DataW.slice (elems.map (·.1)) (rest.map (·.1))) = [.sl rows] ∧ ∀ row ∈ rows, Ty P m e row) ∧ _
          rw [hcd]
          refine ⟨one (.sl (rowsD (elems.map (fun y : DataW H × List MemPlace => y.1)))) _ ?_, ⟨_, rfl, fun row hr => ?_⟩, h1.symm⟩
          · by_cases hz : len = 0
            · have : rowsD (elems.map (·.1)) = [] := List.eq_nil_of_length_eq_zero (by omega)
              rw [this, hz]
              exact .slz _ _
            · obtain ⟨y0, hy0⟩ : ∃ y, elems[0]? = some y := ⟨elems[0]'(by omega), by simp⟩
              obtain ⟨rc0, hrc0, _, _⟩ := hrow 0 y0 hy0
              obtain ⟨c1, c2⟩ := cells?_some hrc0
              have hc0 : w.cell? a = some (rc0[0]'(by omega)) := by
                have := c2 0 (rc0[0]'(by omega)) (by simp)
                simpa [Addr.add] using this
              have hspot : a.spot = none := by
                unfold World.cell? at hc0
                split at hc0
                · split at hc0
                  · cases hc0
                  · rename_i hs; simpa using hs
                · cases hc0
              obtain ⟨blk, off, sp⟩ := a
              simp only at hspot
              subst hspot
              have hb := block_lt_of_cell hc0
              have hf : ∀ q : Nat × Nat, ∃ v, ∀ x, get2 (rowsD (elems.map (·.1))) q.1 q.2 = some x → w.cell? ⟨blk, off + (q.1 * P.cellsOf e + q.2), none⟩ = some v ∧ PRel w (fun _ => False) x v := by
                intro q
                cases hq : get2 (rowsD (elems.map (·.1))) q.1 q.2 with
                | none => exact ⟨undef, fun x hx => by cases hx⟩
                | some x =>
                  unfold get2 at hq
                  obtain ⟨row, hr1, hr2⟩ := Option.bind_eq_some_iff.mp hq
                  rw [hrg] at hr1
                  obtain ⟨y, hy, rfl⟩ := Option.map_eq_some_iff.mp hr1
                  obtain ⟨rc, hrc, ⟨l1, l2⟩, _⟩ := hrow q.1 y hy
                  obtain ⟨d1, d2⟩ := cells?_some hrc
                  have hj : q.2 < rc.length := by have := getElem?_lt hr2; omega
                  refine ⟨rc[q.2], fun x' hx' => ?_⟩
                  cases hx'
                  refine ⟨?_, l2 q.2 x rc[q.2] hr2 (by simp)⟩
                  have := d2 q.2 rc[q.2] (by simp)
                  rw [Addr.add_lit, Addr.add_lit] at this
                  rw [← Nat.add_assoc]
                  exact this
              obtain ⟨f, hf⟩ := Classical.axiomOfChoice hf
              have := PRel.sl (w := w) (own := fun _ => False) (rowsD (elems.map (·.1))) blk off cap (P.cellsOf e) (fun i j => f (i, j)) (by omega) (by unfold maxLen at hcm; omega) (fun h => h) hb
                (fun row hr => by
                  obtain ⟨i, y, hy, hye⟩ := hmem row hr
                  obtain ⟨rc, hrc, ⟨l1, _⟩, _⟩ := hrow i y hy
                  rw [← hye, l1, (cells?_some hrc).1])
                (fun i j x hx => (hf (i, j) x hx).1) (fun i j x hx => (hf (i, j) x hx).2)
              rwa [hrl] at this
          · obtain ⟨i, y, hy, hye⟩ := hmem row hr
            obtain ⟨rc, hrc, _, q⟩ := hrow i y hy
            rw [← hye]; exact q
      | array n e =>
        simp only [Bool.and_eq_true, beq_iff_eq, List.contains_iff_mem] at hp
        obtain ⟨he, hc⟩ := hp
        obtain ⟨xs, m, hm, rfl, hlen, m1, m2⟩ := DataW.trod_array hu h
        have : m = fuel := by omega
        subst this
        have hrg : ∀ i : Nat, (rowsD (xs.map (·.1)))[i]? = (xs[i]?).map fun y => cellsD y.1 := by
          intro i; rw [rowsD_get]; simp
          cases xs[i]? <;> rfl
        have hrl : (rowsD (xs.map (·.1))).length = n := by rw [rowsD_length]; simp [m1]
        have hrow : ∀ (i : Nat) y, xs[i]? = some y → LR w (cellsD y.1) ((cs.drop (i * P.cellsOf e)).take (P.cellsOf e)) ∧ Ty P m e (cellsD y.1) := by
          intro i y hy
          have hi : i < n := by have := getElem?_lt hy; omega
          obtain ⟨q1, q2, _⟩ := ih e _ y he ((m2 i hi).trans hy)
          exact ⟨q1, q2⟩
        refine ⟨?_, ⟨rowsD (xs.map (·.1)), hrl, by simp only [cellsD, partsD_eq], fun row hr => ?_⟩, hlen⟩
        · simp only [cellsD, partsD_eq]
          have hsum : ∀ m : Nat, (List.replicate m (P.cellsOf e)).foldl (· + ·) 0 = m * P.cellsOf e := by
            intro m
            have hf : ∀ (l : List Nat) (a : Nat), l.foldl (· + ·) a = a + l.foldl (· + ·) 0 := by
              intro l
              induction l with
              | nil => intro a; rfl
              | cons x r ih => intro a; simp only [List.foldl_cons]; rw [ih, ih (0 + x)]; omega
            induction m with
            | zero => simp
            | succ m ih => rw [List.replicate_succ, List.foldl_cons, hf, ih, Nat.succ_mul]; omega
          refine LR.rows _ (List.replicate n (P.cellsOf e)) cs (by simp [hrl]) (by rw [hsum, hlen, hc]) fun i row k hr hk => ?_
          rw [hrg] at hr
          obtain ⟨y, hy, rfl⟩ := Option.map_eq_some_iff.mp hr
          have hi : i < n := by have := getElem?_lt hy; omega
          rw [List.getElem?_replicate, if_pos hi] at hk
          cases hk
          rw [List.take_replicate, show min i n = i by omega, hsum]
          exact (hrow i y hy).1
        · obtain ⟨i, hi, rfl⟩ := List.getElem_of_mem hr
          have h1 : (rowsD (xs.map (·.1)))[i]? = some ((rowsD (xs.map (·.1)))[i]) := List.getElem?_eq_getElem hi
          rw [hrg] at h1
          obtain ⟨y, hy, hye⟩ := Option.map_eq_some_iff.mp h1
          rw [← hye]; exact (hrow i y hy).2
      | struct fs =>
        rw [Bool.and_eq_true, List.all_eq_true, beq_iff_eq] at hp
        obtain ⟨hfs0, hoff⟩ := hp
        have hfs : ∀ f ∈ fs.toList, f.type ∈ S := fun f hf => by simpa using hfs0 f hf
        obtain ⟨xs, m, hm, rfl, hlen, m1, m2⟩ := DataW.trod_struct hu h
        have : m = fuel := by omega
        subst this
        have hrg : ∀ i : Nat, (rowsD (xs.map (·.1)))[i]? = (xs[i]?).map fun y => cellsD y.1 := by
          intro i; rw [rowsD_get]; simp
          cases xs[i]? <;> rfl
        have hrl : (rowsD (xs.map (·.1))).length = fs.toList.length := by rw [rowsD_length]; simp [m1]
        have hrow : ∀ (i : Nat) y f, xs[i]? = some y → fs.toList[i]? = some f → LR w (cellsD y.1) ((cs.drop f.offset).take (P.cellsOf f.type)) ∧ Ty P m f.type (cellsD y.1) := by
          intro i y f hy hf
          obtain ⟨q1, q2, _⟩ := ih f.type _ y (hfs f (List.mem_of_getElem? hf)) ((m2 i f (by simpa using hf)).trans hy)
          exact ⟨q1, q2⟩
        -- the offsets are sums
        have hgen : ∀ (l : List Field) (o tot : Nat), l.foldl (fun (acc : Option Nat) f => acc.bind fun o => if f.offset == o then some (o + P.cellsOf f.type) else none) (some o) = some tot →
            tot = o + (l.map fun f => P.cellsOf f.type).foldl (· + ·) 0 ∧ ∀ (i : Nat) f, l[i]? = some f → f.offset = o + ((l.map fun f => P.cellsOf f.type).take i).foldl (· + ·) 0 := by
          have hf : ∀ (l : List Nat) (a : Nat), l.foldl (· + ·) a = a + l.foldl (· + ·) 0 := by
            intro l
            induction l with
            | nil => intro a; rfl
            | cons x r ih => intro a; simp only [List.foldl_cons]; rw [ih, ih (0 + x)]; omega
          have hnone : ∀ l : List Field, l.foldl (fun (acc : Option Nat) f => acc.bind fun o => if f.offset == o then some (o + P.cellsOf f.type) else none) none = none := by
            intro l; induction l with
            | nil => rfl
            | cons f r ih => simpa using ih
          intro l
          induction l with
          | nil => intro o tot h; simp at h; subst h; simp
          | cons f r ihl =>
            intro o tot h
            simp only [List.foldl_cons, Option.bind_some] at h
            split at h
            · rename_i ho
              obtain ⟨e1, e2⟩ := ihl _ _ h
              refine ⟨by simp only [List.map_cons, List.foldl_cons]; rw [hf]; omega, fun i g hg => ?_⟩
              cases i with
              | zero => simp at hg ho; subst hg; simpa using ho
              | succ i =>
                simp at hg
                have := e2 i g hg
                simp only [List.map_cons, List.take_succ_cons, List.foldl_cons]
                rw [hf]; omega
            · rw [hnone] at h; cases h
        obtain ⟨g1, g2⟩ := hgen fs.toList 0 _ hoff
        refine ⟨?_, ⟨rowsD (xs.map (·.1)), by simpa using hrl, by simp only [cellsD, partsD_eq], fun i f row hf hr => ?_⟩, hlen⟩
        · simp only [cellsD, partsD_eq]
          refine LR.rows _ (fs.toList.map fun f => P.cellsOf f.type) cs (by simpa using hrl) (by omega) fun i row k hr hk => ?_
          rw [hrg] at hr
          obtain ⟨y, hy, rfl⟩ := Option.map_eq_some_iff.mp hr
          simp only [List.getElem?_map, Option.map_eq_some_iff] at hk
          obtain ⟨f, hf, rfl⟩ := hk
          have := g2 i f hf
          rw [Nat.zero_add] at this
          rw [← this]
          exact (hrow i y f hy hf).1
        · rw [hrg] at hr
          obtain ⟨y, hy, rfl⟩ := Option.map_eq_some_iff.mp hr
          exact (hrow i y f hy (by simpa using hf)).2
      | _ => simp at hp

end
end Go.Proofs.YtjpphhcimpclpaaDoor.AM
end

section
set_option linter.unusedVariables false
set_option linter.unusedSimpArgs false
namespace Go.Proofs.YtjpphhcimpclpaaDoor.AM
open Go Go.ChangeShapes Go.WideShapes Go.RowKit

def aggT (P : Program) (t : Nat) : Bool := match P.underlying t with | some (.struct _) | some (.array _ _) => true | _ => false

/-- An argument out of its cells. -/
def argA (P : Program) (t : Nat) (xs : List PV) : AV :=
  if aggT P t then .agg (xs.map .p) else match xs with | x :: _ => .p x | [] => .undef

section
variable {P : Program} {G : Nat → Option (List PV)} {H : Type} {enc : TypeId × Value → H}

/-- 'ChangeSpec.post' where all that was there is as it was. (After the guide's 'post_of_below', howto/extra-small.md, section 9.) -/
theorem post_of_below {f : Func} {s : ChangeSpec} {apart fresh handsOn again : Bool} {W W' : World} {args : Array Value} {v : Value} {ds gs : List (DataW H)} {before pa pv : List MemPlace}
    (hW : DataW.Whole enc P f.params.toList s.vars apart W args.toList ds gs before)
    (hres : ∀ (b : Nat) (sp : Nat → Bool) (hd : Bool), DataW.TrodAll enc P W' b sp hd f.resultTypes.toList (v.resultList f.resultTypes.size) (s.fn H (ds ++ gs)).results [])
    (hargs : ∀ sp : Nat → Bool, (∀ p ∈ before, sp p.block = true) → DataW.TrodAll enc P W' 0 sp true f.params.toList args.toList (s.fn H (ds ++ gs)).args pa)
    (hvars : ∀ sp : Nat → Bool, (∀ p ∈ before, sp p.block = true) → DataW.TrodVars enc P W' sp s.vars (s.fn H (ds ++ gs)).vars pv)
    (hps : before = pa ++ pv) (hb : Below W.heap.size W W')
    (hok : ∀ (j : Nat) (t : TypeId) (r : Value), f.resultTypes[j]? = some t → (v.resultList f.resultTypes.size)[j]? = some r → Value.okWide P W' .any 0 t r) :
    s.post enc P f apart fresh handsOn again W args v W' := by
  have hlt : ∀ p ∈ before, p.block < W.heap.size := fun p hp => hW.lt p hp
  have hold : ∀ p ∈ before, (fun b => decide (b < W.heap.size)) p.block = true := fun p hp => by simpa using hlt p hp
  refine ⟨ds, gs, before, [], pa, pv, hW, hres _ _ _, hargs _ hold, hvars _ hold, World.keptBut_mono (fun p hp => ⟨hp, ?_⟩) (hb.frame (· ∈ before)), fun _ => ?_⟩
  · rw [hps, List.mem_append] at hp
    exact Or.inr hp
  · obtain ⟨_, _, _, _, _, hz, hn⟩ := hW
    refine ⟨hok, _, _, ([] ++ pa) ++ pv, ⟨[] ++ pa, pv, trodAll_append (hargs _ (fun _ _ => rfl)) (hres _ _ _), hvars _ (fun _ _ => rfl), rfl, ?_, ?_⟩, ?_⟩
    · intro b off hp
      have hin : MemPlace.cell b off ∈ before := by rw [hps]; simpa using hp
      rw [hb.frozen (hlt _ hin)]
      exact hz b off hin
    · intro ha
      have := hn ha
      rw [hps] at this
      simpa using this
    · intro p hp _
      rw [hps]
      simpa using hp

theorem own_nil {ι : Nat → Nat × Nat} {k : Nat} : ¬ own ι [] k := fun ⟨b, bk, h, _⟩ => by simp at h

theorem PRel.weak {w : World} {o : Nat → Prop} {x : PV} {v : Value} (h : PRel w (fun _ => False) x v) (ho : ∀ k, ¬ o k) : PRel w o x v :=
  h.mono (Nat.le_refl _) fun k _ _ => ⟨rfl, ho k⟩

theorem arg_rel {W : World} {S : List Nat} (hS : plainB P S = true) {t : Nat} (ht : t ∈ S) {sp : Nat → Bool} {held : Bool} {v : Value} {d : DataW H} {ps : List MemPlace} (hd : DataW.Trod enc P W 0 sp held t v d ps)
    {r : Reach} {b0 : Nat} (hok : Value.okWide P W r b0 t v) (ι : Nat → Nat × Nat) : VRel ι [] W (argA P t (cellsD d)) v ∧ ∃ fuel, Ty P fuel t (cellsD d) := by
  obtain ⟨fuel, hf⟩ := hd
  obtain ⟨⟨l1, l2⟩, hty, hlen⟩ := trodPV hS fuel t _ _ ht hf
  refine ⟨?_, fuel, hty⟩
  unfold argA aggT
  unfold Value.okWide at hok
  have hpl : plainT P S t = true := by
    have : ∀ t ∈ S, plainT P S t = true := by simpa [plainB] using hS
    exact this t ht
  unfold plainT at hpl
  have agg : ∀ cs, v = .agg cs → VRel ι [] W (.agg ((cellsD d).map .p)) v := by
    intro cs hc
    subst hc
    refine .agg _ _ (by simpa [Value.cells] using l1) fun i x u hx hu => ?_
    simp only [List.getElem?_map, Option.map_eq_some_iff] at hx
    obtain ⟨y, hy, rfl⟩ := hx
    exact .p _ _ ((l2 i y u hy (by simpa [Value.cells] using hu)).weak fun _ => own_nil)
  cases hu : P.underlying t with
  | none => rw [hu] at hpl; simp at hpl
  | some D =>
    rw [hu] at hok hpl
    have one : P.cellsOf t = 1 → (∀ cs, v ≠ .agg cs) → VRel ι [] W (match cellsD d with | x :: _ => .p x | [] => .undef) v := by
      intro h1 hna
      have hc : v.cells = #[v] := by cases v <;> first | rfl | exact absurd rfl (hna _)
      rw [hc] at l1 l2
      match hq : cellsD d, l1, l2 with
      | [x], l1, l2 => exact .p _ _ ((l2 0 x v rfl rfl).weak fun _ => own_nil)
      | [], l1, _ => simp at l1
      | _ :: _ :: _, l1, _ => simp at l1
    cases D with
    | struct fs => obtain ⟨cs, hc, _⟩ := hok; simpa using agg cs hc
    | array n e => obtain ⟨cs, hc, _⟩ := hok; simpa using agg cs hc
    | bool => simpa using one (by simpa using hpl) (fun cs e => by subst e; simp [Cell.okWide, hu, Cell.ok] at hok)
    | int k => simpa using one (by simpa using hpl) (fun cs e => by subst e; simp [Cell.okWide, hu, Cell.ok] at hok)
    | string => simpa using one (by simpa using hpl) (fun cs e => by subst e; simp [Cell.okWide, hu, Cell.ok] at hok)
    | slice e => 
      have h1 : P.cellsOf t = 1 := by simp only [Bool.and_eq_true, beq_iff_eq] at hpl; exact hpl.2
      simpa using one h1 (fun cs e => by subst e; simp [Cell.okWide, hu, Cell.ok] at hok)
    | _ => simp at hpl

theorem args_rel {W : World} {S : List Nat} (hS : plainB P S = true) {sp : Nat → Bool} {held : Bool} {r : Reach} {b0 : Nat} (ι : Nat → Nat × Nat) :
    ∀ (ts : List Nat) (vs : List Value) (ds : List (DataW H)) (ps : List MemPlace), (∀ t ∈ ts, t ∈ S) → DataW.TrodAll enc P W 0 sp held ts vs ds ps →
      (∀ (j : Nat) t v, ts[j]? = some t → vs[j]? = some v → Value.okWide P W r b0 t v) →
      ds.length = ts.length ∧ vs.length = ts.length ∧ (∀ (j : Nat) t v d, ts[j]? = some t → vs[j]? = some v → ds[j]? = some d → VRel ι [] W (argA P t (cellsD d)) v ∧ ∃ fuel, Ty P fuel t (cellsD d))
  | [], [], [], ps, _, h, _ => ⟨rfl, rfl, fun j t v d ht => by simp at ht⟩
  | t :: ts, v :: vs, d :: ds, ps, hin, h, hok => by
    obtain ⟨p, q, h1, h2, rfl⟩ := h
    obtain ⟨l1, l2, l3⟩ := args_rel hS ι ts vs ds q (fun t ht => hin t (by simp [ht])) h2 (fun j t v ht hv => hok (j + 1) t v (by simpa using ht) (by simpa using hv))
    refine ⟨by simp [l1], by simp [l2], fun j t' v' d' ht hv hd => ?_⟩
    cases j with
    | zero =>
      simp at ht hv hd
      subst ht; subst hv; subst hd
      exact arg_rel hS (hin t (by simp)) h1 (hok 0 t v rfl rfl) ι
    | succ j => simp at ht hv hd; exact l3 j t' v' d' ht hv hd
  | [], [], _ :: _, _, _, h, _ => h.elim
  | [], _ :: _, _, _, _, h, _ => h.elim
  | _ :: _, [], _, _, _, h, _ => h.elim
  | _ :: _, _ :: _, [], _, _, h, _ => h.elim

theorem args_stay {W W' : World} (hl : laidOutB P = true) (hb : Below W.heap.size W W') {sp' : Nat → Bool} : ∀ (ts : List Nat) (vs : List Value) (ds : List (DataW H)) (ps : List MemPlace),
    (∀ t ∈ ts, P.readableRec t = true ∧ t < P.types.size) → DataW.TrodAll enc P W 0 (fun _ => true) true ts vs ds ps → (∀ p ∈ ps, p.block < W.heap.size) → (∀ p ∈ ps, sp' p.block = true) →
      DataW.TrodAll enc P W' 0 sp' true ts vs ds ps
  | [], [], [], ps, _, h, _, _ => h
  | t :: ts, v :: vs, d :: ds, ps, hin, h, hlt, hsp => by
    obtain ⟨p, q, h1, h2, rfl⟩ := h
    obtain ⟨r1, r2⟩ := hin t (by simp)
    exact ⟨p, q, WideElems.Trod_stays hl r1 r2 h1 (fun x hx => hb.same (hlt x (by simp [hx]))) (fun x hx => hsp x (by simp [hx])),
      args_stay hl hb ts vs ds q (fun t ht => hin t (by simp [ht])) h2 (fun x hx => hlt x (by simp [hx])) (fun x hx => hsp x (by simp [hx])), rfl⟩
  | [], [], _ :: _, _, _, h, _, _ => h.elim
  | [], _ :: _, _, _, _, h, _, _ => h.elim
  | _ :: _, [], _, _, _, h, _, _ => h.elim
  | _ :: _, _ :: _, [], _, _, h, _, _ => h.elim

/-- **A LAW**: from what abstract calls of it come to, what its row asks of each call. -/
theorem law_contract {f : FuncId} {fn : Func} {S : List Nat} (hS : plainB P S = true) (hl : laidOutB P = true) {ts : List Nat} (hts : fn.params.toList = ts) (hin : ∀ t ∈ ts, t ∈ S) (hrd : ∀ t ∈ ts, P.readableRec t = true ∧ t < P.types.size)
    {bt : Nat} (hres : fn.resultTypes = #[bt]) (hbt : P.underlying bt = some .bool)
    {s : ChangeSpec} (hsv : s.vars = []) (hsf : ∀ (H : Type) (ds : List (DataW H)), ds.length = ts.length → s.fn H ds = { results := [.lit (.bool true)], args := ds })
    (hlaw : ∀ xss : List (List PV), xss.length = ts.length → (∀ (j : Nat) t xs, ts[j]? = some t → xss[j]? = some xs → ∃ fuel, Ty P fuel t xs) →
      ACalls P G f (List.zipWith (argA P) ts xss) [] fun r h' => r = .b true ∧ h' = [])
    {apart fresh handsOn again : Bool} {W : World} (hG : ∀ g cells, G g = some cells → PinRel W (fun _ => False) cells g 0) {base : Nat} {args : Array Value} {ds gs : List (DataW H)} {before : List MemPlace}
    (hval : ∀ (j : Nat) t v, fn.params[j]? = some t → args[j]? = some v → Value.okWide P W .any base t v)
    (hW : DataW.Whole enc P fn.params.toList s.vars apart W args.toList ds gs before) :
    Calls P f args W fun e W' => ∃ v, e = .returned v ∧ s.post enc P fn apart fresh handsOn again W args v W' := by
  have hW' := hW
  obtain ⟨p, q, hA, hV, hps, hfz, hnd⟩ := hW
  rw [hsv] at hV
  obtain ⟨rfl, rfl⟩ := trodVars_none hV
  rw [hts] at hA
  obtain ⟨l1, l2, l3⟩ := args_rel hS (fun _ => (0, 0)) ts args.toList ds p hin hA (fun j t v ht hv => hval j t v (by rw [← hts] at ht; simpa using ht) (by simpa using hv))
  have hSim : SimH P G (fun _ => (0, 0)) [] W := ⟨⟨fun b bk hb => by simp at hb, fun b b' bk bk' hb => by simp at hb⟩, fun g cells hg => (hG g cells hg).mono (Nat.le_refl _) fun k _ _ => ⟨rfl, own_nil⟩⟩
  have hcall := hlaw (ds.map cellsD) (by simp [l1]) (fun j t xs ht hx => by
    simp only [List.getElem?_map, Option.map_eq_some_iff] at hx
    obtain ⟨d, hd, rfl⟩ := hx
    have hj : j < args.toList.length := by have := getElem?_lt ht; omega
    exact (l3 j t args.toList[j] d ht (List.getElem?_eq_getElem hj) hd).2) (fun _ => (0, 0)) W args hSim ⟨by simp [l1]; simpa using l2.symm, fun i x v hx hv => by
      simp only [List.getElem?_zipWith, List.getElem?_map] at hx
      cases ht : ts[i]? with
      | none => simp [ht] at hx
      | some t =>
        cases hd : ds[i]? with
        | none => simp [ht, hd] at hx
        | some d =>
          simp [ht, hd] at hx
          rw [← hx]
          exact (l3 i t v d ht (by simpa using hv) hd).1⟩
  refine hcall.mono fun e W' ⟨v, r, h', ι', he, ⟨hr, hh⟩, hS', hv, hev⟩ => ⟨v, he, ?_⟩
  subst hr
  subst hh
  have := hv.bool_inv
  subst this
  have hb : Below W.heap.size W W' := ⟨hev.os, hev.tape, hev.output, hev.size, fun k hk => (hev.keep k hk own_nil).1⟩
  have hbefore : before = p := by simpa using hps
  have hfn : s.fn H (ds ++ []) = { results := [.lit (.bool true)], args := ds } := by rw [List.append_nil]; exact hsf H ds l1
  have hlt : ∀ x ∈ before, x.block < W.heap.size := fun x hx => hW'.lt x hx
  refine post_of_below (pa := p) (pv := []) hW' (fun b sp hd => ?_) (fun sp hsp => ?_) (fun sp _ => ?_) (by simpa using hps) hb ?_
  · rw [hfn, hres]
    exact trodAll_mk1 (shut_bool hbt true)
  · rw [hfn, hts]
    exact args_stay hl hb ts args.toList ds p hrd hA (fun x hx => hlt x (by rw [hbefore]; exact hx)) (fun x hx => hsp x (by rw [hbefore]; exact hx))
  · rw [hfn, hsv]; rfl
  · exact ok_one hres rfl (okWide_bool_mk hbt true)

/-- A listed variable, as a place of lasting cells. -/
theorem laid_pin {W : World} {S : List Nat} (hS : plainB P S = true) {name : String} {D : DataW Unit} {g0 t0 : Nat} (hg : P.globalNamed name = some g0) (ht : (P.globals[g0]?).map (·.type) = some t0) (hin : t0 ∈ S)
    (hpos : cellsD D ≠ []) (h : ∃ g t cs fuel sp held p, P.globalNamed name = some g ∧ (P.globals[g]?).map (·.type) = some t ∧ W.var? P name = some cs ∧ DataW.trod (fun _ => ()) P W 0 sp held fuel t cs.toList = some (D, p)) :
    PinRel W (fun _ => False) (cellsD D) g0 0 := by
  obtain ⟨g, t, cs, fuel, sp, held, p, e1, e2, e3, e4⟩ := h
  obtain rfl := Option.some.inj (hg.symm.trans e1)
  obtain rfl := Option.some.inj (ht.symm.trans e2)
  obtain ⟨⟨l1, l2⟩, _, _⟩ := trodPV hS fuel t0 _ _ hin e4
  have hcell : ∀ i : Nat, W.cell? ⟨g0, i, none⟩ = cs[i]? := fun i => World.var?_cell e1 e3 i
  refine ⟨fun h => h, ?_, fun j x hx => ?_⟩
  · have h0 : 0 < cs.toList.length := by
      rw [← l1]; exact List.length_pos_iff.mpr hpos
    have hc : W.cell? ⟨g0, 0, none⟩ = some (cs[0]'(by simpa using h0)) := by rw [hcell]; simp
    exact block_lt_of_cell hc
  · have hj : j < cs.toList.length := Nat.lt_of_lt_of_eq (getElem?_lt hx) l1
    refine ⟨cs.toList[j], by rw [Nat.zero_add, hcell]; simp, l2 j x _ hx (by simp)⟩

end
end Go.Proofs.YtjpphhcimpclpaaDoor.AM
end

section
set_option linter.unusedVariables false
set_option linter.unusedSimpArgs false
namespace Go.Proofs.YtjpphhcimpclpaaDoor.AM
open Go

section
variable {P : Program}

theorem ty_int {k : IntKind} {a b : Nat} {z : Option (List PV)} {t fuel : Nat} {xs : List PV} (ht : tinfo P t = some ⟨.int k, a, b, z⟩) (h : Ty P fuel t xs) : ∃ n, InRange k n ∧ xs = [.int k n] := by
  obtain ⟨_, d, _, h2, h3, _⟩ := tinfo_some ht
  have := kind_int h3; subst this
  cases fuel with
  | zero => exact h.elim
  | succ m => unfold Ty at h; rw [h2] at h; exact h

theorem ty_bool {a b : Nat} {z : Option (List PV)} {t fuel : Nat} {xs : List PV} (ht : tinfo P t = some ⟨.bool, a, b, z⟩) (h : Ty P fuel t xs) : ∃ x, xs = [.bool x] := by
  obtain ⟨_, d, _, h2, h3, _⟩ := tinfo_some ht
  have := kind_bool h3; subst this
  cases fuel with
  | zero => exact h.elim
  | succ m => unfold Ty at h; rw [h2] at h; exact h

theorem ty_slice {e a b : Nat} {z : Option (List PV)} {t fuel : Nat} {xs : List PV} (ht : tinfo P t = some ⟨.slice e, a, b, z⟩) (h : Ty P fuel t xs) : ∃ (m : Nat) (rows : List (List PV)), fuel = m + 1 ∧ xs = [.sl rows] ∧ ∀ row ∈ rows, Ty P m e row := by
  obtain ⟨_, d, _, h2, h3, _⟩ := tinfo_some ht
  have := kind_slice h3; subst this
  cases fuel with
  | zero => exact h.elim
  | succ m => unfold Ty at h; rw [h2] at h; obtain ⟨rows, h1, h2⟩ := h; exact ⟨m, rows, rfl, h1, h2⟩

theorem ty_array {n e a b : Nat} {z : Option (List PV)} {t fuel : Nat} {xs : List PV} (ht : tinfo P t = some ⟨.array n e, a, b, z⟩) (h : Ty P fuel t xs) : ∃ (m : Nat) (rows : List (List PV)), fuel = m + 1 ∧ rows.length = n ∧ xs = rows.flatMap id ∧ ∀ row ∈ rows, Ty P m e row := by
  obtain ⟨_, d, _, h2, h3, _⟩ := tinfo_some ht
  have := kind_array h3; subst this
  cases fuel with
  | zero => exact h.elim
  | succ m => unfold Ty at h; rw [h2] at h; obtain ⟨rows, h1, h2, h3⟩ := h; exact ⟨m, rows, rfl, h1, h2, h3⟩

theorem ty_struct {fs : List (Nat × Nat × Nat)} {a b : Nat} {z : Option (List PV)} {t fuel : Nat} {xs : List PV} (ht : tinfo P t = some ⟨.struct fs, a, b, z⟩) (h : Ty P fuel t xs) :
    ∃ (m : Nat) (rows : List (List PV)), fuel = m + 1 ∧ rows.length = fs.length ∧ xs = rows.flatMap id ∧ ∀ (i : Nat) f row, fs[i]? = some f → rows[i]? = some row → Ty P m f.2.2 row := by
  obtain ⟨_, d, _, h2, h3, _⟩ := tinfo_some ht
  obtain ⟨F, rfl, h4⟩ := kind_struct h3
  cases fuel with
  | zero => exact h.elim
  | succ m =>
    unfold Ty at h
    rw [h2] at h
    obtain ⟨rows, g1, g2, g3⟩ := h
    refine ⟨m, rows, rfl, by rw [h4]; simpa using g1, g2, fun i f row hf hr => ?_⟩
    rw [h4] at hf
    simp only [List.getElem?_map, Option.map_eq_some_iff] at hf
    obtain ⟨fd, hfd, rfl⟩ := hf
    exact g3 i fd row (by simpa using hfd) hr

/-- Rows of numbers. -/
theorem ty_ints {k : IntKind} {a b : Nat} {z : Option (List PV)} {e m : Nat} (ht : tinfo P e = some ⟨.int k, a, b, z⟩) : ∀ (rows : List (List PV)), (∀ row ∈ rows, Ty P m e row) → ∃ l : List Int, l.length = rows.length ∧ (∀ n ∈ l, InRange k n) ∧ rows = l.map fun n => [.int k n]
  | [], _ => ⟨[], rfl, by simp, rfl⟩
  | r :: rows, h => by
    obtain ⟨n, hn, rfl⟩ := ty_int ht (h r (by simp))
    obtain ⟨l, h1, h2, h3⟩ := ty_ints ht rows fun row hr => h row (by simp [hr])
    exact ⟨n :: l, by simp [h1], by simpa using ⟨hn, h2⟩, by simp [h3]⟩

theorem flat_ints {k : IntKind} (l : List Int) : (l.map fun n => [PV.int k n]).flatMap id = l.map (.int k) := by
  induction l with
  | nil => rfl
  | cons x r ih => simp only [List.map_cons, List.flatMap_cons, ih]; rfl

/-- An array of numbers. -/
theorem ty_intarr {k : IntKind} {a b a' b' n e t fuel : Nat} {z z' : Option (List PV)} {xs : List PV} (hta : tinfo P t = some ⟨.array n e, a, b, z⟩) (ht : tinfo P e = some ⟨.int k, a', b', z'⟩) (h : Ty P fuel t xs) :
    ∃ l : List Int, l.length = n ∧ (∀ x ∈ l, InRange k x) ∧ xs = l.map (.int k) := by
  obtain ⟨m, rows, rfl, h1, rfl, h3⟩ := ty_array hta h
  obtain ⟨l, g1, g2, g3⟩ := ty_ints ht rows h3
  exact ⟨l, by omega, g2, by rw [g3, flat_ints]⟩

theorem argA_at {i : TI} {t : Nat} (ht : tinfo P t = some i) (xs : List PV) : argA P t xs = if i.isAgg then .agg (xs.map .p) else match xs with | x :: _ => .p x | [] => .undef := by
  obtain ⟨_, d, _, h2, h3, _⟩ := tinfo_some ht
  have : aggT P t = i.isAgg := by
    unfold aggT TI.isAgg
    rw [h2, ← h3]
    cases d <;> rfl
  unfold argA
  rw [this]
  all_goals (cases xs <;> rfl)
end
end Go.Proofs.YtjpphhcimpclpaaDoor.AM
end

section
set_option linter.unusedVariables false
set_option linter.unusedSimpArgs false
set_option maxRecDepth 4000
namespace Go.Proofs.YtjpphhcimpclpaaDoor.AM
open Go Go.Proofs Go.ChangeShapes Go.WideShapes Go.RowKit

theorem words_plain : plainB Tryd.prog [3, 9, 158, 159] = true := by kernel_rfl

theorem gW_pin {W : World} (h : laidMetH Tryd.prog [("treenail/term.words", Rows.laid_treenail_term_words)] W) : ∀ g cells, gW g = some cells → PinRel W (fun _ => False) cells g 0 := by
  intro g cells hg
  unfold gW at hg
  split at hg
  · rename_i e
    cases hg
    subst e
    rw [MakeChecks.laidMetH_plain _ _ _ (by kernel_rfl)] at h
    obtain ⟨ps, ⟨g0, t0, cs0, f0, p0, q0, hg0, ht0, hv0, hd0, _⟩, _⟩ := h
    have e : cellsD (Rows.laid_treenail_term_words : DataW Unit) = wcells := by kernel_rfl
    rw [← e]
    exact laid_pin words_plain (name := "treenail/term.words") (t0 := 159) (by kernel_rfl) (by kernel_rfl) (by decide) (by rw [e]; unfold wcells; simp) ⟨g0, t0, cs0, f0, _, _, p0, hg0, ht0, hv0, hd0⟩
  · cases hg

/-- Typed cells of a term are a term. -/
theorem term_of : ∀ (fuel : Nat) (xs : List PV), Ty Tryd.prog fuel 58 xs → ∃ t : Tm, xs = eT t
  | 0, xs, h => h.elim
  | fuel + 1, xs, h => by
    obtain ⟨m, rows, e, hl, rfl, hf⟩ := ty_struct T58 h
    match rows, hl with
    | [r0, r1, r2], _ =>
      have h0 : Ty Tryd.prog m 3 r0 := hf 0 _ r0 rfl rfl
      have h1 : Ty Tryd.prog m 3 r1 := hf 1 _ r1 rfl rfl
      have h2 : Ty Tryd.prog m 56 r2 := hf 2 _ r2 rfl rfl
      obtain ⟨o, _, rfl⟩ := ty_int T3 h0
      obtain ⟨n, _, rfl⟩ := ty_int T3 h1
      obtain ⟨m', rows, e2, rfl, hr⟩ := ty_slice T56 h2
      have key : ∀ rows : List (List PV), (∀ row ∈ rows, Ty Tryd.prog m' 58 row) → ∃ ks : List Tm, rows = ks.map eT := by
        intro rows
        induction rows with
        | nil => intro _; exact ⟨[], rfl⟩
        | cons r rs ih =>
          intro hh
          obtain ⟨t, ht⟩ := term_of m' r (hh r (by simp))
          obtain ⟨ks, hks⟩ := ih fun row hrow => hh row (by simp [hrow])
          exact ⟨t :: ks, by rw [ht, hks]; rfl⟩
      obtain ⟨ks, hks⟩ := key rows hr
      refine ⟨.mk o n ks, ?_⟩
      rw [hks]
      simp [eT]
termination_by fuel => fuel
decreasing_by omega

theorem rows_of {α : Type} {e : α → List PV} {p : List PV → Prop} (h : ∀ row, p row → ∃ a, row = e a) : ∀ rows : List (List PV), (∀ row ∈ rows, p row) → ∃ l : List α, rows = l.map e
  | [], _ => ⟨[], rfl⟩
  | r :: rs, hr => by
    obtain ⟨a, ha⟩ := h r (hr r (by simp))
    obtain ⟨l, hl⟩ := rows_of h rs fun row hrow => hr row (by simp [hrow])
    exact ⟨a :: l, by rw [ha, hl]; rfl⟩

theorem node_of {fuel : Nat} {xs : List PV} (h : Ty Tryd.prog fuel 60 xs) : ∃ k : Nd, xs = eN k := by
  obtain ⟨m, rows, e, hl, rfl, hf⟩ := ty_struct T60 h
  match rows, hl with
  | [r0, r1, r2], _ =>
    have h0 : Ty Tryd.prog m 3 r0 := hf 0 _ r0 rfl rfl
    have h1 : Ty Tryd.prog m 3 r1 := hf 1 _ r1 rfl rfl
    have h2 : Ty Tryd.prog m 58 r2 := hf 2 _ r2 rfl rfl
    obtain ⟨o, _, rfl⟩ := ty_int T3 h0
    obtain ⟨n, _, rfl⟩ := ty_int T3 h1
    obtain ⟨t, rfl⟩ := term_of _ _ h2
    exact ⟨⟨o, n, t⟩, by simp [eN, eT_eq]⟩

theorem flow_of {fuel : Nat} {xs : List PV} (h : Ty Tryd.prog fuel 71 xs) : ∃ k : Fl, xs = eF k := by
  obtain ⟨m, rows, e, hl, rfl, hf⟩ := ty_struct T71 h
  match rows, hl with
  | [r0, r1, r2, r3], _ =>
    have h0 : Ty Tryd.prog m 3 r0 := hf 0 _ r0 rfl rfl
    have h1 : Ty Tryd.prog m 3 r1 := hf 1 _ r1 rfl rfl
    have h2 : Ty Tryd.prog m 4 r2 := hf 2 _ r2 rfl rfl
    have h3 : Ty Tryd.prog m 58 r3 := hf 3 _ r3 rfl rfl
    obtain ⟨o, _, rfl⟩ := ty_int T3 h0
    obtain ⟨n, _, rfl⟩ := ty_int T3 h1
    obtain ⟨b, rfl⟩ := ty_bool T4 h2
    obtain ⟨t, rfl⟩ := term_of _ _ h3
    exact ⟨⟨o, n, b, t⟩, by simp [eF, eT_eq]⟩

theorem arg_net {fuel : Nat} {xs : List PV} (h : Ty Tryd.prog fuel 25 xs) : ∃ (ns : List Nd) (fl : List Fl), argA Tryd.prog 25 xs = aNet ns fl := by
  obtain ⟨m, rows, e, hl, rfl, hf⟩ := ty_struct T25 h
  match rows, hl with
  | [r0, r1], _ =>
    have h0 : Ty Tryd.prog m 22 r0 := hf 0 _ r0 rfl rfl
    have h1 : Ty Tryd.prog m 23 r1 := hf 1 _ r1 rfl rfl
    obtain ⟨m0, rows0, _, rfl, hr0⟩ := ty_slice T22 h0
    obtain ⟨m1, rows1, _, rfl, hr1⟩ := ty_slice T23 h1
    obtain ⟨ns, rfl⟩ := rows_of (fun row hrow => node_of hrow) rows0 hr0
    obtain ⟨fl, rfl⟩ := rows_of (fun row hrow => flow_of hrow) rows1 hr1
    exact ⟨ns, fl, by rw [argA_at T25]; rfl⟩
end Go.Proofs.YtjpphhcimpclpaaDoor.AM
end

section
set_option linter.unusedVariables false
set_option linter.unusedSimpArgs false
namespace Go.Proofs.YtjpphhcimpclpaaDoor.AM
open Go

/-! ### Equality, told by a program -/
mutual
def pvEq : PV → PV → Bool
  | .int k n, .int k' n' => decide (k = k') && decide (n = n')
  | .bool a, .bool b => a == b
  | .str s, .str t => decide (s = t)
  | .nils, .nils => true
  | .nilp, .nilp => true
  | .nilf, .nilf => true
  | .sl r, .sl r' => pvEqR r r'
  | _, _ => false
def pvEqL : List PV → List PV → Bool
  | [], [] => true
  | x :: r, y :: r' => pvEq x y && pvEqL r r'
  | _, _ => false
def pvEqR : List (List PV) → List (List PV) → Bool
  | [], [] => true
  | x :: r, y :: r' => pvEqL x y && pvEqR r r'
  | _, _ => false
end

mutual
theorem pvEq_eq : ∀ (x y : PV), pvEq x y = true → x = y
  | .int k n, y, h => by cases y <;> simp [pvEq] at h; rw [h.1, h.2]
  | .bool a, y, h => by cases y <;> simp [pvEq] at h; rw [h]
  | .str s, y, h => by cases y <;> simp [pvEq] at h; rw [h]
  | .nils, y, h => by cases y <;> simp [pvEq] at h; rfl
  | .nilp, y, h => by cases y <;> simp [pvEq] at h; rfl
  | .nilf, y, h => by cases y <;> simp [pvEq] at h; rfl
  | .sl r, y, h => by
    cases y with
    | sl r' => simp only [pvEq] at h; rw [pvEqR_eq r r' h]
    | _ => simp [pvEq] at h
theorem pvEqL_eq : ∀ (x y : List PV), pvEqL x y = true → x = y
  | [], y, h => by cases y <;> simp [pvEqL] at h; rfl
  | a :: r, y, h => by
    cases y with
    | nil => simp [pvEqL] at h
    | cons b r' => simp only [pvEqL, Bool.and_eq_true] at h; rw [pvEq_eq a b h.1, pvEqL_eq r r' h.2]
theorem pvEqR_eq : ∀ (x y : List (List PV)), pvEqR x y = true → x = y
  | [], y, h => by cases y <;> simp [pvEqR] at h; rfl
  | a :: r, y, h => by
    cases y with
    | nil => simp [pvEqR] at h
    | cons b r' => simp only [pvEqR, Bool.and_eq_true] at h; rw [pvEqL_eq a b h.1, pvEqR_eq r r' h.2]
end

mutual
def avEq : AV → AV → Bool
  | .p x, .p y => pvEq x y
  | .agg l, .agg l' => avEqL l l'
  | .tup l, .tup l' => avEqL l l'
  | .fn f l, .fn f' l' => decide (f = f') && avEqL l l'
  | .ref b g o s n, .ref b' g' o' s' n' => decide (b = b') && (decide (g = g') && (decide (o = o') && (decide (s = s') && decide (n = n'))))
  | .ptr b g o, .ptr b' g' o' => decide (b = b') && (decide (g = g') && decide (o = o'))
  | .pin c, .pin c' => pvEqL c c'
  | _, _ => false
def avEqL : List AV → List AV → Bool
  | [], [] => true
  | x :: r, y :: r' => avEq x y && avEqL r r'
  | _, _ => false
end

mutual
theorem avEq_eq : ∀ (x y : AV), avEq x y = true → x = y
  | .p x, y, h => by cases y <;> simp [avEq] at h; rw [pvEq_eq _ _ h]
  | .agg l, y, h => by cases y <;> simp [avEq] at h; rw [avEqL_eq _ _ h]
  | .tup l, y, h => by cases y <;> simp [avEq] at h; rw [avEqL_eq _ _ h]
  | .fn f l, y, h => by cases y <;> simp [avEq] at h; rw [h.1, avEqL_eq _ _ h.2]
  | .ref b g o s n, y, h => by cases y <;> simp [avEq] at h; obtain ⟨rfl, rfl, rfl, rfl, rfl⟩ := h; rfl
  | .ptr b g o, y, h => by cases y <;> simp [avEq] at h; obtain ⟨rfl, rfl, rfl⟩ := h; rfl
  | .pin c, y, h => by cases y <;> simp [avEq] at h; rw [pvEqL_eq _ _ h]
theorem avEqL_eq : ∀ (x y : List AV), avEqL x y = true → x = y
  | [], y, h => by cases y <;> simp [avEqL] at h; rfl
  | a :: r, y, h => by
    cases y with
    | nil => simp [avEqL] at h
    | cons b r' => simp only [avEqL, Bool.and_eq_true] at h; rw [avEq_eq a b h.1, avEqL_eq r r' h.2]
end

def heapEq : Heap → Heap → Bool
  | [], [] => true
  | none :: r, none :: r' => heapEq r r'
  | some ⟨g, c⟩ :: r, some ⟨g', c'⟩ :: r' => decide (g = g') && (avEqL c c' && heapEq r r')
  | _, _ => false

theorem heapEq_eq : ∀ (x y : Heap), heapEq x y = true → x = y
  | [], y, h => by cases y <;> simp [heapEq] at h; rfl
  | none :: r, y, h => by
    match y, h with
    | none :: r', h => simp only [heapEq] at h; rw [heapEq_eq r r' h]
    | some _ :: r', h => simp [heapEq] at h
    | [], h => simp [heapEq] at h
  | some ⟨g, c⟩ :: r, y, h => by
    match y, h with
    | some ⟨g', c'⟩ :: r', h =>
      simp only [heapEq, Bool.and_eq_true, decide_eq_true_eq] at h
      rw [h.1, avEqL_eq c c' h.2.1, heapEq_eq r r' h.2.2]
    | none :: r', h => simp [heapEq] at h
    | [], h => simp [heapEq] at h

mutual
def avltB (m : Nat) : AV → Bool
  | .p _ => true
  | .agg l => avltsB m l
  | .tup l => avltsB m l
  | .fn _ l => avltsB m l
  | .ref b _ _ _ _ => decide (b < m)
  | .ptr b _ _ => decide (b < m)
  | .pin _ => true
def avltsB (m : Nat) : List AV → Bool
  | [] => true
  | x :: r => avltB m x && avltsB m r
end

mutual
theorem avltB_lt {m : Nat} : ∀ x : AV, avltB m x = true → AVlt m x
  | .p x, _ => .p x
  | .agg l, h => .agg l (avltsB_lt l (by simpa [avltB] using h))
  | .tup l, h => .tup l (avltsB_lt l (by simpa [avltB] using h))
  | .fn f l, h => .fn f l (avltsB_lt l (by simpa [avltB] using h))
  | .ref b g o s n, h => .ref b g o s n (by simpa [avltB] using h)
  | .ptr b g o, h => .ptr b g o (by simpa [avltB] using h)
  | .pin c, _ => .pin c
theorem avltsB_lt {m : Nat} : ∀ l : List AV, avltsB m l = true → ∀ x ∈ l, AVlt m x
  | [], _ => fun x hx => by simp at hx
  | y :: r, h => fun x hx => by
    simp only [avltsB, Bool.and_eq_true] at h
    rcases List.mem_cons.mp hx with e | e
    · rw [e]; exact avltB_lt y h.1
    · exact avltsB_lt r h.2 x e
end

/-! ### What lasts, once more, as a program that the kernel can run -/
def mapO {α β : Type} (f : α → Option β) : List α → Option (List β)
  | [] => some []
  | x :: r => match f x, mapO f r with
    | some y, some ys => some (y :: ys)
    | _, _ => none

def purX (h : Heap) (n : Nat) : Nat → AV → Option PV
  | 0, x => match x with
    | .p .nils => some (.sl [])
    | .p x => some x
    | _ => none
  | fuel + 1, x => match x with
    | .p .nils => some (.sl [])
    | .p x => some x
    | .ref b g off sz len =>
      if len = 0 then some (.sl []) else
      match blkAt h b g with
      | some cells => if n ≤ b ∧ off + len * sz ≤ cells.length then (mapO (purX h n fuel) ((cells.drop off).take (len * sz))).map fun l => .sl (chunk sz len l) else none
      | none => none
    | _ => none

theorem pursX_of {h : Heap} {n fuel : Nat} (hp : ∀ x, pur h n fuel x = purX h n fuel x) : ∀ l, purs h n fuel l = mapO (purX h n fuel) l
  | [] => by unfold purs mapO; rfl
  | x :: r => by unfold purs mapO; rw [hp x, pursX_of hp r]; cases purX h n fuel x <;> cases mapO (purX h n fuel) r <;> rfl

theorem purX_eq (h : Heap) (n : Nat) : ∀ fuel x, pur h n fuel x = purX h n fuel x := by
  intro fuel
  induction fuel with
  | zero =>
    intro x
    cases x with
    | p y => cases y <;> (unfold pur purX; rfl)
    | _ => unfold pur purX; rfl
  | succ fuel ih =>
    intro x
    cases x with
    | p y => cases y <;> (unfold pur purX; rfl)
    | ref b g off sz len =>
      unfold pur purX
      dsimp only
      by_cases h0 : len = 0
      · rw [if_pos h0, if_pos h0]
      · rw [if_neg h0, if_neg h0]
        cases hb : blkAt h b g with
        | none => rfl
        | some cells =>
          dsimp only
          rw [pursX_of ih]
    | _ => unfold pur purX; rfl

def lastAX (h : Heap) (n : Nat) : AV → Option AV
  | .agg cells => (mapO (purX h n 5) cells).map fun l => .agg (l.map .p)
  | .ptr b g off => if b < n then some (.ptr b g off) else none
  | x => (purX h n 5 x).map .p

theorem lastAX_eq (h : Heap) (n : Nat) (x : AV) : lastA h n x = lastAX h n x := by
  cases x with
  | agg cells => unfold lastA lastAX; dsimp only; rw [pursX_of (purX_eq h n 5)]
  | ptr b g off => rfl
  | _ => unfold lastA lastAX; dsimp only; rw [purX_eq]

def lastVX (h : Heap) (n : Nat) : AV → Option AV
  | .tup vs => (mapO (lastAX h n) vs).map .tup
  | x => lastAX h n x

theorem lastAsX (h : Heap) (n : Nat) : ∀ l, lastAs h n l = mapO (lastAX h n) l
  | [] => by unfold lastAs mapO; rfl
  | x :: r => by unfold lastAs mapO; rw [lastAX_eq, lastAsX h n r]; cases lastAX h n x <;> cases mapO (lastAX h n) r <;> rfl

theorem lastVX_eq (h : Heap) (n : Nat) (x : AV) : lastV h n x = lastVX h n x := by
  cases x with
  | tup vs => unfold lastV lastVX; dsimp only; rw [lastAsX]
  | _ => unfold lastV lastVX; exact lastAX_eq h n _

/-! ### The evaluator -/
section
variable (P : Program) (G : Nat → Option (List PV)) (rl : List String)

abbrev Callee := FuncId → List AV → Heap → Option (AV × Heap)

def rExec (call : Callee) (o : Oper) (s : St) : Option (AV × Heap) :=
  match callOf o with
  | some (f, args) =>
    match evalA G s f, evals (evalA G s) args.toList with
    | some (.fn g caps), some xs => call g (xs ++ caps) s.heap
    | _, _ => none
  | none => opA P rl o (evalA G s) s.heap

def rOp (call : Callee) (ops : Array Oper) (o : Oper) (s : St) : Option St :=
  match wantA ops o s with
  | some true => match rExec P G rl call o s with
    | some (r, h') => some (({ s with heap := h' } : St).put o.dst r)
    | none => none
  | some false => some (s.put o.dst .undef)
  | none => none

def rOps (call : Callee) (ops : Array Oper) : List Oper → St → Option St
  | [], s => some s
  | o :: rest, s => match rOp P G rl call ops o s with
    | some s1 => rOps call ops rest s1
    | none => none

def rqOp (call : Callee) (ops : Array Oper) (o : Oper) (s : St) : Option St :=
  match wantA ops o s with
  | some true => match rExec P G rl call o s with
    | some (r, h') => if heapEq h' s.heap then some (s.put o.dst r) else none
    | none => none
  | some false => some (s.put o.dst .undef)
  | none => none

def rqOps (call : Callee) (ops : Array Oper) : List Oper → St → Option St
  | [], s => some s
  | o :: rest, s => match rqOp P G rl call ops o s with
    | some s1 => rqOps call ops rest s1
    | none => none

/-- All that the blocks that are laid by can hold. -/
def cands : List (List PV) → List Heap
  | [] => [[]]
  | z :: rest => (cands rest).flatMap fun R => [some ⟨0, []⟩ :: R, some ⟨1, z.map .p⟩ :: R]

/-- Operations that make a value out of values. -/
def constB (o : Oper) : Bool := match o.op with | .build _ _ | .buildSlice _ _ _ | .binOp _ _ _ _ _ | .unOp _ _ _ | .makeFunc _ _ _ | .index _ _ _ | .field _ _ _ => true | _ => false
def rConst (o : Oper) (fr : Nat → Option AV) (nt : Nat) : Option AV :=
  (opA P rl o (evalA G ⟨fr, nt, []⟩) []).bind fun q => if q.2.isEmpty then some q.1 else none

/-- What a quiet operation yields, whatever the blocks that are laid by can hold. -/
def rStab (call : Callee) (o : Oper) (fr : Nat → Option AV) (nt : Nat) (hp : Heap) (cs : List Heap) : Option AV :=
  match o.op with
  | .load t a => (evalA G ⟨fr, nt, hp⟩ a).bind fun x => loadA P hp t x
  | .indexAddr t a i => (evalA G ⟨fr, nt, hp⟩ a).bind fun x => (evalA G ⟨fr, nt, hp⟩ i).bind fun y => indexAddrA P hp t x y
  | .call ⟨.value f, args, _⟩ => match evalA G ⟨fr, nt, hp⟩ f, evals (evalA G ⟨fr, nt, hp⟩) args.toList, cs with
    | some (.fn g caps), some xs, R0 :: _ => match call g (xs ++ caps) (hp ++ R0) with
      | some (v, _) => if cs.all (fun R => match call g (xs ++ caps) (hp ++ R) with | some (v', h') => avEq v' v && heapEq h' (hp ++ R) | none => false) then some v else none
      | none => none
    | _, _, _ => none
  | _ => if constB o then rConst P G rl o fr nt else none

def rFree (o : Oper) (fr : Nat → Option AV) (nt : Nat) : Option AV :=
  (opA P rl o (evalA G ⟨fr, nt, []⟩) []).bind fun q => if q.2.isEmpty then some q.1 else none

def rTail (call : Callee) (ops : Array Oper) : List Nat → St → Option St
  | [], s => some s
  | k :: rest, s => match ops.toList[k]? with
    | none => none
    | some o =>
      if allocB o then none
      else if effB o then (match rOp P G rl call ops o s with
        | some s1 => rTail call ops rest s1
        | none => none)
      else if heapFree o && (wantA ops o s == some true) then
        (match rFree P G rl o s.fr s.nt with
        | some v => rTail call ops rest (s.put o.dst v)
        | none => none)
      else none

def rDraw (call : Callee) (ops : Array Oper) (fs : List Nat) (nt : Nat) (hp : Heap) (cs : List Heap) : List Nat → (Nat → Option AV) → Heap → Option St
  | [], fr, R => some ⟨fr, nt, hp ++ R⟩
  | k :: rest, fr, R => match ops.toList[k]? with
    | none => none
    | some o =>
      if allocB o then
        (match zeroB P o, R[slotB ops k]?, o.dst with
        | some z, some (some ⟨0, []⟩), some d => if d < nt then rDraw call ops fs nt hp cs rest (upd fr d (.ptr (hp.length + slotB ops k) 1 0)) (R.set (slotB ops k) (some ⟨1, z.map .p⟩)) else none
        | _, _, _ => none)
      else if effB o then rTail P G rl call ops (k :: rest) ⟨fr, nt, hp ++ R⟩
      else if wantA ops o ⟨fr, nt, hp⟩ == some true then
        (match (if (heapFree o || fs.contains k) = true then rFree P G rl o fr nt else rStab P G rl call o fr nt hp cs), o.dst with
        | some v, some d => if d < nt then rDraw call ops fs nt hp cs rest (upd fr d v) R else none
        | _, _ => none)
      else none

/-- Loads and places in slices: they may yield the same whatever the heap. -/
def plainB' (o : Oper) : Bool := match o.op with | .load _ _ | .indexAddr _ _ _ => true | _ => false
def freeL (ops : Array Oper) : List Nat := (List.range ops.size).filter fun k => match ops.toList[k]? with | some o => plainB' o | none => false

def rLoop (step : St → Option (Exit × St)) : Nat → St → Option (Exit × St)
  | 0, _ => none
  | n + 1, s => match step s with
    | some (.normal, s1) => rLoop step n s1
    | r => r

def rCode (call : Callee) (F : Nat) : Code → St → Option (Exit × St)
  | .skip, s => some (.normal, s)
  | .label _, s => some (.normal, s)
  | .region _ ops draw, s =>
    if draw then (if Region.lexB .any ops && (ops.toList.all fun o => !effB o) then (rqOps P G rl call ops ops.toList s).map fun s1 => (.normal, s1)
      else if lexR .any ops [] (List.range ops.size) (Array.replicate ops.size false) then (rDraw P G rl call ops [] s.nt s.heap (cands (zsB P ops)) (List.range ops.size) s.fr (List.replicate (zsB P ops).length (some ⟨0, []⟩))).map fun s1 => (.normal, s1)
      else if lexR .any ops (freeL ops) (List.range ops.size) (Array.replicate ops.size false) then (rDraw P G rl call ops (freeL ops) s.nt s.heap (cands (zsB P ops)) (List.range ops.size) s.fr (List.replicate (zsB P ops).length (some ⟨0, []⟩))).map fun s1 => (.normal, s1) else none)
    else (rOps P G rl call ops ops.toList s).map fun s1 => (.normal, s1)
  | .seq a b, s => match rCode call F a s with
    | some (.normal, s1) => rCode call F b s1
    | r => r
  | .cond c x y, s => match evalA G s c with
    | some (.p (.bool true)) => rCode call F x s
    | some (.p (.bool false)) => rCode call F y s
    | _ => none
  | .block id c, s => match rCode call F c s with
    | some (.exit i, s1) => if i = id then some (.normal, s1) else some (.exit i, s1)
    | r => r
  | .loop c, s => rLoop (rCode call F c) F s
  | .exit id, s => some (.exit id, s)
  | .ret, s => some (.ret, s)
  | _, _ => none

def keptB (h0 : Heap) (n : Nat) : Heap → Nat → Bool
  | [], _ => true
  | none :: r, i => keptB h0 n r (i + 1)
  | some bk :: r, i => ((match h0[i]? with | some (some bk') => heapEq [some bk'] [some bk] | _ => false) || avltsB n bk.cells) && keptB h0 n r (i + 1)

def rEnd (rs : List ResultVar) (h : Heap) (s : St) : Option (AV × Heap) :=
  match resA P s rs with
  | some r =>
    if h.length ≤ s.heap.length then
      match lastVX s.heap h.length r with
      | some r' => if keptB h h.length (s.heap.take h.length) 0 then some (r', s.heap.take h.length) else some (r, s.heap)
      | none => some (r, s.heap)
    else none
  | none => none

def rCall (F : Nat) : Nat → Callee
  | 0 => fun _ _ _ => none
  | n + 1 => fun f args h =>
    match P.funcs[f]? with
    | some fn =>
      match fn.body with
      | some c =>
        if fn.name == "runtime.NumGoroutine" then none
        else if args.length ≤ fn.ntmps then
          match rCode P G rl (rCall F n) F c (entry args fn.ntmps h) with
          | some (.normal, s) => rEnd P fn.results.toList h s
          | some (.ret, s) => rEnd P fn.results.toList h s
          | _ => none
        else none
      | none => none
    | none => none
end

section
variable {P : Program} {G : Nat → Option (List PV)} {rl : List String} {h0 : Heap}

def GoodC (P : Program) (G : Nat → Option (List PV)) (call : Callee) : Prop :=
  ∀ f args h r h', call f args h = some (r, h') → Enters P f ∧ ACalls P G f args h fun r0 h1 => r0 = r ∧ h1 = h'

variable {call : Callee}

theorem rExec_sound (hc : GoodC P G call) {o : Oper} {s : St} {r : AV} {h' : Heap} (h : rExec P G rl call o s = some (r, h')) {K : St → Prop} (hk : K (({ s with heap := h' } : St).put o.dst r)) : aexec P G rl o K s := by
  unfold rExec at h
  unfold aexec
  split at h
  · rename_i f args e
    rw [e]
    dsimp only
    split at h
    · rename_i g caps xs e1 e2
      rw [e1, e2]
      obtain ⟨h1, h2⟩ := hc _ _ _ _ _ h
      exact ⟨h1, h2.mono fun r0 h1 ⟨a, b⟩ => by subst a; subst b; exact hk⟩
    · cases h
  · rename_i e
    rw [e]
    dsimp only
    rw [h]
    exact hk

theorem rOps_sound (hc : GoodC P G call) {ops : Array Oper} : ∀ (l : List Oper) (s s' : St), rOps P G rl call ops l s = some s' → ∀ K : St → Prop, K s' → aops P G rl ops K l s
  | [], s, s', h, K, hk => by simp [rOps] at h; subst h; exact hk
  | o :: rest, s, s', h, K, hk => by
    unfold rOps at h
    split at h
    · rename_i s1 e
      have ih := rOps_sound hc rest s1 s' h K hk
      unfold rOp at e
      show aop P G rl ops o (aops P G rl ops K rest) s
      unfold aop
      split at e
      · rename_i hw
        rw [hw]
        split at e
        · rename_i r h' hx
          cases e
          exact ⟨fun _ => rExec_sound hc hx ih, fun e => (by cases e)⟩
        · cases e
      · rename_i hw
        rw [hw]
        cases e
        exact ⟨fun e => (by cases e), fun _ => ih⟩
      · cases e
    · cases h

theorem rqOps_sound (hc : GoodC P G call) {ops : Array Oper} : ∀ (l : List Oper) (s s' : St), rqOps P G rl call ops l s = some s' → ∀ K : St → Prop, K s' → aqops P G rl ops K l s
  | [], s, s', h, K, hk => by simp [rqOps] at h; subst h; exact hk
  | o :: rest, s, s', h, K, hk => by
    unfold rqOps at h
    split at h
    · rename_i s1 e
      have ih := rqOps_sound hc rest s1 s' h K hk
      unfold rqOp at e
      show aqop P G rl ops o (aqops P G rl ops K rest) s
      unfold aqop
      split at e
      · rename_i hw
        rw [hw]
        split at e
        · rename_i r h' hx
          split at e
          · rename_i hq
            cases e
            have := heapEq_eq _ _ hq
            subst this
            refine ⟨fun _ => ?_, fun e => (by cases e)⟩
            unfold rExec at hx
            unfold aquiet
            split at hx
            · rename_i f args e
              rw [e]
              dsimp only
              split at hx
              · rename_i g caps xs e1 e2
                rw [e1, e2]
                obtain ⟨h1, h2⟩ := hc _ _ _ _ _ hx
                exact ⟨h1, r, h2, ih⟩
              · cases hx
            · rename_i e
              rw [e]
              dsimp only
              rw [hx]
              exact ⟨rfl, ih⟩
          · cases e
        · cases e
      · rename_i hw
        rw [hw]
        cases e
        exact ⟨fun e => (by cases e), fun _ => ih⟩
      · cases e
    · cases h

theorem blkAt_ext {hp R : Heap} {b g : Nat} {cells : List AV} (hc : blkAt hp b g = some cells) : blkAt (hp ++ R) b g = some cells := by
  unfold blkAt at *
  have hlt : b < hp.length := by
    rcases Nat.lt_or_ge b hp.length with hl | hl
    · exact hl
    · rw [List.getElem?_eq_none hl] at hc; cases hc
  rw [List.getElem?_append_left hlt]; exact hc
theorem loadA_ext {hp R : Heap} {t : Nat} {x v : AV} (h : loadA P hp t x = some v) : loadA P (hp ++ R) t x = some v := by
  unfold loadA at *
  split at h
  · rename_i i b g off ht
    obtain ⟨cells, hc, hv⟩ := Option.bind_eq_some_iff.mp h
    have : blkAt (hp ++ R) b g = some cells := by
      unfold blkAt at *
      have hlt : b < hp.length := by
        rcases Nat.lt_or_ge b hp.length with hl | hl
        · exact hl
        · rw [List.getElem?_eq_none hl] at hc; cases hc
      rw [List.getElem?_append_left hlt]; exact hc
    simp only [this, Option.bind_some, hv]
  · exact h
  · cases h

theorem evalA_heap {fr : Nat → Option AV} {nt : Nat} {H H' : Heap} (x : Operand) : evalA G ⟨fr, nt, H⟩ x = evalA G ⟨fr, nt, H'⟩ x := by cases x <;> rfl

theorem cands_mem : ∀ (zs : List (List PV)) (R : Heap), R.length = zs.length → (∀ (j : Nat) (z : List PV), zs[j]? = some z → R[j]? = some (some ⟨0, []⟩) ∨ R[j]? = some (some ⟨1, z.map .p⟩)) → R ∈ cands zs
  | [], R, hl, _ => by simp [cands]; exact List.eq_nil_of_length_eq_zero (by simpa using hl)
  | z :: rest, R, hl, h => by
    match R, hl, h with
    | b :: R', hl, h =>
      have ih := cands_mem rest R' (by simpa using hl) fun j y hy => by simpa using h (j + 1) y (by simpa using hy)
      simp only [cands, List.mem_flatMap]
      refine ⟨R', ih, ?_⟩
      rcases h 0 z rfl with h0 | h0
      · simp at h0; subst h0; simp
      · simp at h0; subst h0; simp

theorem rFree_sound {ops : Array Oper} {o : Oper} {fr : Nat → Option AV} {nt : Nat} {H0 : Heap} {v : AV} (hf : heapFree o = true) (hw : wantA ops o ⟨fr, nt, H0⟩ = some true) (h : rFree P G rl o fr nt = some v) : StabF P G rl ops o v ⟨fr, nt, H0⟩ := fun H => by
  have hev : evalA G ⟨fr, nt, []⟩ = evalA G ⟨fr, nt, H⟩ := funext fun x => evalA_heap x
  refine .inl ⟨hw, ?_⟩
  unfold rFree at h
  obtain ⟨q, hq, h⟩ := Option.bind_eq_some_iff.mp h
  split at h
  · rename_i hem
    cases h
    obtain ⟨q1, q2⟩ := q
    have : q2 = [] := by simpa using hem
    subst this
    have hcall : callOf o = none := by
      unfold heapFree at hf; unfold callOf
      split <;> simp_all
    unfold AQ
    rw [hcall]
    dsimp only
    rw [← hev]
    exact opA_free (H' := H) hf hq
  · cases h

theorem indexAddrA_ext {hp R : Heap} {t : Nat} {x ix v : AV} (h : indexAddrA P hp t x ix = some v) : indexAddrA P (hp ++ R) t x ix = some v := by
  cases x with
  | ref b g off sz len =>
    by_cases hs : (blkAt hp b g).isSome = true
    · obtain ⟨cs, hcs⟩ := Option.isSome_iff_exists.mp hs
      have e : (blkAt (hp ++ R) b g).isSome = (blkAt hp b g).isSome := by rw [blkAt_ext hcs, hcs]
      rw [← h]
      unfold indexAddrA
      simp only [e]
    · exfalso
      unfold indexAddrA at h
      simp only [hs, Bool.false_eq_true, and_false, if_false] at h
      split at h
      · split at h <;> cases h
      · cases h
      · cases h
  | p y => cases y <;> exact h
  | _ => exact h
theorem indexAddrA_nil {H : Heap} {t : Nat} {x ix v : AV} (h : indexAddrA P [] t x ix = some v) : indexAddrA P H t x ix = some v := by
  cases x with
  | ref b g off sz len =>
    unfold indexAddrA at h
    split at h
    · split at h <;> cases h
    · simp only [blkAt, List.getElem?_nil, Option.isSome_none, Bool.false_eq_true, and_false, if_false] at h
      cases h
    · cases h
  | p y => cases y <;> exact h
  | _ => exact h
theorem opA_plain {o : Oper} (hf : plainB' o = true) {ρ : Operand → Option AV} {H' : Heap} {v : AV} (h : opA P rl o ρ [] = some (v, [])) : opA P rl o ρ H' = some (v, H') := by
  obtain ⟨dst, op, type, pos, after, guard⟩ := o
  cases op with
  | load t a =>
    simp only [opA] at *
    obtain ⟨x, hx, he⟩ := Option.bind_eq_some_iff.mp h
    obtain ⟨y, hy, he⟩ := Option.map_eq_some_iff.mp he
    cases he
    rw [hx]
    have : loadA P H' t x = some v := by
      have := loadA_ext (R := H') hy
      simpa using this
    simp only [Option.bind_some, this, Option.map_some]
  | indexAddr t a i =>
    simp only [opA] at *
    split at h
    · rename_i x i' hx hi
      obtain ⟨y, hy, he⟩ := Option.map_eq_some_iff.mp h
      cases he
      simp only [hx, hi, indexAddrA_nil hy, Option.map_some]
    · cases h
  | _ => cases hf
theorem rFree_sound' {ops : Array Oper} {o : Oper} {fr : Nat → Option AV} {nt : Nat} {H0 : Heap} {v : AV} (hf : heapFree o = true ∨ plainB' o = true) (hw : wantA ops o ⟨fr, nt, H0⟩ = some true) (h : rFree P G rl o fr nt = some v) : StabF P G rl ops o v ⟨fr, nt, H0⟩ := by
  rcases hf with hf | hf
  · exact rFree_sound hf hw h
  intro H
  have hev : evalA G ⟨fr, nt, []⟩ = evalA G ⟨fr, nt, H⟩ := funext fun x => evalA_heap x
  refine .inl ⟨hw, ?_⟩
  unfold rFree at h
  obtain ⟨q, hq, h⟩ := Option.bind_eq_some_iff.mp h
  split at h
  · rename_i hem
    cases h
    obtain ⟨q1, q2⟩ := q
    have : q2 = [] := by simpa using hem
    subst this
    have hcall : callOf o = none := by
      unfold plainB' at hf; unfold callOf
      split <;> simp_all
    unfold AQ
    rw [hcall]
    dsimp only
    rw [← hev]
    exact opA_plain (H' := H) hf hq
  · cases h
theorem freeL_plain {ops : Array Oper} (k : Nat) (o : Oper) (hk : (freeL ops).contains k = true) (ho : ops.toList[k]? = some o) : plainB' o = true := by
  unfold freeL at hk
  rw [List.contains_iff_mem, List.mem_filter] at hk
  have := hk.2
  rw [ho] at this
  exact this

theorem opA_const {o : Oper} (hf : constB o = true) {ρ : Operand → Option AV} {H' : Heap} {v : AV} (h : opA P rl o ρ [] = some (v, [])) : opA P rl o ρ H' = some (v, H') := by
  obtain ⟨dst, op, type, pos, after, guard⟩ := o
  cases op with
  | build t parts =>
    simp only [opA] at *
    split at h
    · split at h
      · rename_i hc
        obtain ⟨cs, hcs, he⟩ := Option.map_eq_some_iff.mp h
        cases he
        rw [if_pos hc, hcs]; rfl
      · cases h
    · split at h
      · rename_i hc
        obtain ⟨cs, hcs, he⟩ := Option.map_eq_some_iff.mp h
        cases he
        rw [if_pos hc, hcs]; rfl
      · cases h
    · cases h
  | buildSlice t len parts =>
    simp only [opA] at *
    split at h
    · rename_i e _ _ _ ht
      split at h
      · rename_i k size by' z he
        split at h
        · rename_i hc
          split at h
          · rename_i cs hcs
            rw [if_pos hc]
            split at h
            · rename_i h0
              cases h
              simp only [h0, if_true]
            · rename_i h0
              simp only [h0, if_false]
              split at h
              · simp at h
              · rename_i hr
                obtain ⟨l, hl, hq⟩ := Option.map_eq_some_iff.mp h
                cases hq
                rw [if_neg hr, hl]; rfl
          · cases h
        · cases h
      · cases h
    · cases h
  | binOp op t x y m =>
    simp only [opA] at *
    split at h
    · rename_i x' y' hx hy
      obtain ⟨r, hr, he⟩ := Option.map_eq_some_iff.mp h
      cases he
      simp only [hx, hy, hr, Option.map_some]
    · cases h
  | unOp op t x =>
    simp only [opA] at *
    obtain ⟨x', hx, h⟩ := Option.bind_eq_some_iff.mp h
    obtain ⟨r, hr, he⟩ := Option.map_eq_some_iff.mp h
    cases he
    simp only [hx, hr, Option.bind_some, Option.map_some]
  | makeFunc f first captured =>
    cases f with
    | func f =>
      simp only [opA] at *
      split at h
      · rename_i hc
        obtain ⟨r, hr, he⟩ := Option.map_eq_some_iff.mp h
        cases he
        rw [if_pos hc, hr]; rfl
      · cases h
    | _ => simp only [opA] at h; cases h
  | index t x ix =>
    simp only [opA] at *
    split at h
    · rename_i x' y' hx hy
      obtain ⟨r, hr, he⟩ := Option.map_eq_some_iff.mp h
      cases he
      simp only [hx, hy, hr, Option.map_some]
    · cases h
  | field t x f =>
    simp only [opA] at *
    obtain ⟨x', hx, h⟩ := Option.bind_eq_some_iff.mp h
    obtain ⟨r, hr, he⟩ := Option.map_eq_some_iff.mp h
    cases he
    simp only [hx, hr, Option.bind_some, Option.map_some]
  | _ => cases hf

theorem rStab_sound (hc : GoodC P G call) {ops : Array Oper} {o : Oper} {fr : Nat → Option AV} {nt : Nat} {hp : Heap} {v : AV} {cs : List Heap} (hw : wantA ops o ⟨fr, nt, hp⟩ = some true) (h : rStab P G rl call o fr nt hp cs = some v) (R : Heap) (hR : R ∈ cs) :
    YieldsA P G rl ops o v ⟨fr, nt, hp ++ R⟩ := by
  have hev : evalA G ⟨fr, nt, hp⟩ = evalA G ⟨fr, nt, hp ++ R⟩ := funext fun x => evalA_heap x
  refine .inl ⟨hw, ?_⟩
  unfold rStab at h
  split at h
  · rename_i t a ho
    obtain ⟨x, hx, hl⟩ := Option.bind_eq_some_iff.mp h
    unfold AQ callOf
    rw [ho]
    dsimp only
    unfold opA
    rw [ho]
    dsimp only
    rw [← evalA_heap (H := hp), hx]
    simp only [Option.bind_some, loadA_ext hl, Option.map_some]
  · rename_i t a i ho
    obtain ⟨x, hx, hl⟩ := Option.bind_eq_some_iff.mp h
    obtain ⟨y, hy, hl⟩ := Option.bind_eq_some_iff.mp hl
    unfold AQ callOf
    rw [ho]
    dsimp only
    unfold opA
    rw [ho]
    dsimp only
    rw [← evalA_heap (H := hp), hx, ← evalA_heap (H := hp), hy]
    simp only [indexAddrA_ext hl, Option.map_some]
  · rename_i f args ats ho
    split at h
    · rename_i g caps xs R0 rest hf hxs
      split at h
      · rename_i v0 h0 hq
        split at h
        · rename_i hall
          cases h
          have hr := List.all_eq_true.mp hall R hR
          split at hr
          · rename_i v' h' hq'
            simp only [Bool.and_eq_true] at hr
            have e1 := avEq_eq _ _ hr.1
            have e2 := heapEq_eq _ _ hr.2
            subst e1; subst e2
            obtain ⟨c1, c2⟩ := hc _ _ _ _ _ hq'
            unfold AQ callOf
            rw [ho]
            dsimp only
            exact ⟨g, caps, xs, by rw [← evalA_heap (H := hp)]; exact hf, by rw [← hev]; exact hxs, c1, c2⟩
          · cases hr
        · cases h
      · cases h
    · cases h
  · split at h
    · rename_i hf
      unfold rConst at h
      obtain ⟨q, hq, h⟩ := Option.bind_eq_some_iff.mp h
      split at h
      · rename_i hem
        cases h
        obtain ⟨q1, q2⟩ := q
        have : q2 = [] := by simpa using hem
        subst this
        have hcall : callOf o = none := by
          unfold constB at hf; unfold callOf
          split <;> simp_all
        have he0 : evalA G ⟨fr, nt, []⟩ = evalA G ⟨fr, nt, hp ++ R⟩ := funext fun x => evalA_heap x
        unfold AQ
        rw [hcall]
        dsimp only
        rw [← he0]
        exact opA_const (H' := hp ++ R) hf hq
      · cases h
    · cases h

theorem rTail_sound (hc : GoodC P G call) {ops : Array Oper} : ∀ (l : List Nat) (s s' : St), rTail P G rl call ops l s = some s' → ∀ K : St → Prop, K s' → arunT P G rl ops K l s
  | [], s, s', h, K, hk => by simp [rTail] at h; subst h; exact hk
  | k :: rest, s, s', h, K, hk => by
    unfold rTail at h
    split at h
    · cases h
    · rename_i o ho
      have ho' : ops[k]? = some o := by rw [← Array.getElem?_toList]; exact ho
      unfold arunT
      simp only [ho']
      split at h
      · cases h
      · rename_i ha
        split at h
        · rename_i he
          rw [if_pos he]
          split at h
          · rename_i s1 h1
            have ih := rTail_sound hc rest s1 s' h K hk
            exact ⟨by simpa using ha, rOps_sound hc [o] s s1 (by unfold rOps; rw [h1]; rfl) (arunT P G rl ops K rest) ih⟩
          · cases h
        · rename_i he
          rw [if_neg he]
          split at h
          · rename_i hcond
            simp only [Bool.and_eq_true, beq_iff_eq] at hcond
            split at h
            · rename_i v hv
              exact ⟨hcond.1, v, rFree_sound (H0 := s.heap) hcond.1 hcond.2 hv, rTail_sound hc rest _ s' h K hk⟩
            · cases h
          · cases h

theorem rDraw_sound (hc : GoodC P G call) {ops : Array Oper} {fs : List Nat} (hfs : ∀ k o, fs.contains k = true → ops.toList[k]? = some o → plainB' o = true) {nt : Nat} {hp : Heap} : ∀ (l : List Nat) (fr : Nat → Option AV) (R : Heap) (s' : St), rDraw P G rl call ops fs nt hp (cands (zsB P ops)) l fr R = some s' → ∀ K : St → Prop, K s' → arun P G rl ops fs hp.length (zsB P ops).length K l ⟨fr, nt, hp ++ R⟩
  | [], fr, R, s', h, K, hk => by simp [rDraw] at h; subst h; exact hk
  | k :: rest, fr, R, s', h, K, hk => by
    unfold rDraw at h
    split at h
    · cases h
    · rename_i o ho
      have ho' : ops[k]? = some o := by rw [← Array.getElem?_toList]; exact ho
      split at h
      · rename_i ha
        split at h
        · rename_i z d hz hs hd
          split at h
          · rename_i hlt
            exact arun_alloc ho ha hz hd hlt hs (rDraw_sound hc hfs rest _ _ s' h K hk)
          · cases h
        · cases h
      · rename_i ha
        split at h
        · rename_i he
          unfold arun
          simp only [ho']
          rw [if_neg ha, if_pos he]
          exact rTail_sound hc _ _ _ h K hk
        · rename_i he
          split at h
          · rename_i hw
            have hw := beq_iff_eq.mp hw
            split at h
            · rename_i v d hv hd
              split at h
              · rename_i hlt
                have ih := rDraw_sound hc hfs rest _ _ s' h K hk
                unfold arun
                simp only [ho']
                rw [if_neg ha, if_neg he]
                split at hv
                · rename_i hh
                  rw [if_pos hh]
                  refine ⟨v, rFree_sound' ((Bool.or_eq_true _ _ ▸ hh).imp id fun e => hfs k o e ho) hw hv, ?_⟩
                  rw [hd]; simp only [St.put, hlt, if_true]; exact ih
                · rename_i hh
                  rw [if_neg hh]
                  refine ⟨v, fun R' hR' => ?_, ?_⟩
                  · have : (hp ++ R).take hp.length = hp := by simp
                    simp only [this]
                    exact rStab_sound hc hw hv R' (cands_mem _ R' hR'.1 hR'.2)
                  · rw [hd]; simp only [St.put, hlt, if_true]; exact ih
              · cases h
            · cases h
          · cases h

theorem rCode_sound (hc : GoodC P G call) (F : Nat) : ∀ (c : Code) (s : St) (e : Exit) (s' : St), rCode P G rl call F c s = some (e, s') → ∀ Q : Exit → St → Prop, Q e s' → awp P G rl h0 c Q s := by
  intro c
  induction c with
  | skip => intro s e s' h Q hq; simp only [rCode, Option.some.injEq, Prod.mk.injEq] at h; obtain ⟨rfl, rfl⟩ := h; exact hq
  | label l => intro s e s' h Q hq; simp only [rCode, Option.some.injEq, Prod.mk.injEq] at h; obtain ⟨rfl, rfl⟩ := h; exact hq
  | region id ops draw =>
    intro s e s' h Q hq
    simp only [rCode] at h
    split at h
    · rename_i hd
      subst hd
      split at h
      · rename_i hl
        obtain ⟨s1, h1, h2⟩ := Option.map_eq_some_iff.mp h
        cases h2
        simp only [Bool.and_eq_true] at hl
        exact awp_draw hl.1 (rqOps_sound hc _ _ _ h1 _ hq)
      · split at h
        · rename_i hl
          obtain ⟨s1, h1, h2⟩ := Option.map_eq_some_iff.mp h
          cases h2
          exact awp_drawR (List.range ops.size) (zsB P ops).length (by simp) rfl hl (rDraw_sound hc (fun k o e => by simp at e) _ _ _ _ h1 _ hq)
        · split at h
          · rename_i hl
            obtain ⟨s1, h1, h2⟩ := Option.map_eq_some_iff.mp h
            cases h2
            exact awp_drawR (List.range ops.size) (zsB P ops).length (by simp) rfl hl (rDraw_sound hc freeL_plain _ _ _ _ h1 _ hq)
          · cases h
    · rename_i hd
      obtain ⟨s1, h1, h2⟩ := Option.map_eq_some_iff.mp h
      cases h2
      have : draw = false := by simpa using hd
      subst this
      exact awp_region (rOps_sound hc _ _ _ h1 _ hq)
  | seq a b iha ihb =>
    intro s e s' h Q hq
    simp only [rCode] at h
    split at h
    · rename_i s1 h1
      exact awp_cut (fun s2 => s2 = s1) (iha s .normal s1 h1 _ ⟨s1, .refl, rfl⟩) fun s2 e2 => by subst e2; exact ihb _ _ _ h _ hq
    · rename_i hn
      refine awp_cut (fun _ => False) (iha s e s' h _ ?_) fun _ hf => hf.elim
      cases e with
      | normal => exact (hn s' h).elim
      | _ => exact hq
  | cond c x y ihx ihy =>
    intro s e s' h Q hq
    simp only [rCode] at h
    split at h
    · rename_i hv; exact awp_cond (t := true) hv (fun _ => ihx _ _ _ h _ hq) (fun e => (by cases e))
    · rename_i hv; exact awp_cond (t := false) hv (fun e => (by cases e)) (fun _ => ihy _ _ _ h _ hq)
    · cases h
  | block id c ih =>
    intro s e s' h Q hq
    simp only [rCode] at h
    refine awp_block ?_
    split at h
    · rename_i i s1 h1
      refine ih _ _ _ h1 _ ?_
      simp only [blockA]
      split at h
      · rename_i hi; rw [if_pos hi]; cases h; exact hq
      · rename_i hi; rw [if_neg hi]; cases h; exact hq
    · rename_i hn
      refine ih _ _ _ h _ ?_
      cases e with
      | exit i => exact (hn i s' h).elim
      | _ => exact hq
  | loop c ih =>
    intro s e s' h Q hq
    simp only [rCode] at h
    refine awp_loop (fun n s1 => rLoop (rCode P G rl call F c) n s1 = some (e, s')) F s .refl h fun n s1 hn => ?_
    cases n with
    | zero => simp [rLoop] at hn
    | succ n =>
      unfold rLoop at hn
      split at hn
      · rename_i s2 h2
        exact ih _ _ _ h2 _ ⟨n, s2, Nat.lt_succ_self n, .refl, hn⟩
      · rename_i hno
        refine ih _ _ _ hn _ ?_
        cases e with
        | normal => exact (hno s' hn).elim
        | _ => exact hq
  | exit id => intro s e s' h Q hq; simp only [rCode, Option.some.injEq, Prod.mk.injEq] at h; obtain ⟨rfl, rfl⟩ := h; exact hq
  | ret => intro s e s' h Q hq; simp only [rCode, Option.some.injEq, Prod.mk.injEq] at h; obtain ⟨rfl, rfl⟩ := h; exact hq
  | _ => intro s e s' h; simp [rCode] at h

theorem keptB_spec {n : Nat} : ∀ (l : Heap) (i : Nat), keptB h0 n l i = true → ∀ (b : Nat) (bk : Blk), l[b]? = some (some bk) → h0[i + b]? = some (some bk) ∨ ∀ x ∈ bk.cells, AVlt n x
  | [], i, _, b, bk, h => by simp at h
  | none :: r, i, hk, b, bk, h => by
    simp only [keptB] at hk
    cases b with
    | zero => simp at h
    | succ b =>
      have := keptB_spec r (i + 1) hk b bk (by simpa using h)
      rwa [show i + 1 + b = i + (b + 1) by omega] at this
  | some bk0 :: r, i, hk, b, bk, h => by
    simp only [keptB, Bool.and_eq_true, Bool.or_eq_true] at hk
    cases b with
    | zero =>
      simp at h
      subst h
      rcases hk.1 with h1 | h1
      · left
        rw [Nat.add_zero]
        split at h1
        · rename_i bk' e
          have := heapEq_eq _ _ h1
          simp only [List.cons.injEq, Option.some.injEq, and_true] at this
          rw [e, this]
        · cases h1
      · exact .inr (avltsB_lt _ h1)
    | succ b =>
      have := keptB_spec r (i + 1) hk.2 b bk (by simpa using h)
      rwa [show i + 1 + b = i + (b + 1) by omega] at this

theorem rCall_good (hm : P.follows .mixedOrders = true) (F : Nat) : ∀ n, GoodC P G (rCall P G rl F n)
  | 0 => fun f args h r h' e => by simp [rCall] at e
  | n + 1 => fun f args h r h' e => by
    unfold rCall at e
    split at e
    case h_2 => cases e
    rename_i fn hf
    split at e
    case h_2 => cases e
    rename_i c hb
    split at e
    · cases e
    · rename_i hname
      split at e
      case isFalse => cases e
      rename_i hnt
      refine ⟨⟨fn, c, hf, hb, by simpa using hname⟩, ?_⟩
      have fin : ∀ (ex : Exit) (s : St), (ex = .normal ∨ ex = .ret) → rCode P G rl (rCall P G rl F n) F c (entry args fn.ntmps h) = some (ex, s) → rEnd P fn.results.toList h s = some (r, h') → ACalls P G f args h fun r0 h1 => r0 = r ∧ h1 = h' := by
        intro ex s hex hrun hend
        unfold rEnd at hend
        split at hend
        case h_2 => cases hend
        rename_i r1 hr1
        split at hend
        case isFalse => cases hend
        rename_i hlen
        have keepK : r1 = r → s.heap = h' → ACalls P G f args h fun r0 h1 => r0 = r ∧ h1 = h' := fun e1 e2 => by
          refine Sim.evoKeep (rl := rl) hm hf hb hnt (rCode_sound (rCall_good hm F n) F c _ _ _ hrun _ ⟨hex, hlen, ?_⟩)
          rw [hr1]; exact ⟨e1, e2⟩
        split at hend
        · rename_i r2 hr2
          split at hend
          · rename_i hkept
            cases hend
            have hk := keptB_spec _ _ hkept
            refine acalls_intro (rl := rl) hm hf hb hnt h.length (rCode_sound (rCall_good hm F n) F c _ _ _ hrun _ ⟨hex, Nat.le_refl _, hlen, r1, r, hr1, (lastVX_eq _ _ _).trans hr2, fun b bk hbk => ?_, rfl, rfl⟩)
            have := hk b bk hbk
            rwa [Nat.zero_add] at this
          · cases hend; exact keepK rfl rfl
        · cases hend; exact keepK rfl rfl
      split at e
      · rename_i s hrun; exact fin _ s (.inl rfl) hrun e
      · rename_i s hrun; exact fin _ s (.inr rfl) hrun e
      · cases e

/-- A ground run that comes to a truth, at whatever heap. -/
theorem ACalls.bool_lift {f : FuncId} {b : Bool} (h : ACalls P G f [] [] fun r h' => r = .b b ∧ h' = []) (H : Heap) : ACalls P G f [] H fun r h' => r = .b b ∧ h' = H := by
  intro ι w vs hS hv
  have hS0 : SimH P G ι [] w := ⟨⟨fun b bk hb => by simp at hb, fun b b' bk bk' hb => by simp at hb⟩, fun g cells hg => (hS.gr g cells hg).mono (Nat.le_refl _) fun k _ _ => ⟨rfl, own_nil⟩⟩
  refine (h ι w vs hS0 ⟨hv.1, fun i x v hx => by simp at hx⟩).mono ?_
  rintro e w' ⟨v, r, h', ι', he, ⟨rfl, rfl⟩, hS', hvr, hev⟩
  have hvb := hvr.bool_inv
  subst hvb
  have hk : ∀ k, k < w.heap.size → w'.heap[k]? = w.heap[k]? := fun k hk => (hev.keep k hk own_nil).1
  have hE : Evo H.length ι H w ι H w' := by
    refine ⟨hev.size, fun k hk' ho => ⟨hk k hk', ho⟩, Nat.le_refl _, fun b bk' hb hq => ⟨bk', hq, Nat.le_refl _, fun _ => ⟨rfl, id, fun cs ty fr hc => ?_⟩⟩, hev.os, hev.output, hev.tape⟩
    exact ⟨cs, ty, fr, by rw [hk _ (by have := Array.getElem?_eq_some_iff.mp hc; exact this.1)]; exact hc, rfl⟩
  have hH : HRel ι H w' := by
    refine ⟨fun b bk hb hne => ?_, hS.hr.inj⟩
    obtain ⟨c, ty, hc, hsz, hv⟩ := hS.hr.blk b bk hb hne
    exact ⟨c, ty, by rw [hk _ (Array.getElem?_eq_some_iff.mp hc).1]; exact hc, hsz, fun j x hx => by obtain ⟨v, p1, p2⟩ := hv j x hx; exact ⟨v, p1, p2.evo hE⟩⟩
  exact ⟨_, _, H, ι, he, ⟨rfl, rfl⟩, ⟨hH, fun g cells hg => (hS.gr g cells hg).mono hev.size fun k hk' ho => ⟨hk k hk', ho⟩⟩, .p _ _ (.bool b), hE⟩
end
end Go.Proofs.YtjpphhcimpclpaaDoor.AM
end

section
set_option linter.unusedVariables false
set_option linter.unusedSimpArgs false
namespace Go.Proofs.YtjpphhcimpclpaaDoor.AM
open Go Go.Proofs

theorem Right.event {ns : List Nd} {fl : List Fl} (h : Right ns fl) {i : Nat} (hi : i < ns.length) (hk : kindAt ns i = 7) : (insN fl i).length = 1 ∧ 2 ≤ (outsN fl i).length := by
  have := h.three hi
  unfold threeB at this
  simp only [hk] at this
  simp only [Int.reduceEq, reduceIte, Bool.or_eq_true, Bool.and_eq_true, beq_iff_eq, decide_eq_true_eq] at this
  omega
theorem Right.start {ns : List Nd} {fl : List Fl} (h : Right ns fl) {i : Nat} (hi : i < ns.length) (hk : kindAt ns i = 1) : (insN fl i).length = 0 ∧ (outsN fl i).length = 1 := by
  have := h.three hi
  unfold threeB at this
  simp only [hk] at this
  simp only [Int.reduceEq, reduceIte, Bool.or_eq_true, Bool.and_eq_true, beq_iff_eq, decide_eq_true_eq] at this
  omega
theorem Right.count {ns : List Nd} {fl : List Fl} (h : Right ns fl) {i : Nat} (hi : i < ns.length) :
    (kindAt ns i = 1 → (ruOf fl i (kindAt ns i)).length = 0) ∧ (kindAt ns i = 5 ∨ kindAt ns i = 7 → (ruOf fl i (kindAt ns i)).length = (insN fl i).length * (outsN fl i).length) ∧
    (kindAt ns i ≠ 1 → kindAt ns i ≠ 5 → kindAt ns i ≠ 7 → (ruOf fl i (kindAt ns i)).length = 1) := by
  refine ⟨fun hk => ?_, fun hk => ?_, fun k1 k5 k7 => ?_⟩
  · unfold ruOf; rw [if_pos hk]; rfl
  · rcases hk with hk | hk
    · unfold ruOf
      rw [if_neg (by omega), if_neg (by omega), if_neg (by omega), if_pos hk]
      rcases h.xor hi hk with ⟨a, b⟩ | ⟨a, b⟩
      · rw [if_pos (by omega), List.length_map, a, Nat.one_mul]
      · rw [if_neg (by omega), List.length_map, b, Nat.mul_one]
    · unfold ruOf
      rw [if_neg (by omega), if_pos hk, List.length_map, (h.event hi hk).1, Nat.one_mul]
  · unfold ruOf
    rw [if_neg k1, if_neg k7]
    split <;> rfl

end Go.Proofs.YtjpphhcimpclpaaDoor.AM
end

section
set_option linter.unusedVariables false
set_option linter.unusedSimpArgs false
set_option maxRecDepth 4000
set_option maxHeartbeats 4000000
namespace Go.Proofs.YtjpphhcimpclpaaDoor.AM
open Go Go.Proofs
set_option linter.defProp false in
attribute [local irreducible] awp aops aqops aeops arun arunT
variable {G : Nat → Option (List PV)}

/-- A state within all its bounds that the game looks at. -/
structure StOk (S : List Int) : Prop where
  held : Held S
  queue : ∀ i x, 44 ≤ i → i < 48 → S[i]? = some x → 0 ≤ x ∧ x ≤ 3

def qAt (S : List Int) (a : Int) : Int := S.getD (44 + a.toNat) 0
def ndA (ns : List Nd) (c : Int) : Int := match ns[c.toNat]? with | some k => k.a | none => 0

def catchG (ns : List Nd) (fl : List Fl) (S : List Int) (node arg c : Int) (fr : List Int) : List Sp :=
  if ndA ns c < 4 then (if qAt S (ndA ns c) = 0 then [] else moveG S ⟨node, arg, 3, c, 0, S.set (44 + (ndA ns c).toNat) (qAt S (ndA ns c) - 1)⟩ fr (outsN fl c))
  else moveG S ⟨node, arg, 4, c, 0, S⟩ fr (outsN fl c)

theorem takeA_sl0 {ns : List Nd} {fl : List Fl} {S : List Int} {lb n e bt : Nat} {z : Option (List PV)} : takeA ⟨.slice e, 1, bt, z⟩ (gmC ns fl S lb n) = some (.p (.sl (ns.map eN))) := rfl
theorem StOk.q {S : List Int} (h : StOk S) {k : Nat} (hk : k < 4) : S[44 + k]? = some (qAt S k) ∧ 0 ≤ qAt S k ∧ qAt S k ≤ 3 := by
  have hl := h.held.1
  have e : S[44 + k]? = some (qAt S k) := by
    unfold qAt
    rw [Int.toNat_natCast, List.getD_eq_getElem?_getD, List.getElem?_eq_getElem (by omega)]; rfl
  exact ⟨e, h.queue _ _ (by omega) (by omega) e⟩
theorem InF_outs {fl : List Fl} (hf : fl.length ≤ 40) (i : Int) : InF (outsN fl i) := by
  refine ⟨Nat.le_trans (outsN_le fl i) (by omega), fun f hm => ?_⟩
  obtain ⟨j, _, h1, rfl, _⟩ := pickF_mem hm
  omega
theorem InF_ins {fl : List Fl} (hf : fl.length ≤ 40) (i : Int) : InF (insN fl i) := by
  refine ⟨Nat.le_trans (insN_le fl i) (by omega), fun f hm => ?_⟩
  obtain ⟨j, _, h1, rfl, _⟩ := pickF_mem hm
  omega

theorem gmC_q {ns : List Nd} {fl : List Fl} {S : List Int} {lb n a : Nat} {q : Int} (hq : S[44 + a]? = some q) : (gmC ns fl S lb n).drop (46 + a) = .p (.int .i64 q) :: ((S.drop (44 + a + 1)).map AV.i ++ [.ref lb n 0 54 n]) := by
  rw [show 46 + a = 2 + (44 + a) by omega, gmC_at hq]

end Go.Proofs.YtjpphhcimpclpaaDoor.AM
end
