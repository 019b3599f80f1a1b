/- Proved here, in parts, for one law: Contracts: where an alarm stands; a time later. Contracts: a clock ticks. Contracts: how long until an alarm, until the next one. PLAIN: a clock whose alarms are in no order (the document's), and how it goes with the sorted one. Contracts: an alarm is set. The abstract machine, part W: what a function hands back is told otherwise at its end. Contracts: a new clock. Contracts: the alarms that are due; equal lists. Contracts: the document's clock, whose alarms are in no order: where one stands, its rank, how long until then. Contracts: the document's clock: an alarm is set, time goes on. Contracts: the document's clock: an alarm is dropped. Contracts: two alarms that are due at once; a nil clock. The law ClockGoes. The law ClockOrder. slices.SortFunc of alarms, from the shelf. The first part was printed by the kit's lay-shelf tool in its plain mode, for seat Ytbbmfemplmelhaa of TURN r4. The abstract machine, part R: what is told of empty slices holds of nil ones. The abstract machine, part S: what typed cells are, told by the facts of their types. What the laws of clocks are given. slices.Delete at alarms, one element: what it does to a world, walked. Contracts: an alarm is dropped. Conditions: none. -/
import Derived.Test.YtbbmfemplmelhaaZClockStepsB
import Derived.Shelf.SlSortCmp.WholeK
import Derived.Shelf.SlGeneric
import Derived.Deep.RegionLaw
import Derived.Lib.SliceRun
import Derived.Lib.SlicesDelete
import Derived.WalkKit
import Derived.Shelf.RegionOpenPlain
import Derived.Deep.LoopGhost
import Derived.Lib.Walk

section
set_option linter.unusedVariables false
set_option linter.unusedSimpArgs false
set_option maxRecDepth 4000
set_option maxHeartbeats 4000000
namespace Go.Proofs.Ytbbmfemplmelhaa.AM
open Go Go.Proofs
set_option linter.defProp false in
def TTCkF := And.intro T2 (And.intro T3 (And.intro T4 (And.intro T22 (And.intro T55 (And.intro T57 (And.intro T59 T68))))))
attribute [local irreducible] awp aops aqops aeops arun arunT
variable {G : Nat → Option (List PV)}

theorem takeC_st (fs : List (Nat × Nat × Nat)) (sz by' : Nat) (z : Option (List PV)) (cells : List AV) : takeA ⟨.struct fs, sz, by', z⟩ cells = if sz ≤ cells.length then some (.agg (cells.take sz)) else none := by unfold takeA; rfl

def findA (p : Al → Bool) : List Al → Nat → Int
  | [], _ => -1
  | k :: r, i => if p k then (i : Int) else findA p r (i + 1)
theorem findA_step {p : Al → Bool} {l : List Al} {i : Nat} {k : Al} (hk : l[i]? = some k) : findA p (l.drop i) i = if p k then (i : Int) else findA p (l.drop (i + 1)) (i + 1) := by
  obtain ⟨h, e⟩ := List.getElem?_eq_some_iff.mp hk
  rw [List.drop_eq_getElem_cons h, e]; rfl

theorem find1_calls (a : Al) (id : Int) {H : Heap} {bx : Nat} (hb : H[bx]? = some (some ⟨0, [.i id]⟩)) (hlt : bx < H.length) : ACalls Try.prog G 33 [.agg [.i a.1, .i a.2], .ptr bx 0 0] H (fun r h' => r = .b (a.2 == id) ∧ h' = H) := by
  have hb' : ∀ L : Heap, (H ++ L)[bx]? = some (some ⟨0, [.i id]⟩) := fun L => by rw [List.getElem?_append_left hlt]; exact hb
  refine acalls_pure (rl := []) mixed Try.func33 rfl (rs := [.tmp 3]) rfl Try.ntmps33 (by simp) ?_
  repeat' (first | ((first | refine aops_nil ?_ | refine aqops_nil ?_); (try simp only [NB])) | ((repeat ((fail_if_success (refine hK _ ?_)); clear hK K)); refine hK _ ?_; clear hK K) | ((first | refine aops_k fun K1 hK1 => ?_ | refine aqops_k fun K1 hK1 => ?_ | refine awp_cond_k fun A B hA hB => ?_); simp only [S1, simprocAttr, TTCkF, hb, hb']; first | (refine hK1 _ ?_; clear hK1 K1) | ((first | refine hA ?_ | refine hB ?_); clear hA hB A B) | (((first | (refine ⟨fun hg => hA ?_, fun hg => hB ?_⟩ <;> clear hA hB A B) | refine ⟨fun hg => ?_, fun hg => ?_⟩) <;> (try simp only [BN2] at hg) <;> (try simp only [hg, cond_true, cond_false])) <;> (try (refine hK1 _ ?_; clear hK1 K1)) <;> (try simp only [BN3] at hg))) | (refine awp_seq_k fun K hK => ?_) | ((first | refine awp_region ?_ | refine awp_draw (by kernel_rfl) ?_ | refine awp_block ?_ | refine awp_exit ?_ | refine awp_skip ?_ | refine awp_ret ?_); (try simp only [NB, simprocAttr])))
  all_goals simp only [EndP, FinP, resA, resL, resA1, lastV, lastA, lastAs, pur, purs, take_app, List.take_length, S1, simprocAttr, TTCkF, Nat.le_add_right, Nat.le_refl]

theorem indexA_calls {f : FuncId} (hE : Enters Try.prog f) {caps : List AV} {p : Al → Bool} {l : List Al} {lb : Nat} {g : Gz} (hl : l.length ≤ 100) {H : Heap} (hlb0 : H[lb]? = some (alB g l)) (hlt : lb < H.length) (hcap : avlts H.length caps)
    (hc0 : ∀ a ∈ l, ACalls Try.prog G f (.agg [.i a.1, .i a.2] :: caps) H (fun r h' => r = .b (p a) ∧ h' = H)) :
    ACalls Try.prog G 32 [.ref lb g.1 0 2 l.length, .fn f caps] H (fun r h' => r = .i (findA p l 0) ∧ h' = H) := by
  refine acalls_pure (rl := []) mixed Try.func32 rfl (rs := [.tmp 4]) rfl Try.ntmps32 (by simp) ?_
  repeat' (first | ((first | refine aops_nil ?_ | refine aqops_nil ?_); (try simp only [NB])) | ((repeat ((fail_if_success (refine hK _ ?_)); clear hK K)); refine hK _ ?_; clear hK K) | ((first | refine aops_k fun K1 hK1 => ?_ | refine aqops_k fun K1 hK1 => ?_ | refine awp_cond_k fun A B hA hB => ?_); simp only [S1, simprocAttr, TTCkF]; first | (refine hK1 _ ?_; clear hK1 K1) | ((first | refine hA ?_ | refine hB ?_); clear hA hB A B) | (((first | (refine ⟨fun hg => hA ?_, fun hg => hB ?_⟩ <;> clear hA hB A B) | refine ⟨fun hg => ?_, fun hg => ?_⟩) <;> (try simp only [BN2] at hg) <;> (try simp only [hg, cond_true, cond_false])) <;> (try (refine hK1 _ ?_; clear hK1 K1)) <;> (try simp only [BN3] at hg))) | (refine awp_seq_k fun K hK => ?_) | ((first | refine awp_region ?_ | refine awp_draw (by kernel_rfl) ?_ | refine awp_block ?_ | refine awp_exit ?_ | refine awp_skip ?_ | refine awp_ret ?_); (try simp only [NB, simprocAttr])))
  refine awp_for l.length 19 (fun i => [(8, .i i), (7, .i l.length), (0, .ref lb g.1 0 2 l.length), (1, .fn f caps)]) (fun i => []) (fun i => findA p l 0 = findA p (l.drop i) i) ?_ rfl fun i hi hp K hK => ?_
  · (refine ⟨rfl, (by first | exact ⟨_, rfl⟩ | exact ⟨[], by simp⟩), ?_, ?_⟩ <;> simp only [keeps, avlt, avlts, blksLt, frL, upd_get, S1, simprocAttr, List.length_map, Int.natCast_zero, AV.p.injEq, PV.int.injEq, PV.bool.injEq, PV.sl.injEq] <;> (try and_intros) <;> (try assumption) <;> (try trivial) <;> (try omega))
  rcases Nat.lt_or_ge i l.length with hlt2 | hge
  · obtain ⟨k, hx⟩ : ∃ k, l[i]? = some k := ⟨_, List.getElem?_eq_getElem hlt2⟩
    have hm := List.mem_of_getElem? hx
    have hlb : H[lb]? = some (some ⟨g.1, cAl l⟩) := by rw [hlb0, alB, cZ_at hx]
    rw [findA_step hx] at hp
    have jl : (i : Int) < (l.length : Int) := by omega
    have j0 : (0 : Int) ≤ (i : Int) := by omega
    have hnx : IntKind.i64.wrap ((i : Int) + 1) = ((i + 1 : Nat) : Int) := by rw [IntWalk.i64_in _ (by omega)]; omega
    have ht := cAl_take2 l i k hx
    have hle : 2 ≤ l.length * 2 - i * 2 := by omega
    repeat' (first | ((first | refine aops_nil ?_ | refine aqops_nil ?_); (try simp only [NB])) | ((repeat ((fail_if_success (refine hK _ ?_)); clear hK K)); refine hK _ ?_; clear hK K) | ((first | refine aops_k fun K1 hK1 => ?_ | refine aqops_k fun K1 hK1 => ?_ | refine awp_cond_k fun A B hA hB => ?_); simp only [S1, simprocAttr, TTCkF, jl, j0, hnx, hlb, takeC_st, ht, hle, cAl_len, List.length_drop, Nat.zero_add]; first | (refine hK1 _ ?_; clear hK1 K1) | ((first | refine hA ?_ | refine hB ?_); clear hA hB A B) | ((first | apply call_a hE | apply call_q hE); exact (hc0 k hm); (refine hK1 _ ?_; clear hK1 K1)) | (((first | (refine ⟨fun hg => hA ?_, fun hg => hB ?_⟩ <;> clear hA hB A B) | refine ⟨fun hg => ?_, fun hg => ?_⟩) <;> (try simp only [BN2] at hg) <;> (try simp only [hg, cond_true, cond_false])) <;> (try (refine hK1 _ ?_; clear hK1 K1)) <;> (try simp only [BN3] at hg))) | (refine awp_seq_k fun K hK => ?_) | ((first | refine awp_region ?_ | refine awp_draw (by kernel_rfl) ?_ | refine awp_block ?_ | refine awp_exit ?_ | refine awp_skip ?_ | refine awp_ret ?_); (try simp only [NB, simprocAttr])))
    · simp only [EndP, FinP, resA, resL, resA1, lastV, lastA, lastAs, pur, purs, take_app, List.take_length, S1, simprocAttr, TTCkF, Nat.le_add_right, Nat.le_refl]
      simp [hp, hg]
    · exact ⟨hlt2, by simpa [hg] using hp, by (refine ⟨rfl, (by first | exact ⟨_, rfl⟩ | exact ⟨[], by simp⟩), ?_, ?_⟩ <;> simp only [keeps, avlt, avlts, blksLt, frL, upd_get, S1, simprocAttr, List.length_map, Int.natCast_zero, AV.p.injEq, PV.int.injEq, PV.bool.injEq, PV.sl.injEq] <;> (try and_intros) <;> (try assumption) <;> (try trivial) <;> (try omega))⟩
  · obtain rfl : i = l.length := by omega
    repeat' (first | ((first | refine aops_nil ?_ | refine aqops_nil ?_); (try simp only [NB])) | ((repeat ((fail_if_success (refine hK _ ?_)); clear hK K)); refine hK _ ?_; clear hK K) | ((first | refine aops_k fun K1 hK1 => ?_ | refine aqops_k fun K1 hK1 => ?_ | refine awp_cond_k fun A B hA hB => ?_); simp only [S1, simprocAttr, TTCkF, Int.lt_irrefl]; first | (refine hK1 _ ?_; clear hK1 K1) | ((first | refine hA ?_ | refine hB ?_); clear hA hB A B) | (((first | (refine ⟨fun hg => hA ?_, fun hg => hB ?_⟩ <;> clear hA hB A B) | refine ⟨fun hg => ?_, fun hg => ?_⟩) <;> (try simp only [BN2] at hg) <;> (try simp only [hg, cond_true, cond_false])) <;> (try (refine hK1 _ ?_; clear hK1 K1)) <;> (try simp only [BN3] at hg))) | (refine awp_seq_k fun K hK => ?_) | ((first | refine awp_region ?_ | refine awp_draw (by kernel_rfl) ?_ | refine awp_block ?_ | refine awp_exit ?_ | refine awp_skip ?_ | refine awp_ret ?_); (try simp only [NB, simprocAttr])))
    simp only [EndP, FinP, resA, resL, resA1, lastV, lastA, lastAs, pur, purs, take_app, List.take_length, S1, simprocAttr, TTCkF, Nat.le_add_right, Nat.le_refl]
    rw [List.drop_length] at hp
    simp [hp, findA]

section
variable {h : Heap} {b lb : Nat} {g : Gz} {now : Int} {l : List Al}
theorem find_calls (hb : b < h.length) (hl : lb < h.length) (hne : b ≠ lb) (hn : l.length ≤ 100) (id : Int) :
    ACalls Try.prog G 22 [.ptr b 0 0, .i id] (putK h b lb now g l) (fun r h' => r = .i (findA (fun a => a.2 == id) l 0) ∧ h' = putK h b lb now g l) := by
  have hE := E33
  have hlen : (putK h b lb now g l).length = h.length := pk_len
  have hfc := fun (a : Al) => find1_calls (G := G) a id (H := putK h b lb now g l ++ [some ⟨0, [.i id]⟩]) (bx := h.length) (pk_get0 _) (by rw [List.length_append, hlen]; simp)
  have hix := indexA_calls (G := G) hE (caps := [.ptr h.length 0 0]) (p := fun a => a.2 == id) hn (H := putK h b lb now g l ++ [some ⟨0, [.i id]⟩]) (pk_lb (b := b) (now := now) (g := g) (l := l) hl _) (by rw [List.length_append, hlen]; omega) ⟨by rw [List.length_append, hlen]; exact Nat.lt_succ_self _, trivial⟩ (fun a _ => hfc a)
  refine acalls_pure (rl := []) mixed Try.func22 rfl (rs := [.tmp 4]) rfl Try.ntmps22 (by simp) ?_
  repeat' (first | ((first | refine aops_nil ?_ | refine aqops_nil ?_); (try simp only [NB])) | ((repeat ((fail_if_success (refine hK _ ?_)); clear hK K)); refine hK _ ?_; clear hK K) | ((first | refine aops_k fun K1 hK1 => ?_ | refine aqops_k fun K1 hK1 => ?_ | refine awp_cond_k fun A B hA hB => ?_); simp only [S1, simprocAttr, TTCkF, pk_len, pk_b hb hne, ckB]; first | (refine hK1 _ ?_; clear hK1 K1) | ((first | refine hA ?_ | refine hB ?_); clear hA hB A B) | ((first | apply call_a E32 | apply call_q E32); exact hix; (refine hK1 _ ?_; clear hK1 K1)) | (((first | (refine ⟨fun hg => hA ?_, fun hg => hB ?_⟩ <;> clear hA hB A B) | refine ⟨fun hg => ?_, fun hg => ?_⟩) <;> (try simp only [BN2] at hg) <;> (try simp only [hg, cond_true, cond_false])) <;> (try (refine hK1 _ ?_; clear hK1 K1)) <;> (try simp only [BN3] at hg))) | (refine awp_seq_k fun K hK => ?_) | ((first | refine awp_region ?_ | refine awp_draw (by kernel_rfl) ?_ | refine awp_block ?_ | refine awp_exit ?_ | refine awp_skip ?_ | refine awp_ret ?_); (try simp only [NB, simprocAttr])))
  all_goals simp only [EndP, FinP, resA, resL, resA1, lastV, lastA, lastAs, pur, purs, take_app, List.take_length, S1, simprocAttr, TTCkF, Nat.le_add_right, Nat.le_refl, pk_take, pk_len]

theorem later_calls (hb : b < h.length) (hl : lb < h.length) (hne : b ≠ lb) (h0 : 0 ≤ now) (h1 : now ≤ maxC) (n : Int) (hn0 : 0 ≤ n) (hn1 : n ≤ maxC) :
    ACalls Try.prog G 23 [.ptr b 0 0, .i n] (putK h b lb now g l) (fun r h' => r = (if n > maxC - now then .tup [.i 0, .b false] else .tup [.i (now + n), .b true]) ∧ h' = putK h b lb now g l) := by
  have hw : IntKind.i64.wrap (1099511627776 - now) = 1099511627776 - now := IntWalk.i64_in _ (by unfold maxC at h1; omega)
  have hw2 : IntKind.i64.wrap (now + n) = now + n := IntWalk.i64_in _ (by unfold maxC at h1 hn1; omega)
  by_cases hc : n > maxC - now
  · have hc' : 1099511627776 - now < n := by unfold maxC at hc; omega
    rw [if_pos hc]
    refine acalls_pure (rl := []) mixed Try.func23 rfl (rs := [.tmp 4, .tmp 5]) rfl Try.ntmps23 (by simp) ?_
    repeat' (first | ((first | refine aops_nil ?_ | refine aqops_nil ?_); (try simp only [NB])) | ((repeat ((fail_if_success (refine hK _ ?_)); clear hK K)); refine hK _ ?_; clear hK K) | ((first | refine aops_k fun K1 hK1 => ?_ | refine aqops_k fun K1 hK1 => ?_ | refine awp_cond_k fun A B hA hB => ?_); simp only [S1, simprocAttr, TTCkF, hw, hw2, hc']; first | (refine hK1 _ ?_; clear hK1 K1) | ((first | refine hA ?_ | refine hB ?_); clear hA hB A B) | ((first | apply call_a E17 | apply call_q E17); exact (now_calls hb hl hne); (refine hK1 _ ?_; clear hK1 K1)) | (((first | (refine ⟨fun hg => hA ?_, fun hg => hB ?_⟩ <;> clear hA hB A B) | refine ⟨fun hg => ?_, fun hg => ?_⟩) <;> (try simp only [BN2] at hg) <;> (try simp only [hg, cond_true, cond_false])) <;> (try (refine hK1 _ ?_; clear hK1 K1)) <;> (try simp only [BN3] at hg))) | (refine awp_seq_k fun K hK => ?_) | ((first | refine awp_region ?_ | refine awp_draw (by kernel_rfl) ?_ | refine awp_block ?_ | refine awp_exit ?_ | refine awp_skip ?_ | refine awp_ret ?_); (try simp only [NB, simprocAttr])))
    all_goals simp only [EndP, FinP, resA, resL, resA1, lastV, lastA, lastAs, pur, purs, take_app, List.take_length, S1, simprocAttr, TTCkF, Nat.le_add_right, Nat.le_refl, pk_take0]
  · have hc' : ¬ (1099511627776 - now < n) := by unfold maxC at hc; omega
    rw [if_neg hc]
    refine acalls_pure (rl := []) mixed Try.func23 rfl (rs := [.tmp 4, .tmp 5]) rfl Try.ntmps23 (by simp) ?_
    repeat' (first | ((first | refine aops_nil ?_ | refine aqops_nil ?_); (try simp only [NB])) | ((repeat ((fail_if_success (refine hK _ ?_)); clear hK K)); refine hK _ ?_; clear hK K) | ((first | refine aops_k fun K1 hK1 => ?_ | refine aqops_k fun K1 hK1 => ?_ | refine awp_cond_k fun A B hA hB => ?_); simp only [S1, simprocAttr, TTCkF, hw, hw2, hc']; first | (refine hK1 _ ?_; clear hK1 K1) | ((first | refine hA ?_ | refine hB ?_); clear hA hB A B) | ((first | apply call_a E17 | apply call_q E17); exact (now_calls hb hl hne); (refine hK1 _ ?_; clear hK1 K1)) | (((first | (refine ⟨fun hg => hA ?_, fun hg => hB ?_⟩ <;> clear hA hB A B) | refine ⟨fun hg => ?_, fun hg => ?_⟩) <;> (try simp only [BN2] at hg) <;> (try simp only [hg, cond_true, cond_false])) <;> (try (refine hK1 _ ?_; clear hK1 K1)) <;> (try simp only [BN3] at hg))) | (refine awp_seq_k fun K hK => ?_) | ((first | refine awp_region ?_ | refine awp_draw (by kernel_rfl) ?_ | refine awp_block ?_ | refine awp_exit ?_ | refine awp_skip ?_ | refine awp_ret ?_); (try simp only [NB, simprocAttr])))
    all_goals simp only [EndP, FinP, resA, resL, resA1, lastV, lastA, lastAs, pur, purs, take_app, List.take_length, S1, simprocAttr, TTCkF, Nat.le_add_right, Nat.le_refl, pk_take0]
end
end Go.Proofs.Ytbbmfemplmelhaa.AM
end

section
set_option linter.unusedVariables false
set_option linter.unusedSimpArgs false
set_option maxRecDepth 4000
set_option maxHeartbeats 4000000
namespace Go.Proofs.Ytbbmfemplmelhaa.AM
open Go Go.Proofs
set_option linter.defProp false in
def TTCkG := And.intro T2 (And.intro T3 (And.intro T4 (And.intro T22 (And.intro T25 (And.intro T28 (And.intro T54 (And.intro T55 (And.intro T57 (And.intro T59 T73)))))))))
attribute [local irreducible] awp aops aqops aeops arun arunT
variable {G : Nat → Option (List PV)}
section
variable {h : Heap} {b lb : Nat} {g g0 : Gz} {now now0 : Int} {l l0 : List Al}
theorem pk_keep' (hl : lb < h.length) (i : Nat) (bk : Blk) (hi : (putK h b lb now g l)[i]? = some (some bk)) : (putK h b lb now0 g0 l0)[i]? = some (some bk) ∨ ∀ x, x ∈ bk.cells → AVlt h.length x :=
  (pk_keep hl i bk hi).imp id fun hx => by rw [pk_len] at hx; exact avlts_lt _ hx

theorem tick_calls (hb : b < h.length) (hl : lb < h.length) (hne : b ≠ lb) (h0 : 0 ≤ now) (h1 : now ≤ maxC) (n : Int) :
    ACalls Try.prog G 11 [.ptr b 0 0, .i n] (putK h b lb now g l) (fun r h' => r = .i (tickC now n).1 ∧ h' = putK h b lb (tickC now n).2 g l) := by
  by_cases ha : n < 0
  · have e : tickC now n = (1, now) := by unfold tickC; rw [if_pos (.inl ha)]
    rw [e]
    refine acalls_pure (rl := []) mixed Try.func11 rfl (rs := [.tmp 4]) rfl Try.ntmps11 (by simp) ?_
    repeat' (first | ((first | refine aops_nil ?_ | refine aqops_nil ?_); (try simp only [NB])) | ((repeat ((fail_if_success (refine hK _ ?_)); clear hK K)); refine hK _ ?_; clear hK K) | ((first | refine aops_k fun K1 hK1 => ?_ | refine aqops_k fun K1 hK1 => ?_ | refine awp_cond_k fun A B hA hB => ?_); simp only [S1, simprocAttr, TTCkG, ha]; first | (refine hK1 _ ?_; clear hK1 K1) | ((first | refine hA ?_ | refine hB ?_); clear hA hB A B) | (refine join_x (v := ?_) (fun hg hk9 => ?_) ?_; rotate_left; (focus (try ((try simp only [BN] at hg); simp only [S1, simprocAttr, TTCkG, ha, hg] at hk9 ⊢)); first | exact hk9); (refine hK1 _ ?_; clear hK1 K1)) | (((first | (refine ⟨fun hg => hA ?_, fun hg => hB ?_⟩ <;> clear hA hB A B) | refine ⟨fun hg => ?_, fun hg => ?_⟩) <;> (try simp only [BN2] at hg) <;> (try simp only [hg, cond_true, cond_false])) <;> (try (refine hK1 _ ?_; clear hK1 K1)) <;> (try simp only [BN3] at hg))) | (refine awp_seq_k fun K hK => ?_) | ((first | refine awp_region ?_ | refine awp_draw (by kernel_rfl) ?_ | refine awp_block ?_ | refine awp_exit ?_ | refine awp_skip ?_ | refine awp_ret ?_); (try simp only [NB, simprocAttr])))
    all_goals simp only [EndP, FinP, resA, resL, resA1, lastV, lastA, lastAs, pur, purs, take_app, List.take_length, S1, simprocAttr, TTCkG, Nat.le_add_right, Nat.le_refl, pk_take0]
  by_cases hc : 1099511627776 < n
  · have e : tickC now n = (1, now) := by unfold tickC; rw [if_pos (.inr hc)]
    rw [e]
    refine acalls_pure (rl := []) mixed Try.func11 rfl (rs := [.tmp 4]) rfl Try.ntmps11 (by simp) ?_
    repeat' (first | ((first | refine aops_nil ?_ | refine aqops_nil ?_); (try simp only [NB])) | ((repeat ((fail_if_success (refine hK _ ?_)); clear hK K)); refine hK _ ?_; clear hK K) | ((first | refine aops_k fun K1 hK1 => ?_ | refine aqops_k fun K1 hK1 => ?_ | refine awp_cond_k fun A B hA hB => ?_); simp only [S1, simprocAttr, TTCkG, ha, hc]; first | (refine hK1 _ ?_; clear hK1 K1) | ((first | refine hA ?_ | refine hB ?_); clear hA hB A B) | (refine join_x (v := ?_) (fun hg hk9 => ?_) ?_; rotate_left; (focus (try ((try simp only [BN] at hg); simp only [S1, simprocAttr, TTCkG, ha, hc, hg] at hk9 ⊢)); first | exact hk9); (refine hK1 _ ?_; clear hK1 K1)) | (((first | (refine ⟨fun hg => hA ?_, fun hg => hB ?_⟩ <;> clear hA hB A B) | refine ⟨fun hg => ?_, fun hg => ?_⟩) <;> (try simp only [BN2] at hg) <;> (try simp only [hg, cond_true, cond_false])) <;> (try (refine hK1 _ ?_; clear hK1 K1)) <;> (try simp only [BN3] at hg))) | (refine awp_seq_k fun K hK => ?_) | ((first | refine awp_region ?_ | refine awp_draw (by kernel_rfl) ?_ | refine awp_block ?_ | refine awp_exit ?_ | refine awp_skip ?_ | refine awp_ret ?_); (try simp only [NB, simprocAttr])))
    all_goals simp only [EndP, FinP, resA, resL, resA1, lastV, lastA, lastAs, pur, purs, take_app, List.take_length, S1, simprocAttr, TTCkG, Nat.le_add_right, Nat.le_refl, pk_take0]
  have hlt := later_calls (G := G) (g := g) (l := l) hb hl hne h0 h1 n (by omega) (by unfold maxC; omega)
  have e0 : ¬ (n < 0 ∨ n > maxC) := by unfold maxC; omega
  by_cases hm : n > maxC - now
  · have e : tickC now n = (40, now) := by unfold tickC; rw [if_neg e0, if_pos hm]
    rw [if_pos hm] at hlt
    rw [e]
    refine acalls_pure (rl := []) mixed Try.func11 rfl (rs := [.tmp 4]) rfl Try.ntmps11 (by simp) ?_
    repeat' (first | ((first | refine aops_nil ?_ | refine aqops_nil ?_); (try simp only [NB])) | ((repeat ((fail_if_success (refine hK _ ?_)); clear hK K)); refine hK _ ?_; clear hK K) | ((first | refine aops_k fun K1 hK1 => ?_ | refine aqops_k fun K1 hK1 => ?_ | refine awp_cond_k fun A B hA hB => ?_); simp only [S1, simprocAttr, TTCkG, ha, hc]; first | (refine hK1 _ ?_; clear hK1 K1) | ((first | refine hA ?_ | refine hB ?_); clear hA hB A B) | ((first | apply call_a E23 | apply call_q E23); exact hlt; (refine hK1 _ ?_; clear hK1 K1)) | (refine join_x (v := ?_) (fun hg hk9 => ?_) ?_; rotate_left; (focus (try ((try simp only [BN] at hg); simp only [S1, simprocAttr, TTCkG, ha, hc, hg] at hk9 ⊢)); first | exact hk9 | ((first | apply call_a E23 | apply call_q E23); exact hlt; exact hk9)); (refine hK1 _ ?_; clear hK1 K1)) | (((first | (refine ⟨fun hg => hA ?_, fun hg => hB ?_⟩ <;> clear hA hB A B) | refine ⟨fun hg => ?_, fun hg => ?_⟩) <;> (try simp only [BN2] at hg) <;> (try simp only [hg, cond_true, cond_false])) <;> (try (refine hK1 _ ?_; clear hK1 K1)) <;> (try simp only [BN3] at hg))) | (refine awp_seq_k fun K hK => ?_) | ((first | refine awp_region ?_ | refine awp_draw (by kernel_rfl) ?_ | refine awp_block ?_ | refine awp_exit ?_ | refine awp_skip ?_ | refine awp_ret ?_); (try simp only [NB, simprocAttr])))
    all_goals simp only [EndP, FinP, resA, resL, resA1, lastV, lastA, lastAs, pur, purs, take_app, List.take_length, S1, simprocAttr, TTCkG, Nat.le_add_right, Nat.le_refl, pk_take0]
  · have e : tickC now n = (0, now + n) := by unfold tickC; rw [if_neg e0, if_neg hm]
    rw [if_neg hm] at hlt
    rw [e]
    have hst := atomic_store (G := G) (P := Try.prog) store_fn (pk_b0 (now := now) (g := g) (l := l) hb hne) (off := 0) (n := now + n) rfl
    have hnw : (putK h b lb now g l).set b (some ⟨0, ([.i now, .ref lb g.1 0 2 l.length] : List AV).set 0 (AV.i (now + n))⟩) = putK h b lb (now + n) g l := pk_now hb hne
    rw [hnw] at hst
    refine acalls_heap (rl := []) mixed Try.func11 rfl (rs := [.tmp 4]) rfl Try.ntmps11 (by simp) ?_
    repeat' (first | ((first | refine aops_nil ?_ | refine aqops_nil ?_); (try simp only [NB])) | ((repeat ((fail_if_success (refine hK _ ?_)); clear hK K)); refine hK _ ?_; clear hK K) | ((first | refine aops_k fun K1 hK1 => ?_ | refine aqops_k fun K1 hK1 => ?_ | refine awp_cond_k fun A B hA hB => ?_); simp only [S1, simprocAttr, TTCkG, ha, hc, pk_len]; first | (refine hK1 _ ?_; clear hK1 K1) | ((first | refine hA ?_ | refine hB ?_); clear hA hB A B) | ((first | apply call_a E23 | apply call_q E23); exact hlt; (refine hK1 _ ?_; clear hK1 K1)) | ((first | apply call_a E26 | apply call_q E26); exact hst; (refine hK1 _ ?_; clear hK1 K1)) | (refine join_x (v := ?_) (fun hg hk9 => ?_) ?_; rotate_left; (focus (try ((try simp only [BN] at hg); simp only [S1, simprocAttr, TTCkG, ha, hc, pk_len, hg] at hk9 ⊢)); first | exact hk9 | ((first | apply call_a E23 | apply call_q E23); exact hlt; exact hk9) | ((first | apply call_a E26 | apply call_q E26); exact hst; exact hk9)); (refine hK1 _ ?_; clear hK1 K1)) | (((first | (refine ⟨fun hg => hA ?_, fun hg => hB ?_⟩ <;> clear hA hB A B) | refine ⟨fun hg => ?_, fun hg => ?_⟩) <;> (try simp only [BN2] at hg) <;> (try simp only [hg, cond_true, cond_false])) <;> (try (refine hK1 _ ?_; clear hK1 K1)) <;> (try simp only [BN3] at hg))) | (refine awp_seq_k fun K hK => ?_) | ((first | refine awp_region ?_ | refine awp_draw (by kernel_rfl) ?_ | refine awp_block ?_ | refine awp_exit ?_ | refine awp_skip ?_ | refine awp_ret ?_); (try simp only [NB, simprocAttr])))
    all_goals simp only [EndH, FinH, resA, resL, resA1, lastV, lastA, lastAs, pur, purs, pk_len, pk_take, pk_take0, S1, simprocAttr, Nat.le_add_right, Nat.le_refl] <;> first | exact pk_keep' hl | exact ⟨pk_keep' hl, rfl⟩ | exact ⟨pk_keep' hl, rfl, rfl⟩
end
end Go.Proofs.Ytbbmfemplmelhaa.AM
end

section
set_option linter.unusedVariables false
set_option linter.unusedSimpArgs false
set_option maxRecDepth 4000
set_option maxHeartbeats 4000000
namespace Go.Proofs.Ytbbmfemplmelhaa.AM
open Go Go.Proofs
set_option linter.defProp false in
def TTCkH := And.intro T2 (And.intro T3 (And.intro T4 (And.intro T22 (And.intro T25 (And.intro T28 (And.intro T54 (And.intro T55 (And.intro T57 (And.intro T59 T73)))))))))
attribute [local irreducible] awp aops aqops aeops arun arunT
variable {G : Nat → Option (List PV)}

theorem findA_spec {p : Al → Bool} : ∀ (l : List Al) (k : Nat), (findA p l k = -1 ∧ l.find? p = none) ∨ ∃ (i : Nat) (a : Al), findA p l k = ((k + i : Nat) : Int) ∧ l[i]? = some a ∧ l.find? p = some a
  | [], k => .inl ⟨rfl, rfl⟩
  | x :: l, k => by
    unfold findA
    rw [List.find?_cons]
    cases hx : p x with
    | true => exact .inr ⟨0, x, by simp, rfl, rfl⟩
    | false =>
      rcases findA_spec l (k + 1) with ⟨h1, h2⟩ | ⟨i, a, h1, h2, h3⟩
      · exact .inl ⟨by simpa using h1, by simpa using h2⟩
      · exact .inr ⟨i + 1, a, by simp only [Bool.false_eq_true, if_false, h1]; omega, h2, by simpa using h3⟩

section
variable {h : Heap} {b lb : Nat} {g : Gz} {now : Int} {l : List Al}
theorem max_is (x : Int) : (if (0 : Int) < x then x else 0) = max 0 x := by omega

theorem left_calls (hb : b < h.length) (hl : lb < h.length) (hne : b ≠ lb) (ok : CkOk now l) (id : Int) :
    ACalls Try.prog G 15 [.ptr b 0 0, .i id] (putK h b lb now g l) (fun r h' => r = .tup [.i (leftC now l id).1, .b (leftC now l id).2] ∧ h' = putK h b lb now g l) := by
  have hfd := find_calls (G := G) (now := now) (g := g) hb hl hne (Nat.le_trans ok.len (by omega)) id
  have h64 := ok.len
  rcases findA_spec (p := fun a => a.2 == id) l 0 with ⟨h1, h2⟩ | ⟨i, a, h1, h2, h3⟩
  · have e : leftC now l id = (0, false) := by unfold leftC; rw [h2]
    rw [h1] at hfd
    rw [e]
    refine acalls_pure (rl := []) mixed Try.func15 rfl (rs := [.tmp 4, .tmp 5]) rfl Try.ntmps15 (by simp) ?_
    repeat' (first | ((first | refine aops_nil ?_ | refine aqops_nil ?_); (try simp only [NB])) | ((repeat ((fail_if_success (refine hK _ ?_)); clear hK K)); refine hK _ ?_; clear hK K) | ((first | refine aops_k fun K1 hK1 => ?_ | refine aqops_k fun K1 hK1 => ?_ | refine awp_cond_k fun A B hA hB => ?_); simp only [S1, simprocAttr, TTCkH]; first | (refine hK1 _ ?_; clear hK1 K1) | ((first | refine hA ?_ | refine hB ?_); clear hA hB A B) | ((first | apply call_a E22 | apply call_q E22); exact hfd; (refine hK1 _ ?_; clear hK1 K1)) | (((first | (refine ⟨fun hg => hA ?_, fun hg => hB ?_⟩ <;> clear hA hB A B) | refine ⟨fun hg => ?_, fun hg => ?_⟩) <;> (try simp only [BN2] at hg) <;> (try simp only [hg, cond_true, cond_false])) <;> (try (refine hK1 _ ?_; clear hK1 K1)) <;> (try simp only [BN3] at hg))) | (refine awp_seq_k fun K hK => ?_) | ((first | refine awp_region ?_ | refine awp_draw (by kernel_rfl) ?_ | refine awp_block ?_ | refine awp_exit ?_ | refine awp_skip ?_ | refine awp_ret ?_); (try simp only [NB, simprocAttr])))
    all_goals simp only [EndP, FinP, resA, resL, resA1, lastV, lastA, lastAs, pur, purs, take_app, List.take_length, S1, simprocAttr, TTCkH, Nat.le_add_right, Nat.le_refl, pk_take0]
  · have e : leftC now l id = (max 0 (a.1 - now), true) := by unfold leftC; rw [h3]
    rw [Nat.zero_add] at h1
    rw [h1] at hfd
    rw [e, ← max_is]
    have ht := cAl_take2 l i a h2
    have hil := (List.getElem?_eq_some_iff.mp h2).1
    have hle : 2 ≤ l.length * 2 - i * 2 := by omega
    have hat := cAl_at l i a h2
    have hd0 : ((cAl l).drop (i * 2))[0]? = some (AV.i a.1) := by rw [List.getElem?_drop]; exact hat.1
    have jl : (i : Int) < (l.length : Int) := by omega
    have j0 : ¬ ((i : Int) < 0) := by omega
    have j1 : (0 : Int) ≤ (i : Int) := by omega
    have ha := ok.at_ a (List.mem_of_getElem? h2)
    have hw : IntKind.i64.wrap (a.1 - now) = a.1 - now := IntWalk.i64_in _ (by have := ok.n0; have := ok.n1; unfold maxC at *; omega)
    have hlb : (putK h b lb now g l)[lb]? = some (some ⟨g.1, cAl l⟩) := by rw [pk_lb0 hl, alB, cZ_at h2]
    have hdd : (cAl l).drop (i * 2) = .i a.1 :: .i a.2 :: (cAl l).drop (i * 2 + 2) := by
      rw [cAl_drop, List.drop_eq_getElem_cons hil, (List.getElem?_eq_some_iff.mp h2).2]
      rw [show i * 2 + 2 = (i + 1) * 2 by omega, cAl_drop]; rfl
    refine acalls_pure (rl := []) mixed Try.func15 rfl (rs := [.tmp 4, .tmp 5]) rfl Try.ntmps15 (by simp) ?_
    repeat' (first | ((first | refine aops_nil ?_ | refine aqops_nil ?_); (try simp only [NB])) | ((repeat ((fail_if_success (refine hK _ ?_)); clear hK K)); refine hK _ ?_; clear hK K) | ((first | refine aops_k fun K1 hK1 => ?_ | refine aqops_k fun K1 hK1 => ?_ | refine awp_cond_k fun A B hA hB => ?_); simp only [S1, simprocAttr, TTCkH, jl, j0, j1, pk_b0 hb hne, hlb, ckB, takeC_st, hdd, hle, hw, cAl_len, List.length_drop, Nat.zero_add]; first | (refine hK1 _ ?_; clear hK1 K1) | ((first | refine hA ?_ | refine hB ?_); clear hA hB A B) | ((first | apply call_a E22 | apply call_q E22); exact hfd; (refine hK1 _ ?_; clear hK1 K1)) | ((first | apply call_a E17 | apply call_q E17); exact (now_calls hb hl hne); (refine hK1 _ ?_; clear hK1 K1)) | (((first | (refine ⟨fun hg => hA ?_, fun hg => hB ?_⟩ <;> clear hA hB A B) | refine ⟨fun hg => ?_, fun hg => ?_⟩) <;> (try simp only [BN2] at hg) <;> (try simp only [hg, cond_true, cond_false])) <;> (try (refine hK1 _ ?_; clear hK1 K1)) <;> (try simp only [BN3] at hg))) | (refine awp_seq_k fun K hK => ?_) | ((first | refine awp_region ?_ | refine awp_draw (by kernel_rfl) ?_ | refine awp_block ?_ | refine awp_exit ?_ | refine awp_skip ?_ | refine awp_ret ?_); (try simp only [NB, simprocAttr])))
    all_goals simp only [EndP, FinP, resA, resL, resA1, lastV, lastA, lastAs, pur, purs, take_app, List.take_length, S1, simprocAttr, TTCkH, Nat.le_add_right, Nat.le_refl, pk_take0]

theorem next_calls (hb : b < h.length) (hl : lb < h.length) (hne : b ≠ lb) (ok : CkOk now l) :
    ACalls Try.prog G 13 [.ptr b 0 0] (putK h b lb now g l) (fun r h' => r = .tup [.i (nextC now l).1, .b (nextC now l).2] ∧ h' = putK h b lb now g l) := by
  have h64 := ok.len
  cases hq : l with
  | nil =>
    refine acalls_pure (rl := []) mixed Try.func13 rfl (rs := [.tmp 2, .tmp 3]) rfl Try.ntmps13 (by simp) ?_
    repeat' (first | ((first | refine aops_nil ?_ | refine aqops_nil ?_); (try simp only [NB])) | ((repeat ((fail_if_success (refine hK _ ?_)); clear hK K)); refine hK _ ?_; clear hK K) | ((first | refine aops_k fun K1 hK1 => ?_ | refine aqops_k fun K1 hK1 => ?_ | refine awp_cond_k fun A B hA hB => ?_); simp only [S1, simprocAttr, TTCkH, pk_b0 hb hne, pk_lb0 hl, ckB, alB]; first | (refine hK1 _ ?_; clear hK1 K1) | ((first | refine hA ?_ | refine hB ?_); clear hA hB A B) | (refine join_x (v := ?_) (fun hg hk9 => ?_) ?_; rotate_left; (focus (try ((try simp only [BN] at hg); simp only [S1, simprocAttr, TTCkH, pk_b0 hb hne, pk_lb0 hl, ckB, alB, hg] at hk9 ⊢)); first | exact hk9); (refine hK1 _ ?_; clear hK1 K1)) | (((first | (refine ⟨fun hg => hA ?_, fun hg => hB ?_⟩ <;> clear hA hB A B) | refine ⟨fun hg => ?_, fun hg => ?_⟩) <;> (try simp only [BN2] at hg) <;> (try simp only [hg, cond_true, cond_false])) <;> (try (refine hK1 _ ?_; clear hK1 K1)) <;> (try simp only [BN3] at hg))) | (refine awp_seq_k fun K hK => ?_) | ((first | refine awp_region ?_ | refine awp_draw (by kernel_rfl) ?_ | refine awp_block ?_ | refine awp_exit ?_ | refine awp_skip ?_ | refine awp_ret ?_); (try simp only [NB, simprocAttr])))
    all_goals simp only [EndP, FinP, resA, resL, resA1, lastV, lastA, lastAs, pur, purs, take_app, List.take_length, S1, simprocAttr, TTCkH, Nat.le_add_right, Nat.le_refl, pk_take0, nextC]
  | cons a r =>
    rw [hq] at ok h64
    have ha := ok.at_ a (List.mem_cons_self ..)
    have hw : IntKind.i64.wrap (a.1 - now) = a.1 - now := IntWalk.i64_in _ (by have := ok.n0; have := ok.n1; unfold maxC at *; omega)
    have hz : (((r.length + 1 : Nat) : Int) == 0) = false := by simp; omega
    have hz' : ((r.length : Int) + 1 == 0) = false := by simp; omega
    have hp : (0 : Int) < ((r.length + 1 : Nat) : Int) := by omega
    have hp' : (0 : Int) < (r.length : Int) + 1 := by omega
    have hdd : (cAl (a :: r)).drop (0 * 2) = .i a.1 :: .i a.2 :: cAl r := rfl
    have hlb : (putK h b lb now g (a :: r))[lb]? = some (some ⟨g.1, cAl (a :: r)⟩) := by rw [pk_lb0 hl, alB, cZ_ne (by simp)]
    have hc : cAl (a :: r) = .i a.1 :: .i a.2 :: cAl r := rfl
    show ACalls _ _ _ _ _ (fun r' h' => r' = .tup [.i (max 0 (a.1 - now)), .b true] ∧ h' = _)
    rw [← max_is]
    refine acalls_pure (rl := []) mixed Try.func13 rfl (rs := [.tmp 2, .tmp 3]) rfl Try.ntmps13 (by simp) ?_
    repeat' (first | ((first | refine aops_nil ?_ | refine aqops_nil ?_); (try simp only [NB])) | ((repeat ((fail_if_success (refine hK _ ?_)); clear hK K)); refine hK _ ?_; clear hK K) | ((first | refine aops_k fun K1 hK1 => ?_ | refine aqops_k fun K1 hK1 => ?_ | refine awp_cond_k fun A B hA hB => ?_); simp only [S1, simprocAttr, TTCkH, pk_b0 hb hne, hlb, ckB, takeC_st, hc, hw, hz, hz', hp, hp', cAl_len, List.length_drop, Nat.zero_add]; first | (refine hK1 _ ?_; clear hK1 K1) | ((first | refine hA ?_ | refine hB ?_); clear hA hB A B) | ((first | apply call_a E17 | apply call_q E17); exact (now_calls hb hl hne); (refine hK1 _ ?_; clear hK1 K1)) | (refine join_x (v := ?_) (fun hg hk9 => ?_) ?_; rotate_left; (focus (try ((try simp only [BN] at hg); simp only [S1, simprocAttr, TTCkH, pk_b0 hb hne, hlb, ckB, takeC_st, hc, hw, hz, hz', hp, hp', cAl_len, List.length_drop, Nat.zero_add, hg] at hk9 ⊢)); first | exact hk9 | ((first | apply call_a E17 | apply call_q E17); exact (now_calls hb hl hne); exact hk9)); (refine hK1 _ ?_; clear hK1 K1)) | (((first | (refine ⟨fun hg => hA ?_, fun hg => hB ?_⟩ <;> clear hA hB A B) | refine ⟨fun hg => ?_, fun hg => ?_⟩) <;> (try simp only [BN2] at hg) <;> (try simp only [hg, cond_true, cond_false])) <;> (try (refine hK1 _ ?_; clear hK1 K1)) <;> (try simp only [BN3] at hg))) | (refine awp_seq_k fun K hK => ?_) | ((first | refine awp_region ?_ | refine awp_draw (by kernel_rfl) ?_ | refine awp_block ?_ | refine awp_exit ?_ | refine awp_skip ?_ | refine awp_ret ?_); (try simp only [NB, simprocAttr])))
    all_goals simp only [EndP, FinP, resA, resL, resA1, lastV, lastA, lastAs, pur, purs, take_app, List.take_length, S1, simprocAttr, TTCkH, Nat.le_add_right, Nat.le_refl, pk_take0]
end
end Go.Proofs.Ytbbmfemplmelhaa.AM
end

section
set_option linter.unusedVariables false
namespace Go.Proofs.Ytbbmfemplmelhaa.AM
open Go Go.Proofs Go.Sort

/-! An alarm of the document's clock: its id, and when it is due. -/
def swp (a : Al) : Al := (a.2, a.1)
def atR (m : List Al) (id : Int) : Int := findA (fun a => a.1 == id) m 0
def setR (now : Int) (m : List Al) (id after : Int) : Int × List Al :=
  if id < 0 ∨ after < 0 ∨ after > maxC then (1, m) else if 0 ≤ atR m id then (8, m) else if 63 < m.length then (5, m) else if now + after > maxC then (40, m) else (0, m ++ [(id, now + after)])
def dropR (m : List Al) (id : Int) : Int × List Al := if atR m id < 0 then (6, m) else (0, m.eraseIdx (atR m id).toNat)
def dropC (l : List Al) (id : Int) : Int × List Al := if findA (fun a => a.2 == id) l 0 < 0 then (6, l) else (0, l.eraseIdx (findA (fun a => a.2 == id) l 0).toNat)
def ltR (a x : Al) : Bool := decide (x.2 < a.2 ∨ (x.2 = a.2 ∧ x.1 < a.1))
def rankR (m : List Al) (a : Al) : Nat := (m.filter (ltR a)).length
def leftR (now : Int) (a : Al) : Int := if a.2 ≤ now then 0 else a.2 - now
def nxF (now : Int) (acc : Int) (a : Al) : Int := if acc < 0 ∨ leftR now a < acc then leftR now a else acc
def nxR (now : Int) (m : List Al) : Int := m.foldl (nxF now) (-1)

structure RlK (now : Int) (l m : List Al) : Prop where
  ok : CkOk now l
  pm : (m.map swp).Perm l
  nd : (m.map (·.1)).Nodup

theorem RlK.nil : RlK 0 [] [] := ⟨CkOk.nil, .refl _, by simp⟩
section
variable {now : Int} {l m : List Al}
theorem RlK.len (h : RlK now l m) : m.length = l.length := by rw [← h.pm.length_eq, List.length_map]
theorem RlK.mem (h : RlK now l m) {a : Al} : a ∈ m ↔ swp a ∈ l := by
  rw [← h.pm.mem_iff, List.mem_map]
  constructor
  · exact fun ha => ⟨a, ha, rfl⟩
  · rintro ⟨x, hx, e⟩
    obtain rfl : x = a := by unfold swp at e; cases x; cases a; simp at e ⊢; omega
    exact hx
theorem RlK.ndl (h : RlK now l m) : (l.map (·.2)).Nodup := by
  refine (h.pm.map (·.2)).nodup_iff.mp ?_
  rw [List.map_map]; exact h.nd
theorem nodup_eq {α β : Type} {f : α → β} : ∀ {l : List α} {a b : α}, (l.map f).Nodup → a ∈ l → b ∈ l → f a = f b → a = b
  | [], a, b, _, ha, _, _ => by simp at ha
  | x :: l, a, b, h, ha, hb, e => by
    rw [List.map_cons, List.nodup_cons] at h
    rcases List.mem_cons.mp ha with e1 | ha <;> rcases List.mem_cons.mp hb with e2 | hb
    · rw [e1, e2]
    · exact absurd (List.mem_map.mpr ⟨b, hb, by rw [← e, e1]⟩) h.1
    · exact absurd (List.mem_map.mpr ⟨a, ha, by rw [e, e2]⟩) h.1
    · exact nodup_eq h.2 ha hb e

theorem find_get {p : Al → Bool} {l : List Al} {a : Al} (h : l.find? p = some a) : p a = true ∧ a ∈ l := ⟨List.find?_some h, List.mem_of_find?_eq_some h⟩

/-- Where an alarm stands, in both. -/
theorem RlK.at_ (h : RlK now l m) (id : Int) : (atR m id = -1 ∧ findA (fun a => a.2 == id) l 0 = -1 ∧ hasA l id = false ∧ leftC now l id = (0, false)) ∨
    ∃ (i j : Nat) (t : Int), atR m id = i ∧ findA (fun a => a.2 == id) l 0 = j ∧ hasA l id = true ∧ m[i]? = some (id, t) ∧ l[j]? = some (t, id) ∧ leftC now l id = (max 0 (t - now), true) := by
  unfold atR
  rcases findA_spec (p := fun a => a.1 == id) m 0 with ⟨h1, h2⟩ | ⟨i, a, h1, h2, h3⟩
  · rcases findA_spec (p := fun a => a.2 == id) l 0 with ⟨g1, g2⟩ | ⟨j, c, g1, g2, g3⟩
    · refine .inl ⟨h1, g1, ?_, ?_⟩
      · unfold hasA
        rw [List.find?_eq_none] at g2
        rw [List.any_eq_false]; exact g2
      · unfold leftC; rw [g2]
    · exfalso
      have hc := find_get g3
      rw [List.find?_eq_none] at h2
      have := h2 (swp c) (h.mem.mpr (by show swp (swp c) ∈ l; exact hc.2))
      exact this (by simpa [swp] using hc.1)
  · rcases findA_spec (p := fun a => a.2 == id) l 0 with ⟨g1, g2⟩ | ⟨j, c, g1, g2, g3⟩
    · exfalso
      have hc := find_get h3
      rw [List.find?_eq_none] at g2
      exact g2 (swp a) (h.mem.mp hc.2) (by simpa [swp] using hc.1)
    · obtain ⟨p1, p2⟩ := find_get h3
      obtain ⟨q1, q2⟩ := find_get g3
      have p1 : a.1 = id := by simpa using p1
      have q1 : c.2 = id := by simpa using q1
      have e : c = swp a := nodup_eq (f := (·.2)) h.ndl q2 (h.mem.mp p2) (by show c.2 = a.1; rw [p1, q1])
      subst e
      refine .inr ⟨i, j, a.2, by rw [h1, Nat.zero_add], by rw [g1, Nat.zero_add], ?_, ?_, ?_, ?_⟩
      · unfold hasA; rw [List.any_eq_true]; exact ⟨_, q2, by simpa using q1⟩
      · rw [h2, ← p1]
      · rw [g2, ← p1]; rfl
      · unfold leftC; rw [g3]; rfl

theorem RlK.set (h : RlK now l m) (id after : Int) (hi : id ≤ 9223372036854775807) : (setC now l id after).1 = (setR now m id after).1 ∧ RlK now (setC now l id after).2 (setR now m id after).2 := by
  have hok := h.ok.set id after hi
  have hlen := h.len
  have h64 := h.ok.len
  unfold setC setR at *
  by_cases c1 : id < 0 ∨ after < 0 ∨ after > maxC
  · rw [if_pos c1, if_pos c1]; exact ⟨rfl, h⟩
  rw [if_neg c1] at hok
  rw [if_neg c1, if_neg c1]
  rcases h.at_ id with ⟨a1, a2, a3, a4⟩ | ⟨i, j, t, a1, a2, a3, a4, a5, a6⟩
  · rw [a3] at hok
    have nm : ¬ ((0 : Int) ≤ -1) := by omega
    have nf : ¬ (false = true) := by simp
    rw [a3, a1, if_neg nf, if_neg nm]
    rw [if_neg nf] at hok
    by_cases c2 : l.length = 64
    · rw [if_pos c2, if_pos (by omega)]; exact ⟨rfl, h⟩
    rw [if_neg c2] at hok
    have m63 : ¬ 63 < m.length := by omega
    rw [if_neg c2, if_neg m63]
    by_cases c3 : after > maxC - now
    · have c4 : now + after > maxC := by omega
      rw [if_pos c3, if_pos c4]; exact ⟨rfl, h⟩
    rw [if_neg c3] at hok
    have c4 : ¬ now + after > maxC := by omega
    rw [if_neg c3, if_neg c4]
    refine ⟨rfl, hok, ?_, ?_⟩
    · refine List.Perm.trans ?_ (insA_perm (now + after, id) l).symm
      rw [List.map_append]
      exact h.pm.append_right _
    · rw [List.map_append, List.nodup_append]
      refine ⟨h.nd, by simp, fun x hx y hy => ?_⟩
      simp only [List.map_cons, List.map_nil, List.mem_singleton] at hy
      subst hy
      obtain ⟨a, ha, rfl⟩ := List.mem_map.mp hx
      intro e
      have : hasA l y = true := by unfold hasA; rw [List.any_eq_true]; exact ⟨swp a, h.mem.mp ha, by simpa [swp] using e⟩
      rw [a3] at this; cases this
  · rw [a3, a1, if_pos rfl, if_pos (by omega)]
    exact ⟨rfl, h⟩

theorem erase_perm {α : Type} {l : List α} {i : Nat} {a : α} (h : l[i]? = some a) : (a :: l.eraseIdx i).Perm l := by
  obtain ⟨hlt, e⟩ := List.getElem?_eq_some_iff.mp h
  have hd : l = l.take i ++ a :: l.drop (i + 1) := by
    conv => lhs; rw [← List.take_append_drop i l]
    rw [List.drop_eq_getElem_cons hlt, e]
  rw [List.eraseIdx_eq_take_drop_succ]
  conv => rhs; rw [hd]
  exact List.perm_middle.symm
theorem CkOk.erase (h : CkOk now l) (i : Nat) : CkOk now (l.eraseIdx i) := by
  have hs : ∀ a ∈ l.eraseIdx i, a ∈ l := fun a ha => List.mem_of_mem_eraseIdx ha
  refine ⟨h.n0, h.n1, ?_, fun a ha => h.at_ a (hs a ha), fun a ha => h.id_ a (hs a ha), fun a ha => h.i64 a (hs a ha), h.srt.sublist (List.eraseIdx_sublist _ _)⟩
  have := List.length_eraseIdx_le l i
  have := h.len; omega

theorem RlK.drop (h : RlK now l m) (id : Int) : (dropC l id).1 = (dropR m id).1 ∧ RlK now (dropC l id).2 (dropR m id).2 := by
  unfold dropC dropR
  rcases h.at_ id with ⟨a1, a2, a3, a4⟩ | ⟨i, j, t, a1, a2, a3, a4, a5, a6⟩
  · rw [a1, a2, if_pos (by omega), if_pos (by omega)]; exact ⟨rfl, h⟩
  · rw [a1, a2, if_neg (by omega), if_neg (by omega), Int.toNat_natCast, Int.toNat_natCast]
    have p1 := erase_perm a4
    have p2 := erase_perm a5
    refine ⟨rfl, h.ok.erase j, ?_, h.nd.sublist ((List.eraseIdx_sublist _ _).map _)⟩
    have p3 := (p1.map swp).trans (h.pm.trans p2.symm)
    rw [List.map_cons] at p3
    exact p3.cons_inv

theorem tick_add (now n : Int) (hn : ¬ (n < 0 ∨ n > maxC)) : tickC now n = if now + n > maxC then (40, now) else (0, now + n) := by
  unfold tickC
  rw [if_neg hn]
  by_cases h : n > maxC - now
  · rw [if_pos h, if_pos (by omega)]
  · rw [if_neg h, if_neg (by omega)]
theorem RlK.tick (h : RlK now l m) (n : Int) : RlK (tickC now n).2 l m := ⟨h.ok.tick n, h.pm, h.nd⟩

theorem filter_len {α β : Type} {f : α → β} {p : α → Bool} {q : β → Bool} {m : List α} {l : List β} (hp : (m.map f).Perm l) (h : ∀ a, q (f a) = p a) : (m.filter p).length = (l.filter q).length := by
  rw [← (hp.filter q).length_eq, List.filter_map, List.length_map]
  congr 2
  funext a
  exact (h a).symm

theorem sorted_lt {l : List Al} (hs : srtA l) (hnd : (l.map (·.2)).Nodup) {i : Nat} {a : Al} (hi : l[i]? = some a) :
    l.filter (fun y => decide (cmpA y a < 0)) = l.take i ∧ ∀ y ∈ l.take i, y.1 ≤ a.1 := by
  obtain ⟨hlt, e⟩ := List.getElem?_eq_some_iff.mp hi
  have hd : l = l.take i ++ a :: l.drop (i + 1) := by
    conv => lhs; rw [← List.take_append_drop i l]
    rw [List.drop_eq_getElem_cons hlt, e]
  unfold srtA at hs
  rw [hd, List.pairwise_append, List.pairwise_cons] at hs
  obtain ⟨s1, ⟨s2, s3⟩, s4⟩ := hs
  rw [hd, List.map_append, List.nodup_append] at hnd
  obtain ⟨n1, n2, n3⟩ := hnd
  have hb : ∀ y ∈ l.take i, cmpA y a < 0 := fun y hy => by
    have h1 := s4 y hy a (List.mem_cons_self ..)
    have h2 := n3 y.2 (List.mem_map.mpr ⟨y, hy, rfl⟩) a.2 (List.mem_map.mpr ⟨a, List.mem_cons_self .., rfl⟩)
    rw [cmpA_lt] at h1 ⊢
    omega
  refine ⟨?_, fun y hy => by have := cmpA_lt.mp (hb y hy); omega⟩
  conv => lhs; rw [hd]
  rw [List.filter_append, List.filter_eq_self.mpr (fun y hy => decide_eq_true (hb y hy)), List.filter_cons_of_neg, List.filter_eq_nil_iff.mpr, List.append_nil]
  · intro y hy
    have := s2 y hy
    simpa using this
  · rw [decide_eq_true_eq, cmpA_lt]; omega

theorem RlK.rank (h : RlK now l m) {a : Al} (ha : a ∈ m) (hd : a.2 ≤ now) : rankR m a < (dueC now l).length ∧ (dueC now l)[rankR m a]? = some a.1 := by
  obtain ⟨i, hi⟩ := List.getElem?_of_mem (h.mem.mp ha)
  obtain ⟨f1, f2⟩ := sorted_lt h.ok.srt h.ndl hi
  obtain ⟨hlt, e⟩ := List.getElem?_eq_some_iff.mp hi
  have hr : rankR m a = i := by
    unfold rankR
    rw [filter_len (f := swp) (q := fun y => decide (cmpA y (swp a) < 0)) h.pm, f1, List.length_take]
    · omega
    · intro x
      unfold ltR
      exact decide_eq_decide.mpr cmpA_lt
  have key : (dueC now l)[i]? = some a.1 := by
    unfold dueC
    have hdl : l = l.take i ++ swp a :: l.drop (i + 1) := by
      conv => lhs; rw [← List.take_append_drop i l]
      rw [List.drop_eq_getElem_cons hlt, e]
    conv => lhs; rw [hdl]
    rw [List.filter_append, List.filter_eq_self.mpr (fun y hy => decide_eq_true (by have := f2 y hy; simp only [swp] at this; omega)), List.filter_cons_of_pos (by simp [swp, hd]), List.map_append, List.getElem?_append_right (by simp; omega)]
    rw [List.length_map, List.length_take, show i - min i l.length = 0 by omega]
    rfl
  rw [hr]
  exact ⟨(List.getElem?_eq_some_iff.mp key).1, key⟩

theorem RlK.count (h : RlK now l m) : (m.filter fun a => decide (a.2 ≤ now)).length = (dueC now l).length := by
  unfold dueC
  rw [List.length_map]
  exact filter_len h.pm fun a => rfl

theorem left_nn (now : Int) (a : Al) : 0 ≤ leftR now a := by unfold leftR; split <;> omega
theorem left_max (now : Int) (a : Al) : leftR now a = max 0 (a.2 - now) := by unfold leftR; split <;> omega
theorem nx_fold (now : Int) : ∀ (m : List Al) (acc : Int), -1 ≤ acc → (m = [] ∧ m.foldl (nxF now) acc = acc) ∨
    (0 ≤ m.foldl (nxF now) acc ∧ (m.foldl (nxF now) acc = acc ∨ ∃ a ∈ m, m.foldl (nxF now) acc = leftR now a) ∧ (acc < 0 → ∃ a ∈ m, m.foldl (nxF now) acc = leftR now a) ∧ (0 ≤ acc → m.foldl (nxF now) acc ≤ acc) ∧ ∀ a ∈ m, m.foldl (nxF now) acc ≤ leftR now a)
  | [], acc, _ => .inl ⟨rfl, rfl⟩
  | x :: m, acc, hacc => by
    right
    have hx := left_nn now x
    rw [List.foldl_cons]
    have hn : nxF now acc x = if acc < 0 ∨ leftR now x < acc then leftR now x else acc := rfl
    have h0 : 0 ≤ nxF now acc x ∧ nxF now acc x ≤ leftR now x ∧ (0 ≤ acc → nxF now acc x ≤ acc) ∧ (nxF now acc x = leftR now x ∨ (0 ≤ acc ∧ nxF now acc x = acc)) := by
      rw [hn]; split <;> omega
    generalize nxF now acc x = y at *
    obtain ⟨y0, y1, y2, y3⟩ := h0
    rcases nx_fold now m y (by omega) with ⟨e, he⟩ | ⟨r0, r1, r2, r3, r4⟩
    · subst e
      rw [he]
      refine ⟨y0, ?_, fun ha => ?_, y2, fun a ha => ?_⟩
      · rcases y3 with e | e
        · exact .inr ⟨x, by simp, e⟩
        · exact .inl e.2
      · rcases y3 with e | e
        · exact ⟨x, by simp, e⟩
        · omega
      · rw [List.mem_singleton] at ha; subst ha; exact y1
    · have r3 := r3 y0
      generalize m.foldl (nxF now) y = z at *
      refine ⟨r0, ?_, fun ha => ?_, fun ha => by have := y2 ha; omega, fun a ha => ?_⟩
      · rcases r1 with e | ⟨a, ha, e⟩
        · rcases y3 with e2 | e2
          · exact .inr ⟨x, by simp, by omega⟩
          · exact .inl (by omega)
        · exact .inr ⟨a, List.mem_cons_of_mem _ ha, e⟩
      · rcases r1 with e | ⟨a, ha, e⟩
        · rcases y3 with e2 | e2
          · exact ⟨x, by simp, by omega⟩
          · omega
        · exact ⟨a, List.mem_cons_of_mem _ ha, e⟩
      · rcases List.mem_cons.mp ha with e | ha
        · subst e; omega
        · exact r4 a ha

theorem RlK.next (h : RlK now l m) : (m = [] ∧ nxR now m = -1 ∧ nextC now l = (0, false)) ∨ (0 ≤ nxR now m ∧ nextC now l = (nxR now m, true)) := by
  unfold nxR
  have hl := h.len
  rcases nx_fold now m (-1) (by omega) with ⟨e, he⟩ | ⟨r0, r1, r2, r3, r4⟩
  · subst e
    have : l = [] := List.eq_nil_of_length_eq_zero (by simpa using hl.symm)
    subst this
    exact .inl ⟨rfl, he, rfl⟩
  · refine .inr ⟨r0, ?_⟩
    obtain ⟨a, ha, e⟩ := r2 (by omega)
    cases hq : l with
    | nil =>
      have := h.mem.mp ha
      rw [hq] at this; simp at this
    | cons x l' =>
      have hxm : swp x ∈ m := h.mem.mpr (by show x ∈ l; rw [hq]; simp)
      have h1 := r4 _ hxm
      rw [left_max] at h1
      have h2 : x.1 ≤ a.2 := by
        have hal := h.mem.mp ha
        have hs := h.ok.srt
        rw [hq] at hal hs
        unfold srtA at hs
        rw [List.pairwise_cons] at hs
        rcases List.mem_cons.mp hal with e | hal
        · rw [← e]; exact Int.le_refl _
        · have := hs.1 _ hal
          rw [cmpA_lt] at this
          simp only [swp] at this
          omega
      rw [left_max] at e
      have h1 : m.foldl (nxF now) (-1) ≤ max 0 (x.1 - now) := h1
      have : max 0 (x.1 - now) = m.foldl (nxF now) (-1) := by omega
      show (max 0 (x.1 - now), true) = _
      rw [this]
end
end Go.Proofs.Ytbbmfemplmelhaa.AM
end

section
set_option linter.unusedVariables false
set_option linter.unusedSimpArgs false
set_option maxRecDepth 4000
set_option maxHeartbeats 4000000
namespace Go.Proofs.Ytbbmfemplmelhaa.AM
open Go Go.Proofs Go.Sort
set_option linter.defProp false in
def TTCkI := And.intro T2 (And.intro T3 (And.intro T4 (And.intro T22 (And.intro T25 (And.intro T28 (And.intro T54 (And.intro T55 (And.intro T57 (And.intro T59 T73)))))))))
attribute [local irreducible] awp aops aqops aeops arun arunT
variable {G : Nat → Option (List PV)}

theorem findA_has (p : Al → Bool) : ∀ (l : List Al) (k : Nat), decide ((0 : Int) ≤ findA p l k) = l.any p
  | [], k => rfl
  | x :: l, k => by
    unfold findA
    cases h : p x with
    | true => simp [h]
    | false => simp [h, findA_has p l (k + 1)]

section
variable {h : Heap} {b lb : Nat} {g : Gz} {now : Int} {l : List Al}
/-- A row of alarms is sorted. -/
theorem sortC_calls (hsk : SortsK Try.prog 24 25 2) (hb : b < h.length) (hl : lb < h.length) (hne : b ≠ lb) {m out : List Al} (hm : m ≠ []) (hm1 : m.length ≤ 1000)
    (hr : ∀ a ∈ m, InRange .i64 a.1 ∧ InRange .i64 a.2) (hp : out.Perm m) (hs : srtA out) :
    ACalls Try.prog G 24 [.ref lb g.1 0 2 m.length, .fn 25 []] (putK h b lb now g m) (fun r h' => r = .undef ∧ h' = putK h b lb now g out) := by
  have hcm : ∀ x y : Rec 2, ACalls Try.prog G 25 [.agg (cellR x), .agg (cellR y)] [] fun r h' => r = .i (cmpL x.1 y.1) := by
    intro x y
    obtain ⟨a, i, e1⟩ := rec2 x
    obtain ⟨c, j, e2⟩ := rec2 y
    have hx : cellR x = [.i a, .i i] := by unfold cellR; rw [e1]; rfl
    have hy : cellR y = [.i c, .i j] := by unfold cellR; rw [e2]; rfl
    rw [hx, hy, e1, e2]
    intro ι w vs hS hv
    refine (alarm_calls (G := G) (a, i) (c, j) [] ι w vs hS hv).mono ?_
    rintro e w' ⟨v, r, h', ι', q1, ⟨q2, _⟩, q3⟩
    exact ⟨v, r, h', ι', q1, q2, q3⟩
  have key := sort_lists (G := G) (k := 2) (by omega) hsk cmpL cmpL_swo hcm (h := putK h b lb now g m) (b := lb) (gg := g.1) (off := 0) (pre := []) (post := []) (rows := m.map recA) (out := out.map recA)
    (by rw [pk_lb0 hl, cAl_recs]; simp [alB, cZ_ne hm]) rfl (by simpa using hm) (by rw [List.length_map]; omega)
    (fun r hr' => by obtain ⟨a, ha, rfl⟩ := List.mem_map.mp hr'; exact ⟨rfl, fun n hn => by simp [recA] at hn; rcases hn with rfl | rfl; exact (hr a ha).1; exact (hr a ha).2⟩)
    (hp.map _) (by rw [List.pairwise_map]; exact hs) (fun x y hx hy a1 a2 => by
      obtain ⟨a, _, rfl⟩ := List.mem_map.mp hx
      obtain ⟨c, _, rfl⟩ := List.mem_map.mp hy
      rw [cmpA_anti (x := a) (y := c) a1 a2])
  rw [List.length_map] at key
  intro ι w vs hS hv
  refine (key ι w vs hS hv).mono ?_
  rintro e w' ⟨v, r, h', ι', q1, ⟨q2, q3⟩, q4⟩
  refine ⟨v, r, h', ι', q1, ⟨q2, ?_⟩, q4⟩
  rw [q3, cAl_recs]
  have := pk_list (h := h) (b := b) (now := now) (g := g) (l := m) (l' := out) hl hp.length_eq (fun e => hm (by subst e; exact List.nil_perm.mp hp))
  simpa using this

theorem pk_push (hb : b < h.length) (hl : lb < h.length) (hne : b ≠ lb) (a : Al) :
    (((putK h b lb now g l).set lb (some ⟨g.1 + 1, cAl l ++ [.i a.1, .i a.2]⟩)).set b (some ⟨0, [.i now, .ref lb (g.1 + 1) 0 2 (l.length + 1)]⟩)) = putK h b lb now (g.1 + 1, g.2) (l ++ [a]) := by
  unfold putK
  rw [List.set_set, List.set_comm _ _ (fun e => hne e.symm), List.set_set]
  unfold ckB alB
  rw [cZ_ne (by simp), cAl_app, List.length_append]; rfl

theorem set_calls (hsk : SortsK Try.prog 24 25 2) (hb : b < h.length) (hl : lb < h.length) (hne : b ≠ lb) (ok : CkOk now l) (id after : Int) (hid : id ≤ 9223372036854775807) :
    ACalls Try.prog G 10 [.ptr b 0 0, .i id, .i after] (putK h b lb now g l) (fun r h' => r = .i (setC now l id after).1 ∧ h' = putK h b lb now (if (setC now l id after).1 = 0 then (g.1 + 1, g.2) else g) (setC now l id after).2) := by
  have h64 := ok.len
  by_cases c1 : id < 0
  · have e : setC now l id after = (1, l) := by unfold setC; rw [if_pos (.inl c1)]
    rw [e]
    refine acalls_pure (rl := []) mixed Try.func10 rfl (rs := [.tmp 6]) rfl Try.ntmps10 (by simp) ?_
    repeat' (first | ((first | refine aops_nil ?_ | refine aqops_nil ?_); (try simp only [NB])) | ((repeat ((fail_if_success (refine hK _ ?_)); clear hK K)); refine hK _ ?_; clear hK K) | ((first | refine aops_k fun K1 hK1 => ?_ | refine aqops_k fun K1 hK1 => ?_ | refine awp_cond_k fun A B hA hB => ?_); simp only [S1, simprocAttr, TTCkI, c1]; first | (refine hK1 _ ?_; clear hK1 K1) | ((first | refine hA ?_ | refine hB ?_); clear hA hB A B) | (refine join_x (v := ?_) (fun hg hk9 => ?_) ?_; rotate_left; (focus (try ((try simp only [BN] at hg); simp only [S1, simprocAttr, TTCkI, c1, hg] at hk9 ⊢)); first | exact hk9); (refine hK1 _ ?_; clear hK1 K1)) | (((first | (refine ⟨fun hg => hA ?_, fun hg => hB ?_⟩ <;> clear hA hB A B) | refine ⟨fun hg => ?_, fun hg => ?_⟩) <;> (try simp only [BN2] at hg) <;> (try simp only [hg, cond_true, cond_false])) <;> (try (refine hK1 _ ?_; clear hK1 K1)) <;> (try simp only [BN3] at hg))) | (refine awp_seq_k fun K hK => ?_) | ((first | refine awp_region ?_ | refine awp_draw (by kernel_rfl) ?_ | refine awp_block ?_ | refine awp_exit ?_ | refine awp_skip ?_ | refine awp_ret ?_); (try simp only [NB, simprocAttr])))
    all_goals simp only [EndP, FinP, resA, resL, resA1, lastV, lastA, lastAs, pur, purs, take_app, List.take_length, S1, simprocAttr, TTCkI, Nat.le_add_right, Nat.le_refl, pk_take0]
    all_goals rfl
  by_cases c2 : after < 0
  · have e : setC now l id after = (1, l) := by unfold setC; rw [if_pos (.inr (.inl c2))]
    rw [e]
    refine acalls_pure (rl := []) mixed Try.func10 rfl (rs := [.tmp 6]) rfl Try.ntmps10 (by simp) ?_
    repeat' (first | ((first | refine aops_nil ?_ | refine aqops_nil ?_); (try simp only [NB])) | ((repeat ((fail_if_success (refine hK _ ?_)); clear hK K)); refine hK _ ?_; clear hK K) | ((first | refine aops_k fun K1 hK1 => ?_ | refine aqops_k fun K1 hK1 => ?_ | refine awp_cond_k fun A B hA hB => ?_); simp only [S1, simprocAttr, TTCkI, c1, c2]; first | (refine hK1 _ ?_; clear hK1 K1) | ((first | refine hA ?_ | refine hB ?_); clear hA hB A B) | (refine join_x (v := ?_) (fun hg hk9 => ?_) ?_; rotate_left; (focus (try ((try simp only [BN] at hg); simp only [S1, simprocAttr, TTCkI, c1, c2, hg] at hk9 ⊢)); first | exact hk9); (refine hK1 _ ?_; clear hK1 K1)) | (((first | (refine ⟨fun hg => hA ?_, fun hg => hB ?_⟩ <;> clear hA hB A B) | refine ⟨fun hg => ?_, fun hg => ?_⟩) <;> (try simp only [BN2] at hg) <;> (try simp only [hg, cond_true, cond_false])) <;> (try (refine hK1 _ ?_; clear hK1 K1)) <;> (try simp only [BN3] at hg))) | (refine awp_seq_k fun K hK => ?_) | ((first | refine awp_region ?_ | refine awp_draw (by kernel_rfl) ?_ | refine awp_block ?_ | refine awp_exit ?_ | refine awp_skip ?_ | refine awp_ret ?_); (try simp only [NB, simprocAttr])))
    all_goals simp only [EndP, FinP, resA, resL, resA1, lastV, lastA, lastAs, pur, purs, take_app, List.take_length, S1, simprocAttr, TTCkI, Nat.le_add_right, Nat.le_refl, pk_take0]
    all_goals rfl
  by_cases c3 : 1099511627776 < after
  · have e : setC now l id after = (1, l) := by unfold setC; rw [if_pos (.inr (.inr c3))]
    rw [e]
    refine acalls_pure (rl := []) mixed Try.func10 rfl (rs := [.tmp 6]) rfl Try.ntmps10 (by simp) ?_
    repeat' (first | ((first | refine aops_nil ?_ | refine aqops_nil ?_); (try simp only [NB])) | ((repeat ((fail_if_success (refine hK _ ?_)); clear hK K)); refine hK _ ?_; clear hK K) | ((first | refine aops_k fun K1 hK1 => ?_ | refine aqops_k fun K1 hK1 => ?_ | refine awp_cond_k fun A B hA hB => ?_); simp only [S1, simprocAttr, TTCkI, c1, c2, c3]; first | (refine hK1 _ ?_; clear hK1 K1) | ((first | refine hA ?_ | refine hB ?_); clear hA hB A B) | (refine join_x (v := ?_) (fun hg hk9 => ?_) ?_; rotate_left; (focus (try ((try simp only [BN] at hg); simp only [S1, simprocAttr, TTCkI, c1, c2, c3, hg] at hk9 ⊢)); first | exact hk9); (refine hK1 _ ?_; clear hK1 K1)) | (((first | (refine ⟨fun hg => hA ?_, fun hg => hB ?_⟩ <;> clear hA hB A B) | refine ⟨fun hg => ?_, fun hg => ?_⟩) <;> (try simp only [BN2] at hg) <;> (try simp only [hg, cond_true, cond_false])) <;> (try (refine hK1 _ ?_; clear hK1 K1)) <;> (try simp only [BN3] at hg))) | (refine awp_seq_k fun K hK => ?_) | ((first | refine awp_region ?_ | refine awp_draw (by kernel_rfl) ?_ | refine awp_block ?_ | refine awp_exit ?_ | refine awp_skip ?_ | refine awp_ret ?_); (try simp only [NB, simprocAttr])))
    all_goals simp only [EndP, FinP, resA, resL, resA1, lastV, lastA, lastAs, pur, purs, take_app, List.take_length, S1, simprocAttr, TTCkI, Nat.le_add_right, Nat.le_refl, pk_take0]
    all_goals rfl
  have c0 : ¬ (id < 0 ∨ after < 0 ∨ after > maxC) := by unfold maxC; omega
  have hfd := find_calls (G := G) (now := now) (g := g) hb hl hne (Nat.le_trans ok.len (by omega)) id
  have hany := findA_has (fun a => a.2 == id) l 0
  cases c4 : hasA l id with
  | true =>
    have e : setC now l id after = (8, l) := by unfold setC; rw [if_neg c0, c4]; rfl
    have hge : (0 : Int) ≤ findA (fun a => a.2 == id) l 0 := by
      unfold hasA at c4; rw [c4] at hany; exact of_decide_eq_true hany
    rw [e]
    refine acalls_pure (rl := []) mixed Try.func10 rfl (rs := [.tmp 6]) rfl Try.ntmps10 (by simp) ?_
    repeat' (first | ((first | refine aops_nil ?_ | refine aqops_nil ?_); (try simp only [NB])) | ((repeat ((fail_if_success (refine hK _ ?_)); clear hK K)); refine hK _ ?_; clear hK K) | ((first | refine aops_k fun K1 hK1 => ?_ | refine aqops_k fun K1 hK1 => ?_ | refine awp_cond_k fun A B hA hB => ?_); simp only [S1, simprocAttr, TTCkI, c1, c2, c3, hge]; first | (refine hK1 _ ?_; clear hK1 K1) | ((first | refine hA ?_ | refine hB ?_); clear hA hB A B) | ((first | apply call_a E22 | apply call_q E22); exact hfd; (refine hK1 _ ?_; clear hK1 K1)) | (refine join_x (v := ?_) (fun hg hk9 => ?_) ?_; rotate_left; (focus (try ((try simp only [BN] at hg); simp only [S1, simprocAttr, TTCkI, c1, c2, c3, hge, hg] at hk9 ⊢)); first | exact hk9 | ((first | apply call_a E22 | apply call_q E22); exact hfd; exact hk9)); (refine hK1 _ ?_; clear hK1 K1)) | (((first | (refine ⟨fun hg => hA ?_, fun hg => hB ?_⟩ <;> clear hA hB A B) | refine ⟨fun hg => ?_, fun hg => ?_⟩) <;> (try simp only [BN2] at hg) <;> (try simp only [hg, cond_true, cond_false])) <;> (try (refine hK1 _ ?_; clear hK1 K1)) <;> (try simp only [BN3] at hg))) | (refine awp_seq_k fun K hK => ?_) | ((first | refine awp_region ?_ | refine awp_draw (by kernel_rfl) ?_ | refine awp_block ?_ | refine awp_exit ?_ | refine awp_skip ?_ | refine awp_ret ?_); (try simp only [NB, simprocAttr])))
    all_goals simp only [EndP, FinP, resA, resL, resA1, lastV, lastA, lastAs, pur, purs, take_app, List.take_length, S1, simprocAttr, TTCkI, Nat.le_add_right, Nat.le_refl, pk_take0]
    all_goals rfl
  | false =>
  have hge : ¬ ((0 : Int) ≤ findA (fun a => a.2 == id) l 0) := by
    unfold hasA at c4; rw [c4] at hany; exact of_decide_eq_false hany
  by_cases c5 : l.length = 64
  · have e : setC now l id after = (5, l) := by unfold setC; rw [if_neg c0, c4, if_pos c5]; rfl
    have h5 : ((l.length : Int) == 64) = true := by rw [c5]; rfl
    rw [e]
    refine acalls_pure (rl := []) mixed Try.func10 rfl (rs := [.tmp 6]) rfl Try.ntmps10 (by simp) ?_
    repeat' (first | ((first | refine aops_nil ?_ | refine aqops_nil ?_); (try simp only [NB])) | ((repeat ((fail_if_success (refine hK _ ?_)); clear hK K)); refine hK _ ?_; clear hK K) | ((first | refine aops_k fun K1 hK1 => ?_ | refine aqops_k fun K1 hK1 => ?_ | refine awp_cond_k fun A B hA hB => ?_); simp only [S1, simprocAttr, TTCkI, c1, c2, c3, hge, h5, pk_b0 hb hne, ckB]; first | (refine hK1 _ ?_; clear hK1 K1) | ((first | refine hA ?_ | refine hB ?_); clear hA hB A B) | ((first | apply call_a E22 | apply call_q E22); exact hfd; (refine hK1 _ ?_; clear hK1 K1)) | (refine join_x (v := ?_) (fun hg hk9 => ?_) ?_; rotate_left; (focus (try ((try simp only [BN] at hg); simp only [S1, simprocAttr, TTCkI, c1, c2, c3, hge, h5, pk_b0 hb hne, ckB, hg] at hk9 ⊢)); first | exact hk9 | ((first | apply call_a E22 | apply call_q E22); exact hfd; exact hk9)); (refine hK1 _ ?_; clear hK1 K1)) | (((first | (refine ⟨fun hg => hA ?_, fun hg => hB ?_⟩ <;> clear hA hB A B) | refine ⟨fun hg => ?_, fun hg => ?_⟩) <;> (try simp only [BN2] at hg) <;> (try simp only [hg, cond_true, cond_false])) <;> (try (refine hK1 _ ?_; clear hK1 K1)) <;> (try simp only [BN3] at hg))) | (refine awp_seq_k fun K hK => ?_) | ((first | refine awp_region ?_ | refine awp_draw (by kernel_rfl) ?_ | refine awp_block ?_ | refine awp_exit ?_ | refine awp_skip ?_ | refine awp_ret ?_); (try simp only [NB, simprocAttr])))
    all_goals simp only [EndP, FinP, resA, resL, resA1, lastV, lastA, lastAs, pur, purs, take_app, List.take_length, S1, simprocAttr, TTCkI, Nat.le_add_right, Nat.le_refl, pk_take0]
    all_goals rfl
  have h5 : ((l.length : Int) == 64) = false := by simp; omega
  have hlt := later_calls (G := G) (g := g) (l := l) hb hl hne ok.n0 ok.n1 after (by omega) (by unfold maxC; omega)
  by_cases c6 : after > maxC - now
  · have e : setC now l id after = (40, l) := by unfold setC; rw [if_neg c0, c4, if_neg c5, if_pos c6]; rfl
    rw [if_pos c6] at hlt
    rw [e]
    refine acalls_pure (rl := []) mixed Try.func10 rfl (rs := [.tmp 6]) rfl Try.ntmps10 (by simp) ?_
    repeat' (first | ((first | refine aops_nil ?_ | refine aqops_nil ?_); (try simp only [NB])) | ((repeat ((fail_if_success (refine hK _ ?_)); clear hK K)); refine hK _ ?_; clear hK K) | ((first | refine aops_k fun K1 hK1 => ?_ | refine aqops_k fun K1 hK1 => ?_ | refine awp_cond_k fun A B hA hB => ?_); simp only [S1, simprocAttr, TTCkI, c1, c2, c3, hge, h5, pk_b0 hb hne, ckB]; first | (refine hK1 _ ?_; clear hK1 K1) | ((first | refine hA ?_ | refine hB ?_); clear hA hB A B) | ((first | apply call_a E22 | apply call_q E22); exact hfd; (refine hK1 _ ?_; clear hK1 K1)) | ((first | apply call_a E23 | apply call_q E23); exact hlt; (refine hK1 _ ?_; clear hK1 K1)) | (refine join_x (v := ?_) (fun hg hk9 => ?_) ?_; rotate_left; (focus (try ((try simp only [BN] at hg); simp only [S1, simprocAttr, TTCkI, c1, c2, c3, hge, h5, pk_b0 hb hne, ckB, hg] at hk9 ⊢)); first | exact hk9 | ((first | apply call_a E22 | apply call_q E22); exact hfd; exact hk9) | ((first | apply call_a E23 | apply call_q E23); exact hlt; exact hk9)); (refine hK1 _ ?_; clear hK1 K1)) | (((first | (refine ⟨fun hg => hA ?_, fun hg => hB ?_⟩ <;> clear hA hB A B) | refine ⟨fun hg => ?_, fun hg => ?_⟩) <;> (try simp only [BN2] at hg) <;> (try simp only [hg, cond_true, cond_false])) <;> (try (refine hK1 _ ?_; clear hK1 K1)) <;> (try simp only [BN3] at hg))) | (refine awp_seq_k fun K hK => ?_) | ((first | refine awp_region ?_ | refine awp_draw (by kernel_rfl) ?_ | refine awp_block ?_ | refine awp_exit ?_ | refine awp_skip ?_ | refine awp_ret ?_); (try simp only [NB, simprocAttr])))
    all_goals simp only [EndP, FinP, resA, resL, resA1, lastV, lastA, lastAs, pur, purs, take_app, List.take_length, S1, simprocAttr, TTCkI, Nat.le_add_right, Nat.le_refl, pk_take0]
    all_goals rfl
  · have e : setC now l id after = (0, insA (now + after, id) l) := by unfold setC; rw [if_neg c0, c4, if_neg c5, if_neg c6]; rfl
    rw [if_neg c6] at hlt
    rw [e]
    have hin : ∀ a ∈ l ++ [(now + after, id)], InRange .i64 a.1 ∧ InRange .i64 a.2 := fun a ha => by
      have n0 := ok.n0
      have hmin : IntKind.i64.min = -9223372036854775808 := by decide
      have hmax : IntKind.i64.max = 9223372036854775807 := by decide
      unfold InRange
      rw [hmin, hmax]
      unfold maxC at c6
      rcases List.mem_append.mp ha with ha | ha
      · have := ok.at_ a ha; have := ok.id_ a ha; have := ok.i64 a ha; unfold maxC at *; omega
      · rw [List.mem_singleton] at ha; subst ha; simp only; omega
    have hso := sortC_calls (G := G) (g := (g.1 + 1, g.2)) (now := now) hsk hb hl hne (m := l ++ [(now + after, id)]) (out := insA (now + after, id) l) (by simp) (by simp; omega) hin (insA_perm _ l) (insA_srt _ l ok.srt)
    rw [List.length_append] at hso
    have hmc : l.length + 1 ≤ maxCount := by unfold maxCount; omega
    have hbs : ∀ x : Option Blk, ((putK h b lb now g l).set lb x)[b]? = some (ckB now lb g l) := fun x => by rw [List.getElem?_set_ne (fun e => hne e.symm)]; exact pk_b0 hb hne
    have hps := pk_push (g := g) (now := now) (l := l) hb hl hne (now + after, id)
    have hbs2 := pk_b0 (h := h) (b := b) (lb := lb) (now := now) (g := (g.1 + 1, g.2)) (l := l ++ [(now + after, id)]) hb hne
    by_cases hl0 : l = []
    · subst hl0
      obtain ⟨gn, gz⟩ := g
      have hb0 : (putK h b lb now (gn, gz) [])[b]? = some (some ⟨0, [.i now, .ref lb gn 0 2 0]⟩) := pk_b0 hb hne
      have hbs0 : ∀ x : Option Blk, ((putK h b lb now (gn, gz) []).set lb x)[b]? = some (some ⟨0, [.i now, .ref lb gn 0 2 0]⟩) := hbs
      have hps0 : (((putK h b lb now (gn, gz) []).set lb (some ⟨gn + 1, [.i (now + after), .i id]⟩)).set b (some ⟨0, [.i now, .ref lb (gn + 1) 0 2 1]⟩)) = putK h b lb now (gn + 1, gz) [(now + after, id)] := hps
      have hbs20 : (putK h b lb now (gn + 1, gz) [(now + after, id)])[b]? = some (some ⟨0, [.i now, .ref lb (gn + 1) 0 2 1]⟩) := hbs2
      have hso0 : ACalls Try.prog G 24 [.ref lb (gn + 1) 0 2 1, .fn 25 []] (putK h b lb now (gn + 1, gz) [(now + after, id)]) (fun r h' => r = .undef ∧ h' = putK h b lb now (gn + 1, gz) (insA (now + after, id) [])) := hso
      have h50 : ((0 : Int) == 64) = false := rfl
      have hmc0 : (1 : Nat) ≤ maxCount := by unfold maxCount; omega
      have hn0 : ([] : List Al).length = 0 := rfl
      clear hso hbs2 hps hbs h5
      cases gz with
      | false =>
        have hlb : (putK h b lb now (gn, false) [])[lb]? = some (some ⟨gn, []⟩) := pk_lb0 hl
        refine acalls_heap (rl := []) mixed Try.func10 rfl (rs := [.tmp 6]) rfl Try.ntmps10 (by simp) ?_
        repeat' (first | ((first | refine aops_nil ?_ | refine aqops_nil ?_); (try simp only [NB])) | ((repeat ((fail_if_success (refine hK _ ?_)); clear hK K)); refine hK _ ?_; clear hK K) | ((first | refine aops_k fun K1 hK1 => ?_ | refine aqops_k fun K1 hK1 => ?_ | refine awp_cond_k fun A B hA hB => ?_); simp only [S1, simprocAttr, TTCkI, c1, c2, c3, hge, hn0, h50, hmc0, hbs0, hps0, hbs20, hb0, hlb, pk_len, Nat.zero_add, Nat.zero_mul, List.length_nil, List.nil_append, List.drop_nil]; first | (refine hK1 _ ?_; clear hK1 K1) | ((first | refine hA ?_ | refine hB ?_); clear hA hB A B) | ((first | apply call_a E22 | apply call_q E22); exact hfd; (refine hK1 _ ?_; clear hK1 K1)) | ((first | apply call_a E23 | apply call_q E23); exact hlt; (refine hK1 _ ?_; clear hK1 K1)) | ((first | apply call_a E24 | apply call_q E24); exact hso0; (refine hK1 _ ?_; clear hK1 K1)) | (refine join_x (v := ?_) (fun hg hk9 => ?_) ?_; rotate_left; (focus (try ((try simp only [BN] at hg); simp only [S1, simprocAttr, TTCkI, c1, c2, c3, hge, hn0, h50, hmc0, hbs0, hps0, hbs20, hb0, hlb, pk_len, Nat.zero_add, Nat.zero_mul, List.length_nil, List.nil_append, List.drop_nil, hg] at hk9 ⊢)); first | exact hk9 | ((first | apply call_a E22 | apply call_q E22); exact hfd; exact hk9) | ((first | apply call_a E23 | apply call_q E23); exact hlt; exact hk9) | ((first | apply call_a E24 | apply call_q E24); exact hso0; exact hk9)); (refine hK1 _ ?_; clear hK1 K1)) | (((first | (refine ⟨fun hg => hA ?_, fun hg => hB ?_⟩ <;> clear hA hB A B) | refine ⟨fun hg => ?_, fun hg => ?_⟩) <;> (try simp only [BN2] at hg) <;> (try simp only [hg, cond_true, cond_false])) <;> (try (refine hK1 _ ?_; clear hK1 K1)) <;> (try simp only [BN3] at hg))) | (refine awp_seq_k fun K hK => ?_) | ((first | refine awp_region ?_ | refine awp_draw (by kernel_rfl) ?_ | refine awp_block ?_ | refine awp_exit ?_ | refine awp_skip ?_ | refine awp_ret ?_); (try simp only [NB, simprocAttr])))
        all_goals simp only [EndH, FinH, resA, resL, resA1, lastV, lastA, lastAs, pur, purs, pk_len, pk_take, pk_take0, S1, simprocAttr, Nat.le_add_right, Nat.le_refl] <;> first | exact pk_keep' hl | exact ⟨pk_keep' hl, rfl⟩ | exact ⟨pk_keep' hl, rfl, rfl⟩
      | true =>
        have hlb : (putK h b lb now (gn, true) [])[lb]? = some (some ⟨gn, [.i 0, .i 0]⟩) := pk_lb0 hl
        refine acalls_heap (rl := []) mixed Try.func10 rfl (rs := [.tmp 6]) rfl Try.ntmps10 (by simp) ?_
        repeat' (first | ((first | refine aops_nil ?_ | refine aqops_nil ?_); (try simp only [NB])) | ((repeat ((fail_if_success (refine hK _ ?_)); clear hK K)); refine hK _ ?_; clear hK K) | ((first | refine aops_k fun K1 hK1 => ?_ | refine aqops_k fun K1 hK1 => ?_ | refine awp_cond_k fun A B hA hB => ?_); simp only [S1, simprocAttr, TTCkI, c1, c2, c3, hge, hn0, h50, hmc0, hbs0, hps0, hbs20, hb0, hlb, pk_len, Nat.zero_add, Nat.zero_mul, List.length_nil, List.length_cons, List.nil_append, List.take_zero, List.drop_zero]; first | (refine hK1 _ ?_; clear hK1 K1) | ((first | refine hA ?_ | refine hB ?_); clear hA hB A B) | ((first | apply call_a E22 | apply call_q E22); exact hfd; (refine hK1 _ ?_; clear hK1 K1)) | ((first | apply call_a E23 | apply call_q E23); exact hlt; (refine hK1 _ ?_; clear hK1 K1)) | ((first | apply call_a E24 | apply call_q E24); exact hso0; (refine hK1 _ ?_; clear hK1 K1)) | (refine join_x (v := ?_) (fun hg hk9 => ?_) ?_; rotate_left; (focus (try ((try simp only [BN] at hg); simp only [S1, simprocAttr, TTCkI, c1, c2, c3, hge, hn0, h50, hmc0, hbs0, hps0, hbs20, hb0, hlb, pk_len, Nat.zero_add, Nat.zero_mul, List.length_nil, List.length_cons, List.nil_append, List.take_zero, List.drop_zero, hg] at hk9 ⊢)); first | exact hk9 | ((first | apply call_a E22 | apply call_q E22); exact hfd; exact hk9) | ((first | apply call_a E23 | apply call_q E23); exact hlt; exact hk9) | ((first | apply call_a E24 | apply call_q E24); exact hso0; exact hk9)); (refine hK1 _ ?_; clear hK1 K1)) | (((first | (refine ⟨fun hg => hA ?_, fun hg => hB ?_⟩ <;> clear hA hB A B) | refine ⟨fun hg => ?_, fun hg => ?_⟩) <;> (try simp only [BN2] at hg) <;> (try simp only [hg, cond_true, cond_false])) <;> (try (refine hK1 _ ?_; clear hK1 K1)) <;> (try simp only [BN3] at hg))) | (refine awp_seq_k fun K hK => ?_) | ((first | refine awp_region ?_ | refine awp_draw (by kernel_rfl) ?_ | refine awp_block ?_ | refine awp_exit ?_ | refine awp_skip ?_ | refine awp_ret ?_); (try simp only [NB, simprocAttr])))
        all_goals simp only [EndH, FinH, resA, resL, resA1, lastV, lastA, lastAs, pur, purs, pk_len, pk_take, pk_take0, S1, simprocAttr, Nat.le_add_right, Nat.le_refl] <;> first | exact pk_keep' hl | exact ⟨pk_keep' hl, rfl⟩ | exact ⟨pk_keep' hl, rfl, rfl⟩
    · have hlb : (putK h b lb now g l)[lb]? = some (some ⟨g.1, cAl l⟩) := by rw [pk_lb0 hl, alB, cZ_ne hl0]
      refine acalls_heap (rl := []) mixed Try.func10 rfl (rs := [.tmp 6]) rfl Try.ntmps10 (by simp) ?_
      repeat' (first | ((first | refine aops_nil ?_ | refine aqops_nil ?_); (try simp only [NB])) | ((repeat ((fail_if_success (refine hK _ ?_)); clear hK K)); refine hK _ ?_; clear hK K) | ((first | refine aops_k fun K1 hK1 => ?_ | refine aqops_k fun K1 hK1 => ?_ | refine awp_cond_k fun A B hA hB => ?_); simp only [S1, simprocAttr, TTCkI, c1, c2, c3, hge, h5, hmc, hbs, hps, hbs2, pk_b0 hb hne, hlb, ckB, cAl_len, pk_len, Nat.zero_add]; first | (refine hK1 _ ?_; clear hK1 K1) | ((first | refine hA ?_ | refine hB ?_); clear hA hB A B) | ((first | apply call_a E22 | apply call_q E22); exact hfd; (refine hK1 _ ?_; clear hK1 K1)) | ((first | apply call_a E23 | apply call_q E23); exact hlt; (refine hK1 _ ?_; clear hK1 K1)) | ((first | apply call_a E24 | apply call_q E24); exact hso; (refine hK1 _ ?_; clear hK1 K1)) | (refine join_x (v := ?_) (fun hg hk9 => ?_) ?_; rotate_left; (focus (try ((try simp only [BN] at hg); simp only [S1, simprocAttr, TTCkI, c1, c2, c3, hge, h5, hmc, hbs, hps, hbs2, pk_b0 hb hne, hlb, ckB, cAl_len, pk_len, Nat.zero_add, hg] at hk9 ⊢)); first | exact hk9 | ((first | apply call_a E22 | apply call_q E22); exact hfd; exact hk9) | ((first | apply call_a E23 | apply call_q E23); exact hlt; exact hk9) | ((first | apply call_a E24 | apply call_q E24); exact hso; exact hk9)); (refine hK1 _ ?_; clear hK1 K1)) | (((first | (refine ⟨fun hg => hA ?_, fun hg => hB ?_⟩ <;> clear hA hB A B) | refine ⟨fun hg => ?_, fun hg => ?_⟩) <;> (try simp only [BN2] at hg) <;> (try simp only [hg, cond_true, cond_false])) <;> (try (refine hK1 _ ?_; clear hK1 K1)) <;> (try simp only [BN3] at hg))) | (refine awp_seq_k fun K hK => ?_) | ((first | refine awp_region ?_ | refine awp_draw (by kernel_rfl) ?_ | refine awp_block ?_ | refine awp_exit ?_ | refine awp_skip ?_ | refine awp_ret ?_); (try simp only [NB, simprocAttr])))
      all_goals simp only [EndH, FinH, resA, resL, resA1, lastV, lastA, lastAs, pur, purs, pk_len, pk_take, pk_take0, S1, simprocAttr, Nat.le_add_right, Nat.le_refl] <;> first | exact pk_keep' hl | exact ⟨pk_keep' hl, rfl⟩ | exact ⟨pk_keep' hl, rfl, rfl⟩
end
end Go.Proofs.Ytbbmfemplmelhaa.AM
end

section
set_option linter.unusedVariables false
set_option linter.unusedSimpArgs false
namespace Go.Proofs.Ytbbmfemplmelhaa.AM
open Go
section
variable {P : Program} {G : Nat → Option (List PV)} {rl : List String} {h : Heap}
theorem Sim.evoKeepG (hm : P.follows .mixedOrders = true) {f : FuncId} {fn : Func} {c : Code} (hf : P.funcs[f]? = some fn) (hb : fn.body = some c) {args : List AV} {K : AV → Heap → Prop}
    (hnt : args.length ≤ fn.ntmps)
    (H : awp P G rl h c (fun e s => (e = .normal ∨ e = .ret) ∧ ∃ s1, Ghost P G h s s1 ∧ FinK P fn.results.toList h K s1) (entry args fn.ntmps h)) : ACalls P G f args h K := by
  intro ι w vs hS hv
  refine calls_of_wp hf hb ?_
  have hs : Sim P G ι (entry args fn.ntmps h) { tmps := vs ++ Array.replicate (fn.ntmps - vs.size) undef, defers := [] } w := by
    refine ⟨hS, fun k x hx => ?_, ?_, rfl⟩
    · have hk : k < args.length := getElem?_lt hx
      have hk' : k < vs.size := by rw [← hv.1]; exact hk
      exact ⟨vs[k], by rw [Array.getElem?_append_left hk']; simp, hv.2 k x _ hx (by simp)⟩
    · have := hv.1
      simp [entry]; omega
  refine wp_mono (awp_sound hm hS c _ _ ι _ w hs (.refl (Nat.le_refl h.length)) H) fun e a w' ⟨s0, ι0, ⟨he, s', hg, hn1, hr⟩, hs0, hev0⟩ => ?_
  obtain ⟨ι', hs', hev⟩ := hg ι0 a w' ι w hS hs0 hev0
  split at hr
  case h_2 => exact hr.elim
  rename_i r hr'
  obtain ⟨v, hrun, hrv⟩ := resA_sound hs' hr'
  have hpost : a.defers = [] ∧ ∃ v, (results fn a.tmps).run P w' = .ok v w' ∧ ∃ v1 r h' ι', Ending.returned v = .returned v1 ∧ K r h' ∧ SimH P G ι' h' w' ∧ VRel ι' h' w' r v1 ∧ Evo h.length ι h w ι' h' w' :=
    ⟨hs'.df, v, hrun, v, r, s'.heap, ι', rfl, hr, hs'.hS, hrv, hev⟩
  rcases he with rfl | rfl <;> exact hpost

/-- A cut at which the state is told anew, by whatever way of telling. -/
theorem awp_tellG {x y : Code} {Q : Exit → St → Prop} {s : St} (s1 : St) (h1 : ∀ K : St → Prop, (∀ s', Ghost P G h s' s1 → K s') → awp P G rl h x (thenA K Q) s) (h2 : awp P G rl h y Q s1) : awp P G rl h (.seq x y) Q s :=
  awp_cut (fun t => t = s1) (h1 _ fun s' hs => ⟨_, hs, rfl⟩) fun t e => by subst e; exact h2

/-- A cell of a block is told otherwise, whoever made the block. -/
theorem Ghost.cellG {h0 : Heap} {s : St} {b j : Nat} {bk : Blk} {x x' : AV} (hb : s.heap[b]? = some (some bk)) (hx : bk.cells[j]? = some x) (hnm : ∀ es, x ≠ .mp es) (hv : ∀ ι w v, VRel ι s.heap w x v → VRel ι s.heap w x' v) :
    Ghost P G h0 s ⟨s.fr, s.nt, s.heap.set b (some ⟨bk.g, bk.cells.set j x'⟩)⟩ := by
  intro ι a w ι0 w0 hS hs he
  have ha := alike_set (j := j) (x' := x') hb
  have hne' : bk.cells ≠ [] := by
    intro e
    rw [e] at hx; simp at hx
  have hlo : ∀ (c : Nat) (bk' : Blk), (s.heap.set b (some ⟨bk.g, bk.cells.set j x'⟩))[c]? = some (some bk') → (c = b ∧ bk' = ⟨bk.g, bk.cells.set j x'⟩) ∨ s.heap[c]? = some (some bk') := by
    intro c bk' hc
    rw [List.getElem?_set] at hc
    split at hc
    · rename_i e
      split at hc
      · exact .inl ⟨e.symm, (Option.some.inj (Option.some.inj hc)).symm⟩
      · cases hc
    · exact .inr hc
  have oo : ∀ k, k < w.heap.size → ¬ own ι s.heap k → w.heap[k]? = w.heap[k]? ∧ ¬ own ι (s.heap.set b (some ⟨bk.g, bk.cells.set j x'⟩)) k := fun k _ ho => ⟨rfl, fun e => ho (own_alike ha e)⟩
  refine ⟨ι, ⟨⟨⟨fun c bk' hc hne => ?_, fun c c' k k' q1 q2 n1 n2 e => ?_⟩, fun g cells hg => (hs.hS.gr g cells hg).mono (Nat.le_refl _) oo⟩, fun k y hy => ?_, hs.nt, hs.df⟩, ?_⟩
  · rcases hlo c bk' hc with ⟨rfl, rfl⟩ | hc
    · have hB := hs.hS.hr.blk c bk hb hne'
      rcases hB with ⟨cs, ty, p1, p2, p3⟩ | ⟨es, e1, _⟩
      case inr =>
        rw [e1] at hx
        cases j with
        | zero => simp at hx; exact absurd hx.symm (hnm es)
        | succ j => simp at hx
      refine .inl ⟨cs, ty, p1, by simpa using p2, fun i y hy => ?_⟩
      simp only [List.getElem?_set] at hy
      split at hy
      · rename_i e; subst e
        split at hy
        · cases hy
          obtain ⟨v, r1, r2⟩ := p3 j x hx
          exact ⟨v, r1, (hv ι w v r2).alike ha⟩
        · cases hy
      · obtain ⟨v, r1, r2⟩ := p3 i y hy
        exact ⟨v, r1, r2.alike ha⟩
    · exact (hs.hS.hr.blk c bk' hc hne).keep rfl rfl (fun y _ v hv => hv.alike ha) (Nat.le_refl _) oo
  · obtain ⟨k0, p1, p2, p3⟩ := ha.2 c k q1
    obtain ⟨k1, r1, r2, r3⟩ := ha.2 c' k' q2
    exact hs.hS.hr.inj c c' k0 k1 p1 r1 (fun e => n1 (p3.mp e)) (fun e => n2 (r3.mp e)) e
  · obtain ⟨v, p1, p2⟩ := hs.fr k y hy
    exact ⟨v, p1, p2.alike ha⟩
  · refine ⟨he.size, fun k hk ho => ⟨(he.keep k hk ho).1, fun e => (he.keep k hk ho).2 (own_alike ha e)⟩, by rw [ha.1]; exact he.len, fun c bk' hc hq => ?_, he.os, he.output, he.tape, he.drawn⟩
    rcases hlo c bk' hq with ⟨rfl, rfl⟩ | hq
    · obtain ⟨bk0, a1, a2, a3⟩ := he.gens c bk hc hb
      refine ⟨bk0, a1, a2, fun e => ?_⟩
      obtain ⟨b1, b2, b3⟩ := a3 e
      exact ⟨b1, fun _ => by rw [ne_eq, ← List.length_eq_zero_iff, List.length_set, List.length_eq_zero_iff]; exact hne', b3⟩
    · exact he.gens c bk' hc hq

/-- A nil slice in a cell is told as a block of ours that is still empty, whoever made the cell's block. -/
theorem Ghost.adoptCellG {h0 : Heap} {s : St} {b j : Nat} {bk : Blk} (sz : Nat) (hb : s.heap[b]? = some (some bk)) (hx : bk.cells[j]? = some (.p .nils)) :
    Ghost P G h0 s ⟨s.fr, s.nt, (s.heap ++ [some ⟨0, []⟩] : Heap).set b (some ⟨bk.g, bk.cells.set j (.ref s.heap.length 0 0 sz 0)⟩)⟩ := by
  have hlt : b < s.heap.length := getElem?_lt hb
  refine (Ghost.lay (s := s)).trans (Ghost.cellG (s := (⟨s.fr, s.nt, s.heap ++ [some ⟨0, []⟩]⟩ : St)) (b := b) (j := j) (bk := bk) (by rw [List.getElem?_append_left hlt]; exact hb) hx (fun es e => by cases e) (fun ι w v hv => ?_))
  have := hv.nils_inv; subst this
  exact VRel.ref _ _ _ _ _ none 0 (by omega) (by simp) (fun bk hq => Nat.zero_le _) fun _ => Or.inl ⟨rfl, rfl⟩

/-- A row that a cell tells of comes to stand in another block. -/
theorem Ghost.move {h0 : Heap} {s : St} {b j q m off sz n : Nat} {bk bq bm : Blk} (hb : s.heap[b]? = some (some bk)) (hx : bk.cells[j]? = some (.ref m bm.g off sz n)) (hq : s.heap[q]? = some (some bq)) (hm : s.heap[m]? = some (some bm)) (hbq : b ≠ q) (hbm : b ≠ m) (hqm : q ≠ m) :
    Ghost P G h0 s ⟨s.fr, s.nt, ((s.heap.set m none).set q (some ⟨bq.g + 1, bm.cells⟩)).set b (some ⟨bk.g, bk.cells.set j (.ref q (bq.g + 1) off sz n)⟩)⟩ := by
  intro ι a w ι0 w0 hS hs he
  have hbl : b < s.heap.length := getElem?_lt hb
  have hql : q < s.heap.length := getElem?_lt hq
  have hml : m < s.heap.length := getElem?_lt hm
  have hne' : bk.cells ≠ [] := by
    intro e
    rw [e] at hx; simp at hx
  obtain ⟨h', hh'⟩ : ∃ h', h' = ((s.heap.set m none).set q (some ⟨bq.g + 1, bm.cells⟩)).set b (some ⟨bk.g, bk.cells.set j (.ref q (bq.g + 1) off sz n)⟩) := ⟨_, rfl⟩
  obtain ⟨ι', hι⟩ : ∃ ι' : Nat → Nat × Nat, ι' = fun i => if i = q then ι m else ι i := ⟨_, rfl⟩
  have hlen : h'.length = s.heap.length := by rw [hh']; simp
  have hlo : ∀ (c : Nat) (bk' : Blk), h'[c]? = some (some bk') → (c = b ∧ bk' = ⟨bk.g, bk.cells.set j (.ref q (bq.g + 1) off sz n)⟩) ∨ (c = q ∧ bk' = ⟨bq.g + 1, bm.cells⟩) ∨ (c ≠ b ∧ c ≠ q ∧ c ≠ m ∧ s.heap[c]? = some (some bk')) := by
    intro c bk' hc
    rw [hh', List.getElem?_set] at hc
    split at hc
    · rename_i e
      split at hc
      · exact .inl ⟨e.symm, (Option.some.inj (Option.some.inj hc)).symm⟩
      · cases hc
    · rename_i e1
      rw [List.getElem?_set] at hc
      split at hc
      · rename_i e
        split at hc
        · exact .inr (.inl ⟨e.symm, (Option.some.inj (Option.some.inj hc)).symm⟩)
        · cases hc
      · rename_i e2
        rw [List.getElem?_set] at hc
        split at hc
        · (try split at hc) <;> cases hc
        · rename_i e3
          exact .inr (.inr ⟨fun e => e1 e.symm, fun e => e2 e.symm, fun e => e3 e.symm, hc⟩)
  have hιo : ∀ c, c ≠ q → ι' c = ι c := fun c hc => by rw [hι]; simp [hc]
  have hιq : ι' q = ι m := by rw [hι]; simp
  have own_lo : ∀ k, own ι' h' k → own ι s.heap k := by
    rintro k ⟨c, bk', q1, q2, q3⟩
    rcases hlo c bk' q1 with ⟨rfl, rfl⟩ | ⟨rfl, rfl⟩ | ⟨n1, n2, n3, q1⟩
    · exact ⟨c, bk, hb, hne', by rw [← q3, hιo c hbq]⟩
    · exact ⟨m, bm, hm, q2, by rw [← q3, hιq]⟩
    · exact ⟨c, bk', q1, q2, by rw [← q3, hιo c n2]⟩
  have oo : ∀ k, k < w.heap.size → ¬ own ι s.heap k → w.heap[k]? = w.heap[k]? ∧ ¬ own ι' h' k := fun k _ ho => ⟨rfl, fun e => ho (own_lo k e)⟩
  have lv : ∀ (c g : Nat), (∀ bk : Blk, s.heap[c]? = some (some bk) → g ≤ bk.g) → liveAt h' c g → c ≠ q ∧ c ≠ m ∧ liveAt s.heap c g ∧ (∀ bk : Blk, s.heap[c]? = some (some bk) → bk.cells ≠ [] → ∃ bk' : Blk, h'[c]? = some (some bk') ∧ bk'.cells ≠ []) := by
    rintro c g hg ⟨bk', q1, q2⟩
    rcases hlo c bk' q1 with ⟨rfl, rfl⟩ | ⟨rfl, rfl⟩ | ⟨n1, n2, n3, q3⟩
    · refine ⟨hbq, hbm, ⟨bk, hb, q2⟩, fun bk1 hk1 hk2 => ⟨_, q1, ?_⟩⟩
      rw [hb] at hk1; cases hk1
      rw [ne_eq, ← List.length_eq_zero_iff, List.length_set, List.length_eq_zero_iff]; exact hne'
    · have := hg bq hq
      simp only at q2
      omega
    · exact ⟨n2, n3, ⟨bk', q3, q2⟩, fun bk1 hk1 hk2 => ⟨bk', q1, by rw [q3] at hk1; cases hk1; exact hk2⟩⟩
  have gg : ∀ (c g : Nat), (∀ bk : Blk, s.heap[c]? = some (some bk) → g ≤ bk.g) → ∀ bk : Blk, h'[c]? = some (some bk) → g ≤ bk.g := by
    intro c g hg bk' q1
    rcases hlo c bk' q1 with ⟨rfl, rfl⟩ | ⟨rfl, rfl⟩ | ⟨n1, n2, n3, q3⟩
    · exact hg bk hb
    · have := hg bq hq
      simp only; omega
    · exact hg bk' q3
  have vr : ∀ x v, VRel ι s.heap w x v → VRel ι' h' w x v := by
    intro x v hx
    induction hx with
    | p x v hx => exact .p _ _ (hx.mono (Nat.le_refl _) oo)
    | agg cells vs hl hv ih => exact .agg _ _ hl ih
    | tup cells vs hl hv ih => exact .tup _ _ hl ih
    | fn f cells vs hl hv ih => exact .fn _ _ _ hl ih
    | ref c g off sz len A cc hn hb0 hg hv =>
      refine .ref _ _ _ _ _ _ _ hn (by rw [hlen]; exact hb0) (gg c g hg) fun hl => ?_
      obtain ⟨l1, l2, l3, l4⟩ := lv c g hg hl
      rw [hιo c l1]
      rcases hv l3 with hz | ⟨hA, hle, ⟨bk0, q0, hn0⟩, hcs⟩
      · exact .inl hz
      · exact .inr ⟨hA, hle, l4 bk0 q0 hn0, hcs⟩
    | ptr c g off A hb0 hg hv =>
      refine .ptr _ _ _ _ (by rw [hlen]; exact hb0) (gg c g hg) fun hl => ?_
      obtain ⟨l1, l2, l3, l4⟩ := lv c g hg hl
      rw [hιo c l1]
      exact hv l3
    | pin cells blk off hv => exact .pin _ _ _ (hv.mono (Nat.le_refl _) oo)
    | mref c g r hb0 hg hv =>
      refine .mref _ _ _ (by rw [hlen]; exact hb0) (gg c g hg) fun hl => ?_
      obtain ⟨l1, l2, l3, l4⟩ := lv c g hg hl
      rw [hιo c l1]
      exact hv l3
  have hq' : h'[q]? = some (some ⟨bq.g + 1, bm.cells⟩) := by
    rw [hh', List.getElem?_set_ne hbq, List.getElem?_set_self (by simpa using hql)]
  have vm : ∀ v, VRel ι s.heap w (.ref m bm.g off sz n) v → VRel ι' h' w (.ref q (bq.g + 1) off sz n) v := by
    intro v hv
    cases hv with
    | ref _ _ _ _ _ A cc hn hb0 hg hv =>
      refine .ref _ _ _ _ _ _ _ hn (by rw [hlen]; exact hql) (fun bk hk => by rw [hq'] at hk; cases hk; exact Nat.le_refl _) fun _ => ?_
      rw [hιq]
      rcases hv ⟨bm, hm, rfl⟩ with hz | ⟨hA, hle, ⟨bk0, q0, hn0⟩, hcs⟩
      · exact .inl hz
      · rw [hm] at q0; cases q0
        exact .inr ⟨hA, hle, ⟨_, hq', hn0⟩, hcs⟩
  rw [← hh']
  refine ⟨ι', ⟨⟨⟨fun c bk' hc hne => ?_, fun c c' k k' q1 q2 n1 n2 e => ?_⟩, fun g cells hg => (hs.hS.gr g cells hg).mono (Nat.le_refl _) oo⟩, fun k y hy => ?_, hs.nt, hs.df⟩, ?_⟩
  · rcases hlo c bk' hc with ⟨rfl, rfl⟩ | ⟨rfl, rfl⟩ | ⟨e1, e2, e3, hc⟩
    · have hB := hs.hS.hr.blk c bk hb hne'
      rcases hB with ⟨cs, ty, p1, p2, p3⟩ | ⟨es, e1, _⟩
      case inr =>
        rw [e1] at hx
        cases j with
        | zero => simp at hx
        | succ j => simp at hx
      refine .inl ⟨cs, ty, by rw [hιo c hbq]; exact p1, by rw [hιo c hbq]; simpa using p2, fun i y hy => ?_⟩
      rw [hιo c hbq]
      simp only [List.getElem?_set] at hy
      split at hy
      · rename_i e; subst e
        split at hy
        · cases hy
          obtain ⟨v, r1, r2⟩ := p3 j _ hx
          exact ⟨v, r1, vm v r2⟩
        · cases hy
      · obtain ⟨v, r1, r2⟩ := p3 i y hy
        exact ⟨v, r1, vr _ _ r2⟩
    · have := (hs.hS.hr.blk m bm hm hne).keep (b' := c) (ι' := ι') (h' := h') (w' := w) hιq rfl (fun y _ v hv => vr _ _ hv) (Nat.le_refl _) oo
      rcases this with ⟨cs, ty, p1, p2, p3⟩ | ⟨es, e1, p1, p2, p3⟩
      · exact .inl ⟨cs, ty, p1, p2, p3⟩
      · exact .inr ⟨es, e1, p1, p2, p3⟩
    · exact (hs.hS.hr.blk c bk' hc hne).keep (hιo c e2) rfl (fun y _ v hv => vr _ _ hv) (Nat.le_refl _) oo
  · have back : ∀ (c : Nat) (k : Blk), h'[c]? = some (some k) → k.cells ≠ [] → ∃ (d : Nat) (k0 : Blk), s.heap[d]? = some (some k0) ∧ k0.cells ≠ [] ∧ (ι' c).1 = (ι d).1 ∧ d = (if c = q then m else c) := by
      intro c k q1 n1
      rcases hlo c k q1 with ⟨rfl, rfl⟩ | ⟨rfl, rfl⟩ | ⟨e1, e2, e3, hc⟩
      · exact ⟨c, bk, hb, hne', by rw [hιo c hbq], by rw [if_neg hbq]⟩
      · exact ⟨m, bm, hm, n1, by rw [hιq], by rw [if_pos rfl]⟩
      · exact ⟨c, k, hc, n1, by rw [hιo c e2], by rw [if_neg e2]⟩
    obtain ⟨d, k0, a1, a2, a3, a4⟩ := back c k q1 n1
    obtain ⟨d', k1, b1, b2, b3, b4⟩ := back c' k' q2 n2
    have hd := hs.hS.hr.inj d d' k0 k1 a1 b1 a2 b2 (by rw [← a3, ← b3]; exact e)
    have nm : ∀ (c : Nat) (k : Blk), h'[c]? = some (some k) → c ≠ m := by
      intro c k q1
      rcases hlo c k q1 with ⟨rfl, _⟩ | ⟨rfl, _⟩ | ⟨_, _, e3, _⟩
      · exact hbm
      · exact hqm
      · exact e3
    have m1 := nm c k q1
    have m2 := nm c' k' q2
    rw [hd, b4] at a4
    split at a4 <;> split at a4 <;> omega
  · obtain ⟨v, p1, p2⟩ := hs.fr k y hy
    exact ⟨v, p1, vr _ _ p2⟩
  · refine ⟨he.size, fun k hk ho => ⟨(he.keep k hk ho).1, fun e => (he.keep k hk ho).2 (own_lo k e)⟩, by show _ ≤ h'.length; rw [hlen]; exact he.len, fun c bk' hc hk => ?_, he.os, he.output, he.tape, he.drawn⟩
    rcases hlo c bk' hk with ⟨rfl, rfl⟩ | ⟨rfl, rfl⟩ | ⟨e1, e2, e3, hk⟩
    · obtain ⟨bk0, a1, a2, a3⟩ := he.gens c bk hc hb
      refine ⟨bk0, a1, a2, fun e => ?_⟩
      obtain ⟨b1, b2, b3⟩ := a3 e
      exact ⟨by rw [hιo c hbq]; exact b1, fun _ => by rw [ne_eq, ← List.length_eq_zero_iff, List.length_set, List.length_eq_zero_iff]; exact hne', b3⟩
    · obtain ⟨bk0, a1, a2, a3⟩ := he.gens c bq hc hq
      exact ⟨bk0, a1, by simp only; omega, fun e => by simp only at e; omega⟩
    · obtain ⟨bk0, a1, a2, a3⟩ := he.gens c bk' hc hk
      refine ⟨bk0, a1, a2, fun e => ?_⟩
      obtain ⟨b1, b2, b3⟩ := a3 e
      exact ⟨by rw [hιo c e2]; exact b1, b2, b3⟩

/-- A place of ours that nobody writes any more. -/
theorem Ghost.freezeP {h0 : Heap} {s : St} {k b : Nat} {bk : Blk} {cells : List PV} (hk : s.fr k = some (.ptr b bk.g 0)) (hb : s.heap[b]? = some (some bk)) (hc : bk.cells = cells.map AV.p) (hne : cells ≠ []) :
    Ghost P G h0 s ⟨upd s.fr k (.pin cells), s.nt, s.heap.set b none⟩ := by
  intro ι a w ι0 w0 hS hs he
  have hbl : b < s.heap.length := getElem?_lt hb
  obtain ⟨h', hh'⟩ : ∃ h', h' = s.heap.set b none := ⟨_, rfl⟩
  have hlen : h'.length = s.heap.length := by rw [hh']; simp
  have hlo : ∀ (c : Nat) (bk' : Blk), h'[c]? = some (some bk') → c ≠ b ∧ s.heap[c]? = some (some bk') := by
    intro c bk' hc
    rw [hh', List.getElem?_set] at hc
    split at hc
    · (try split at hc) <;> cases hc
    · rename_i e; exact ⟨fun e' => e e'.symm, hc⟩
  have hhi : ∀ (c : Nat), c ≠ b → h'[c]? = s.heap[c]? := fun c hc => by rw [hh', List.getElem?_set_ne (fun e => hc e.symm)]
  have own_lo : ∀ k, own ι h' k → own ι s.heap k := by
    rintro k ⟨c, bk', q1, q2, q3⟩
    exact ⟨c, bk', (hlo c bk' q1).2, q2, q3⟩
  have oo : ∀ k, k < w.heap.size → ¬ own ι s.heap k → w.heap[k]? = w.heap[k]? ∧ ¬ own ι h' k := fun k _ ho => ⟨rfl, fun e => ho (own_lo k e)⟩
  have lv : ∀ (c g : Nat), liveAt h' c g → c ≠ b ∧ liveAt s.heap c g := by
    rintro c g ⟨bk', q1, q2⟩
    obtain ⟨n1, q3⟩ := hlo c bk' q1
    exact ⟨n1, bk', q3, q2⟩
  have gg : ∀ (c g : Nat), (∀ bk : Blk, s.heap[c]? = some (some bk) → g ≤ bk.g) → ∀ bk : Blk, h'[c]? = some (some bk) → g ≤ bk.g := fun c g hg bk' q1 => hg bk' (hlo c bk' q1).2
  have vr : ∀ x v, VRel ι s.heap w x v → VRel ι h' w x v := by
    intro x v hx
    induction hx with
    | p x v hx => exact .p _ _ (hx.mono (Nat.le_refl _) oo)
    | agg cells vs hl hv ih => exact .agg _ _ hl ih
    | tup cells vs hl hv ih => exact .tup _ _ hl ih
    | fn f cells vs hl hv ih => exact .fn _ _ _ hl ih
    | ref c g off sz len A cc hn hb0 hg hv =>
      refine .ref _ _ _ _ _ _ _ hn (by rw [hlen]; exact hb0) (gg c g hg) fun hl => ?_
      obtain ⟨l1, l3⟩ := lv c g hl
      rcases hv l3 with hz | ⟨hA, hle, ⟨bk0, q0, hn0⟩, hcs⟩
      · exact .inl hz
      · exact .inr ⟨hA, hle, ⟨bk0, by rw [hhi c l1]; exact q0, hn0⟩, hcs⟩
    | ptr c g off A hb0 hg hv =>
      refine .ptr _ _ _ _ (by rw [hlen]; exact hb0) (gg c g hg) fun hl => ?_
      obtain ⟨l1, l3⟩ := lv c g hl
      exact hv l3
    | pin cells blk off hv => exact .pin _ _ _ (hv.mono (Nat.le_refl _) oo)
    | mref c g r hb0 hg hv =>
      refine .mref _ _ _ (by rw [hlen]; exact hb0) (gg c g hg) fun hl => ?_
      obtain ⟨l1, l3⟩ := lv c g hl
      exact hv l3
  obtain ⟨v, hv1, hv2⟩ := hs.fr k _ hk
  have hnew : VRel ι h' w (.pin cells) v := by
    cases hv2 with
    | ptr _ _ _ A hb0 hg hv =>
    obtain ⟨rfl, cs0, ty1, fr1, hcc⟩ := hv ⟨bk, hb, rfl⟩
    have hne' : bk.cells ≠ [] := by rw [hc]; simpa using hne
    obtain ⟨c0, ty0, hc0, hl0, hv0⟩ := (hs.hS.hr.blk b _ hb hne').cells hcc
    have hnown : ¬ own ι h' (ι b).1 := by
      rintro ⟨d, bk', q1, q2, q3⟩
      obtain ⟨n1, q4⟩ := hlo d bk' q1
      exact n1 (hs.hS.hr.inj d b bk' bk q4 hb q2 hne' q3)
    refine .pin _ _ _ ⟨hnown, lt_heap hc0, fun j x hx => ?_⟩
    obtain ⟨u, q1, q2⟩ := hv0 j (.p x) (by rw [hc, List.getElem?_map, hx]; rfl)
    refine ⟨u, ?_, ?_⟩
    · unfold World.cell?
      simp only [hc0]
      rw [show (ι b).2 + 0 + j = (ι b).2 + j by omega, q1]; rfl
    · cases q2 with
      | p _ _ q2 => exact q2.mono (Nat.le_refl _) oo
  rw [← hh']
  refine ⟨ι, ⟨⟨⟨fun c bk' hc hne => ?_, fun c c' k k' q1 q2 n1 n2 e => ?_⟩, fun g cells hg => (hs.hS.gr g cells hg).mono (Nat.le_refl _) oo⟩, fun j y hy => ?_, hs.nt, hs.df⟩, ?_⟩
  · exact (hs.hS.hr.blk c bk' (hlo c bk' hc).2 hne).keep rfl rfl (fun y _ v hv => vr _ _ hv) (Nat.le_refl _) oo
  · exact hs.hS.hr.inj c c' k k' (hlo c k q1).2 (hlo c' k' q2).2 n1 n2 e
  · simp only [upd] at hy
    split at hy
    · rename_i e; subst e; cases hy
      exact ⟨v, hv1, hnew⟩
    · obtain ⟨u, p1, p2⟩ := hs.fr j y hy
      exact ⟨u, p1, vr _ _ p2⟩
  · refine ⟨he.size, fun k hk ho => ⟨(he.keep k hk ho).1, fun e => (he.keep k hk ho).2 (own_lo k e)⟩, by show _ ≤ h'.length; rw [hlen]; exact he.len, fun c bk' hc hk => ?_, he.os, he.output, he.tape, he.drawn⟩
    obtain ⟨e1, e2⟩ := hlo c bk' hk
    obtain ⟨bk0, a1, a2, a3⟩ := he.gens c bk' hc e2
    exact ⟨bk0, a1, a2, a3⟩

end
end Go.Proofs.Ytbbmfemplmelhaa.AM
end

section
set_option linter.unusedVariables false
set_option linter.unusedSimpArgs false
set_option maxRecDepth 4000
set_option maxHeartbeats 4000000
namespace Go.Proofs.Ytbbmfemplmelhaa.AM
open Go Go.Proofs
set_option linter.defProp false in
def TTCkJ := And.intro T2 (And.intro T3 (And.intro T4 (And.intro T22 (And.intro T54 (And.intro T55 (And.intro T57 T59))))))
attribute [local irreducible] awp aops aqops aeops arun arunT
variable {G : Nat → Option (List PV)}

/-- A heap with a new clock behind it. -/
def pk1 (h : Heap) (now : Int) (g : Gz) (l : List Al) : Heap := putK (h ++ [none, none]) h.length (h.length + 1) now g l
theorem pk1_is (h : Heap) (now : Int) (g : Gz) (l : List Al) : pk1 h now g l = h ++ [ckB now (h.length + 1) g l, alB g l] := by
  unfold pk1 putK
  rw [set_app0, set_app]; rfl
theorem pk1_len (h : Heap) (now : Int) (g : Gz) (l : List Al) : (pk1 h now g l).length = h.length + 2 := by rw [pk1_is]; simp
theorem pk1_take (h : Heap) (now : Int) (g : Gz) (l : List Al) : (pk1 h now g l).take h.length = h := by rw [pk1_is]; simp
theorem new_calls (h : Heap) : ACalls Try.prog G 8 [] h (fun r h' => r = .ptr h.length 0 0 ∧ h' = pk1 h 0 (0, false) []) := by
  refine Sim.evoKeepG (rl := []) mixed Try.func8 rfl (by rw [Try.ntmps8]; simp) ?_
  repeat' (first | ((first | refine aops_nil ?_ | refine aqops_nil ?_); (try simp only [NB])) | ((repeat ((fail_if_success (refine hK _ ?_)); clear hK K)); refine hK _ ?_; clear hK K) | ((first | refine aops_k fun K1 hK1 => ?_ | refine aqops_k fun K1 hK1 => ?_ | refine awp_cond_k fun A B hA hB => ?_); simp only [S1, simprocAttr, TTCkJ]; first | (refine hK1 _ ?_; clear hK1 K1) | ((first | refine hA ?_ | refine hB ?_); clear hA hB A B) | (refine join_x (v := ?_) (fun hg hk9 => ?_) ?_; rotate_left; (focus (try ((try simp only [BN] at hg); simp only [S1, simprocAttr, TTCkJ, hg] at hk9 ⊢)); first | exact hk9); (refine hK1 _ ?_; clear hK1 K1)) | (((first | (refine ⟨fun hg => hA ?_, fun hg => hB ?_⟩ <;> clear hA hB A B) | refine ⟨fun hg => ?_, fun hg => ?_⟩) <;> (try simp only [BN2] at hg) <;> (try simp only [hg, cond_true, cond_false])) <;> (try (refine hK1 _ ?_; clear hK1 K1)) <;> (try simp only [BN3] at hg))) | (refine awp_seq_k fun K hK => ?_) | ((first | refine awp_region ?_ | refine awp_draw (by kernel_rfl) ?_ | refine awp_block ?_ | refine awp_exit ?_ | refine awp_skip ?_ | refine awp_ret ?_); (try simp only [NB, simprocAttr])))
  all_goals refine ⟨.inr trivial, _, Ghost.adoptCell 2 (b := h.length) (j := 1) (bk := ⟨0, [.i 0, .p .nils]⟩) (by simp [get_app0]) rfl (Nat.le_refl _), FinK_tmp (t := 0) (v := .ptr h.length 0 0) rfl (by simp) ⟨rfl, ?_⟩⟩
  all_goals rw [pk1_is]; simp [ckB, alB, cZ]
theorem hk1 (h : Heap) : h.length < (h ++ [none, none] : Heap).length := by simp
theorem hk2 (h : Heap) : h.length + 1 < (h ++ [none, none] : Heap).length := by simp
theorem hk3 (h : Heap) : h.length ≠ h.length + 1 := by omega
end Go.Proofs.Ytbbmfemplmelhaa.AM
end

section
set_option linter.unusedVariables false
set_option linter.unusedSimpArgs false
set_option maxRecDepth 4000
set_option maxHeartbeats 4000000
namespace Go.Proofs.Ytbbmfemplmelhaa.AM
open Go Go.Proofs
set_option linter.defProp false in
def TTCkL := And.intro T2 (And.intro T3 (And.intro T4 (And.intro T22 (And.intro T28 (And.intro T54 (And.intro T55 (And.intro T57 T59)))))))
attribute [local irreducible] awp aops aqops aeops arun arunT
variable {G : Nat → Option (List PV)}

/-! Lists of whole numbers. -/
def eJ (n : Int) : List PV := [.int .i64 n]
abbrev aJ (l : List Int) : AV := .p (.sl (l.map eJ))
theorem rowJ {l : List Int} {i : Nat} {k : Int} (h : l[i]? = some k) : (l.map eJ)[i]? = some [.int .i64 k] := by simp [h, eJ]
theorem hitJ {l : List Int} {i : Nat} (h : i < l.length) : decide ((i : Int) < (l.length : Int)) = true := by simp; omega
theorem endJ {l : List Int} : decide ((l.length : Int) < (l.length : Int)) = false := by simp
theorem nextJ {n i : Nat} (hk : n ≤ 1000) (h : i < n) : IntKind.i64.wrap ((i : Int) + 1) = ((i + 1 : Nat) : Int) := by rw [IntWalk.i64_in _ (by omega)]; omega
theorem avltsJ (m : Nat) (l : List Int) : avlts m (l.map AV.i) := by
  induction l with
  | nil => trivial
  | cons x l ih => exact ⟨trivial, ih⟩
theorem chunkJ : ∀ l : List Int, chunk 1 l.length (l.map (PV.int .i64)) = l.map eJ
  | [] => rfl
  | x :: r => by simp only [List.length_cons, List.map_cons, chunk, List.take_succ_cons, List.take_zero, List.drop_succ_cons, List.drop_zero, chunkJ r, eJ]
theorem pursJ (h : Heap) (n fuel : Nat) : ∀ l : List Int, purs h n fuel (l.map AV.i) = some (l.map (PV.int .i64))
  | [] => by unfold purs; rfl
  | x :: r => by
    simp only [List.map_cons]
    unfold purs pur
    rw [pursJ h n fuel r]
theorem purJ {h : Heap} {n fuel b g : Nat} {l : List Int} (hb : blkAt h b g = some (l.map AV.i)) (hn : n ≤ b) : pur h n (fuel + 1) (.ref b g 0 1 l.length) = some (.sl (l.map eJ)) := by
  unfold pur
  by_cases h0 : l.length = 0
  · rw [if_pos h0]; have := List.eq_nil_of_length_eq_zero h0; subst this; rfl
  · rw [if_neg h0, hb]
    simp only [hn, true_and, Nat.zero_add, Nat.mul_one, List.length_map, Nat.le_refl, if_true, List.drop_zero]
    rw [List.take_of_length_le (by simp), pursJ]
    simp only [Option.map_some, chunkJ]
theorem EndP_J {P : Program} {h : Heap} {K : AV → Prop} {e : Exit} {s : St} (he : e = .normal ∨ e = .ret) {t b g : Nat} {l : List Int} (hf : s.fr t = some (.ref b g 0 1 l.length)) (hb : blkAt s.heap b g = some (l.map AV.i)) (hn : h.length ≤ b)
    (ht : s.heap.take h.length = h) (hle : h.length ≤ s.heap.length) (hk : K (aJ l)) : EndP P [.tmp t] h K e s := by
  have key : FinP P [.tmp t] h K s := by
    unfold FinP
    simp only [resA, resL, resA1, hf, lastV, lastA, purJ hb hn, Option.map_some]
    exact ⟨ht, hle, hk⟩
  rcases he with rfl | rfl <;> exact key
/-- A loop of which more is known ahead. -/
theorem awp_forC {P : Program} {rl : List String} {h : Heap} {c : Code} {Q : Exit → St → Prop} {s : St} (N nt : Nat) (l : Nat → List (Nat × AV)) (L : Nat → List (Option Blk)) (p : Nat → Prop) (hi : Ghost P G h s ⟨frL (l 0), nt, h ++ L 0⟩) (hp : p 0)
    (hb : ∀ i, i ≤ N → p i → ∀ K : St → Prop, (∀ s', (i < N ∧ p (i + 1) ∧ Sub h s' (l (i + 1)) (L (i + 1)) nt) → K s') → awp P G rl h c (thenA K Q) ⟨frL (l i), nt, h ++ L i⟩) : awp P G rl h (.loop c) Q s := by
  refine awp_loop (fun n s => ∃ i, i ≤ N ∧ p i ∧ n = N - i ∧ s = ⟨frL (l i), nt, h ++ L i⟩) N _ hi ⟨0, Nat.zero_le _, hp, rfl, rfl⟩ fun n s hI => ?_
  obtain ⟨i, h1, h2, rfl, rfl⟩ := hI
  exact hb i h1 h2 _ fun s' hs => ⟨N - (i + 1), _, by omega, hs.2.2.ghost, i + 1, by omega, hs.2.1, rfl, rfl⟩

theorem ints_calls (a b : List Int) (ha : a.length ≤ 1000) (h : Heap) : ACalls Try.prog G 14 [aJ a, aJ b] h (fun r h' => r = .b (decide (a = b)) ∧ h' = h) := by
  refine acalls_pure (rl := []) mixed Try.func14 rfl (rs := [.tmp 4]) rfl Try.ntmps14 (by simp) ?_
  repeat' (first | ((first | refine aops_nil ?_ | refine aqops_nil ?_); (try simp only [NB])) | ((repeat ((fail_if_success (refine hK _ ?_)); clear hK K)); refine hK _ ?_; clear hK K) | ((first | refine aops_k fun K1 hK1 => ?_ | refine aqops_k fun K1 hK1 => ?_ | refine awp_cond_k fun A B hA hB => ?_); simp only [S1, simprocAttr, TTCkL, List.length_map]; first | (refine hK1 _ ?_; clear hK1 K1) | ((first | refine hA ?_ | refine hB ?_); clear hA hB A B) | (refine join_x (v := ?_) (fun hg hk9 => ?_) ?_; rotate_left; (focus (try ((try simp only [BN] at hg); simp only [S1, simprocAttr, TTCkL, List.length_map, hg] at hk9 ⊢)); first | exact hk9); (refine hK1 _ ?_; clear hK1 K1)) | (((first | (refine ⟨fun hg => hA ?_, fun hg => hB ?_⟩ <;> clear hA hB A B) | refine ⟨fun hg => ?_, fun hg => ?_⟩) <;> (try simp only [BN2] at hg) <;> (try simp only [hg, cond_true, cond_false])) <;> (try (refine hK1 _ ?_; clear hK1 K1)) <;> (try simp only [BN3] at hg))) | (refine awp_seq_k fun K hK => ?_) | ((first | refine awp_region ?_ | refine awp_draw (by kernel_rfl) ?_ | refine awp_block ?_ | refine awp_exit ?_ | refine awp_skip ?_ | refine awp_ret ?_); (try simp only [NB, simprocAttr])))
  refine awp_for a.length 32 (fun i => [(8, .i i), (7, .i a.length), (1, aJ b), (0, aJ a)]) (fun i => []) (fun i => ∀ k, k < i → b[k]? = a[k]?) ?_ (fun k hk => by omega) fun i hi hp K hK => ?_
  · (refine ⟨rfl, (by first | exact ⟨_, rfl⟩ | exact ⟨[], by simp⟩), ?_, ?_⟩ <;> simp only [keeps, avlt, avlts, blksLt, frL, upd_get, S1, simprocAttr, List.length_map, Int.natCast_zero, AV.p.injEq, PV.int.injEq, PV.bool.injEq, PV.sl.injEq] <;> (try and_intros) <;> (try assumption) <;> (try trivial) <;> (try omega))
  rcases Nat.lt_or_ge i a.length with hlt | hge
  · obtain ⟨x, hx⟩ : ∃ k, a[i]? = some k := ⟨_, List.getElem?_eq_getElem hlt⟩
    have i0 : (0 : Int) ≤ (i : Int) := by omega
    cases hb : b[i]? with
    | none =>
      have hl : b.length ≤ i := List.getElem?_eq_none_iff.mp hb
      have f1 : decide ((b.length : Int) ≤ (i : Int)) = true := decide_eq_true (by omega)
      have hne : decide (a = b) = false := decide_eq_false (by rintro rfl; rw [hb] at hx; cases hx)
      repeat' (first | ((first | refine aops_nil ?_ | refine aqops_nil ?_); (try simp only [NB])) | ((repeat ((fail_if_success (refine hK _ ?_)); clear hK K)); refine hK _ ?_; clear hK K) | ((first | refine aops_k fun K1 hK1 => ?_ | refine aqops_k fun K1 hK1 => ?_ | refine awp_cond_k fun A B hA hB => ?_); simp only [S1, simprocAttr, TTCkL, rowJ hx, hitJ hlt, nextJ ha hlt, f1, i0, Int.toNat_natCast, List.length_map]; first | (refine hK1 _ ?_; clear hK1 K1) | ((first | refine hA ?_ | refine hB ?_); clear hA hB A B) | (refine join_x (v := ?_) (fun hg hk9 => ?_) ?_; rotate_left; (focus (try ((try simp only [BN] at hg); simp only [S1, simprocAttr, TTCkL, rowJ hx, hitJ hlt, nextJ ha hlt, f1, i0, Int.toNat_natCast, List.length_map, hg] at hk9 ⊢)); first | exact hk9); (refine hK1 _ ?_; clear hK1 K1)) | (((first | (refine ⟨fun hg => hA ?_, fun hg => hB ?_⟩ <;> clear hA hB A B) | refine ⟨fun hg => ?_, fun hg => ?_⟩) <;> (try simp only [BN2] at hg) <;> (try simp only [hg, cond_true, cond_false])) <;> (try (refine hK1 _ ?_; clear hK1 K1)) <;> (try simp only [BN3] at hg))) | (refine awp_seq_k fun K hK => ?_) | ((first | refine awp_region ?_ | refine awp_draw (by kernel_rfl) ?_ | refine awp_block ?_ | refine awp_exit ?_ | refine awp_skip ?_ | refine awp_ret ?_); (try simp only [NB, simprocAttr])))
      all_goals simp only [EndP, FinP, resA, resL, resA1, lastV, lastA, lastAs, pur, purs, take_app, List.take_length, S1, simprocAttr, TTCkL, Nat.le_add_right, Nat.le_refl]
      all_goals simp [hne]
    | some y =>
      have hl : i < b.length := (List.getElem?_eq_some_iff.mp hb).1
      have f1 : decide ((b.length : Int) ≤ (i : Int)) = false := decide_eq_false (by omega)
      cases hxy : (x != y) with
      | true =>
        have hne : decide (a = b) = false := decide_eq_false (by
          rintro rfl
          rw [hb] at hx; cases hx
          simp at hxy)
        repeat' (first | ((first | refine aops_nil ?_ | refine aqops_nil ?_); (try simp only [NB])) | ((repeat ((fail_if_success (refine hK _ ?_)); clear hK K)); refine hK _ ?_; clear hK K) | ((first | refine aops_k fun K1 hK1 => ?_ | refine aqops_k fun K1 hK1 => ?_ | refine awp_cond_k fun A B hA hB => ?_); simp only [S1, simprocAttr, TTCkL, rowJ hx, rowJ hb, hitJ hlt, nextJ ha hlt, f1, hxy, i0, Int.toNat_natCast, List.length_map]; first | (refine hK1 _ ?_; clear hK1 K1) | ((first | refine hA ?_ | refine hB ?_); clear hA hB A B) | (refine join_x (v := ?_) (fun hg hk9 => ?_) ?_; rotate_left; (focus (try ((try simp only [BN] at hg); simp only [S1, simprocAttr, TTCkL, rowJ hx, rowJ hb, hitJ hlt, nextJ ha hlt, f1, hxy, i0, Int.toNat_natCast, List.length_map, hg] at hk9 ⊢)); first | exact hk9); (refine hK1 _ ?_; clear hK1 K1)) | (((first | (refine ⟨fun hg => hA ?_, fun hg => hB ?_⟩ <;> clear hA hB A B) | refine ⟨fun hg => ?_, fun hg => ?_⟩) <;> (try simp only [BN2] at hg) <;> (try simp only [hg, cond_true, cond_false])) <;> (try (refine hK1 _ ?_; clear hK1 K1)) <;> (try simp only [BN3] at hg))) | (refine awp_seq_k fun K hK => ?_) | ((first | refine awp_region ?_ | refine awp_draw (by kernel_rfl) ?_ | refine awp_block ?_ | refine awp_exit ?_ | refine awp_skip ?_ | refine awp_ret ?_); (try simp only [NB, simprocAttr])))
        all_goals simp only [EndP, FinP, resA, resL, resA1, lastV, lastA, lastAs, pur, purs, take_app, List.take_length, S1, simprocAttr, TTCkL, Nat.le_add_right, Nat.le_refl]
        all_goals simp [hne]
      | false =>
        have exy : x = y := by simpa using hxy
        repeat' (first | ((first | refine aops_nil ?_ | refine aqops_nil ?_); (try simp only [NB])) | ((repeat ((fail_if_success (refine hK _ ?_)); clear hK K)); refine hK _ ?_; clear hK K) | ((first | refine aops_k fun K1 hK1 => ?_ | refine aqops_k fun K1 hK1 => ?_ | refine awp_cond_k fun A B hA hB => ?_); simp only [S1, simprocAttr, TTCkL, rowJ hx, rowJ hb, hitJ hlt, nextJ ha hlt, f1, hxy, i0, Int.toNat_natCast, List.length_map]; first | (refine hK1 _ ?_; clear hK1 K1) | ((first | refine hA ?_ | refine hB ?_); clear hA hB A B) | (refine join_x (v := ?_) (fun hg hk9 => ?_) ?_; rotate_left; (focus (try ((try simp only [BN] at hg); simp only [S1, simprocAttr, TTCkL, rowJ hx, rowJ hb, hitJ hlt, nextJ ha hlt, f1, hxy, i0, Int.toNat_natCast, List.length_map, hg] at hk9 ⊢)); first | exact hk9); (refine hK1 _ ?_; clear hK1 K1)) | (((first | (refine ⟨fun hg => hA ?_, fun hg => hB ?_⟩ <;> clear hA hB A B) | refine ⟨fun hg => ?_, fun hg => ?_⟩) <;> (try simp only [BN2] at hg) <;> (try simp only [hg, cond_true, cond_false])) <;> (try (refine hK1 _ ?_; clear hK1 K1)) <;> (try simp only [BN3] at hg))) | (refine awp_seq_k fun K hK => ?_) | ((first | refine awp_region ?_ | refine awp_draw (by kernel_rfl) ?_ | refine awp_block ?_ | refine awp_exit ?_ | refine awp_skip ?_ | refine awp_ret ?_); (try simp only [NB, simprocAttr])))
        all_goals refine ⟨hlt, fun k hk => ?_, by (refine ⟨rfl, (by first | exact ⟨_, rfl⟩ | exact ⟨[], by simp⟩), ?_, ?_⟩ <;> simp only [keeps, avlt, avlts, blksLt, frL, upd_get, S1, simprocAttr, List.length_map, Int.natCast_zero, AV.p.injEq, PV.int.injEq, PV.bool.injEq, PV.sl.injEq] <;> (try and_intros) <;> (try assumption) <;> (try trivial) <;> (try omega))⟩
        all_goals
          rcases Nat.lt_or_ge k i with h1 | h1
          · exact hp k h1
          · obtain rfl : k = i := by omega
            rw [hb, hx, exy]
  · obtain rfl : i = a.length := by omega
    have key : ((a.length : Int) == (b.length : Int)) = decide (a = b) := by
      rw [Bool.eq_iff_iff]
      simp only [beq_iff_eq, decide_eq_true_eq]
      constructor
      · intro e
        apply List.ext_getElem?
        intro k
        rcases Nat.lt_or_ge k a.length with h1 | h1
        · exact (hp k h1).symm
        · rw [List.getElem?_eq_none h1, List.getElem?_eq_none (by omega)]
      · intro e; rw [e]
    repeat' (first | ((first | refine aops_nil ?_ | refine aqops_nil ?_); (try simp only [NB])) | ((repeat ((fail_if_success (refine hK _ ?_)); clear hK K)); refine hK _ ?_; clear hK K) | ((first | refine aops_k fun K1 hK1 => ?_ | refine aqops_k fun K1 hK1 => ?_ | refine awp_cond_k fun A B hA hB => ?_); simp only [S1, simprocAttr, TTCkL, endJ, key, List.length_map]; first | (refine hK1 _ ?_; clear hK1 K1) | ((first | refine hA ?_ | refine hB ?_); clear hA hB A B) | (refine join_x (v := ?_) (fun hg hk9 => ?_) ?_; rotate_left; (focus (try ((try simp only [BN] at hg); simp only [S1, simprocAttr, TTCkL, endJ, key, List.length_map, hg] at hk9 ⊢)); first | exact hk9); (refine hK1 _ ?_; clear hK1 K1)) | (((first | (refine ⟨fun hg => hA ?_, fun hg => hB ?_⟩ <;> clear hA hB A B) | refine ⟨fun hg => ?_, fun hg => ?_⟩) <;> (try simp only [BN2] at hg) <;> (try simp only [hg, cond_true, cond_false])) <;> (try (refine hK1 _ ?_; clear hK1 K1)) <;> (try simp only [BN3] at hg))) | (refine awp_seq_k fun K hK => ?_) | ((first | refine awp_region ?_ | refine awp_draw (by kernel_rfl) ?_ | refine awp_block ?_ | refine awp_exit ?_ | refine awp_skip ?_ | refine awp_ret ?_); (try simp only [NB, simprocAttr])))
    all_goals simp only [EndP, FinP, resA, resL, resA1, lastV, lastA, lastAs, pur, purs, take_app, List.take_length, S1, simprocAttr, TTCkL, Nat.le_add_right, Nat.le_refl]

section
variable {h : Heap} {b lb : Nat} {g : Gz} {now : Int} {l : List Al}
def dueN (now : Int) (l : List Al) (j : Nat) : List Int := ((l.take j).filter fun a => a.1 ≤ now).map (·.2)
theorem dueN_le (now : Int) (l : List Al) (j : Nat) : (dueN now l j).length ≤ l.length := by
  unfold dueN
  rw [List.length_map]
  exact Nat.le_trans (List.length_filter_le _ _) (by rw [List.length_take]; omega)
theorem dueN_succ {now : Int} {l : List Al} {j : Nat} {a : Al} (h : l[j]? = some a) : dueN now l (j + 1) = dueN now l j ++ if a.1 ≤ now then [a.2] else [] := by
  unfold dueN
  rw [List.take_add_one, h, List.filter_append, List.map_append]
  congr 1
  by_cases hc : a.1 ≤ now <;> simp [hc]

theorem due_calls (hb : b < h.length) (hl : lb < h.length) (hne : b ≠ lb) (ok : CkOk now l) :
    ACalls Try.prog G 12 [.ptr b 0 0] (putK h b lb now g l) (fun r h' => r = aJ (dueC now l) ∧ h' = putK h b lb now g l) := by
  have h64 := ok.len
  have hbH : ∀ L, (putK h b lb now g l ++ L)[b]? = some (ckB now lb g l) := pk_b hb hne
  have hlH : ∀ L, (putK h b lb now g l ++ L)[lb]? = some (alB g l) := pk_lb hl
  have hb0 : (putK h b lb now g l)[b]? = some (ckB now lb g l) := pk_b0 hb hne
  have hl0 : (putK h b lb now g l)[lb]? = some (alB g l) := pk_lb0 hl
  have hlen : (putK h b lb now g l).length = h.length := pk_len
  have hnow : ∀ L, ACalls Try.prog G 17 [.ptr b 0 0] (putK h b lb now g l ++ L) (fun r h' => r = .i now ∧ h' = putK h b lb now g l ++ L) := fun L => by
    rw [← pk_app hb hl]
    exact now_calls (by rw [List.length_append]; omega) (by rw [List.length_append]; omega) hne
  generalize hH : putK h b lb now g l = H at *
  have hbl : b < H.length := by omega
  have hll : lb < H.length := by omega
  clear hH
  refine acalls_pure (rl := []) mixed Try.func12 rfl (rs := [.tmp 2]) rfl Try.ntmps12 (by simp) ?_
  refine awp_seq_k fun K hK => ?_
  repeat' (first | ((first | refine aops_nil ?_ | refine aqops_nil ?_); (try simp only [NB]); ((repeat ((fail_if_success (refine hK _ ?_)); clear hK K)); refine hK _ ?_; clear hK K)) | ((first | refine aops_k fun K1 hK1 => ?_ | refine aqops_k fun K1 hK1 => ?_ | refine awp_cond_k fun A B hA hB => ?_); simp only [S1, simprocAttr, TTCkL]; first | (refine hK1 _ ?_; clear hK1 K1) | ((first | refine hA ?_ | refine hB ?_); clear hA hB A B) | (((first | (refine ⟨fun hg => hA ?_, fun hg => hB ?_⟩ <;> clear hA hB A B) | refine ⟨fun hg => ?_, fun hg => ?_⟩) <;> (try simp only [BN2] at hg) <;> (try simp only [hg, cond_true, cond_false])) <;> (try (refine hK1 _ ?_; clear hK1 K1)) <;> (try simp only [BN3] at hg))) | (fail) | ((first | refine awp_region ?_ | refine awp_draw (by kernel_rfl) ?_ | refine awp_block ?_ | refine awp_exit ?_ | refine awp_skip ?_ | refine awp_ret ?_); (try simp only [NB, simprocAttr]); (try ((repeat ((fail_if_success (refine hK _ ?_)); clear hK K)); refine hK _ ?_; clear hK K))))
  refine awp_seq_k fun K hK => ?_
  repeat' (first | ((first | refine aops_nil ?_ | refine aqops_nil ?_); (try simp only [NB]); ((repeat ((fail_if_success (refine hK _ ?_)); clear hK K)); refine hK _ ?_; clear hK K)) | ((first | refine aops_k fun K1 hK1 => ?_ | refine aqops_k fun K1 hK1 => ?_ | refine awp_cond_k fun A B hA hB => ?_); simp only [S1, simprocAttr, TTCkL]; first | (refine hK1 _ ?_; clear hK1 K1) | ((first | refine hA ?_ | refine hB ?_); clear hA hB A B) | (((first | (refine ⟨fun hg => hA ?_, fun hg => hB ?_⟩ <;> clear hA hB A B) | refine ⟨fun hg => ?_, fun hg => ?_⟩) <;> (try simp only [BN2] at hg) <;> (try simp only [hg, cond_true, cond_false])) <;> (try (refine hK1 _ ?_; clear hK1 K1)) <;> (try simp only [BN3] at hg))) | (fail) | ((first | refine awp_region ?_ | refine awp_draw (by kernel_rfl) ?_ | refine awp_block ?_ | refine awp_exit ?_ | refine awp_skip ?_ | refine awp_ret ?_); (try simp only [NB, simprocAttr]); (try ((repeat ((fail_if_success (refine hK _ ?_)); clear hK K)); refine hK _ ?_; clear hK K))))
  repeat' (first | ((first | refine aops_nil ?_ | refine aqops_nil ?_); (try simp only [NB])) | ((repeat ((fail_if_success (refine hK _ ?_)); clear hK K)); refine hK _ ?_; clear hK K) | ((first | refine aops_k fun K1 hK1 => ?_ | refine aqops_k fun K1 hK1 => ?_ | refine awp_cond_k fun A B hA hB => ?_); simp only [S1, simprocAttr, TTCkL, hb0, hl0, ckB, alB]; first | (refine hK1 _ ?_; clear hK1 K1) | ((first | refine hA ?_ | refine hB ?_); clear hA hB A B) | (((first | (refine ⟨fun hg => hA ?_, fun hg => hB ?_⟩ <;> clear hA hB A B) | refine ⟨fun hg => ?_, fun hg => ?_⟩) <;> (try simp only [BN2] at hg) <;> (try simp only [hg, cond_true, cond_false])) <;> (try (refine hK1 _ ?_; clear hK1 K1)) <;> (try simp only [BN3] at hg))) | (refine awp_seq_k fun K hK => ?_) | ((first | refine awp_region ?_ | refine awp_draw (by kernel_rfl) ?_ | refine awp_block ?_ | refine awp_exit ?_ | refine awp_skip ?_ | refine awp_ret ?_); (try simp only [NB, simprocAttr])))
  refine awp_forC l.length 30 (fun j => [(14, .i j), (13, .i l.length), (12, .ref lb g.1 0 2 l.length), (0, .ptr b 0 0), (3, .ref H.length (dueN now l j).length 0 1 (dueN now l j).length)])
    (fun j => [some ⟨(dueN now l j).length, (dueN now l j).map AV.i⟩]) (fun j => True) ?_ trivial fun j hj hp K hK => ?_
  · refine (Ghost.adopt 3 1 rfl).trans (Sub.ghost ⟨rfl, ⟨[], by simp [dueN]⟩, ?_, ?_⟩)
    · simp [keeps, upd, avlt, dueN]; omega
    · simp [blksLt, avlts, avlt, dueN]
  rcases Nat.lt_or_ge j l.length with hlt | hge
  · obtain ⟨a, hx⟩ : ∃ k, l[j]? = some k := ⟨_, List.getElem?_eq_getElem hlt⟩
    have hlC : ∀ L, (H ++ L)[lb]? = some (some ⟨g.1, cAl l⟩) := fun L => by rw [hlH, alB, cZ_at hx]
    have jl : (j : Int) < (l.length : Int) := by omega
    have j0 : (0 : Int) ≤ (j : Int) := by omega
    have hnx := nextJ (n := l.length) (by omega) hlt
    have hle := dueN_le now l j
    have hmax : (dueN now l j).length + 1 ≤ maxCount := by unfold maxCount; omega
    have hdd : (cAl l).drop (j * 2) = .i a.1 :: .i a.2 :: (cAl l).drop (j * 2 + 2) := by
      rw [cAl_drop, List.drop_eq_getElem_cons hlt, (List.getElem?_eq_some_iff.mp hx).2]
      rw [show j * 2 + 2 = (j + 1) * 2 by omega, cAl_drop]; rfl
    have hcl : 2 ≤ l.length * 2 - j * 2 := by omega
    have es := dueN_succ (now := now) hx
    by_cases hc : a.1 ≤ now
    · rw [if_pos hc] at es
      repeat' (first | ((first | refine aops_nil ?_ | refine aqops_nil ?_ | refine arun_nil ?_ | refine arunT_nil ?_); (try simp only [NB])) | ((repeat ((fail_if_success (refine hK _ ?_)); clear hK K)); refine hK _ ?_; clear hK K) | ((first | refine aops_k fun K1 hK1 => ?_ | refine aqops_k fun K1 hK1 => ?_ | refine arun_eff rfl rfl rfl fun K1 hK1 => ?_ | refine awp_cond_k fun A B hA hB => ?_); simp only [S1, simprocAttr, TTCkL, jl, j0, hnx, hmax, hc, hbH, hlC, ckB, hdd, hcl, takeC_st, cAl_len, List.length_map, List.length_drop, Nat.mul_one, Nat.zero_add]; first | (refine hK1 _ ?_; clear hK1 K1) | ((first | refine hA ?_ | refine hB ?_); clear hA hB A B) | ((first | apply call_a E17 | apply call_q E17); exact (hnow _); (refine hK1 _ ?_; clear hK1 K1)) | (((first | (refine ⟨fun hg => hA ?_, fun hg => hB ?_⟩ <;> clear hA hB A B) | refine ⟨fun hg => ?_, fun hg => ?_⟩) <;> (try simp only [BN2] at hg) <;> (try simp only [hg, cond_true, cond_false])) <;> (try (refine hK1 _ ?_; clear hK1 K1)) <;> (try simp only [BN3] at hg))) | ((first | refine arun_q (v := ?_) rfl rfl rfl rfl (by decide) (fun R1 K1 hK1 => ?_) ?_ | refine arun_f (v := ?_) rfl rfl rfl (by decide) (fun K1 hK1 => ?_) ?_ | refine arunT_f (v := ?_) rfl rfl rfl (by decide) (fun K1 hK1 => ?_) ?_); rotate_left; (focus (simp only [S1, simprocAttr, TTCkL, jl, j0, hnx, hmax, hc, hbH, hlC, ckB, hdd, hcl, takeC_st, cAl_len, List.length_map, List.length_drop, Nat.mul_one, Nat.zero_add]; first | (exact hK1 _ _ _) | ((first | apply call_a E17 | apply call_q E17); exact (hnow _); exact hK1 _ _ _)))) | (refine arun_tail rfl rfl rfl ?_) | ((first | refine arun_allocj (z := ?_) 0 rfl rfl rfl rfl (by decide) rfl ?_ ?_ | refine arun_allocj (z := ?_) 1 rfl rfl rfl rfl (by decide) rfl ?_ ?_ | refine arun_allocj (z := ?_) 2 rfl rfl rfl rfl (by decide) rfl ?_ ?_); rotate_left; (focus (simp only [S1, simprocAttr, TTCkL, jl, j0, hnx, hmax, hc, hbH, hlC, ckB, hdd, hcl, takeC_st, cAl_len, List.length_map, List.length_drop, Nat.mul_one, Nat.zero_add, zeroB]; rfl))) | (refine awp_seq_k fun K hK => ?_) | (refine awp_drawR (es := []) [0, 1, 2, 3, 4] 0 (fs := []) rfl (by kernel_rfl) (by kernel_rfl) ?_) | ((first | refine awp_region ?_ | refine awp_draw (by kernel_rfl) ?_ | refine awp_block ?_ | refine awp_exit ?_ | refine awp_skip ?_ | refine awp_ret ?_); (try simp only [NB, simprocAttr])))
      all_goals refine ⟨hlt, trivial, ?_⟩
      all_goals simp only [es, List.length_append, List.map_append, List.length_cons, List.length_nil, List.map_cons, List.map_nil, Nat.zero_add]
      all_goals refine ⟨rfl, ⟨_, rfl⟩, ?_, ?_⟩
      · simp only [keeps, avlt, avlts, blksLt, frL, upd_get, S1, simprocAttr, List.length_map, Int.natCast_zero, AV.p.injEq, PV.int.injEq, PV.bool.injEq, PV.sl.injEq] <;> (try and_intros) <;> (try assumption) <;> (try trivial) <;> (try omega)
      · exact ⟨by simpa using avltsJ _ (dueN now l j ++ [a.2]), trivial⟩
    · rw [if_neg hc, List.append_nil] at es
      repeat' (first | ((first | refine aops_nil ?_ | refine aqops_nil ?_ | refine arun_nil ?_ | refine arunT_nil ?_); (try simp only [NB])) | ((repeat ((fail_if_success (refine hK _ ?_)); clear hK K)); refine hK _ ?_; clear hK K) | ((first | refine aops_k fun K1 hK1 => ?_ | refine aqops_k fun K1 hK1 => ?_ | refine arun_eff rfl rfl rfl fun K1 hK1 => ?_ | refine awp_cond_k fun A B hA hB => ?_); simp only [S1, simprocAttr, TTCkL, jl, j0, hnx, hmax, hc, hbH, hlC, ckB, hdd, hcl, takeC_st, cAl_len, List.length_map, List.length_drop, Nat.mul_one, Nat.zero_add]; first | (refine hK1 _ ?_; clear hK1 K1) | ((first | refine hA ?_ | refine hB ?_); clear hA hB A B) | ((first | apply call_a E17 | apply call_q E17); exact (hnow _); (refine hK1 _ ?_; clear hK1 K1)) | (((first | (refine ⟨fun hg => hA ?_, fun hg => hB ?_⟩ <;> clear hA hB A B) | refine ⟨fun hg => ?_, fun hg => ?_⟩) <;> (try simp only [BN2] at hg) <;> (try simp only [hg, cond_true, cond_false])) <;> (try (refine hK1 _ ?_; clear hK1 K1)) <;> (try simp only [BN3] at hg))) | ((first | refine arun_q (v := ?_) rfl rfl rfl rfl (by decide) (fun R1 K1 hK1 => ?_) ?_ | refine arun_f (v := ?_) rfl rfl rfl (by decide) (fun K1 hK1 => ?_) ?_ | refine arunT_f (v := ?_) rfl rfl rfl (by decide) (fun K1 hK1 => ?_) ?_); rotate_left; (focus (simp only [S1, simprocAttr, TTCkL, jl, j0, hnx, hmax, hc, hbH, hlC, ckB, hdd, hcl, takeC_st, cAl_len, List.length_map, List.length_drop, Nat.mul_one, Nat.zero_add]; first | (exact hK1 _ _ _) | ((first | apply call_a E17 | apply call_q E17); exact (hnow _); exact hK1 _ _ _)))) | (refine arun_tail rfl rfl rfl ?_) | ((first | refine arun_allocj (z := ?_) 0 rfl rfl rfl rfl (by decide) rfl ?_ ?_ | refine arun_allocj (z := ?_) 1 rfl rfl rfl rfl (by decide) rfl ?_ ?_ | refine arun_allocj (z := ?_) 2 rfl rfl rfl rfl (by decide) rfl ?_ ?_); rotate_left; (focus (simp only [S1, simprocAttr, TTCkL, jl, j0, hnx, hmax, hc, hbH, hlC, ckB, hdd, hcl, takeC_st, cAl_len, List.length_map, List.length_drop, Nat.mul_one, Nat.zero_add, zeroB]; rfl))) | (refine awp_seq_k fun K hK => ?_) | (refine awp_drawR (es := []) [0, 1, 2, 3, 4] 0 (fs := []) rfl (by kernel_rfl) (by kernel_rfl) ?_) | ((first | refine awp_region ?_ | refine awp_draw (by kernel_rfl) ?_ | refine awp_block ?_ | refine awp_exit ?_ | refine awp_skip ?_ | refine awp_ret ?_); (try simp only [NB, simprocAttr])))
      all_goals refine ⟨hlt, trivial, ?_⟩
      all_goals simp only [es]
      all_goals refine ⟨rfl, ⟨_, rfl⟩, ?_, ?_⟩
      · simp only [keeps, avlt, avlts, blksLt, frL, upd_get, S1, simprocAttr, List.length_map, Int.natCast_zero, AV.p.injEq, PV.int.injEq, PV.bool.injEq, PV.sl.injEq] <;> (try and_intros) <;> (try assumption) <;> (try trivial) <;> (try omega)
      · exact ⟨avltsJ _ _, trivial⟩
  · obtain rfl : j = l.length := by omega
    have e2 : dueN now l l.length = dueC now l := by unfold dueN dueC; rw [List.take_length]
    repeat' (first | ((first | refine aops_nil ?_ | refine aqops_nil ?_); (try simp only [NB])) | ((repeat ((fail_if_success (refine hK _ ?_)); clear hK K)); refine hK _ ?_; clear hK K) | ((first | refine aops_k fun K1 hK1 => ?_ | refine aqops_k fun K1 hK1 => ?_ | refine awp_cond_k fun A B hA hB => ?_); simp only [S1, simprocAttr, TTCkL, Int.lt_irrefl]; first | (refine hK1 _ ?_; clear hK1 K1) | ((first | refine hA ?_ | refine hB ?_); clear hA hB A B) | (((first | (refine ⟨fun hg => hA ?_, fun hg => hB ?_⟩ <;> clear hA hB A B) | refine ⟨fun hg => ?_, fun hg => ?_⟩) <;> (try simp only [BN2] at hg) <;> (try simp only [hg, cond_true, cond_false])) <;> (try (refine hK1 _ ?_; clear hK1 K1)) <;> (try simp only [BN3] at hg))) | (refine awp_seq_k fun K hK => ?_) | ((first | refine awp_region ?_ | refine awp_draw (by kernel_rfl) ?_ | refine awp_block ?_ | refine awp_exit ?_ | refine awp_skip ?_ | refine awp_ret ?_); (try simp only [NB, simprocAttr])))
    all_goals exact EndP_J (b := H.length) (g := (dueN now l l.length).length) (l := dueN now l l.length) (.inr rfl) rfl (by simp [blkAt, get_app0]) (Nat.le_refl _) (by simp) (by simp) (by rw [e2])
end
end Go.Proofs.Ytbbmfemplmelhaa.AM
end

section
set_option linter.unusedVariables false
set_option linter.unusedSimpArgs false
set_option maxRecDepth 4000
set_option maxHeartbeats 4000000
namespace Go.Proofs.Ytbbmfemplmelhaa.AM
open Go Go.Proofs
set_option linter.defProp false in
def TTCkV := And.intro T2 (And.intro T3 (And.intro T4 (And.intro T22 (And.intro T25 (And.intro T28 (And.intro T40 (And.intro T41 (And.intro T43 (And.intro T48 (And.intro T54 (And.intro T55 (And.intro T57 (And.intro T59 T73)))))))))))))
attribute [local irreducible] awp aops aqops aeops arun arunT
variable {G : Nat → Option (List PV)}

theorem cAl_dd {m : List Al} {i : Nat} {a : Al} (h : m[i]? = some a) : (cAl m).drop (i * 2) = .i a.1 :: .i a.2 :: (cAl m).drop (i * 2 + 2) ∧ (cAl m).drop (i * 2 + 1) = .i a.2 :: (cAl m).drop (i * 2 + 2) := by
  have e : (cAl m).drop (i * 2) = .i a.1 :: .i a.2 :: (cAl m).drop (i * 2 + 2) := by
    rw [cAl_drop, List.drop_eq_getElem_cons (List.getElem?_eq_some_iff.mp h).1, (List.getElem?_eq_some_iff.mp h).2]
    rw [show i * 2 + 2 = (i + 1) * 2 by omega, cAl_drop]; rfl
  refine ⟨e, ?_⟩
  rw [← List.drop_drop, e]; rfl

section
variable {H : Heap} {b lb : Nat} {g : Gz} {now : Int} {m : List Al}
theorem rAt_calls (hb0 : H[b]? = some (ckB now lb g m)) (hl0 : H[lb]? = some (alB g m)) (hn : m.length ≤ 100) (id : Int) :
    ACalls Try.prog G 18 [.ptr b 0 0, .i id] H (fun r h' => r = .i (atR m id) ∧ h' = H) := by
  have hbl : b < H.length := getElem?_lt hb0
  have hll : lb < H.length := getElem?_lt hl0
  refine acalls_pure (rl := []) mixed Try.func18 rfl (rs := [.tmp 4]) rfl Try.ntmps18 (by simp) ?_
  repeat' (first | ((first | refine aops_nil ?_ | refine aqops_nil ?_); (try simp only [NB])) | ((repeat ((fail_if_success (refine hK _ ?_)); clear hK K)); refine hK _ ?_; clear hK K) | ((first | refine aops_k fun K1 hK1 => ?_ | refine aqops_k fun K1 hK1 => ?_ | refine awp_cond_k fun A B hA hB => ?_); simp only [S1, simprocAttr, TTCkV, hb0, ckB]; first | (refine hK1 _ ?_; clear hK1 K1) | ((first | refine hA ?_ | refine hB ?_); clear hA hB A B) | (((first | (refine ⟨fun hg => hA ?_, fun hg => hB ?_⟩ <;> clear hA hB A B) | refine ⟨fun hg => ?_, fun hg => ?_⟩) <;> (try simp only [BN2] at hg) <;> (try simp only [hg, cond_true, cond_false])) <;> (try (refine hK1 _ ?_; clear hK1 K1)) <;> (try simp only [BN3] at hg))) | (refine awp_seq_k fun K hK => ?_) | ((first | refine awp_region ?_ | refine awp_draw (by kernel_rfl) ?_ | refine awp_block ?_ | refine awp_exit ?_ | refine awp_skip ?_ | refine awp_ret ?_); (try simp only [NB, simprocAttr])))
  refine awp_for m.length 23 (fun j => [(12, .i j), (11, .i m.length), (10, .ref lb g.1 0 2 m.length), (1, .i id), (0, .ptr b 0 0)])
    (fun j => []) (fun j => atR m id = findA (fun a => a.1 == id) (m.drop j) j) ?_ rfl fun j hj hp K hK => ?_
  · (refine ⟨rfl, (by first | exact ⟨_, rfl⟩ | exact ⟨[], by simp⟩), ?_, ?_⟩ <;> simp only [keeps, avlt, avlts, blksLt, frL, upd_get, S1, simprocAttr, List.length_map, Int.natCast_zero, AV.p.injEq, PV.int.injEq, PV.bool.injEq, PV.sl.injEq] <;> (try and_intros) <;> (try assumption) <;> (try trivial) <;> (try omega))
  rcases Nat.lt_or_ge j m.length with hlt | hge
  · obtain ⟨a, hx⟩ : ∃ k, m[j]? = some k := ⟨_, List.getElem?_eq_getElem hlt⟩
    have hlC : H[lb]? = some (some ⟨g.1, cAl m⟩) := by rw [hl0, alB, cZ_at hx]
    have jl : (j : Int) < (m.length : Int) := by omega
    have j0 : (0 : Int) ≤ (j : Int) := by omega
    have hnx := nextJ (n := m.length) (by omega) hlt
    have hdd : (cAl m).drop (j * 2) = .i a.1 :: .i a.2 :: (cAl m).drop (j * 2 + 2) := by
      rw [cAl_drop, List.drop_eq_getElem_cons hlt, (List.getElem?_eq_some_iff.mp hx).2]
      rw [show j * 2 + 2 = (j + 1) * 2 by omega, cAl_drop]; rfl
    have hcl : 2 ≤ m.length * 2 - j * 2 := by omega
    rw [findA_step hx] at hp
    cases hc : (a.1 == id) with
    | true =>
      rw [hc, if_pos rfl] at hp
      repeat' (first | ((first | refine aops_nil ?_ | refine aqops_nil ?_); (try simp only [NB])) | ((repeat ((fail_if_success (refine hK _ ?_)); clear hK K)); refine hK _ ?_; clear hK K) | ((first | refine aops_k fun K1 hK1 => ?_ | refine aqops_k fun K1 hK1 => ?_ | refine awp_cond_k fun A B hA hB => ?_); simp only [S1, simprocAttr, TTCkV, jl, j0, hnx, hlC, hdd, hcl, hc, takeC_st, cAl_len, List.length_drop, Nat.zero_add]; first | (refine hK1 _ ?_; clear hK1 K1) | ((first | refine hA ?_ | refine hB ?_); clear hA hB A B) | (((first | (refine ⟨fun hg => hA ?_, fun hg => hB ?_⟩ <;> clear hA hB A B) | refine ⟨fun hg => ?_, fun hg => ?_⟩) <;> (try simp only [BN2] at hg) <;> (try simp only [hg, cond_true, cond_false])) <;> (try (refine hK1 _ ?_; clear hK1 K1)) <;> (try simp only [BN3] at hg))) | (refine awp_seq_k fun K hK => ?_) | ((first | refine awp_region ?_ | refine awp_draw (by kernel_rfl) ?_ | refine awp_block ?_ | refine awp_exit ?_ | refine awp_skip ?_ | refine awp_ret ?_); (try simp only [NB, simprocAttr])))
      all_goals simp only [EndP, FinP, resA, resL, resA1, lastV, lastA, lastAs, pur, purs, take_app, List.take_length, S1, simprocAttr, TTCkV, Nat.le_add_right, Nat.le_refl]
      all_goals simp [hp]
    | false =>
      rw [hc, if_neg (by simp)] at hp
      repeat' (first | ((first | refine aops_nil ?_ | refine aqops_nil ?_); (try simp only [NB])) | ((repeat ((fail_if_success (refine hK _ ?_)); clear hK K)); refine hK _ ?_; clear hK K) | ((first | refine aops_k fun K1 hK1 => ?_ | refine aqops_k fun K1 hK1 => ?_ | refine awp_cond_k fun A B hA hB => ?_); simp only [S1, simprocAttr, TTCkV, jl, j0, hnx, hlC, hdd, hcl, hc, takeC_st, cAl_len, List.length_drop, Nat.zero_add]; first | (refine hK1 _ ?_; clear hK1 K1) | ((first | refine hA ?_ | refine hB ?_); clear hA hB A B) | (((first | (refine ⟨fun hg => hA ?_, fun hg => hB ?_⟩ <;> clear hA hB A B) | refine ⟨fun hg => ?_, fun hg => ?_⟩) <;> (try simp only [BN2] at hg) <;> (try simp only [hg, cond_true, cond_false])) <;> (try (refine hK1 _ ?_; clear hK1 K1)) <;> (try simp only [BN3] at hg))) | (refine awp_seq_k fun K hK => ?_) | ((first | refine awp_region ?_ | refine awp_draw (by kernel_rfl) ?_ | refine awp_block ?_ | refine awp_exit ?_ | refine awp_skip ?_ | refine awp_ret ?_); (try simp only [NB, simprocAttr])))
      all_goals exact ⟨hlt, hp, by (refine ⟨rfl, (by first | exact ⟨_, rfl⟩ | exact ⟨[], by simp⟩), ?_, ?_⟩ <;> simp only [keeps, avlt, avlts, blksLt, frL, upd_get, S1, simprocAttr, List.length_map, Int.natCast_zero, AV.p.injEq, PV.int.injEq, PV.bool.injEq, PV.sl.injEq] <;> (try and_intros) <;> (try assumption) <;> (try trivial) <;> (try omega))⟩
  · obtain rfl : j = m.length := by omega
    rw [List.drop_length] at hp
    repeat' (first | ((first | refine aops_nil ?_ | refine aqops_nil ?_); (try simp only [NB])) | ((repeat ((fail_if_success (refine hK _ ?_)); clear hK K)); refine hK _ ?_; clear hK K) | ((first | refine aops_k fun K1 hK1 => ?_ | refine aqops_k fun K1 hK1 => ?_ | refine awp_cond_k fun A B hA hB => ?_); simp only [S1, simprocAttr, TTCkV, Int.lt_irrefl]; first | (refine hK1 _ ?_; clear hK1 K1) | ((first | refine hA ?_ | refine hB ?_); clear hA hB A B) | (((first | (refine ⟨fun hg => hA ?_, fun hg => hB ?_⟩ <;> clear hA hB A B) | refine ⟨fun hg => ?_, fun hg => ?_⟩) <;> (try simp only [BN2] at hg) <;> (try simp only [hg, cond_true, cond_false])) <;> (try (refine hK1 _ ?_; clear hK1 K1)) <;> (try simp only [BN3] at hg))) | (refine awp_seq_k fun K hK => ?_) | ((first | refine awp_region ?_ | refine awp_draw (by kernel_rfl) ?_ | refine awp_block ?_ | refine awp_exit ?_ | refine awp_skip ?_ | refine awp_ret ?_); (try simp only [NB, simprocAttr])))
    all_goals simp only [EndP, FinP, resA, resL, resA1, lastV, lastA, lastAs, pur, purs, take_app, List.take_length, S1, simprocAttr, TTCkV, Nat.le_add_right, Nat.le_refl]
    all_goals simp [hp, findA]

theorem rLeft_calls (hb0 : H[b]? = some (ckB now lb g m)) (hl0 : H[lb]? = some (alB g m)) {i : Nat} {a : Al} (hx : m[i]? = some a) (h0 : 0 ≤ now) (h1 : now ≤ maxC) (ha : a.2 ≤ maxC) :
    ACalls Try.prog G 19 [.ptr b 0 0, .i i] H (fun r h' => r = .i (leftR now a) ∧ h' = H) := by
  have hbl : b < H.length := getElem?_lt hb0
  have hll : lb < H.length := getElem?_lt hl0
  have hlt := (List.getElem?_eq_some_iff.mp hx).1
  have hlC : H[lb]? = some (some ⟨g.1, cAl m⟩) := by rw [hl0, alB, cZ_at hx]
  have jl : (i : Int) < (m.length : Int) := by omega
  have j0 : (0 : Int) ≤ (i : Int) := by omega
  obtain ⟨hd0, hd1⟩ := cAl_dd hx
  have hcl : 2 ≤ m.length * 2 - i * 2 := by omega
  have hle : i * 2 + 1 < m.length * 2 := by omega
  unfold leftR
  by_cases hc : a.2 ≤ now
  · rw [if_pos hc]
    refine acalls_pure (rl := []) mixed Try.func19 rfl (rs := [.tmp 4]) rfl Try.ntmps19 (by simp) ?_
    repeat' (first | ((first | refine aops_nil ?_ | refine aqops_nil ?_); (try simp only [NB])) | ((repeat ((fail_if_success (refine hK _ ?_)); clear hK K)); refine hK _ ?_; clear hK K) | ((first | refine aops_k fun K1 hK1 => ?_ | refine aqops_k fun K1 hK1 => ?_ | refine awp_cond_k fun A B hA hB => ?_); simp only [S1, simprocAttr, TTCkV, hb0, hlC, jl, j0, hc, ckB, hd1, hle, cAl_len, Nat.zero_add]; first | (refine hK1 _ ?_; clear hK1 K1) | ((first | refine hA ?_ | refine hB ?_); clear hA hB A B) | (((first | (refine ⟨fun hg => hA ?_, fun hg => hB ?_⟩ <;> clear hA hB A B) | refine ⟨fun hg => ?_, fun hg => ?_⟩) <;> (try simp only [BN2] at hg) <;> (try simp only [hg, cond_true, cond_false])) <;> (try (refine hK1 _ ?_; clear hK1 K1)) <;> (try simp only [BN3] at hg))) | (refine awp_seq_k fun K hK => ?_) | ((first | refine awp_region ?_ | refine awp_draw (by kernel_rfl) ?_ | refine awp_block ?_ | refine awp_exit ?_ | refine awp_skip ?_ | refine awp_ret ?_); (try simp only [NB, simprocAttr])))
    all_goals simp only [EndP, FinP, resA, resL, resA1, lastV, lastA, lastAs, pur, purs, take_app, List.take_length, S1, simprocAttr, TTCkV, Nat.le_add_right, Nat.le_refl]
  · have hw : IntKind.i64.wrap (a.2 - now) = a.2 - now := IntWalk.i64_in _ (by unfold maxC at *; omega)
    rw [if_neg hc]
    refine acalls_pure (rl := []) mixed Try.func19 rfl (rs := [.tmp 4]) rfl Try.ntmps19 (by simp) ?_
    repeat' (first | ((first | refine aops_nil ?_ | refine aqops_nil ?_); (try simp only [NB])) | ((repeat ((fail_if_success (refine hK _ ?_)); clear hK K)); refine hK _ ?_; clear hK K) | ((first | refine aops_k fun K1 hK1 => ?_ | refine aqops_k fun K1 hK1 => ?_ | refine awp_cond_k fun A B hA hB => ?_); simp only [S1, simprocAttr, TTCkV, hb0, hlC, jl, j0, hc, ckB, hd1, hle, hw, cAl_len, Nat.zero_add]; first | (refine hK1 _ ?_; clear hK1 K1) | ((first | refine hA ?_ | refine hB ?_); clear hA hB A B) | (((first | (refine ⟨fun hg => hA ?_, fun hg => hB ?_⟩ <;> clear hA hB A B) | refine ⟨fun hg => ?_, fun hg => ?_⟩) <;> (try simp only [BN2] at hg) <;> (try simp only [hg, cond_true, cond_false])) <;> (try (refine hK1 _ ?_; clear hK1 K1)) <;> (try simp only [BN3] at hg))) | (refine awp_seq_k fun K hK => ?_) | ((first | refine awp_region ?_ | refine awp_draw (by kernel_rfl) ?_ | refine awp_block ?_ | refine awp_exit ?_ | refine awp_skip ?_ | refine awp_ret ?_); (try simp only [NB, simprocAttr])))
    all_goals simp only [EndP, FinP, resA, resL, resA1, lastV, lastA, lastAs, pur, purs, take_app, List.take_length, S1, simprocAttr, TTCkV, Nat.le_add_right, Nat.le_refl]

theorem rankR_succ {m : List Al} {a x : Al} {j : Nat} (h : m[j]? = some x) : ((m.take (j + 1)).filter (ltR a)).length = ((m.take j).filter (ltR a)).length + if x.2 < a.2 ∨ (x.2 = a.2 ∧ x.1 < a.1) then 1 else 0 := by
  rw [List.take_add_one, h, List.filter_append, List.length_append]
  congr 1
  by_cases hc : x.2 < a.2 ∨ (x.2 = a.2 ∧ x.1 < a.1)
  · rw [if_pos hc]; simp [ltR, hc]
  · rw [if_neg hc]; simp [ltR, hc]

theorem rRank_calls (hb0 : H[b]? = some (ckB now lb g m)) (hl0 : H[lb]? = some (alB g m)) (hn : m.length ≤ 100) {i : Nat} {a : Al} (hx : m[i]? = some a) :
    ACalls Try.prog G 20 [.ptr b 0 0, .i i] H (fun r h' => r = .i (rankR m a) ∧ h' = H) := by
  have hbl : b < H.length := getElem?_lt hb0
  have hll : lb < H.length := getElem?_lt hl0
  have hlC : H[lb]? = some (some ⟨g.1, cAl m⟩) := by rw [hl0, alB, cZ_at hx]
  have hb' : ∀ L : Heap, (H ++ L)[b]? = some (ckB now lb g m) := fun L => by rw [List.getElem?_append_left hbl]; exact hb0
  have hl' : ∀ L : Heap, (H ++ L)[lb]? = some (some ⟨g.1, cAl m⟩) := fun L => by rw [List.getElem?_append_left hll]; exact hlC
  have hlti := (List.getElem?_eq_some_iff.mp hx).1
  obtain ⟨hd0, hd1⟩ := cAl_dd hx
  have il : (i : Int) < (m.length : Int) := by omega
  have i0 : (0 : Int) ≤ (i : Int) := by omega
  have hle0 : i * 2 < m.length * 2 := by omega
  have hle1 : i * 2 + 1 < m.length * 2 := by omega
  refine acalls_pure (rl := []) mixed Try.func20 rfl (rs := [.tmp 4]) rfl Try.ntmps20 (by simp) ?_
  repeat' (first | ((first | refine aops_nil ?_ | refine aqops_nil ?_); (try simp only [NB])) | ((repeat ((fail_if_success (refine hK _ ?_)); clear hK K)); refine hK _ ?_; clear hK K) | ((first | refine aops_k fun K1 hK1 => ?_ | refine aqops_k fun K1 hK1 => ?_ | refine awp_cond_k fun A B hA hB => ?_); simp only [S1, simprocAttr, TTCkV, hb0, ckB]; first | (refine hK1 _ ?_; clear hK1 K1) | ((first | refine hA ?_ | refine hB ?_); clear hA hB A B) | (refine join_x (v := ?_) (fun hg hk9 => ?_) ?_; rotate_left; (focus (try ((try simp only [BN] at hg); simp only [S1, simprocAttr, TTCkV, hb0, ckB, hg] at hk9 ⊢)); first | exact hk9); (refine hK1 _ ?_; clear hK1 K1)) | (((first | (refine ⟨fun hg => hA ?_, fun hg => hB ?_⟩ <;> clear hA hB A B) | refine ⟨fun hg => ?_, fun hg => ?_⟩) <;> (try simp only [BN2] at hg) <;> (try simp only [hg, cond_true, cond_false])) <;> (try (refine hK1 _ ?_; clear hK1 K1)) <;> (try simp only [BN3] at hg))) | (refine awp_seq_k fun K hK => ?_) | ((first | refine awp_region ?_ | refine awp_draw (by kernel_rfl) ?_ | refine awp_block ?_ | refine awp_exit ?_ | refine awp_skip ?_ | refine awp_ret ?_); (try simp only [NB, simprocAttr])))
  refine awp_for m.length 58 (fun j => [(13, .i j), (12, .i m.length), (11, .ref lb g.1 0 2 m.length), (5, .i ((m.take j).filter (ltR a)).length), (1, .i i), (0, .ptr b 0 0)])
    (fun j => []) (fun j => True) ?_ trivial fun j hj hp K hK => ?_
  · (refine ⟨rfl, (by first | exact ⟨_, rfl⟩ | exact ⟨[], by simp⟩), ?_, ?_⟩ <;> simp only [keeps, avlt, avlts, blksLt, frL, upd_get, S1, simprocAttr, List.length_map, Int.natCast_zero, AV.p.injEq, PV.int.injEq, PV.bool.injEq, PV.sl.injEq] <;> (try and_intros) <;> (try assumption) <;> (try trivial) <;> (try omega))
  rcases Nat.lt_or_ge j m.length with hlt | hge
  · obtain ⟨x, hy⟩ : ∃ k, m[j]? = some k := ⟨_, List.getElem?_eq_getElem hlt⟩
    have jl : (j : Int) < (m.length : Int) := by omega
    have j0 : (0 : Int) ≤ (j : Int) := by omega
    have hnx := nextJ (n := m.length) (by omega) hlt
    have hdd : (cAl m).drop (j * 2) = .i x.1 :: .i x.2 :: (cAl m).drop (j * 2 + 2) := by
      rw [cAl_drop, List.drop_eq_getElem_cons hlt, (List.getElem?_eq_some_iff.mp hy).2]
      rw [show j * 2 + 2 = (j + 1) * 2 by omega, cAl_drop]; rfl
    have hcl : 2 ≤ m.length * 2 - j * 2 := by omega
    have es := rankR_succ (a := a) hy
    have hle : ((m.take j).filter (ltR a)).length ≤ m.length := Nat.le_trans (List.length_filter_le _ _) (by rw [List.length_take]; omega)
    have hw : IntKind.i64.wrap ((((m.take j).filter (ltR a)).length : Int) + 1) = ((((m.take j).filter (ltR a)).length + 1 : Nat) : Int) := by rw [IntWalk.i64_in _ (by omega)]; omega
    by_cases c1 : x.2 < a.2
    · rw [if_pos (.inl c1)] at es
      repeat' (first | ((first | refine aops_nil ?_ | refine aqops_nil ?_); (try simp only [NB])) | ((repeat ((fail_if_success (refine hK _ ?_)); clear hK K)); refine hK _ ?_; clear hK K) | ((first | refine aops_k fun K1 hK1 => ?_ | refine aqops_k fun K1 hK1 => ?_ | refine awp_cond_k fun A B hA hB => ?_); simp only [S1, simprocAttr, TTCkV, jl, j0, il, i0, hle0, hle1, hnx, hw, c1, hd0, hd1, hb', hlC, hl', hdd, hcl, ckB, takeC_st, cAl_len, List.length_drop, Nat.zero_add]; first | (refine hK1 _ ?_; clear hK1 K1) | ((first | refine hA ?_ | refine hB ?_); clear hA hB A B) | (refine join_x (v := ?_) (fun hg hk9 => ?_) ?_; rotate_left; (focus (try ((try simp only [BN] at hg); simp only [S1, simprocAttr, TTCkV, jl, j0, il, i0, hle0, hle1, hnx, hw, c1, hd0, hd1, hb', hlC, hl', hdd, hcl, ckB, takeC_st, cAl_len, List.length_drop, Nat.zero_add, hg] at hk9 ⊢)); first | exact hk9); (refine hK1 _ ?_; clear hK1 K1)) | (((first | (refine ⟨fun hg => hA ?_, fun hg => hB ?_⟩ <;> clear hA hB A B) | refine ⟨fun hg => ?_, fun hg => ?_⟩) <;> (try simp only [BN2] at hg) <;> (try simp only [hg, cond_true, cond_false])) <;> (try (refine hK1 _ ?_; clear hK1 K1)) <;> (try simp only [BN3] at hg))) | (refine awp_seq_k fun K hK => ?_) | ((first | refine awp_region ?_ | refine awp_draw (by kernel_rfl) ?_ | refine awp_block ?_ | refine awp_exit ?_ | refine awp_skip ?_ | refine awp_ret ?_); (try simp only [NB, simprocAttr])))
      all_goals refine ⟨hlt, trivial, ?_⟩
      all_goals simp only [es]
      all_goals (refine ⟨rfl, (by first | exact ⟨_, rfl⟩ | exact ⟨[], by simp⟩), ?_, ?_⟩ <;> simp only [keeps, avlt, avlts, blksLt, frL, upd_get, S1, simprocAttr, List.length_map, Int.natCast_zero, AV.p.injEq, PV.int.injEq, PV.bool.injEq, PV.sl.injEq] <;> (try and_intros) <;> (try assumption) <;> (try trivial) <;> (try omega))
    · cases c2 : (x.2 == a.2) with
      | false =>
        have c2' : ¬ x.2 = a.2 := by simpa using c2
        rw [if_neg (by omega), Nat.add_zero] at es
        repeat' (first | ((first | refine aops_nil ?_ | refine aqops_nil ?_); (try simp only [NB])) | ((repeat ((fail_if_success (refine hK _ ?_)); clear hK K)); refine hK _ ?_; clear hK K) | ((first | refine aops_k fun K1 hK1 => ?_ | refine aqops_k fun K1 hK1 => ?_ | refine awp_cond_k fun A B hA hB => ?_); simp only [S1, simprocAttr, TTCkV, jl, j0, il, i0, hle0, hle1, hnx, hw, c1, c2, hd0, hd1, hb', hlC, hl', hdd, hcl, ckB, takeC_st, cAl_len, List.length_drop, Nat.zero_add]; first | (refine hK1 _ ?_; clear hK1 K1) | ((first | refine hA ?_ | refine hB ?_); clear hA hB A B) | (refine join_x (v := ?_) (fun hg hk9 => ?_) ?_; rotate_left; (focus (try ((try simp only [BN] at hg); simp only [S1, simprocAttr, TTCkV, jl, j0, il, i0, hle0, hle1, hnx, hw, c1, c2, hd0, hd1, hb', hlC, hl', hdd, hcl, ckB, takeC_st, cAl_len, List.length_drop, Nat.zero_add, hg] at hk9 ⊢)); first | exact hk9); (refine hK1 _ ?_; clear hK1 K1)) | (((first | (refine ⟨fun hg => hA ?_, fun hg => hB ?_⟩ <;> clear hA hB A B) | refine ⟨fun hg => ?_, fun hg => ?_⟩) <;> (try simp only [BN2] at hg) <;> (try simp only [hg, cond_true, cond_false])) <;> (try (refine hK1 _ ?_; clear hK1 K1)) <;> (try simp only [BN3] at hg))) | (refine awp_seq_k fun K hK => ?_) | ((first | refine awp_region ?_ | refine awp_draw (by kernel_rfl) ?_ | refine awp_block ?_ | refine awp_exit ?_ | refine awp_skip ?_ | refine awp_ret ?_); (try simp only [NB, simprocAttr])))
        all_goals refine ⟨hlt, trivial, ?_⟩
        all_goals simp only [es]
        all_goals (refine ⟨rfl, (by first | exact ⟨_, rfl⟩ | exact ⟨[], by simp⟩), ?_, ?_⟩ <;> simp only [keeps, avlt, avlts, blksLt, frL, upd_get, S1, simprocAttr, List.length_map, Int.natCast_zero, AV.p.injEq, PV.int.injEq, PV.bool.injEq, PV.sl.injEq] <;> (try and_intros) <;> (try assumption) <;> (try trivial) <;> (try omega))
      | true =>
        have c2' : x.2 = a.2 := by simpa using c2
        by_cases c3 : x.1 < a.1
        · rw [if_pos (.inr ⟨c2', c3⟩)] at es
          repeat' (first | ((first | refine aops_nil ?_ | refine aqops_nil ?_); (try simp only [NB])) | ((repeat ((fail_if_success (refine hK _ ?_)); clear hK K)); refine hK _ ?_; clear hK K) | ((first | refine aops_k fun K1 hK1 => ?_ | refine aqops_k fun K1 hK1 => ?_ | refine awp_cond_k fun A B hA hB => ?_); simp only [S1, simprocAttr, TTCkV, jl, j0, il, i0, hle0, hle1, hnx, hw, c1, c2, c3, hd0, hd1, hb', hlC, hl', hdd, hcl, ckB, takeC_st, cAl_len, List.length_drop, Nat.zero_add]; first | (refine hK1 _ ?_; clear hK1 K1) | ((first | refine hA ?_ | refine hB ?_); clear hA hB A B) | (refine join_x (v := ?_) (fun hg hk9 => ?_) ?_; rotate_left; (focus (try ((try simp only [BN] at hg); simp only [S1, simprocAttr, TTCkV, jl, j0, il, i0, hle0, hle1, hnx, hw, c1, c2, c3, hd0, hd1, hb', hlC, hl', hdd, hcl, ckB, takeC_st, cAl_len, List.length_drop, Nat.zero_add, hg] at hk9 ⊢)); first | exact hk9); (refine hK1 _ ?_; clear hK1 K1)) | (((first | (refine ⟨fun hg => hA ?_, fun hg => hB ?_⟩ <;> clear hA hB A B) | refine ⟨fun hg => ?_, fun hg => ?_⟩) <;> (try simp only [BN2] at hg) <;> (try simp only [hg, cond_true, cond_false])) <;> (try (refine hK1 _ ?_; clear hK1 K1)) <;> (try simp only [BN3] at hg))) | (refine awp_seq_k fun K hK => ?_) | ((first | refine awp_region ?_ | refine awp_draw (by kernel_rfl) ?_ | refine awp_block ?_ | refine awp_exit ?_ | refine awp_skip ?_ | refine awp_ret ?_); (try simp only [NB, simprocAttr])))
          all_goals refine ⟨hlt, trivial, ?_⟩
          all_goals simp only [es]
          all_goals (refine ⟨rfl, (by first | exact ⟨_, rfl⟩ | exact ⟨[], by simp⟩), ?_, ?_⟩ <;> simp only [keeps, avlt, avlts, blksLt, frL, upd_get, S1, simprocAttr, List.length_map, Int.natCast_zero, AV.p.injEq, PV.int.injEq, PV.bool.injEq, PV.sl.injEq] <;> (try and_intros) <;> (try assumption) <;> (try trivial) <;> (try omega))
        · rw [if_neg (by omega), Nat.add_zero] at es
          repeat' (first | ((first | refine aops_nil ?_ | refine aqops_nil ?_); (try simp only [NB])) | ((repeat ((fail_if_success (refine hK _ ?_)); clear hK K)); refine hK _ ?_; clear hK K) | ((first | refine aops_k fun K1 hK1 => ?_ | refine aqops_k fun K1 hK1 => ?_ | refine awp_cond_k fun A B hA hB => ?_); simp only [S1, simprocAttr, TTCkV, jl, j0, il, i0, hle0, hle1, hnx, hw, c1, c2, c3, hd0, hd1, hb', hlC, hl', hdd, hcl, ckB, takeC_st, cAl_len, List.length_drop, Nat.zero_add]; first | (refine hK1 _ ?_; clear hK1 K1) | ((first | refine hA ?_ | refine hB ?_); clear hA hB A B) | (refine join_x (v := ?_) (fun hg hk9 => ?_) ?_; rotate_left; (focus (try ((try simp only [BN] at hg); simp only [S1, simprocAttr, TTCkV, jl, j0, il, i0, hle0, hle1, hnx, hw, c1, c2, c3, hd0, hd1, hb', hlC, hl', hdd, hcl, ckB, takeC_st, cAl_len, List.length_drop, Nat.zero_add, hg] at hk9 ⊢)); first | exact hk9); (refine hK1 _ ?_; clear hK1 K1)) | (((first | (refine ⟨fun hg => hA ?_, fun hg => hB ?_⟩ <;> clear hA hB A B) | refine ⟨fun hg => ?_, fun hg => ?_⟩) <;> (try simp only [BN2] at hg) <;> (try simp only [hg, cond_true, cond_false])) <;> (try (refine hK1 _ ?_; clear hK1 K1)) <;> (try simp only [BN3] at hg))) | (refine awp_seq_k fun K hK => ?_) | ((first | refine awp_region ?_ | refine awp_draw (by kernel_rfl) ?_ | refine awp_block ?_ | refine awp_exit ?_ | refine awp_skip ?_ | refine awp_ret ?_); (try simp only [NB, simprocAttr])))
          all_goals refine ⟨hlt, trivial, ?_⟩
          all_goals simp only [es]
          all_goals (refine ⟨rfl, (by first | exact ⟨_, rfl⟩ | exact ⟨[], by simp⟩), ?_, ?_⟩ <;> simp only [keeps, avlt, avlts, blksLt, frL, upd_get, S1, simprocAttr, List.length_map, Int.natCast_zero, AV.p.injEq, PV.int.injEq, PV.bool.injEq, PV.sl.injEq] <;> (try and_intros) <;> (try assumption) <;> (try trivial) <;> (try omega))
  · obtain rfl : j = m.length := by omega
    repeat' (first | ((first | refine aops_nil ?_ | refine aqops_nil ?_); (try simp only [NB])) | ((repeat ((fail_if_success (refine hK _ ?_)); clear hK K)); refine hK _ ?_; clear hK K) | ((first | refine aops_k fun K1 hK1 => ?_ | refine aqops_k fun K1 hK1 => ?_ | refine awp_cond_k fun A B hA hB => ?_); simp only [S1, simprocAttr, TTCkV, Int.lt_irrefl]; first | (refine hK1 _ ?_; clear hK1 K1) | ((first | refine hA ?_ | refine hB ?_); clear hA hB A B) | (refine join_x (v := ?_) (fun hg hk9 => ?_) ?_; rotate_left; (focus (try ((try simp only [BN] at hg); simp only [S1, simprocAttr, TTCkV, Int.lt_irrefl, hg] at hk9 ⊢)); first | exact hk9); (refine hK1 _ ?_; clear hK1 K1)) | (((first | (refine ⟨fun hg => hA ?_, fun hg => hB ?_⟩ <;> clear hA hB A B) | refine ⟨fun hg => ?_, fun hg => ?_⟩) <;> (try simp only [BN2] at hg) <;> (try simp only [hg, cond_true, cond_false])) <;> (try (refine hK1 _ ?_; clear hK1 K1)) <;> (try simp only [BN3] at hg))) | (refine awp_seq_k fun K hK => ?_) | ((first | refine awp_region ?_ | refine awp_draw (by kernel_rfl) ?_ | refine awp_block ?_ | refine awp_exit ?_ | refine awp_skip ?_ | refine awp_ret ?_); (try simp only [NB, simprocAttr])))
    all_goals simp only [EndP, FinP, resA, resL, resA1, lastV, lastA, lastAs, pur, purs, take_app, List.take_length, S1, simprocAttr, TTCkV, Nat.le_add_right, Nat.le_refl]
    all_goals simp [rankR]
end
end Go.Proofs.Ytbbmfemplmelhaa.AM
end

section
set_option linter.unusedVariables false
set_option linter.unusedSimpArgs false
set_option maxRecDepth 4000
set_option maxHeartbeats 4000000
namespace Go.Proofs.Ytbbmfemplmelhaa.AM
open Go Go.Proofs
set_option linter.defProp false in
def TTCkW := And.intro T2 (And.intro T3 (And.intro T4 (And.intro T22 (And.intro T25 (And.intro T28 (And.intro T40 (And.intro T41 (And.intro T43 (And.intro T48 (And.intro T54 (And.intro T55 (And.intro T57 (And.intro T59 T73)))))))))))))
attribute [local irreducible] awp aops aqops aeops arun arunT arunN
variable {G : Nat → Option (List PV)}

section
variable {h : Heap} {b lb gn : Nat} {now : Int} {m : List Al}
theorem rTick_calls (hb : b < h.length) (hl : lb < h.length) (hne : b ≠ lb) (h0 : 0 ≤ now) (h1 : now ≤ maxC) (n : Int) :
    ACalls Try.prog G 29 [.ptr b 0 0, .i n] (putK h b lb now (gn, false) m) (fun r h' => r = .i (tickC now n).1 ∧ h' = putK h b lb (tickC now n).2 (gn, false) m) := by
  by_cases ha : n < 0
  · have e : tickC now n = (1, now) := by unfold tickC; rw [if_pos (.inl ha)]
    rw [e]
    refine acalls_pure (rl := []) mixed Try.func29 rfl (rs := [.tmp 4]) rfl Try.ntmps29 (by simp) ?_
    repeat' (first | ((first | refine aops_nil ?_ | refine aqops_nil ?_); (try simp only [NB])) | ((repeat ((fail_if_success (refine hK _ ?_)); clear hK K)); refine hK _ ?_; clear hK K) | ((first | refine aops_k fun K1 hK1 => ?_ | refine aqops_k fun K1 hK1 => ?_ | refine awp_cond_k fun A B hA hB => ?_); simp only [S1, simprocAttr, TTCkW, ha]; first | (refine hK1 _ ?_; clear hK1 K1) | ((first | refine hA ?_ | refine hB ?_); clear hA hB A B) | (refine join_x (v := ?_) (fun hg hk9 => ?_) ?_; rotate_left; (focus (try ((try simp only [BN] at hg); simp only [S1, simprocAttr, TTCkW, ha, hg] at hk9 ⊢)); first | exact hk9); (refine hK1 _ ?_; clear hK1 K1)) | (((first | (refine ⟨fun hg => hA ?_, fun hg => hB ?_⟩ <;> clear hA hB A B) | refine ⟨fun hg => ?_, fun hg => ?_⟩) <;> (try simp only [BN2] at hg) <;> (try simp only [hg, cond_true, cond_false])) <;> (try (refine hK1 _ ?_; clear hK1 K1)) <;> (try simp only [BN3] at hg))) | (refine awp_seq_k fun K hK => ?_) | ((first | refine awp_region ?_ | refine awp_draw (by kernel_rfl) ?_ | refine awp_block ?_ | refine awp_exit ?_ | refine awp_skip ?_ | refine awp_ret ?_); (try simp only [NB, simprocAttr])))
    all_goals simp only [EndP, FinP, resA, resL, resA1, lastV, lastA, lastAs, pur, purs, take_app, List.take_length, S1, simprocAttr, TTCkW, Nat.le_add_right, Nat.le_refl, pk_take0]
  by_cases hc : 1099511627776 < n
  · have e : tickC now n = (1, now) := by unfold tickC; rw [if_pos (.inr hc)]
    rw [e]
    refine acalls_pure (rl := []) mixed Try.func29 rfl (rs := [.tmp 4]) rfl Try.ntmps29 (by simp) ?_
    repeat' (first | ((first | refine aops_nil ?_ | refine aqops_nil ?_); (try simp only [NB])) | ((repeat ((fail_if_success (refine hK _ ?_)); clear hK K)); refine hK _ ?_; clear hK K) | ((first | refine aops_k fun K1 hK1 => ?_ | refine aqops_k fun K1 hK1 => ?_ | refine awp_cond_k fun A B hA hB => ?_); simp only [S1, simprocAttr, TTCkW, ha, hc]; first | (refine hK1 _ ?_; clear hK1 K1) | ((first | refine hA ?_ | refine hB ?_); clear hA hB A B) | (refine join_x (v := ?_) (fun hg hk9 => ?_) ?_; rotate_left; (focus (try ((try simp only [BN] at hg); simp only [S1, simprocAttr, TTCkW, ha, hc, hg] at hk9 ⊢)); first | exact hk9); (refine hK1 _ ?_; clear hK1 K1)) | (((first | (refine ⟨fun hg => hA ?_, fun hg => hB ?_⟩ <;> clear hA hB A B) | refine ⟨fun hg => ?_, fun hg => ?_⟩) <;> (try simp only [BN2] at hg) <;> (try simp only [hg, cond_true, cond_false])) <;> (try (refine hK1 _ ?_; clear hK1 K1)) <;> (try simp only [BN3] at hg))) | (refine awp_seq_k fun K hK => ?_) | ((first | refine awp_region ?_ | refine awp_draw (by kernel_rfl) ?_ | refine awp_block ?_ | refine awp_exit ?_ | refine awp_skip ?_ | refine awp_ret ?_); (try simp only [NB, simprocAttr])))
    all_goals simp only [EndP, FinP, resA, resL, resA1, lastV, lastA, lastAs, pur, purs, take_app, List.take_length, S1, simprocAttr, TTCkW, Nat.le_add_right, Nat.le_refl, pk_take0]
  have e0 : ¬ (n < 0 ∨ n > maxC) := by unfold maxC; omega
  have hw : IntKind.i64.wrap (now + n) = now + n := IntWalk.i64_in _ (by unfold maxC at h1; omega)
  rw [tick_add now n e0]
  by_cases hm : now + n > maxC
  · have hm' : 1099511627776 < now + n := by unfold maxC at hm; omega
    rw [if_pos hm]
    refine acalls_pure (rl := []) mixed Try.func29 rfl (rs := [.tmp 4]) rfl Try.ntmps29 (by simp) ?_
    repeat' (first | ((first | refine aops_nil ?_ | refine aqops_nil ?_); (try simp only [NB])) | ((repeat ((fail_if_success (refine hK _ ?_)); clear hK K)); refine hK _ ?_; clear hK K) | ((first | refine aops_k fun K1 hK1 => ?_ | refine aqops_k fun K1 hK1 => ?_ | refine awp_cond_k fun A B hA hB => ?_); simp only [S1, simprocAttr, TTCkW, ha, hc, hw, hm', pk_b0 hb hne, ckB]; first | (refine hK1 _ ?_; clear hK1 K1) | ((first | refine hA ?_ | refine hB ?_); clear hA hB A B) | (refine join_x (v := ?_) (fun hg hk9 => ?_) ?_; rotate_left; (focus (try ((try simp only [BN] at hg); simp only [S1, simprocAttr, TTCkW, ha, hc, hw, hm', pk_b0 hb hne, ckB, hg] at hk9 ⊢)); first | exact hk9); (refine hK1 _ ?_; clear hK1 K1)) | (((first | (refine ⟨fun hg => hA ?_, fun hg => hB ?_⟩ <;> clear hA hB A B) | refine ⟨fun hg => ?_, fun hg => ?_⟩) <;> (try simp only [BN2] at hg) <;> (try simp only [hg, cond_true, cond_false])) <;> (try (refine hK1 _ ?_; clear hK1 K1)) <;> (try simp only [BN3] at hg))) | (refine awp_seq_k fun K hK => ?_) | ((first | refine awp_region ?_ | refine awp_draw (by kernel_rfl) ?_ | refine awp_block ?_ | refine awp_exit ?_ | refine awp_skip ?_ | refine awp_ret ?_); (try simp only [NB, simprocAttr])))
    all_goals simp only [EndP, FinP, resA, resL, resA1, lastV, lastA, lastAs, pur, purs, take_app, List.take_length, S1, simprocAttr, TTCkW, Nat.le_add_right, Nat.le_refl, pk_take0]
  · have hm' : ¬ 1099511627776 < now + n := by unfold maxC at hm; omega
    rw [if_neg hm]
    have hnw : (putK h b lb now (gn, false) m).set b (some ⟨0, [.i (now + n), .ref lb gn 0 2 m.length]⟩) = putK h b lb (now + n) (gn, false) m := pk_now hb hne
    refine acalls_heap (rl := []) mixed Try.func29 rfl (rs := [.tmp 4]) rfl Try.ntmps29 (by simp) ?_
    repeat' (first | ((first | refine aops_nil ?_ | refine aqops_nil ?_); (try simp only [NB])) | ((repeat ((fail_if_success (refine hK _ ?_)); clear hK K)); refine hK _ ?_; clear hK K) | ((first | refine aops_k fun K1 hK1 => ?_ | refine aqops_k fun K1 hK1 => ?_ | refine awp_cond_k fun A B hA hB => ?_); simp only [S1, simprocAttr, TTCkW, ha, hc, hw, hm', hnw, pk_b0 hb hne, ckB, pk_len]; first | (refine hK1 _ ?_; clear hK1 K1) | ((first | refine hA ?_ | refine hB ?_); clear hA hB A B) | (refine join_x (v := ?_) (fun hg hk9 => ?_) ?_; rotate_left; (focus (try ((try simp only [BN] at hg); simp only [S1, simprocAttr, TTCkW, ha, hc, hw, hm', hnw, pk_b0 hb hne, ckB, pk_len, hg] at hk9 ⊢)); first | exact hk9); (refine hK1 _ ?_; clear hK1 K1)) | (((first | (refine ⟨fun hg => hA ?_, fun hg => hB ?_⟩ <;> clear hA hB A B) | refine ⟨fun hg => ?_, fun hg => ?_⟩) <;> (try simp only [BN2] at hg) <;> (try simp only [hg, cond_true, cond_false])) <;> (try (refine hK1 _ ?_; clear hK1 K1)) <;> (try simp only [BN3] at hg))) | (refine awp_seq_k fun K hK => ?_) | ((first | refine awp_region ?_ | refine awp_draw (by kernel_rfl) ?_ | refine awp_block ?_ | refine awp_exit ?_ | refine awp_skip ?_ | refine awp_ret ?_); (try simp only [NB, simprocAttr])))
    all_goals simp only [EndH, FinH, resA, resL, resA1, lastV, lastA, lastAs, pur, purs, pk_len, pk_take, pk_take0, S1, simprocAttr, Nat.le_add_right, Nat.le_refl] <;> first | exact pk_keep' hl | exact ⟨pk_keep' hl, rfl⟩ | exact ⟨pk_keep' hl, rfl, rfl⟩

theorem rSet_calls (hb : b < h.length) (hl : lb < h.length) (hne : b ≠ lb) (h0 : 0 ≤ now) (h1 : now ≤ maxC) (hn : m.length ≤ 64) (id after : Int) :
    ACalls Try.prog G 27 [.ptr b 0 0, .i id, .i after] (putK h b lb now (gn, false) m) (fun r h' => r = .i (setR now m id after).1 ∧ h' = putK h b lb now (if (setR now m id after).1 = 0 then gn + 1 else gn, false) (setR now m id after).2) := by
  have hat := rAt_calls (G := G) (pk_b0 (now := now) (g := (gn, false)) (l := m) hb hne) (pk_lb0 hl) (by omega) id
  by_cases c1 : id < 0
  · have e : setR now m id after = (1, m) := by unfold setR; rw [if_pos (.inl c1)]
    rw [e]
    refine acalls_pure (rl := []) mixed Try.func27 rfl (rs := [.tmp 6]) rfl Try.ntmps27 (by simp) ?_
    repeat' (first | ((first | refine aops_nil ?_ | refine aqops_nil ?_); (try simp only [NB])) | ((repeat ((fail_if_success (refine hK _ ?_)); clear hK K)); refine hK _ ?_; clear hK K) | ((first | refine aops_k fun K1 hK1 => ?_ | refine aqops_k fun K1 hK1 => ?_ | refine awp_cond_k fun A B hA hB => ?_); simp only [S1, simprocAttr, TTCkW, c1]; first | (refine hK1 _ ?_; clear hK1 K1) | ((first | refine hA ?_ | refine hB ?_); clear hA hB A B) | (refine join_x (v := ?_) (fun hg hk9 => ?_) ?_; rotate_left; (focus (try ((try simp only [BN] at hg); simp only [S1, simprocAttr, TTCkW, c1, hg] at hk9 ⊢)); first | exact hk9); (refine hK1 _ ?_; clear hK1 K1)) | (((first | (refine ⟨fun hg => hA ?_, fun hg => hB ?_⟩ <;> clear hA hB A B) | refine ⟨fun hg => ?_, fun hg => ?_⟩) <;> (try simp only [BN2] at hg) <;> (try simp only [hg, cond_true, cond_false])) <;> (try (refine hK1 _ ?_; clear hK1 K1)) <;> (try simp only [BN3] at hg))) | (refine awp_seq_k fun K hK => ?_) | ((first | refine awp_region ?_ | refine awp_draw (by kernel_rfl) ?_ | refine awp_block ?_ | refine awp_exit ?_ | refine awp_skip ?_ | refine awp_ret ?_); (try simp only [NB, simprocAttr])))
    all_goals simp only [EndP, FinP, resA, resL, resA1, lastV, lastA, lastAs, pur, purs, take_app, List.take_length, S1, simprocAttr, TTCkW, Nat.le_add_right, Nat.le_refl, pk_take0]
    all_goals rfl
  by_cases c2 : after < 0
  · have e : setR now m id after = (1, m) := by unfold setR; rw [if_pos (.inr (.inl c2))]
    rw [e]
    refine acalls_pure (rl := []) mixed Try.func27 rfl (rs := [.tmp 6]) rfl Try.ntmps27 (by simp) ?_
    repeat' (first | ((first | refine aops_nil ?_ | refine aqops_nil ?_); (try simp only [NB])) | ((repeat ((fail_if_success (refine hK _ ?_)); clear hK K)); refine hK _ ?_; clear hK K) | ((first | refine aops_k fun K1 hK1 => ?_ | refine aqops_k fun K1 hK1 => ?_ | refine awp_cond_k fun A B hA hB => ?_); simp only [S1, simprocAttr, TTCkW, c1, c2]; first | (refine hK1 _ ?_; clear hK1 K1) | ((first | refine hA ?_ | refine hB ?_); clear hA hB A B) | (refine join_x (v := ?_) (fun hg hk9 => ?_) ?_; rotate_left; (focus (try ((try simp only [BN] at hg); simp only [S1, simprocAttr, TTCkW, c1, c2, hg] at hk9 ⊢)); first | exact hk9); (refine hK1 _ ?_; clear hK1 K1)) | (((first | (refine ⟨fun hg => hA ?_, fun hg => hB ?_⟩ <;> clear hA hB A B) | refine ⟨fun hg => ?_, fun hg => ?_⟩) <;> (try simp only [BN2] at hg) <;> (try simp only [hg, cond_true, cond_false])) <;> (try (refine hK1 _ ?_; clear hK1 K1)) <;> (try simp only [BN3] at hg))) | (refine awp_seq_k fun K hK => ?_) | ((first | refine awp_region ?_ | refine awp_draw (by kernel_rfl) ?_ | refine awp_block ?_ | refine awp_exit ?_ | refine awp_skip ?_ | refine awp_ret ?_); (try simp only [NB, simprocAttr])))
    all_goals simp only [EndP, FinP, resA, resL, resA1, lastV, lastA, lastAs, pur, purs, take_app, List.take_length, S1, simprocAttr, TTCkW, Nat.le_add_right, Nat.le_refl, pk_take0]
    all_goals rfl
  by_cases c3 : 1099511627776 < after
  · have e : setR now m id after = (1, m) := by unfold setR; rw [if_pos (.inr (.inr c3))]
    rw [e]
    refine acalls_pure (rl := []) mixed Try.func27 rfl (rs := [.tmp 6]) rfl Try.ntmps27 (by simp) ?_
    repeat' (first | ((first | refine aops_nil ?_ | refine aqops_nil ?_); (try simp only [NB])) | ((repeat ((fail_if_success (refine hK _ ?_)); clear hK K)); refine hK _ ?_; clear hK K) | ((first | refine aops_k fun K1 hK1 => ?_ | refine aqops_k fun K1 hK1 => ?_ | refine awp_cond_k fun A B hA hB => ?_); simp only [S1, simprocAttr, TTCkW, c1, c2, c3]; first | (refine hK1 _ ?_; clear hK1 K1) | ((first | refine hA ?_ | refine hB ?_); clear hA hB A B) | (refine join_x (v := ?_) (fun hg hk9 => ?_) ?_; rotate_left; (focus (try ((try simp only [BN] at hg); simp only [S1, simprocAttr, TTCkW, c1, c2, c3, hg] at hk9 ⊢)); first | exact hk9); (refine hK1 _ ?_; clear hK1 K1)) | (((first | (refine ⟨fun hg => hA ?_, fun hg => hB ?_⟩ <;> clear hA hB A B) | refine ⟨fun hg => ?_, fun hg => ?_⟩) <;> (try simp only [BN2] at hg) <;> (try simp only [hg, cond_true, cond_false])) <;> (try (refine hK1 _ ?_; clear hK1 K1)) <;> (try simp only [BN3] at hg))) | (refine awp_seq_k fun K hK => ?_) | ((first | refine awp_region ?_ | refine awp_draw (by kernel_rfl) ?_ | refine awp_block ?_ | refine awp_exit ?_ | refine awp_skip ?_ | refine awp_ret ?_); (try simp only [NB, simprocAttr])))
    all_goals simp only [EndP, FinP, resA, resL, resA1, lastV, lastA, lastAs, pur, purs, take_app, List.take_length, S1, simprocAttr, TTCkW, Nat.le_add_right, Nat.le_refl, pk_take0]
    all_goals rfl
  have c0 : ¬ (id < 0 ∨ after < 0 ∨ after > maxC) := by unfold maxC; omega
  have hw : IntKind.i64.wrap (now + after) = now + after := IntWalk.i64_in _ (by unfold maxC at h1; omega)
  by_cases c4 : 0 ≤ atR m id
  · have e : setR now m id after = (8, m) := by unfold setR; rw [if_neg c0, if_pos c4]
    rw [e]
    refine acalls_pure (rl := []) mixed Try.func27 rfl (rs := [.tmp 6]) rfl Try.ntmps27 (by simp) ?_
    repeat' (first | ((first | refine aops_nil ?_ | refine aqops_nil ?_); (try simp only [NB])) | ((repeat ((fail_if_success (refine hK _ ?_)); clear hK K)); refine hK _ ?_; clear hK K) | ((first | refine aops_k fun K1 hK1 => ?_ | refine aqops_k fun K1 hK1 => ?_ | refine awp_cond_k fun A B hA hB => ?_); simp only [S1, simprocAttr, TTCkW, c1, c2, c3, c4]; first | (refine hK1 _ ?_; clear hK1 K1) | ((first | refine hA ?_ | refine hB ?_); clear hA hB A B) | ((first | apply call_a E18 | apply call_q E18); exact hat; (refine hK1 _ ?_; clear hK1 K1)) | (refine join_x (v := ?_) (fun hg hk9 => ?_) ?_; rotate_left; (focus (try ((try simp only [BN] at hg); simp only [S1, simprocAttr, TTCkW, c1, c2, c3, c4, hg] at hk9 ⊢)); first | exact hk9 | ((first | apply call_a E18 | apply call_q E18); exact hat; exact hk9)); (refine hK1 _ ?_; clear hK1 K1)) | (((first | (refine ⟨fun hg => hA ?_, fun hg => hB ?_⟩ <;> clear hA hB A B) | refine ⟨fun hg => ?_, fun hg => ?_⟩) <;> (try simp only [BN2] at hg) <;> (try simp only [hg, cond_true, cond_false])) <;> (try (refine hK1 _ ?_; clear hK1 K1)) <;> (try simp only [BN3] at hg))) | (refine awp_seq_k fun K hK => ?_) | ((first | refine awp_region ?_ | refine awp_draw (by kernel_rfl) ?_ | refine awp_block ?_ | refine awp_exit ?_ | refine awp_skip ?_ | refine awp_ret ?_); (try simp only [NB, simprocAttr])))
    all_goals simp only [EndP, FinP, resA, resL, resA1, lastV, lastA, lastAs, pur, purs, take_app, List.take_length, S1, simprocAttr, TTCkW, Nat.le_add_right, Nat.le_refl, pk_take0]
    all_goals rfl
  by_cases c5 : 63 < m.length
  · have e : setR now m id after = (5, m) := by unfold setR; rw [if_neg c0, if_neg c4, if_pos c5]
    have c5' : (63 : Int) < (m.length : Int) := by omega
    rw [e]
    refine acalls_pure (rl := []) mixed Try.func27 rfl (rs := [.tmp 6]) rfl Try.ntmps27 (by simp) ?_
    repeat' (first | ((first | refine aops_nil ?_ | refine aqops_nil ?_); (try simp only [NB])) | ((repeat ((fail_if_success (refine hK _ ?_)); clear hK K)); refine hK _ ?_; clear hK K) | ((first | refine aops_k fun K1 hK1 => ?_ | refine aqops_k fun K1 hK1 => ?_ | refine awp_cond_k fun A B hA hB => ?_); simp only [S1, simprocAttr, TTCkW, c1, c2, c3, c4, c5', pk_b0 hb hne, ckB]; first | (refine hK1 _ ?_; clear hK1 K1) | ((first | refine hA ?_ | refine hB ?_); clear hA hB A B) | ((first | apply call_a E18 | apply call_q E18); exact hat; (refine hK1 _ ?_; clear hK1 K1)) | (refine join_x (v := ?_) (fun hg hk9 => ?_) ?_; rotate_left; (focus (try ((try simp only [BN] at hg); simp only [S1, simprocAttr, TTCkW, c1, c2, c3, c4, c5', pk_b0 hb hne, ckB, hg] at hk9 ⊢)); first | exact hk9 | ((first | apply call_a E18 | apply call_q E18); exact hat; exact hk9)); (refine hK1 _ ?_; clear hK1 K1)) | (((first | (refine ⟨fun hg => hA ?_, fun hg => hB ?_⟩ <;> clear hA hB A B) | refine ⟨fun hg => ?_, fun hg => ?_⟩) <;> (try simp only [BN2] at hg) <;> (try simp only [hg, cond_true, cond_false])) <;> (try (refine hK1 _ ?_; clear hK1 K1)) <;> (try simp only [BN3] at hg))) | (refine awp_seq_k fun K hK => ?_) | ((first | refine awp_region ?_ | refine awp_draw (by kernel_rfl) ?_ | refine awp_block ?_ | refine awp_exit ?_ | refine awp_skip ?_ | refine awp_ret ?_); (try simp only [NB, simprocAttr])))
    all_goals simp only [EndP, FinP, resA, resL, resA1, lastV, lastA, lastAs, pur, purs, take_app, List.take_length, S1, simprocAttr, TTCkW, Nat.le_add_right, Nat.le_refl, pk_take0]
    all_goals rfl
  have c5' : ¬ (63 : Int) < (m.length : Int) := by omega
  by_cases c6 : now + after > maxC
  · have e : setR now m id after = (40, m) := by unfold setR; rw [if_neg c0, if_neg c4, if_neg c5, if_pos c6]
    have c6' : 1099511627776 < now + after := by unfold maxC at c6; omega
    rw [e]
    refine acalls_pure (rl := []) mixed Try.func27 rfl (rs := [.tmp 6]) rfl Try.ntmps27 (by simp) ?_
    repeat' (first | ((first | refine aops_nil ?_ | refine aqops_nil ?_); (try simp only [NB])) | ((repeat ((fail_if_success (refine hK _ ?_)); clear hK K)); refine hK _ ?_; clear hK K) | ((first | refine aops_k fun K1 hK1 => ?_ | refine aqops_k fun K1 hK1 => ?_ | refine awp_cond_k fun A B hA hB => ?_); simp only [S1, simprocAttr, TTCkW, c1, c2, c3, c4, c5', c6', hw, pk_b0 hb hne, ckB]; first | (refine hK1 _ ?_; clear hK1 K1) | ((first | refine hA ?_ | refine hB ?_); clear hA hB A B) | ((first | apply call_a E18 | apply call_q E18); exact hat; (refine hK1 _ ?_; clear hK1 K1)) | (refine join_x (v := ?_) (fun hg hk9 => ?_) ?_; rotate_left; (focus (try ((try simp only [BN] at hg); simp only [S1, simprocAttr, TTCkW, c1, c2, c3, c4, c5', c6', hw, pk_b0 hb hne, ckB, hg] at hk9 ⊢)); first | exact hk9 | ((first | apply call_a E18 | apply call_q E18); exact hat; exact hk9)); (refine hK1 _ ?_; clear hK1 K1)) | (((first | (refine ⟨fun hg => hA ?_, fun hg => hB ?_⟩ <;> clear hA hB A B) | refine ⟨fun hg => ?_, fun hg => ?_⟩) <;> (try simp only [BN2] at hg) <;> (try simp only [hg, cond_true, cond_false])) <;> (try (refine hK1 _ ?_; clear hK1 K1)) <;> (try simp only [BN3] at hg))) | (refine awp_seq_k fun K hK => ?_) | ((first | refine awp_region ?_ | refine awp_draw (by kernel_rfl) ?_ | refine awp_block ?_ | refine awp_exit ?_ | refine awp_skip ?_ | refine awp_ret ?_); (try simp only [NB, simprocAttr])))
    all_goals simp only [EndP, FinP, resA, resL, resA1, lastV, lastA, lastAs, pur, purs, take_app, List.take_length, S1, simprocAttr, TTCkW, Nat.le_add_right, Nat.le_refl, pk_take0]
    all_goals rfl
  have c6' : ¬ 1099511627776 < now + after := by unfold maxC at c6; omega
  have e : setR now m id after = (0, m ++ [(id, now + after)]) := by unfold setR; rw [if_neg c0, if_neg c4, if_neg c5, if_neg c6]
  rw [e]
  have hmc : m.length + 1 ≤ maxCount := by unfold maxCount; omega
  have hbs : ∀ x : Option Blk, ((putK h b lb now (gn, false) m).set lb x)[b]? = some (ckB now lb (gn, false) m) := fun x => by rw [List.getElem?_set_ne (fun e => hne e.symm)]; exact pk_b0 hb hne
  have hps : (((putK h b lb now (gn, false) m).set lb (some ⟨gn + 1, cAl m ++ [.i id, .i (now + after)]⟩)).set b (some ⟨0, [.i now, .ref lb (gn + 1) 0 2 (m.length + 1)]⟩)) = putK h b lb now (gn + 1, false) (m ++ [(id, now + after)]) := pk_push (g := (gn, false)) (now := now) (l := m) hb hl hne (id, now + after)
  have hlb : (putK h b lb now (gn, false) m)[lb]? = some (some ⟨gn, cAl m⟩) := by
    rw [pk_lb0 hl, alB]
    unfold cZ
    split
    · rename_i e; subst e; rfl
    · rfl
  have hcm : (cAl m).length = m.length * 2 := cAl_len m
  refine acalls_heap (rl := []) mixed Try.func27 rfl (rs := [.tmp 6]) rfl Try.ntmps27 (by simp) ?_
  repeat' (first | ((first | refine aops_nil ?_ | refine aqops_nil ?_ | refine arunN_nil ?_); (try simp only [NB])) | ((repeat ((fail_if_success (refine hK _ ?_)); clear hK K)); refine hK _ ?_; clear hK K) | ((first | refine aops_k fun K1 hK1 => ?_ | refine aqops_k fun K1 hK1 => ?_ | refine arunN_eff rfl rfl rfl fun K1 hK1 => ?_ | refine arunN_q rfl rfl rfl fun K1 hK1 => ?_ | refine awp_cond_k fun A B hA hB => ?_); simp only [S1, simprocAttr, TTCkW, c1, c2, c3, c4, c5', c6', hw, hmc, hbs, hps, hlb, hcm, pk_b0 hb hne, ckB, pk_len, Nat.zero_add, List.drop_zero]; first | (refine hK1 _ ?_; clear hK1 K1) | ((first | refine hA ?_ | refine hB ?_); clear hA hB A B) | ((first | apply call_a E18 | apply call_q E18); exact hat; (refine hK1 _ ?_; clear hK1 K1)) | (refine join_x (v := ?_) (fun hg hk9 => ?_) ?_; rotate_left; (focus (try ((try simp only [BN] at hg); simp only [S1, simprocAttr, TTCkW, c1, c2, c3, c4, c5', c6', hw, hmc, hbs, hps, hlb, hcm, pk_b0 hb hne, ckB, pk_len, Nat.zero_add, List.drop_zero, hg] at hk9 ⊢)); first | exact hk9 | ((first | apply call_a E18 | apply call_q E18); exact hat; exact hk9)); (refine hK1 _ ?_; clear hK1 K1)) | (((first | (refine ⟨fun hg => hA ?_, fun hg => hB ?_⟩ <;> clear hA hB A B) | refine ⟨fun hg => ?_, fun hg => ?_⟩) <;> (try simp only [BN2] at hg) <;> (try simp only [hg, cond_true, cond_false])) <;> (try (refine hK1 _ ?_; clear hK1 K1)) <;> (try simp only [BN3] at hg))) | (refine awp_seq_k fun K hK => ?_) | (refine awp_drawN (es := []) [0, 1, 2, 3, 4, 5, 6, 7, 8, 9, 10, 11, 12, 13, 14, 15, 16, 17] rfl (by kernel_rfl) ?_) | ((first | refine awp_region ?_ | refine awp_draw (by kernel_rfl) ?_ | refine awp_block ?_ | refine awp_exit ?_ | refine awp_skip ?_ | refine awp_ret ?_); (try simp only [NB, simprocAttr])))
  all_goals simp only [EndH, FinH, resA, resL, resA1, lastV, lastA, lastAs, pur, purs, pk_len, pk_take, pk_take0, S1, simprocAttr, Nat.le_add_right, Nat.le_refl] <;> first | exact pk_keep' hl | exact ⟨pk_keep' hl, rfl⟩ | exact ⟨pk_keep' hl, rfl, rfl⟩
end
end Go.Proofs.Ytbbmfemplmelhaa.AM
end

section
set_option linter.unusedVariables false
set_option linter.unusedSimpArgs false
set_option maxRecDepth 4000
set_option maxHeartbeats 4000000
namespace Go.Proofs.Ytbbmfemplmelhaa.AM
open Go Go.Proofs
set_option linter.defProp false in
def TTCkX := And.intro T2 (And.intro T3 (And.intro T4 (And.intro T22 (And.intro T25 (And.intro T28 (And.intro T40 (And.intro T41 (And.intro T43 (And.intro T48 (And.intro T54 (And.intro T55 (And.intro T57 (And.intro T59 T73)))))))))))))
attribute [local irreducible] awp aops aqops aeops arun arunT arunN
variable {G : Nat → Option (List PV)}

theorem cAl_scalar (l : List Al) : (cAl l).all AV.scalar = true := by
  unfold cAl
  induction l with
  | nil => rfl
  | cons a l ih => rw [List.flatMap_cons, List.all_append, ih]; rfl
theorem cAl_takeN (l : List Al) (i : Nat) (h : i ≤ l.length) : (cAl l).take (i * 2) = cAl (l.take i) := by
  have e : cAl l = cAl (l.take i) ++ cAl (l.drop i) := by rw [← cAl_app, List.take_append_drop]
  rw [e]
  exact List.take_left' (by rw [cAl_len, List.length_take]; omega)

section
variable {h : Heap} {b lb gn : Nat} {now : Int} {m : List Al}
/-- The new list comes to stand where the old one stood. -/
theorem pk_moved (hb : b < h.length) (hl : lb < h.length) (hne : b ≠ lb) (x y : Option Blk) (m' : List Al) :
    (((((putK h b lb now (gn, false) m ++ [y]).set b x).set (putK h b lb now (gn, false) m).length none).set lb (some ⟨gn + 1, cAl m'⟩)).set b (some ⟨0, [.i now, .ref lb (gn + 1) 0 2 m'.length]⟩)) = putK h b lb now (gn + 1, false) m' ++ [none] := by
  have hlen : (putK h b lb now (gn, false) m).length = h.length := pk_len
  have e : cAl m' = cZ (gn + 1, false) m' := by
    unfold cZ
    split
    · rename_i e; subst e; rfl
    · rfl
  rw [List.set_append_left _ _ (by rw [hlen]; exact hb), List.set_append_right _ _ (by rw [List.length_set]; exact Nat.le_refl _), List.length_set, Nat.sub_self, List.set_append_left _ _ (by rw [List.length_set, hlen]; exact hl), List.set_append_left _ _ (by rw [List.length_set, List.length_set, hlen]; exact hb)]
  congr 1
  unfold putK
  rw [List.set_comm _ _ hne.symm, List.set_set, List.set_comm _ _ hne.symm, List.set_set, List.set_set, e]
  rfl
/-- The same where a block is laid by first. -/
theorem keepW (hb : b < h.length) (hl : lb < h.length) (hne : b ≠ lb) {fr : Nat → Option AV} {bm : Blk} {m' : List Al} (hf : fr 4 = some (.i 0)) (hm : bm.cells = cAl m') {n : Nat} (hn : n = m'.length) :
    ∃ s1, Ghost Try.prog G (putK h b lb now (gn, false) m) ⟨fr, 33, (putK h b lb now (gn, false) m ++ [some bm]).set b (some ⟨0, [.i now, .ref (putK h b lb now (gn, false) m).length bm.g 0 2 n]⟩)⟩ s1 ∧
      FinK Try.prog [.tmp 4] (putK h b lb now (gn, false) m) (fun r h' => r = .i 0 ∧ h' = putK h b lb now (gn + 1, false) m') s1 := by
  subst hn
  have hlen : (putK h b lb now (gn, false) m).length = h.length := pk_len
  have hH0 : (putK h b lb now (gn, false) m)[lb]? = some (some ⟨gn, cZ (gn, false) m⟩) := pk_lb0 hl
  have hmv := Ghost.move (P := Try.prog) (G := G) (h0 := putK h b lb now (gn, false) m) (s := ⟨fr, 33, (putK h b lb now (gn, false) m ++ [some bm]).set b (some ⟨0, [.i now, .ref (putK h b lb now (gn, false) m).length bm.g 0 2 m'.length]⟩)⟩)
    (b := b) (j := 1) (q := lb) (m := (putK h b lb now (gn, false) m).length) (off := 0) (sz := 2) (n := m'.length) (bk := ⟨0, [.i now, .ref (putK h b lb now (gn, false) m).length bm.g 0 2 m'.length]⟩) (bq := ⟨gn, cZ (gn, false) m⟩) (bm := bm)
    (List.getElem?_set_self (by rw [List.length_append, hlen]; omega)) rfl
    (by show (List.set _ _ _)[lb]? = _; rw [List.getElem?_set_ne hne, List.getElem?_append_left (by rw [hlen]; exact hl)]; exact hH0)
    (by show (List.set _ _ _)[_]? = _; rw [List.getElem?_set_ne (by omega), List.getElem?_append_right (Nat.le_refl _), Nat.sub_self]; rfl) hne (by omega) (by omega)
  have hheap := pk_moved (gn := gn) (now := now) (m := m) hb hl hne (some ⟨0, [.i now, .ref (putK h b lb now (gn, false) m).length bm.g 0 2 m'.length]⟩) (some bm) m'
  simp only [List.set_cons_succ, List.set_cons_zero, hm, hheap] at hmv
  refine ⟨_, hmv.trans (Sub.ghostH (H := putK h b lb now (gn + 1, false) m') (l := [(4, .i 0)]) (L := []) (by rw [pk_len, pk_len]) (fun i bk hi => ?_) ⟨rfl, ⟨[none], rfl⟩, ⟨hf, trivial, trivial⟩, trivial⟩), FinK_tmp (t := 4) (v := .i 0) rfl (by simp [pk_len]) ⟨rfl, by rw [List.append_nil]⟩⟩
  exact (pk_keep (now0 := now) (g0 := (gn, false)) (l0 := m) hl i bk hi).imp id fun hx => hx

theorem keepN (hb : b < h.length) (hl : lb < h.length) (hne : b ≠ lb) {fr : Nat → Option AV} (hf : fr 4 = some (.i 0)) :
    ∃ s1, Ghost Try.prog G (putK h b lb now (gn, false) m) ⟨fr, 33, (putK h b lb now (gn, false) m).set b (some ⟨0, [.i now, .p .nils]⟩)⟩ s1 ∧
      FinK Try.prog [.tmp 4] (putK h b lb now (gn, false) m) (fun r h' => r = .i 0 ∧ h' = putK h b lb now (gn + 1, false) []) s1 := by
  have hlen : (putK h b lb now (gn, false) m).length = h.length := pk_len
  have ha := Ghost.adoptCellG (P := Try.prog) (G := G) (h0 := putK h b lb now (gn, false) m) (s := ⟨fr, 33, (putK h b lb now (gn, false) m).set b (some ⟨0, [.i now, .p .nils]⟩)⟩) (b := b) (j := 1) (bk := ⟨0, [.i now, .p .nils]⟩) 2
    (List.getElem?_set_self (by rw [hlen]; omega)) rfl
  obtain ⟨s1, g1, g2⟩ := keepW (G := G) (now := now) (gn := gn) (m := m) hb hl hne (fr := fr) (bm := ⟨0, []⟩) (m' := []) hf rfl (n := 0) rfl
  have e : ((putK h b lb now (gn, false) m).set b (some (⟨0, [.i now, .p .nils]⟩ : Blk)) ++ [some (⟨0, []⟩ : Blk)]).set b (some (⟨0, [.i now, .ref (putK h b lb now (gn, false) m).length 0 0 2 0]⟩ : Blk)) = (putK h b lb now (gn, false) m ++ [some (⟨0, []⟩ : Blk)]).set b (some (⟨0, [.i now, .ref (putK h b lb now (gn, false) m).length 0 0 2 0]⟩ : Blk)) := by
    rw [List.set_append_left _ _ (by rw [List.length_set, hlen]; exact hb), List.set_append_left _ _ (by rw [hlen]; exact hb), List.set_set]
  simp only [List.set_cons_succ, List.set_cons_zero, List.length_set] at ha
  rw [e] at ha
  exact ⟨s1, ha.trans g1, g2⟩

theorem rDrop_calls (hb : b < h.length) (hl : lb < h.length) (hne : b ≠ lb) (hn : m.length ≤ 64) (id : Int) :
    ACalls Try.prog G 28 [.ptr b 0 0, .i id] (putK h b lb now (gn, false) m) (fun r h' => r = .i (dropR m id).1 ∧ h' = putK h b lb now (if (dropR m id).1 = 0 then gn + 1 else gn, false) (dropR m id).2) := by
  have hat := rAt_calls (G := G) (pk_b0 (now := now) (g := (gn, false)) (l := m) hb hne) (pk_lb0 hl) (by omega) id
  unfold dropR
  rcases findA_spec (p := fun a => a.1 == id) m 0 with ⟨h1, h2⟩ | ⟨i, a, h1, h2, h3⟩
  · have c : atR m id < 0 := by unfold atR; rw [h1]; omega
    rw [if_pos c]
    refine acalls_pure (rl := []) mixed Try.func28 rfl (rs := [.tmp 4]) rfl Try.ntmps28 (by simp) ?_
    repeat' (first | ((first | refine aops_nil ?_ | refine aqops_nil ?_); (try simp only [NB])) | ((repeat ((fail_if_success (refine hK _ ?_)); clear hK K)); refine hK _ ?_; clear hK K) | ((first | refine aops_k fun K1 hK1 => ?_ | refine aqops_k fun K1 hK1 => ?_ | refine awp_cond_k fun A B hA hB => ?_); simp only [S1, simprocAttr, TTCkX, c]; first | (refine hK1 _ ?_; clear hK1 K1) | ((first | refine hA ?_ | refine hB ?_); clear hA hB A B) | ((first | apply call_a E18 | apply call_q E18); exact hat; (refine hK1 _ ?_; clear hK1 K1)) | (((first | (refine ⟨fun hg => hA ?_, fun hg => hB ?_⟩ <;> clear hA hB A B) | refine ⟨fun hg => ?_, fun hg => ?_⟩) <;> (try simp only [BN2] at hg) <;> (try simp only [hg, cond_true, cond_false])) <;> (try (refine hK1 _ ?_; clear hK1 K1)) <;> (try simp only [BN3] at hg))) | (refine awp_seq_k fun K hK => ?_) | ((first | refine awp_region ?_ | refine awp_draw (by kernel_rfl) ?_ | refine awp_block ?_ | refine awp_exit ?_ | refine awp_skip ?_ | refine awp_ret ?_); (try simp only [NB, simprocAttr])))
    all_goals simp only [EndP, FinP, resA, resL, resA1, lastV, lastA, lastAs, pur, purs, take_app, List.take_length, S1, simprocAttr, TTCkX, Nat.le_add_right, Nat.le_refl, pk_take0]
    all_goals rfl
  · have ei : atR m id = (i : Int) := by unfold atR; rw [h1, Nat.zero_add]
    have j0 : ¬ ((i : Int) < 0) := by omega
    rw [ei] at hat ⊢
    rw [if_neg j0, if_pos rfl, Int.toNat_natCast]
    have hil := (List.getElem?_eq_some_iff.mp h2).1
    have hlen : (putK h b lb now (gn, false) m).length = h.length := pk_len
    have hb0 : (putK h b lb now (gn, false) m)[b]? = some (some ⟨0, [.i now, .ref lb gn 0 2 m.length]⟩) := pk_b0 hb hne
    have hbL : ∀ L, (putK h b lb now (gn, false) m ++ L)[b]? = some (some ⟨0, [.i now, .ref lb gn 0 2 m.length]⟩) := fun L => pk_b hb hne L
    have hl0 : (putK h b lb now (gn, false) m)[lb]? = some (some ⟨gn, cAl m⟩) := by rw [pk_lb0 hl, alB, cZ_at h2]
    have hlL : ∀ L, (putK h b lb now (gn, false) m ++ L)[lb]? = some (some ⟨gn, cAl m⟩) := fun L => by rw [pk_lb hl L, alB, cZ_at h2]
    have hnx : IntKind.i64.wrap ((i : Int) + 1) = ((i + 1 : Nat) : Int) := by rw [IntWalk.i64_in _ (by omega)]; omega
    have hed : m.eraseIdx i = m.take i ++ m.drop (i + 1) := List.eraseIdx_eq_take_drop_succ ..
    have i0 : (0 : Int) ≤ (i : Int) := by omega
    have i1 : (0 : Int) ≤ ((i + 1 : Nat) : Int) := by omega
    have il : i ≤ m.length := by omega
    have il1 : i + 1 ≤ m.length := by omega
    have il2 : (i : Int) ≤ (m.length : Int) := by omega
    have il3 : ((i + 1 : Nat) : Int) ≤ (m.length : Int) := by omega
    have hmc1 : i ≤ maxCount := by unfold maxCount; omega
    have hmc2 : m.length - (i + 1) ≤ maxCount := by unfold maxCount; omega
    have hmc3 : i + (m.length - (i + 1)) ≤ maxCount := by unfold maxCount; omega
    have htk := cAl_takeN m i il
    have hdr : (cAl m).drop ((i + 1) * 2) = cAl (m.drop (i + 1)) := cAl_drop m (i + 1)
    have hdl : (cAl (m.drop (i + 1))).take ((m.length - (i + 1)) * 2) = cAl (m.drop (i + 1)) := List.take_of_length_le (by rw [cAl_len, List.length_drop]; exact Nat.le_refl _)
    have hs1 := cAl_scalar (m.take i)
    have hs2 := cAl_scalar (m.drop (i + 1))
    have hcl : (cAl m).length = m.length * 2 := cAl_len m
    have hct : (cAl (m.take i)).length = i * 2 := by rw [cAl_len, List.length_take]; congr 1; omega
    have hf1 : i * 2 ≤ m.length * 2 := by omega
    have hf2 : (i + 1) * 2 + (m.length - (i + 1)) * 2 ≤ m.length * 2 := by omega
    have hA := cAl_app (m.take i) (m.drop (i + 1))
    have hgl : ∀ x : Blk, (putK h b lb now (gn, false) m ++ [some x])[(putK h b lb now (gn, false) m).length]? = some (some x) := fun x => by rw [List.getElem?_append_right (Nat.le_refl _), Nat.sub_self]; rfl
    have hsl : ∀ x y : Option Blk, (putK h b lb now (gn, false) m ++ [x]).set (putK h b lb now (gn, false) m).length y = putK h b lb now (gn, false) m ++ [y] := fun x y => by rw [List.set_append_right _ _ (Nat.le_refl _), Nat.sub_self]; rfl
    have hkn := fun (fr : Nat → Option AV) hf => keepN (G := G) (now := now) (gn := gn) (m := m) hb hl hne (fr := fr) hf
    have hkw := fun (fr : Nat → Option AV) (bm : Blk) (m' : List Al) hf hm (n : Nat) hn => keepW (G := G) (now := now) (gn := gn) (m := m) hb hl hne (fr := fr) (bm := bm) (m' := m') hf hm (n := n) hn
    refine Sim.evoKeepG (rl := []) mixed Try.func28 rfl (by rw [Try.ntmps28]; simp) ?_
    rw [Try.ntmps28]
    generalize hH : putK h b lb now (gn, false) m = H at *
    have hq2 : (i + 1) * 2 ≤ m.length * 2 := by omega
    by_cases ci : i = 0
    · subst ci
      have h2m : 2 ≤ m.length * 2 := by omega
      have hn1 : IntKind.i64.wrap (0 + 1) = 1 := by decide
      have hn2 : IntKind.i64.wrap 1 = 1 := by decide
      have hdr' : (cAl m).drop 2 = cAl (m.drop 1) := hdr
      have hf3 : 2 + (m.length - 1) * 2 ≤ m.length * 2 := by omega
      simp only [Nat.zero_add, Int.natCast_zero, Int.natCast_one, Nat.one_mul] at *
      by_cases cr : m.length - 1 = 0
      · repeat' (first | ((first | refine aops_nil ?_ | refine aqops_nil ?_); (try simp only [NB])) | ((repeat ((fail_if_success (refine hK _ ?_)); clear hK K)); refine hK _ ?_; clear hK K) | ((first | refine aops_k fun K1 hK1 => ?_ | refine aqops_k fun K1 hK1 => ?_ | refine awp_cond_k fun A B hA hB => ?_); simp only [S1, simprocAttr, TTCkX, hil, cr, h2m, hn1, hn2, il1, il3, hmc2, hdr, hdr', hdl, hs2, hcl, hf2, hf3, hb0, hbL, hl0, hlL, hgl, hsl, Int.toNat_natCast, Nat.zero_add, Nat.zero_mul, Nat.one_mul, List.take_zero, List.drop_zero, Nat.sub_zero, Nat.add_zero, Nat.le_refl]; first | (refine hK1 _ ?_; clear hK1 K1) | ((first | refine hA ?_ | refine hB ?_); clear hA hB A B) | ((first | apply call_a E18 | apply call_q E18); exact hat; (refine hK1 _ ?_; clear hK1 K1)) | (((first | (refine ⟨fun hg => hA ?_, fun hg => hB ?_⟩ <;> clear hA hB A B) | refine ⟨fun hg => ?_, fun hg => ?_⟩) <;> (try simp only [BN2] at hg) <;> (try simp only [hg, cond_true, cond_false])) <;> (try (refine hK1 _ ?_; clear hK1 K1)) <;> (try simp only [BN3] at hg))) | (refine awp_seq_k fun K hK => ?_) | ((first | refine awp_region ?_ | refine awp_draw (by kernel_rfl) ?_ | refine awp_block ?_ | refine awp_exit ?_ | refine awp_skip ?_ | refine awp_ret ?_); (try simp only [NB, simprocAttr])))
        all_goals refine ⟨.inr trivial, ?_⟩
        have em : m.eraseIdx 0 = [] := by rw [← List.length_eq_zero_iff, List.length_eraseIdx_of_lt hil]; exact cr
        rw [em]
        exact hkn _ rfl
      · repeat' (first | ((first | refine aops_nil ?_ | refine aqops_nil ?_); (try simp only [NB])) | ((repeat ((fail_if_success (refine hK _ ?_)); clear hK K)); refine hK _ ?_; clear hK K) | ((first | refine aops_k fun K1 hK1 => ?_ | refine aqops_k fun K1 hK1 => ?_ | refine awp_cond_k fun A B hA hB => ?_); simp only [S1, simprocAttr, TTCkX, hil, cr, h2m, hn1, hn2, il1, il3, hmc2, hdr, hdr', hdl, hs2, hcl, hf2, hf3, hb0, hbL, hl0, hlL, hgl, hsl, Int.toNat_natCast, Nat.zero_add, Nat.zero_mul, Nat.one_mul, List.take_zero, List.drop_zero, Nat.sub_zero, Nat.add_zero, Nat.le_refl]; first | (refine hK1 _ ?_; clear hK1 K1) | ((first | refine hA ?_ | refine hB ?_); clear hA hB A B) | ((first | apply call_a E18 | apply call_q E18); exact hat; (refine hK1 _ ?_; clear hK1 K1)) | (((first | (refine ⟨fun hg => hA ?_, fun hg => hB ?_⟩ <;> clear hA hB A B) | refine ⟨fun hg => ?_, fun hg => ?_⟩) <;> (try simp only [BN2] at hg) <;> (try simp only [hg, cond_true, cond_false])) <;> (try (refine hK1 _ ?_; clear hK1 K1)) <;> (try simp only [BN3] at hg))) | (refine awp_seq_k fun K hK => ?_) | ((first | refine awp_region ?_ | refine awp_draw (by kernel_rfl) ?_ | refine awp_block ?_ | refine awp_exit ?_ | refine awp_skip ?_ | refine awp_ret ?_); (try simp only [NB, simprocAttr])))
        all_goals refine ⟨.inr trivial, ?_⟩
        have em : m.eraseIdx 0 = m.drop 1 := by rw [hed]; rfl
        rw [em]
        exact hkw _ ⟨0, cAl (m.drop 1)⟩ (m.drop 1) rfl rfl _ (by rw [List.length_drop])
    · obtain ⟨q, hq⟩ : ∃ q, q = i + 1 := ⟨_, rfl⟩
      simp only [← hq] at *
      by_cases cr : m.length - q = 0
      · repeat' (first | ((first | refine aops_nil ?_ | refine aqops_nil ?_); (try simp only [NB])) | ((repeat ((fail_if_success (refine hK _ ?_)); clear hK K)); refine hK _ ?_; clear hK K) | ((first | refine aops_k fun K1 hK1 => ?_ | refine aqops_k fun K1 hK1 => ?_ | refine awp_cond_k fun A B hA hB => ?_); simp only [S1, simprocAttr, TTCkX, hil, ci, cr, hq2, j0, hnx, i0, i1, il, il1, il2, il3, hmc1, hmc2, hmc3, htk, hdr, hdl, hs1, hs2, hcl, hct, hf1, hf2, hb0, hbL, hl0, hlL, hgl, hsl, Int.toNat_natCast, Nat.zero_add, Nat.zero_mul, List.take_zero, List.drop_zero, Nat.sub_zero, Nat.add_zero, Nat.le_refl]; first | (refine hK1 _ ?_; clear hK1 K1) | ((first | refine hA ?_ | refine hB ?_); clear hA hB A B) | ((first | apply call_a E18 | apply call_q E18); exact hat; (refine hK1 _ ?_; clear hK1 K1)) | (((first | (refine ⟨fun hg => hA ?_, fun hg => hB ?_⟩ <;> clear hA hB A B) | refine ⟨fun hg => ?_, fun hg => ?_⟩) <;> (try simp only [BN2] at hg) <;> (try simp only [hg, cond_true, cond_false])) <;> (try (refine hK1 _ ?_; clear hK1 K1)) <;> (try simp only [BN3] at hg))) | (refine awp_seq_k fun K hK => ?_) | ((first | refine awp_region ?_ | refine awp_draw (by kernel_rfl) ?_ | refine awp_block ?_ | refine awp_exit ?_ | refine awp_skip ?_ | refine awp_ret ?_); (try simp only [NB, simprocAttr])))
        all_goals refine ⟨.inr trivial, ?_⟩
        have em : m.eraseIdx i = m.take i := by rw [hed, List.drop_of_length_le (by omega), List.append_nil]
        rw [em]
        exact hkw _ ⟨0, cAl (m.take i)⟩ (m.take i) rfl rfl _ (by rw [List.length_take]; omega)
      · repeat' (first | ((first | refine aops_nil ?_ | refine aqops_nil ?_); (try simp only [NB])) | ((repeat ((fail_if_success (refine hK _ ?_)); clear hK K)); refine hK _ ?_; clear hK K) | ((first | refine aops_k fun K1 hK1 => ?_ | refine aqops_k fun K1 hK1 => ?_ | refine awp_cond_k fun A B hA hB => ?_); simp only [S1, simprocAttr, TTCkX, hil, ci, cr, hq2, j0, hnx, i0, i1, il, il1, il2, il3, hmc1, hmc2, hmc3, htk, hdr, hdl, hs1, hs2, hcl, hct, hf1, hf2, hb0, hbL, hl0, hlL, hgl, hsl, Int.toNat_natCast, Nat.zero_add, Nat.zero_mul, List.take_zero, List.drop_zero, Nat.sub_zero, Nat.add_zero, Nat.le_refl]; first | (refine hK1 _ ?_; clear hK1 K1) | ((first | refine hA ?_ | refine hB ?_); clear hA hB A B) | ((first | apply call_a E18 | apply call_q E18); exact hat; (refine hK1 _ ?_; clear hK1 K1)) | (((first | (refine ⟨fun hg => hA ?_, fun hg => hB ?_⟩ <;> clear hA hB A B) | refine ⟨fun hg => ?_, fun hg => ?_⟩) <;> (try simp only [BN2] at hg) <;> (try simp only [hg, cond_true, cond_false])) <;> (try (refine hK1 _ ?_; clear hK1 K1)) <;> (try simp only [BN3] at hg))) | (refine awp_seq_k fun K hK => ?_) | ((first | refine awp_region ?_ | refine awp_draw (by kernel_rfl) ?_ | refine awp_block ?_ | refine awp_exit ?_ | refine awp_skip ?_ | refine awp_ret ?_); (try simp only [NB, simprocAttr])))
        all_goals refine ⟨.inr trivial, ?_⟩
        rw [hed]
        exact hkw _ ⟨1, cAl (m.take i) ++ cAl (m.drop q)⟩ (m.take i ++ m.drop q) rfl hA.symm _ (by rw [List.length_append, List.length_take, List.length_drop]; omega)
end
end Go.Proofs.Ytbbmfemplmelhaa.AM
end

section
set_option linter.unusedVariables false
set_option linter.unusedSimpArgs false
set_option maxRecDepth 4000
set_option maxHeartbeats 4000000
namespace Go.Proofs.Ytbbmfemplmelhaa.AM
open Go Go.Proofs
set_option linter.defProp false in
def TTCkM := And.intro T2 (And.intro T3 (And.intro T4 (And.intro T22 (And.intro T25 (And.intro T28 (And.intro T54 (And.intro T55 (And.intro T57 T59))))))))
attribute [local irreducible] awp aops aqops aeops arun arunT
variable {G : Nat → Option (List PV)}

/-- What the shelf tells of the sort of alarms. -/
abbrev HSK : Prop := SortsK Try.prog 24 25 2

section
variable {now : Int} {g : Gz} {l : List Al}
theorem set1 (hsk : HSK) (h : Heap) (ok : CkOk now l) (id after : Int) (hid : id ≤ 9223372036854775807) :
    ACalls Try.prog G 10 [.ptr h.length 0 0, .i id, .i after] (pk1 h now g l) (fun r h' => r = .i (setC now l id after).1 ∧ h' = pk1 h now (if (setC now l id after).1 = 0 then (g.1 + 1, g.2) else g) (setC now l id after).2) :=
  set_calls hsk (hk1 h) (hk2 h) (hk3 h) ok id after hid
theorem tick1 (h : Heap) (ok : CkOk now l) (n : Int) : ACalls Try.prog G 11 [.ptr h.length 0 0, .i n] (pk1 h now g l) (fun r h' => r = .i (tickC now n).1 ∧ h' = pk1 h (tickC now n).2 g l) :=
  tick_calls (hk1 h) (hk2 h) (hk3 h) ok.n0 ok.n1 n
theorem due1 (h : Heap) (ok : CkOk now l) : ACalls Try.prog G 12 [.ptr h.length 0 0] (pk1 h now g l) (fun r h' => r = aJ (dueC now l) ∧ h' = pk1 h now g l) :=
  due_calls (hk1 h) (hk2 h) (hk3 h) ok
theorem now1 (h : Heap) : ACalls Try.prog G 17 [.ptr h.length 0 0] (pk1 h now g l) (fun r h' => r = .i now ∧ h' = pk1 h now g l) :=
  now_calls (hk1 h) (hk2 h) (hk3 h)
end

theorem twoOk : CkOk 2 [(2, 3), (2, 7)] := ⟨by decide, by decide, by decide, by decide, by decide, by decide, by unfold srtA; decide⟩
theorem twoOk1 : CkOk 0 [(2, 7)] := ⟨by decide, by decide, by decide, by decide, by decide, by decide, by unfold srtA; decide⟩
theorem twoOk2 : CkOk 1 [(2, 3), (2, 7)] := ⟨by decide, by decide, by decide, by decide, by decide, by decide, by unfold srtA; decide⟩
theorem twoOk3 : CkOk 1 [(2, 7)] := ⟨by decide, by decide, by decide, by decide, by decide, by decide, by unfold srtA; decide⟩

theorem two_calls (hsk : HSK) (h : Heap) : ACalls Try.prog G 9 [] h (fun r h' => r = .b true ∧ h' = h) := by
  have c1 : ACalls Try.prog G 10 [.ptr h.length 0 0, .i 7, .i 2] (pk1 h 0 (0, false) []) (fun r h' => r = .i 0 ∧ h' = pk1 h 0 (1, false) [(2, 7)]) := set1 hsk h CkOk.nil 7 2 (by decide)
  have c2 : ACalls Try.prog G 11 [.ptr h.length 0 0, .i 1] (pk1 h 0 (1, false) [(2, 7)]) (fun r h' => r = .i 0 ∧ h' = pk1 h 1 (1, false) [(2, 7)]) := tick1 h twoOk1 1
  have c3 : ACalls Try.prog G 10 [.ptr h.length 0 0, .i 3, .i 1] (pk1 h 1 (1, false) [(2, 7)]) (fun r h' => r = .i 0 ∧ h' = pk1 h 1 (2, false) [(2, 3), (2, 7)]) := set1 hsk h twoOk3 3 1 (by decide)
  have c4 : ACalls Try.prog G 11 [.ptr h.length 0 0, .i 1] (pk1 h 1 (2, false) [(2, 3), (2, 7)]) (fun r h' => r = .i 0 ∧ h' = pk1 h 2 (2, false) [(2, 3), (2, 7)]) := tick1 h twoOk2 1
  have c5 : ACalls Try.prog G 12 [.ptr h.length 0 0] (pk1 h 2 (2, false) [(2, 3), (2, 7)]) (fun r h' => r = aJ [3, 7] ∧ h' = pk1 h 2 (2, false) [(2, 3), (2, 7)]) := due1 h twoOk
  have c6 := fun h => ints_calls (G := G) [3, 7] [3, 7] (by simp) h
  have c7 := now1 (G := G) (now := 2) (g := (2, false)) (l := [(2, 3), (2, 7)]) h
  have e0 : ((0 : Int) == 0) = true := rfl
  refine acalls_pure (rl := []) mixed Try.func9 rfl (rs := [.tmp 0]) rfl Try.ntmps9 (by simp) ?_
  repeat' (first | ((first | refine aops_nil ?_ | refine aqops_nil ?_); (try simp only [NB])) | ((repeat ((fail_if_success (refine hK _ ?_)); clear hK K)); refine hK _ ?_; clear hK K) | ((first | refine aops_k fun K1 hK1 => ?_ | refine aqops_k fun K1 hK1 => ?_ | refine awp_cond_k fun A B hA hB => ?_); simp only [S1, simprocAttr, TTCkM, pk1_len]; first | (refine hK1 _ ?_; clear hK1 K1) | ((first | refine hA ?_ | refine hB ?_); clear hA hB A B) | ((first | apply call_a E8 | apply call_q E8); exact (new_calls _); (refine hK1 _ ?_; clear hK1 K1)) | ((first | apply call_a E10 | apply call_q E10); exact c1; (refine hK1 _ ?_; clear hK1 K1)) | ((first | apply call_a E10 | apply call_q E10); exact c3; (refine hK1 _ ?_; clear hK1 K1)) | ((first | apply call_a E11 | apply call_q E11); exact c2; (refine hK1 _ ?_; clear hK1 K1)) | ((first | apply call_a E11 | apply call_q E11); exact c4; (refine hK1 _ ?_; clear hK1 K1)) | ((first | apply call_a E12 | apply call_q E12); exact c5; (refine hK1 _ ?_; clear hK1 K1)) | ((first | apply call_a E17 | apply call_q E17); exact c7; (refine hK1 _ ?_; clear hK1 K1)) | ((first | apply call_a E14 | apply call_q E14); exact (c6 _); (refine hK1 _ ?_; clear hK1 K1)) | (refine join_x (v := ?_) (fun hg hk9 => ?_) ?_; rotate_left; (focus (try ((try simp only [BN] at hg); simp only [S1, simprocAttr, TTCkM, pk1_len, hg] at hk9 ⊢)); first | exact hk9 | ((first | apply call_a E8 | apply call_q E8); exact (new_calls _); exact hk9) | ((first | apply call_a E10 | apply call_q E10); exact c1; exact hk9) | ((first | apply call_a E10 | apply call_q E10); exact c3; exact hk9) | ((first | apply call_a E11 | apply call_q E11); exact c2; exact hk9) | ((first | apply call_a E11 | apply call_q E11); exact c4; exact hk9) | ((first | apply call_a E12 | apply call_q E12); exact c5; exact hk9) | ((first | apply call_a E17 | apply call_q E17); exact c7; exact hk9) | ((first | apply call_a E14 | apply call_q E14); exact (c6 _); exact hk9)); (refine hK1 _ ?_; clear hK1 K1)) | (((first | (refine ⟨fun hg => hA ?_, fun hg => hB ?_⟩ <;> clear hA hB A B) | refine ⟨fun hg => ?_, fun hg => ?_⟩) <;> (try simp only [BN2] at hg) <;> (try simp only [hg, cond_true, cond_false])) <;> (try (refine hK1 _ ?_; clear hK1 K1)) <;> (try simp only [BN3] at hg))) | (refine awp_seq_k fun K hK => ?_) | ((first | refine awp_region ?_ | refine awp_draw (by kernel_rfl) ?_ | refine awp_block ?_ | refine awp_exit ?_ | refine awp_skip ?_ | refine awp_ret ?_); (try simp only [NB, simprocAttr])))
  all_goals simp only [EndP, FinP, resA, resL, resA1, lastV, lastA, lastAs, pur, purs, take_app, List.take_length, S1, simprocAttr, TTCkM, Nat.le_add_right, Nat.le_refl, pk1_take, pk1_len]
  all_goals simp

/-! A nil clock. -/
end Go.Proofs.Ytbbmfemplmelhaa.AM
end

section
set_option linter.unusedVariables false
set_option linter.unusedSimpArgs false
set_option maxRecDepth 4000
set_option maxHeartbeats 4000000
namespace Go.Proofs.Ytbbmfemplmelhaa.AM
open Go Go.Proofs
set_option linter.defProp false in
attribute [local irreducible] awp aops aqops aeops arun arunT
variable {G : Nat → Option (List PV)}

theorem bneI (x : Int) : (x != x) = false := by simp

end Go.Proofs.Ytbbmfemplmelhaa.AM
end

section
set_option linter.unusedVariables false
set_option linter.unusedSimpArgs false
set_option maxRecDepth 4000
set_option maxHeartbeats 4000000
namespace Go.Proofs.Ytbbmfemplmelhaa.AM
open Go Go.Proofs
set_option linter.defProp false in
attribute [local irreducible] awp aops aqops aeops arun arunT
variable {G : Nat → Option (List PV)}

/-- Two clocks behind a heap. -/
def pk2 (h : Heap) (n1 : Int) (g1 : Gz) (l1 : List Al) (n2 : Int) (g2 : Gz) (l2 : List Al) : Heap := h ++ [ckB n1 (h.length + 1) g1 l1, alB g1 l1, ckB n2 (h.length + 3) g2 l2, alB g2 l2]
section
variable {h : Heap} {n1 n2 : Int} {g1 g2 : Gz} {l1 l2 : List Al}
theorem pk2_len : (pk2 h n1 g1 l1 n2 g2 l2).length = h.length + 4 := by simp [pk2]
theorem pk2_take : (pk2 h n1 g1 l1 n2 g2 l2).take h.length = h := by simp [pk2]
theorem pk2_get0 (L : Heap) : (pk2 h n1 g1 l1 n2 g2 l2 ++ L)[h.length + 4]? = L[0]? := by
  rw [List.getElem?_append_right (by rw [pk2_len]; exact Nat.le_refl _), pk2_len, Nat.sub_self]
theorem pk2_set0 (L : Heap) (x : Option Blk) : (pk2 h n1 g1 l1 n2 g2 l2 ++ L).set (h.length + 4) x = pk2 h n1 g1 l1 n2 g2 l2 ++ L.set 0 x := by
  rw [List.set_append_right _ _ (by rw [pk2_len]; exact Nat.le_refl _), pk2_len, Nat.sub_self]
theorem pk2_a (h : Heap) (n1 : Int) (g1 : Gz) (l1 : List Al) (n2 : Int) (g2 : Gz) (l2 : List Al) : pk2 h n1 g1 l1 n2 g2 l2 = putK (h ++ [none, none, ckB n2 (h.length + 3) g2 l2, alB g2 l2]) h.length (h.length + 1) n1 g1 l1 := by
  unfold pk2 putK
  rw [set_app0, set_app]; rfl
theorem pk2_b (h : Heap) (n1 : Int) (g1 : Gz) (l1 : List Al) (n2 : Int) (g2 : Gz) (l2 : List Al) : pk2 h n1 g1 l1 n2 g2 l2 = putK (h ++ [ckB n1 (h.length + 1) g1 l1, alB g1 l1, none, none]) (h.length + 2) (h.length + 3) n2 g2 l2 := by
  unfold pk2 putK
  rw [set_app, set_app]; rfl
theorem ha1 (x y : Option Blk) : h.length < (h ++ [none, none, x, y] : Heap).length := by simp
theorem ha2 (x y : Option Blk) : h.length + 1 < (h ++ [none, none, x, y] : Heap).length := by simp
theorem hb1 (x y : Option Blk) : h.length + 2 < (h ++ [x, y, none, none] : Heap).length := by simp
theorem hb2 (x y : Option Blk) : h.length + 3 < (h ++ [x, y, none, none] : Heap).length := by simp
theorem hb3 : h.length + 2 ≠ h.length + 3 := by omega
theorem setA (hsk : HSK) (ok : CkOk n1 l1) (id after : Int) (hid : id ≤ 9223372036854775807) : ACalls Try.prog G 10 [.ptr h.length 0 0, .i id, .i after] (pk2 h n1 g1 l1 n2 g2 l2) (fun r h' => r = .i (setC n1 l1 id after).1 ∧ h' = pk2 h n1 (if (setC n1 l1 id after).1 = 0 then (g1.1 + 1, g1.2) else g1) (setC n1 l1 id after).2 n2 g2 l2) := by
  simp only [pk2_a]
  exact set_calls hsk (ha1 _ _) (ha2 _ _) (hk3 h) ok id after hid
theorem setB (hsk : HSK) (ok : CkOk n2 l2) (id after : Int) (hid : id ≤ 9223372036854775807) : ACalls Try.prog G 10 [.ptr (h.length + 2) 0 0, .i id, .i after] (pk2 h n1 g1 l1 n2 g2 l2) (fun r h' => r = .i (setC n2 l2 id after).1 ∧ h' = pk2 h n1 g1 l1 n2 (if (setC n2 l2 id after).1 = 0 then (g2.1 + 1, g2.2) else g2) (setC n2 l2 id after).2) := by
  simp only [pk2_b]
  exact set_calls hsk (hb1 _ _) (hb2 _ _) hb3 ok id after hid
theorem tickA (ok : CkOk n1 l1) (n : Int) : ACalls Try.prog G 11 [.ptr h.length 0 0, .i n] (pk2 h n1 g1 l1 n2 g2 l2) (fun r h' => r = .i (tickC n1 n).1 ∧ h' = pk2 h (tickC n1 n).2 g1 l1 n2 g2 l2) := by
  simp only [pk2_a]
  exact tick_calls (ha1 _ _) (ha2 _ _) (hk3 h) ok.n0 ok.n1 n
theorem dueA (ok : CkOk n1 l1) : ACalls Try.prog G 12 [.ptr h.length 0 0] (pk2 h n1 g1 l1 n2 g2 l2) (fun r h' => r = aJ (dueC n1 l1) ∧ h' = pk2 h n1 g1 l1 n2 g2 l2) := by
  simp only [pk2_a]
  exact due_calls (ha1 _ _) (ha2 _ _) (hk3 h) ok
theorem nextA (ok : CkOk n1 l1) : ACalls Try.prog G 13 [.ptr h.length 0 0] (pk2 h n1 g1 l1 n2 g2 l2) (fun r h' => r = .tup [.i (nextC n1 l1).1, .b (nextC n1 l1).2] ∧ h' = pk2 h n1 g1 l1 n2 g2 l2) := by
  simp only [pk2_a]
  exact next_calls (ha1 _ _) (ha2 _ _) (hk3 h) ok
theorem pk2_avl (m : Nat) (hm : h.length + 4 ≤ m) : blksLt m [ckB n1 (h.length + 1) g1 l1, alB g1 l1, ckB n2 (h.length + 3) g2 l2, alB g2 l2] :=
  ⟨⟨trivial, by simp only [avlt]; omega, trivial⟩, cZ_avl _ _ _, ⟨trivial, by simp only [avlt]; omega, trivial⟩, cZ_avl _ _ _, trivial⟩
end

/-- A step of a law. -/
abbrev St3 := Int × Int × Int
def e3 (s : St3) : List PV := [.int .i64 s.1, .int .i64 s.2.1, .int .i64 s.2.2]
abbrev a3 (l : List St3) : AV := .p (.sl (l.map e3))
theorem row3 {l : List St3} {i : Nat} {k : St3} (h : l[i]? = some k) : (l.map e3)[i]? = some [.int .i64 k.1, .int .i64 k.2.1, .int .i64 k.2.2] := by simp [h, e3]

end Go.Proofs.Ytbbmfemplmelhaa.AM
end

section
namespace Go.Proofs
open Go.Shelf
def Try.sortIv_ren : Go.Shelf.Ren := ⟨fun | 6 => 24 | 15 => 35 | 14 => 34 | 28 => 48 | 29 => 49 | 20 => 40 | 21 => 41 | 22 => 42 | 23 => 43 | 24 => 44 | 25 => 45 | 26 => 46 | 27 => 47 | 46 => 51 | 47 => 52 | 48 => 53 | 49 => 54 | 50 => 55 | 57 => 56 | n => n, fun | 22 => 55 | 24 => 59 | 25 => 61 | 3 => 3 | 39 => 71 | 0 => 0 | 53 => 85 | 55 => 87 | 4 => 4 | 46 => 79 | 45 => 78 | 50 => 34 | 5 => 5 | 9 => 9 | 66 => 88 | 70 => 92 | 76 => 94 | 77 => 95 | n => n, fun | n => n⟩
theorem Try.sortIv : Go.Proofs.SlLaysF0.n6 Try.prog Try.sortIv_ren := {
  mixed := by kernel_rfl
  f6 := ⟨Try.f24.name, by decide, Try.func24.trans (congrArg some (by kernel_rfl))⟩
  f14 := ⟨Try.f34.name, by decide, Try.func34.trans (congrArg some (by kernel_rfl))⟩
  f15 := Try.func35.trans (congrArg some (by kernel_rfl))
  f20 := ⟨Try.f40.name, by decide, Try.func40.trans (congrArg some (by kernel_rfl))⟩
  f21 := ⟨Try.f41.name, by decide, Try.func41.trans (congrArg some (by kernel_rfl))⟩
  f22 := ⟨Try.f42.name, by decide, Try.func42.trans (congrArg some (by kernel_rfl))⟩
  f23 := ⟨Try.f43.name, by decide, Try.func43.trans (congrArg some (by kernel_rfl))⟩
  f24 := ⟨Try.f44.name, by decide, Try.func44.trans (congrArg some (by kernel_rfl))⟩
  f25 := ⟨Try.f45.name, by decide, Try.func45.trans (congrArg some (by kernel_rfl))⟩
  f26 := ⟨Try.f46.name, by decide, Try.func46.trans (congrArg some (by kernel_rfl))⟩
  f27 := ⟨Try.f47.name, by decide, Try.func47.trans (congrArg some (by kernel_rfl))⟩
  f28 := Try.func48.trans (congrArg some (by kernel_rfl))
  f29 := Try.func49.trans (congrArg some (by kernel_rfl))
  f46 := ⟨Try.f51.name, by decide, Try.func51.trans (congrArg some (by kernel_rfl))⟩
  f47 := Try.func52.trans (congrArg some (by kernel_rfl))
  f48 := Try.func53.trans (congrArg some (by kernel_rfl))
  f49 := ⟨Try.f54.name, by decide, Try.func54.trans (congrArg some (by kernel_rfl))⟩
  f50 := ⟨Try.f55.name, by decide, Try.func55.trans (congrArg some (by kernel_rfl))⟩
  f57 := ⟨Try.f56.name, by decide, Try.func56.trans (congrArg some (by kernel_rfl))⟩
  t0 := Try.underlying0
  a0 := Try.isAgg0
  z0 := Try.sizeOf0
  v0 := Try.zeroValue0
  t3 := Try.underlying3
  a3 := Try.isAgg3
  z3 := Try.sizeOf3
  v3 := Try.zeroValue3
  t4 := Try.underlying4
  a4 := Try.isAgg4
  z4 := Try.sizeOf4
  v4 := Try.zeroValue4
  t5 := Try.underlying5
  a5 := Try.isAgg5
  z5 := Try.sizeOf5
  v5 := Try.zeroValue5
  t9 := Try.underlying9
  a9 := Try.isAgg9
  z9 := Try.sizeOf9
  v9 := Try.zeroValue9
  t22 := Try.underlying55
  a22 := Try.isAgg55
  z22 := Try.sizeOf55
  v22 := Try.zeroValue55
  t25 := Try.underlying61
  a25 := Try.isAgg61
  z25 := Try.sizeOf61
  v25 := Try.zeroValue61
  t39 := Try.underlying71
  a39 := Try.isAgg71
  z39 := Try.sizeOf71
  v39 := Try.zeroValue71
  t45 := Try.underlying78
  a45 := Try.isAgg78
  z45 := Try.sizeOf78
  v45 := Try.zeroValue78
  t46 := Try.underlying79
  a46 := Try.isAgg79
  z46 := Try.sizeOf79
  v46 := Try.zeroValue79
  t50 := Try.underlying34
  a50 := Try.isAgg34
  z50 := Try.sizeOf34
  v50 := Try.zeroValue34
  t53 := Try.underlying85
  a53 := Try.isAgg85
  z53 := Try.sizeOf85
  v53 := Try.zeroValue85
  t55 := Try.underlying87
  a55 := Try.isAgg87
  z55 := Try.sizeOf87
  v55 := Try.zeroValue87
  t66 := Try.underlying88
  a66 := Try.isAgg88
  z66 := Try.sizeOf88
  v66 := Try.zeroValue88
  t70 := Try.underlying92
  a70 := Try.isAgg92
  z70 := Try.sizeOf92
  v70 := Try.zeroValue92
  t76 := Try.underlying94
  a76 := Try.isAgg94
  z76 := Try.sizeOf94
  v76 := Try.zeroValue94
  t77 := Try.underlying95
  a77 := Try.isAgg95
  z77 := Try.sizeOf95
  v77 := Try.zeroValue95 }
end Go.Proofs
namespace Go.Proofs.Ytbbmfemplmelhaa.AM
open Go Go.Proofs Go.Sort
theorem enc_len {k : Nat} (x : Rec k) : (encR x).length = k := by rw [encR, List.length_map, x.2.1]
theorem enc_one {k : Nat} (x : Rec k) : ∀ v ∈ encR x, v.oneCell' = true := by
  intro v hv
  obtain ⟨n, _, rfl⟩ := List.mem_map.mp hv
  rfl
theorem hskC : SortsK Try.prog 24 25 2 := by
  intro cf hO blk off cap d w hcmp hH hblk hsz
  have eg : ∀ args w, (callFunc 25 args).run Try.prog w = .ok (.enter 25 args) w := enters_of Try.func25 (by kernel_rfl) rfl
  exact AnyQ.slices_SortFunc Try.sortIv 2 (fun w => run_isAgg T59 w) (fun w => run_sizeOf' T59 w) encR enc_len enc_one cf hO 25 #[] blk off cap d w eg hcmp hH hblk hsz
end Go.Proofs.Ytbbmfemplmelhaa.AM
end

section
set_option linter.unusedVariables false
set_option linter.unusedSimpArgs false
namespace Go.Proofs.Ytbbmfemplmelhaa.AM
open Go

mutual
def nrm : PV → PV
  | .nils => .sl []
  | .sl rows => .sl (nrmRows rows)
  | .int k n => .int k n
  | .bool b => .bool b
  | .str s => .str s
  | .nilp => .nilp
  | .nilf => .nilf
  | .nilm => .nilm
def nrmRow : List PV → List PV
  | [] => []
  | x :: r => nrm x :: nrmRow r
def nrmRows : List (List PV) → List (List PV)
  | [] => []
  | x :: r => nrmRow x :: nrmRows r
end

mutual
def nrmA : AV → AV
  | .p x => .p (nrm x)
  | .agg l => .agg (nrmAs l)
  | .tup l => .tup (nrmAs l)
  | .ref b g o s l => .ref b g o s l
  | .ptr b g o => .ptr b g o
  | .pin c => .pin c
  | .mref b g => .mref b g
  | .mp es => .mp es
  | .fn f l => .fn f l
def nrmAs : List AV → List AV
  | [] => []
  | x :: r => nrmA x :: nrmAs r
end

section
variable {P : Program} {G : Nat → Option (List PV)} {ι : Nat → Nat × Nat} {h : Heap} {w : World}

end
end Go.Proofs.Ytbbmfemplmelhaa.AM
end

section
set_option linter.unusedVariables false
set_option linter.unusedSimpArgs false
namespace Go.Proofs.Ytbbmfemplmelhaa.AM
open Go

section
variable {P : Program}

theorem ty_int {k : IntKind} {a b : Nat} {z : Option (List PV)} {t fuel : Nat} {xs : List PV} (ht : tinfo P t = some ⟨.int k, a, b, z⟩) (h : Ty P fuel t xs) : ∃ n, InRange k n ∧ xs = [.int k n] := by
  obtain ⟨_, d, _, h2, h3, _⟩ := tinfo_some ht
  have := kind_int h3; subst this
  cases fuel with
  | zero => exact h.elim
  | succ m => unfold Ty at h; rw [h2] at h; exact h

theorem ty_slice {e a b : Nat} {z : Option (List PV)} {t fuel : Nat} {xs : List PV} (ht : tinfo P t = some ⟨.slice e, a, b, z⟩) (h : Ty P fuel t xs) : ∃ (m : Nat) (rows : List (List PV)), fuel = m + 1 ∧ xs = [.sl rows] ∧ ∀ row ∈ rows, Ty P m e row := by
  obtain ⟨_, d, _, h2, h3, _⟩ := tinfo_some ht
  have := kind_slice h3; subst this
  cases fuel with
  | zero => exact h.elim
  | succ m => unfold Ty at h; rw [h2] at h; obtain ⟨rows, h1, h2⟩ := h; exact ⟨m, rows, rfl, h1, h2⟩

theorem ty_struct {fs : List (Nat × Nat × Nat)} {a b : Nat} {z : Option (List PV)} {t fuel : Nat} {xs : List PV} (ht : tinfo P t = some ⟨.struct fs, a, b, z⟩) (h : Ty P fuel t xs) :
    ∃ (m : Nat) (rows : List (List PV)), fuel = m + 1 ∧ rows.length = fs.length ∧ xs = rows.flatMap id ∧ ∀ (i : Nat) f row, fs[i]? = some f → rows[i]? = some row → Ty P m f.2.2 row := by
  obtain ⟨_, d, _, h2, h3, _⟩ := tinfo_some ht
  obtain ⟨F, rfl, h4⟩ := kind_struct h3
  cases fuel with
  | zero => exact h.elim
  | succ m =>
    unfold Ty at h
    rw [h2] at h
    obtain ⟨rows, g1, g2, g3⟩ := h
    refine ⟨m, rows, rfl, by rw [h4]; simpa using g1, g2, fun i f row hf hr => ?_⟩
    rw [h4] at hf
    simp only [List.getElem?_map, Option.map_eq_some_iff] at hf
    obtain ⟨fd, hfd, rfl⟩ := hf
    exact g3 i fd row (by simpa using hfd) hr

theorem argA_at {i : TI} {t : Nat} (ht : tinfo P t = some i) (xs : List PV) : argA P t xs = if i.isAgg then .agg (xs.map .p) else match xs with | x :: _ => .p x | [] => .undef := by
  obtain ⟨_, d, _, h2, h3, _⟩ := tinfo_some ht
  have : aggT P t = i.isAgg := by
    unfold aggT TI.isAgg
    rw [h2, ← h3]
    cases d <;> rfl
  unfold argA
  rw [this]
  all_goals (cases xs <;> rfl)
end
end Go.Proofs.Ytbbmfemplmelhaa.AM
end

section
set_option linter.unusedVariables false
set_option linter.unusedSimpArgs false
set_option maxRecDepth 4000
set_option maxHeartbeats 4000000
namespace Go.Proofs.Ytbbmfemplmelhaa.AM
open Go Go.Proofs
set_option linter.defProp false in
def gK : Nat → Option (List PV) := fun _ => none
theorem gK_pin {W : World} : ∀ g cells, gK g = some cells → PinRel W (fun _ => False) cells g 0 := fun g cells h => by cases h

theorem argk_num {fuel : Nat} {xs : List PV} (h : Ty Try.prog fuel 3 xs) : ∃ n : Int, n ≤ 9223372036854775807 ∧ argA Try.prog 3 xs = .i n := by
  obtain ⟨n, hn, rfl⟩ := ty_int T3 h
  exact ⟨n, hn.2, by rw [argA_at T3]; simp [TI.isAgg]⟩
theorem stepk_of {fuel : Nat} {xs : List PV} (h : Ty Try.prog fuel 33 xs) : ∃ s : St3, s.2.1 ≤ 9223372036854775807 ∧ xs = e3 s := by
  obtain ⟨m, rows, e, hl, rfl, hf⟩ := ty_struct T33 h
  match rows, hl with
  | [r0, r1, r2], _ =>
    obtain ⟨a, _, rfl⟩ := ty_int T3 (show Ty Try.prog m 3 r0 from hf 0 _ r0 rfl rfl)
    obtain ⟨b, hb, rfl⟩ := ty_int T3 (show Ty Try.prog m 3 r1 from hf 1 _ r1 rfl rfl)
    obtain ⟨c, _, rfl⟩ := ty_int T3 (show Ty Try.prog m 3 r2 from hf 2 _ r2 rfl rfl)
    exact ⟨(a, b, c), hb.2, rfl⟩
theorem stepsk_of {m : Nat} : ∀ rows : List (List PV), (∀ row ∈ rows, Ty Try.prog m 33 row) → ∃ l : List St3, (∀ s ∈ l, s.2.1 ≤ 9223372036854775807) ∧ rows = l.map e3
  | [], _ => ⟨[], by simp, rfl⟩
  | r :: rows, h => by
    obtain ⟨s, hs, rfl⟩ := stepk_of (h r (by simp))
    obtain ⟨l, hl, rfl⟩ := stepsk_of rows fun row hr => h row (by simp [hr])
    exact ⟨s :: l, fun q hq => (List.mem_cons.mp hq).elim (fun e => by rw [e]; exact hs) (hl q), rfl⟩
theorem argk_steps {fuel : Nat} {xs : List PV} (h : Ty Try.prog fuel 31 xs) : ∃ l : List St3, (∀ s ∈ l, s.2.1 ≤ 9223372036854775807) ∧ argA Try.prog 31 xs = a3 l := by
  obtain ⟨m, rows, _, rfl, hr⟩ := ty_slice T31 h
  obtain ⟨l, hl, rfl⟩ := stepsk_of rows hr
  exact ⟨l, hl, by rw [argA_at T31]; simp [TI.isAgg]⟩
end Go.Proofs.Ytbbmfemplmelhaa.AM
end

section
set_option linter.unusedVariables false
namespace Go.Proofs.Ytbbmfemplmelhaa.AM
open Go Go.Proofs Go.Sort Go.Lib Go.Shelf Go.RowKit

/-- One record of two cells is cleared. -/
theorem run_clear_two {P : Program} (w : World) (t e ty : TypeId) (z : Value) (x y : Value) (ht : P.underlying t = some (.slice e)) (hv : ∀ w, (zeroValue e).run P w = .ok z w) (hz : z.cells = #[x, y]) (hx : x.oneCell' = true) (hy : y.oneCell' = true) (b o c : Nat)
    (hc : ∀ j, j < 2 → (w.cell? ⟨b, o + j, none⟩).isSome = true) (hf : ∀ j, j < 2 → w.frozen? ⟨b, o + j, none⟩ = false) :
    (Builtin.clear_ #[t] ty #[.slice (some ⟨b, o, none⟩) 1 c]).run P w = .ok (.tuple #[]) (w.setCells b o [x, y]) := by
  have hzc : (Builtin.zeroCells z.cells 1).toList = [x, y] := by
    rw [hz]
    simp [Builtin.zeroCells, List.range, List.range.loop]
  have hst := run_storeCells_cells (P := P) b o [x, y] 0 w (by simpa using hc) (by simpa using hf) (by intro v hv'; simp at hv'; rcases hv' with rfl | rfl; exact hx; exact hy)
  simp only [Nat.add_zero] at hst
  simp [Builtin.clear_, run_underlying ht, hv, hzc, hst]

set_option maxHeartbeats 4000000 in
set_option maxRecDepth 1000000 in
theorem del_fn (blk off cap n i j : Nat) (F : Array Value) (w : World) (hF : F.size = n * 2) (h1 : ∀ u ∈ F.toList, u.oneCell' = true) (hH : Holds id w blk off F) (hcap : n ≤ cap) (hm : n ≤ 9223372036854775807) (hlt : i < j) (hjn : j ≤ n) (hj1 : Hid (j = i + 1)) :
    Calls Try.prog 31 #[.slice (some ⟨blk, off, none⟩) n cap, Go.Value.int .i64 (i : Int), Go.Value.int .i64 (j : Int)] w fun e w' => e = .returned (.slice (some ⟨blk, off, none⟩) (n - 1) cap) ∧
      ∃ q, w' = putRow id (Sort.ahead w q) blk off (F.toList.take (i * 2) ++ F.toList.drop (j * 2) ++ [Go.Value.int .i64 0, Go.Value.int .i64 0]).toArray := by
  have t55 : Try.prog.underlying 55 = some (.slice 59) := by kernel_rfl
  obtain ⟨i0, _, hi0, _, _, hz1, _, _⟩ := tinfo_some (P := Try.prog) T59
  have hz1 : i0.size = 2 := hz1
  have hi : i < n := by omega
  have mixed : Try.prog.follows .mixedOrders = true := mixed
  have hFl : F.toList.length = n * 2 := by simpa using hF
  -- the cells that are moved to the left
  obtain ⟨news, hnews⟩ : ∃ news, news = F.toList.drop (j * 2) := ⟨_, rfl⟩
  have hlen : news.length = (n - j) * 2 := by rw [hnews, List.length_drop, hFl]; have := hj1.out; omega
  have hget : ∀ t, t < (n - j) * 2 → news[t]? = some F[j * 2 + t]! := by
    intro t ht
    rw [hnews, List.getElem?_drop, Array.getElem?_toList, getElem!_pos F (j * 2 + t) (by omega), Array.getElem?_eq_getElem (by omega)]
  obtain ⟨A, hA, hsrc⟩ : ∃ A : Addr, (if cap = j then some (⟨blk, off, none⟩ : Addr) else some ⟨blk, off + j * 2, none⟩) = some A ∧ Hid (∀ t u, news[t]? = some u → w.drew.cell? (A.add t) = some u) := by
    by_cases h : cap = j
    · refine ⟨⟨blk, off, none⟩, by simp [h], fun t u hu => ?_⟩
      have h0 : news.length = 0 := by rw [hlen]; omega
      rw [List.length_eq_zero_iff.1 h0] at hu
      simp at hu
    · refine ⟨⟨blk, off + j * 2, none⟩, by simp [h], fun t u hu => ?_⟩
      have ht : t < (n - j) * 2 := by
        have := (List.getElem?_eq_some_iff.1 hu).1
        rwa [hlen] at this
      rw [hget t ht] at hu
      rw [Addr.add_lit, show off + j * 2 + t = off + (j * 2 + t) by omega]
      exact (hH (j * 2 + t) (by omega)).1.trans hu
  have s1 : Hid (news.length = (n - j) * 2) := hlen
  have s2 : Hid (∀ u ∈ news, u.oneCell' = true) := by
    intro u hu
    rw [hnews] at hu
    exact h1 u (List.mem_of_mem_drop hu)
  have s3 : Hid (∀ t, t < news.length → (w.drew.cell? ⟨blk, off + i * 2 + t, none⟩).isSome = true ∧ w.drew.frozen? ⟨blk, off + i * 2 + t, none⟩ = false) := by
    intro t ht
    rw [hlen] at ht
    rw [Nat.add_assoc]
    exact ⟨by show (w.cell? _).isSome = true; rw [(hH (i * 2 + t) (by omega)).1]; rfl, (hH (i * 2 + t) (by omega)).2⟩
  -- the world behind the append, behind a name
  obtain ⟨W1, hW1⟩ : ∃ W1, W1 = w.drew.setCells blk (off + i * 2) news := ⟨_, rfl⟩
  have hW1' : W1 = putRow id (Sort.ahead w 1) blk off (lay F (i * 2) (F.toList.drop (j * 2))) := by
    have e := putRow_setCells id (Sort.ahead w 1) blk off (F.toList.drop (j * 2)) F (i * 2) (by rw [List.length_drop, hFl]; have := hj1.out; omega)
    rw [putRow_self id (Sort.ahead w 1) blk off F (holds_ahead id w 1 blk off F hH), List.map_id] at e
    rw [hW1, hnews]
    exact e
  have hH1 : Holds id W1 blk off (lay F (i * 2) (F.toList.drop (j * 2))) := by rw [hW1']; exact holds_putRow id _ blk off F _ (holds_ahead id w 1 blk off F hH) (lay_size _ _ _)
  have hcl : ∀ ty, (Builtin.clear_ #[55] ty #[.slice (some ⟨blk, off + (i + (n - j)) * 2, none⟩) (n - (i + (n - j))) (cap - (i + (n - j)))]).run Try.prog W1 = .ok (.tuple #[]) (W1.setCells blk (off + (i + (n - j)) * 2) [Go.Value.int .i64 0, Go.Value.int .i64 0]) := by
    intro ty
    have e1 : n - (i + (n - j)) = 1 := by have := hj1.out; omega
    rw [e1]
    refine run_clear_two W1 _ _ ty (.agg #[Go.Value.int .i64 0, Go.Value.int .i64 0]) _ _ t55 (fun w => ?_) rfl rfl rfl blk _ _ (fun t ht => ?_) (fun t ht => ?_)
    · exact Try.zeroValue59 w
    · rw [show off + (i + (n - j)) * 2 + t = off + ((i + (n - j)) * 2 + t) by omega, (hH1 _ (by rw [lay_size]; have := hj1.out; omega)).1]; rfl
    · rw [show off + (i + (n - j)) * 2 + t = off + ((i + (n - j)) * 2 + t) by omega]; exact (hH1 _ (by rw [lay_size]; have := hj1.out; omega)).2
  have X : Aside (W1 = putRow id (Sort.ahead w 1) blk off (lay F (i * 2) (F.toList.drop (j * 2)))) := hW1'
  have hW : Hid (W1 = w.drew.setCells blk (off + i * 2) news) := hW1
  have hic : i ≤ cap := by omega
  have hjc : j ≤ cap := by omega
  clear hW1 hW1' hH1 hH hget hnews hlen
  go_enter Try.func31, Try.ntmps31
  go_wp2_with fail
  go_region_law_o (refine step_append_room rfl (.tmp 22) (.tmp 25) 55 rfl 59 i0 2 t55 hi0 hz1 blk off i cap (by simp [Act.eval, Act.put]) A (n - j) (cap - j) news (by simp [Act.eval, Act.put, hA]) s1.out hsrc.out s2.out (by omega) s3.out ?_; rw [← hW.out])
  go_wp2
  go_ret
  have hj := hj1.out
  refine ⟨by rw [show n - 1 = i + (n - j) by omega]; rfl, 1, ?_⟩
  have e2 : j * 2 - i * 2 = 2 := by omega
  have hd := delete_arr F (i * 2) (j * 2) (Go.Value.int .i64 0) (by omega) (by omega)
  rw [e2, show i * 2 + (F.size - j * 2) = (i + (n - j)) * 2 by omega] at hd
  have hl : List.replicate 2 (Go.Value.int .i64 0) = [Go.Value.int .i64 0, Go.Value.int .i64 0] := rfl
  rw [hl] at hd
  rw [← hd, ← putRow_setCells id _ blk off _ _ ((i + (n - j)) * 2) (by rw [lay_size]; simp; omega), ← X.out, List.map_id]
end Go.Proofs.Ytbbmfemplmelhaa.AM
end

section
set_option linter.unusedVariables false
set_option linter.unusedSimpArgs false
set_option maxRecDepth 4000
set_option maxHeartbeats 4000000
namespace Go.Proofs.Ytbbmfemplmelhaa.AM
open Go Go.Proofs Go.Sort
set_option linter.defProp false in
def TTCkT := And.intro T2 (And.intro T3 (And.intro T4 (And.intro T22 (And.intro T25 (And.intro T28 (And.intro T54 (And.intro T55 (And.intro T57 (And.intro T59 T73)))))))))
attribute [local irreducible] awp aops aqops aeops arun arunT
variable {G : Nat → Option (List PV)}

def flA (l : List Al) : List Int := l.flatMap fun a => [a.1, a.2]
theorem flA_app (l m : List Al) : flA (l ++ m) = flA l ++ flA m := List.flatMap_append
theorem cAl_fl (l : List Al) : cAl l = (flA l).map AV.i := by unfold cAl flA; rw [List.map_flatMap]; rfl
theorem flA_len (l : List Al) : (flA l).length = l.length * 2 := by
  have := cAl_len l
  rw [cAl_fl, List.length_map] at this; exact this
theorem flA_take (l : List Al) (j : Nat) (h : j ≤ l.length) : (flA l).take (j * 2) = flA (l.take j) := by
  have e : flA l = flA (l.take j) ++ flA (l.drop j) := by rw [← flA_app, List.take_append_drop]
  rw [e]
  exact List.take_left' (by rw [flA_len, List.length_take]; omega)
theorem flA_drop (l : List Al) (j : Nat) (h : j ≤ l.length) : (flA l).drop (j * 2) = flA (l.drop j) := by
  have e : flA l = flA (l.take j) ++ flA (l.drop j) := by rw [← flA_app, List.take_append_drop]
  rw [e]
  exact List.drop_left' (by rw [flA_len, List.length_take]; omega)
theorem flA_del (l : List Al) (i : Nat) (h : i < l.length) : (flA l).take (i * 2) ++ (flA l).drop ((i + 1) * 2) = flA (l.eraseIdx i) := by
  rw [flA_take _ _ (by omega), flA_drop _ _ h, ← flA_app, List.eraseIdx_eq_take_drop_succ]
theorem cZ_D (g : Nat) (m : List Al) (j : Nat) (x : AV) (h : (cZ (g, true) m)[j]? = some x) : ∃ n, x = AV.i n ∧ (flA m ++ [0, 0])[j]? = some n := by
  unfold cZ at h
  split at h
  · rename_i e
    subst e
    match j, h with
    | 0, h => simp at h; exact ⟨0, h.symm, rfl⟩
    | 1, h => simp at h; exact ⟨0, h.symm, rfl⟩
    | j + 2, h => simp at h
  · rw [cAl_fl, List.getElem?_map] at h
    cases hq : (flA m)[j]? with
    | none => rw [hq] at h; simp at h
    | some n =>
      rw [hq] at h
      simp at h
      exact ⟨n, h.symm, by rw [List.getElem?_append_left (List.getElem?_eq_some_iff.mp hq).1]; exact hq⟩

theorem putRow_other (w : World) (blk off q : Nat) (F : Array Go.Value) (k : Nat) (hne : k ≠ blk) : (putRow id (Sort.ahead w q) blk off F).heap[k]? = w.heap[k]? := by
  show ((Sort.ahead w q).heap.modify blk _)[k]? = _
  rw [Array.getElem?_modify, if_neg (Ne.symm hne)]
  rfl
theorem putRow_blk (w : World) (blk off q : Nat) (F : Array Go.Value) {c : Array Go.Value} {ty : TypeId} {fr : Nat × Nat} (hc : w.heap[blk]? = some (.cells c ty fr)) :
    (putRow id (Sort.ahead w q) blk off F).heap[blk]? = some (.cells (putCells id off F c) ty fr) := by
  show ((Sort.ahead w q).heap.modify blk _)[blk]? = _
  rw [Array.getElem?_modify, if_pos rfl]
  show w.heap[blk]?.map _ = _
  rw [hc]
  rfl

theorem del_calls {h : Heap} {b gg : Nat} {l : List Al} (hb : h[b]? = some (some ⟨gg, cAl l⟩)) (i : Nat) (hi : i < l.length) (hn : l.length ≤ 1000) :
    ACalls Try.prog G 31 [.ref b gg 0 2 l.length, .i i, .i ((i + 1 : Nat) : Int)] h fun r h' => r = .ref b gg 0 2 (l.length - 1) ∧ h' = h.set b (some ⟨gg, cZ (gg, true) (l.eraseIdx i)⟩) := by
  intro ι w vs hS hv
  obtain ⟨hl, hv⟩ := hv
  obtain ⟨v0, v1, v2, rfl⟩ : ∃ v0 v1 v2, vs = #[v0, v1, v2] := by
    obtain ⟨l⟩ := vs
    match l, (show l.length = 3 by simpa using hl.symm) with
    | [a, b, c], _ => exact ⟨a, b, c, rfl⟩
  have h0 := hv 0 _ v0 rfl rfl
  have h1 := hv 1 _ v1 rfl rfl
  have h2 := hv 2 _ v2 rfl rfl
  obtain ⟨rfl, _⟩ := h1.int_inv
  obtain ⟨rfl, _⟩ := h2.int_inv
  have hblt : b < h.length := getElem?_lt hb
  have hcl : (cAl l).length = l.length * 2 := cAl_len l
  have hcne : cAl l ≠ [] := by intro e; have := congrArg List.length e; rw [hcl] at this; simp at this; omega
  have hown : own ι h (ι b).1 := ⟨b, _, hb, hcne, rfl⟩
  cases h0 with
  | ref _ _ _ _ _ A c hn0 hb0 hg0 hv0 =>
  rcases hv0 ⟨_, hb, rfl⟩ with ⟨hz, _⟩ | ⟨rfl, hlc0, _, cs0, ty0, fr0, hcs0, hcsz⟩
  · omega
  obtain ⟨c0, ty, hc0, hlc, hcell⟩ := (hS.hr.blk b _ hb hcne).cells hcs0
  simp only [hcl] at hlc
  have hfl : (flA l).length = l.length * 2 := flA_len l
  have hat : ∀ (j : Nat) (n : Int), (flA l)[j]? = some n → c0[(ι b).2 + j]? = some (.int .i64 n) ∧ InRange .i64 n := by
    intro j n hj
    obtain ⟨v, q1, q2⟩ := hcell j (AV.i n) (by show (cAl l)[j]? = _; rw [cAl_fl, List.getElem?_map, hj]; rfl)
    obtain ⟨rfl, q3⟩ := q2.int_inv
    exact ⟨q1, q3⟩
  have hold : Sort.Holds id w (ι b).1 ((ι b).2 + 0) ((flA l).map (Go.Value.int .i64)).toArray := by
    intro j hj
    have hj' : j < (flA l).length := by simpa using hj
    have e := hat j _ (List.getElem?_eq_getElem hj')
    have eF : (((flA l).map (Go.Value.int .i64)).toArray)[j]! = .int .i64 (flA l)[j] := by rw [getElem!_pos _ j hj]; simp
    refine ⟨?_, ?_⟩
    · unfold World.cell?
      simp only [hc0]
      rw [Nat.add_zero, e.1, eF]; rfl
    · unfold World.frozen?
      simp only [hc0]
      simp
  have key := del_fn (ι b).1 ((ι b).2 + 0) c l.length i (i + 1) ((flA l).map (Go.Value.int .i64)).toArray w (by simp [hfl]) (by
    intro u hu
    simp only [List.mem_map] at hu
    obtain ⟨n, _, rfl⟩ := hu
    rfl) hold hlc0 hn0 (by omega) (by omega) (rfl : i + 1 = i + 1)
  refine key.mono ?_
  rintro e w' ⟨rfl, q, rfl⟩
  have hel : (l.eraseIdx i).length = l.length - 1 := List.length_eraseIdx_of_lt hi
  obtain ⟨D, hD⟩ : ∃ D, D = flA (l.eraseIdx i) ++ [0, 0] := ⟨_, rfl⟩
  have hDl : D.length = l.length * 2 := by rw [hD, List.length_append, flA_len, hel]; simp; omega
  have hDr : ∀ n ∈ D, InRange .i64 n := by
    intro n hn
    rw [hD, ← flA_del l i hi] at hn
    rcases List.mem_append.mp hn with hn | hn
    · have hm : n ∈ flA l := by
        rcases List.mem_append.mp hn with hn | hn
        · exact List.mem_of_mem_take hn
        · exact List.mem_of_mem_drop hn
      obtain ⟨j, hj⟩ := List.getElem?_of_mem hm
      exact (hat j n hj).2
    · have : n = 0 := by simpa using hn
      subst this; exact zero_in
  obtain ⟨F', hF'⟩ : ∃ F', F' = (D.map (Go.Value.int .i64)).toArray := ⟨_, rfl⟩
  have hFe : (((flA l).map (Go.Value.int .i64)).toArray.toList.take (i * 2) ++ ((flA l).map (Go.Value.int .i64)).toArray.toList.drop ((i + 1) * 2) ++ [Go.Value.int .i64 0, Go.Value.int .i64 0]).toArray = F' := by
    rw [hF', hD, ← flA_del l i hi]
    simp
  rw [hFe]
  have hFs : F'.size = l.length * 2 := by rw [hF']; simp [hDl]
  obtain ⟨C', hC'⟩ : ∃ C', C' = cZ (gg, true) (l.eraseIdx i) := ⟨_, rfl⟩
  have hCl : C'.length ≤ l.length * 2 := by
    rw [hC']
    unfold cZ
    split
    · simp; omega
    · rw [cAl_len, hel]; omega
  have hCne : C' ≠ [] := by
    rw [hC']
    unfold cZ
    split
    · simp
    · rename_i hne
      intro e
      have := congrArg List.length e
      rw [cAl_len] at this
      exact hne (List.eq_nil_of_length_eq_zero (by simp at this; omega))
  have hCat : ∀ (j : Nat) x, C'[j]? = some x → ∃ n, x = AV.i n ∧ D[j]? = some n := by rw [hC', hD]; exact cZ_D gg _
  rw [← hC']
  have hps : (putCells id ((ι b).2 + 0) F' c0).size = c0.size := by simp [putCells]
  obtain ⟨u1, u2⟩ := hS.upd (h' := h.set b (some ⟨gg, C'⟩)) (ι' := ι) (w' := putRow id (Sort.ahead w q) (ι b).1 ((ι b).2 + 0) F') b
    ⟨gg, C'⟩ (ι b).1 (ι b).2 (putCells id ((ι b).2 + 0) F' c0) ty (.inr ⟨hblt, ⟨_, hb, Nat.le_refl _⟩, rfl⟩)
    (fun i => by split <;> rename_i q <;> first | (subst q; rfl) | rfl) (.inr ⟨_, hb, hcne, rfl, fun cs ty' fr hq => by rw [hc0] at hq; cases hq; exact hps⟩) hCne
    (putRow_blk _ _ _ _ _ hc0) (by rw [hps]; simp only; omega) (fun j x hx => by
      obtain ⟨n, rfl, hn⟩ := hCat j x hx
      have hj : j < l.length * 2 := by rw [← hDl]; exact (List.getElem?_eq_some_iff.mp hn).1
      have hin : (ι b).2 + j < c0.size := by omega
      refine ⟨.int .i64 n, ?_, .p _ _ (.int _ _ (hDr n (List.mem_of_getElem? hn)))⟩
      simp only [putCells, Array.getElem?_mapIdx, Array.getElem?_eq_getElem hin, Option.map_some, hFs, id]
      rw [if_pos (by omega)]
      have : (ι b).2 + j - ((ι b).2 + 0) = j := by omega
      rw [this, getElem!_pos F' j (by omega)]
      subst hF'
      have hDj : D[j]? = some n := hn
      simp [(List.getElem?_eq_some_iff.mp hDj).2])
    (by rw [size_putRow]; exact Nat.le_refl _) (fun k hk hkn => putRow_other _ _ _ _ _ _ hkn) (fun bk hbk _ => rfl) rfl rfl rfl (show w.drawn ≤ w.drawn + q from Nat.le_add_right _ _)
  have hset : (h.set b (some ⟨gg, C'⟩))[b]? = some (some ⟨gg, C'⟩) := List.getElem?_set_self hblt
  refine ⟨_, .ref b gg 0 2 (l.length - 1), _, ι, rfl, ⟨rfl, rfl⟩, u1, .ref _ _ _ _ _ _ _ (by omega) (by simpa using hblt) (fun bk hk => by rw [hset] at hk; cases hk; exact Nat.le_refl _) fun _ => .inr ⟨rfl, by omega, ⟨_, hset, hCne⟩, _, _, _, putRow_blk _ _ _ _ _ hc0, ?_⟩, u2⟩
  rw [hps]
  have : c0.size = cs0.size := by rw [hc0] at hcs0; cases hcs0; rfl
  omega

section
variable {h : Heap} {b lb : Nat} {g : Gz} {now : Int} {l : List Al}
theorem pk_del (hb : b < h.length) (hl : lb < h.length) (hne : b ≠ lb) (m : List Al) (n : Nat) (hn : n = m.length) :
    (((putK h b lb now g l).set lb (some ⟨g.1, cZ (g.1, true) m⟩)).set b (some ⟨0, [.i now, .ref lb g.1 0 2 n]⟩)) = putK h b lb now (g.1, true) m := by
  subst hn
  unfold putK
  rw [List.set_set, List.set_comm _ _ (fun e => hne e.symm), List.set_set]
  rfl

theorem drop_calls (hb : b < h.length) (hl : lb < h.length) (hne : b ≠ lb) (ok : CkOk now l) (id : Int) :
    ACalls Try.prog G 21 [.ptr b 0 0, .i id] (putK h b lb now g l) (fun r h' => r = .i (dropC l id).1 ∧ h' = putK h b lb now (if (dropC l id).1 = 0 then (g.1, true) else g) (dropC l id).2) := by
  have h64 := ok.len
  have hfd := find_calls (G := G) (now := now) (g := g) hb hl hne (Nat.le_trans ok.len (by omega)) id
  rcases findA_spec (p := fun a => a.2 == id) l 0 with ⟨h1, h2⟩ | ⟨i, a, h1, h2, h3⟩
  · have e : dropC l id = (6, l) := by unfold dropC; rw [h1]; rfl
    rw [h1] at hfd
    rw [e]
    refine acalls_pure (rl := []) mixed Try.func21 rfl (rs := [.tmp 4]) rfl Try.ntmps21 (by simp) ?_
    repeat' (first | ((first | refine aops_nil ?_ | refine aqops_nil ?_); (try simp only [NB])) | ((repeat ((fail_if_success (refine hK _ ?_)); clear hK K)); refine hK _ ?_; clear hK K) | ((first | refine aops_k fun K1 hK1 => ?_ | refine aqops_k fun K1 hK1 => ?_ | refine awp_cond_k fun A B hA hB => ?_); simp only [S1, simprocAttr, TTCkT]; first | (refine hK1 _ ?_; clear hK1 K1) | ((first | refine hA ?_ | refine hB ?_); clear hA hB A B) | ((first | apply call_a E22 | apply call_q E22); exact hfd; (refine hK1 _ ?_; clear hK1 K1)) | (((first | (refine ⟨fun hg => hA ?_, fun hg => hB ?_⟩ <;> clear hA hB A B) | refine ⟨fun hg => ?_, fun hg => ?_⟩) <;> (try simp only [BN2] at hg) <;> (try simp only [hg, cond_true, cond_false])) <;> (try (refine hK1 _ ?_; clear hK1 K1)) <;> (try simp only [BN3] at hg))) | (refine awp_seq_k fun K hK => ?_) | ((first | refine awp_region ?_ | refine awp_draw (by kernel_rfl) ?_ | refine awp_block ?_ | refine awp_exit ?_ | refine awp_skip ?_ | refine awp_ret ?_); (try simp only [NB, simprocAttr])))
    all_goals simp only [EndP, FinP, resA, resL, resA1, lastV, lastA, lastAs, pur, purs, take_app, List.take_length, S1, simprocAttr, TTCkT, Nat.le_add_right, Nat.le_refl, pk_take0]
    all_goals rfl
  · rw [Nat.zero_add] at h1
    have hil := (List.getElem?_eq_some_iff.mp h2).1
    have j0 : ¬ ((i : Int) < 0) := by omega
    have e : dropC l id = (0, l.eraseIdx i) := by unfold dropC; rw [h1, if_neg j0, Int.toNat_natCast]
    rw [h1] at hfd
    rw [e]
    have hnx : IntKind.i64.wrap ((i : Int) + 1) = ((i + 1 : Nat) : Int) := by rw [IntWalk.i64_in _ (by omega)]; omega
    have hlb : (putK h b lb now g l)[lb]? = some (some ⟨g.1, cAl l⟩) := by rw [pk_lb0 hl, alB, cZ_at h2]
    have hdl := del_calls (G := G) hlb i hil (by omega)
    have hbs : ∀ x : Option Blk, ((putK h b lb now g l).set lb x)[b]? = some (ckB now lb g l) := fun x => by rw [List.getElem?_set_ne (fun e => hne e.symm)]; exact pk_b0 hb hne
    have hpd := pk_del (now := now) (g := g) (l := l) hb hl hne (l.eraseIdx i) (l.length - 1) (List.length_eraseIdx_of_lt hil).symm
    refine acalls_heap (rl := []) mixed Try.func21 rfl (rs := [.tmp 4]) rfl Try.ntmps21 (by simp) ?_
    repeat' (first | ((first | refine aops_nil ?_ | refine aqops_nil ?_); (try simp only [NB])) | ((repeat ((fail_if_success (refine hK _ ?_)); clear hK K)); refine hK _ ?_; clear hK K) | ((first | refine aops_k fun K1 hK1 => ?_ | refine aqops_k fun K1 hK1 => ?_ | refine awp_cond_k fun A B hA hB => ?_); simp only [S1, simprocAttr, TTCkT, j0, hnx, hbs, hpd, pk_b0 hb hne, ckB, pk_len, Nat.zero_add]; first | (refine hK1 _ ?_; clear hK1 K1) | ((first | refine hA ?_ | refine hB ?_); clear hA hB A B) | ((first | apply call_a E22 | apply call_q E22); exact hfd; (refine hK1 _ ?_; clear hK1 K1)) | ((first | apply call_a E31 | apply call_q E31); exact hdl; (refine hK1 _ ?_; clear hK1 K1)) | (((first | (refine ⟨fun hg => hA ?_, fun hg => hB ?_⟩ <;> clear hA hB A B) | refine ⟨fun hg => ?_, fun hg => ?_⟩) <;> (try simp only [BN2] at hg) <;> (try simp only [hg, cond_true, cond_false])) <;> (try (refine hK1 _ ?_; clear hK1 K1)) <;> (try simp only [BN3] at hg))) | (refine awp_seq_k fun K hK => ?_) | ((first | refine awp_region ?_ | refine awp_draw (by kernel_rfl) ?_ | refine awp_block ?_ | refine awp_exit ?_ | refine awp_skip ?_ | refine awp_ret ?_); (try simp only [NB, simprocAttr])))
    all_goals simp only [EndH, FinH, resA, resL, resA1, lastV, lastA, lastAs, pur, purs, pk_len, pk_take, pk_take0, S1, simprocAttr, Nat.le_add_right, Nat.le_refl] <;> first | exact pk_keep' hl | exact ⟨pk_keep' hl, rfl⟩ | exact ⟨pk_keep' hl, rfl, rfl⟩
end
end Go.Proofs.Ytbbmfemplmelhaa.AM
end
