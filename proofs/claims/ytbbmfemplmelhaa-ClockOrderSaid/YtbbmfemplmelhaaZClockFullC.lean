/- Proved here, in parts, for one law: Contracts: where an alarm stands; a time later. Contracts: a clock ticks. Contracts: how long until an alarm, until the next one. Contracts: an alarm is set. The abstract machine, part W: what a function hands back is told otherwise at its end. Contracts: a new clock. Contracts: the alarms that are due; equal lists. Contracts: two alarms that are due at once; a nil clock. The laws ClockNil, ClockFull, ClockGoes. The law ClockFull. The law ClockGoes. The law ClockOrder. slices.SortFunc of alarms, from the shelf. The first part was printed by the kit's lay-shelf tool in its plain mode, for seat Ytbbmfemplmelhaa of TURN r4. The abstract machine, part R: what is told of empty slices holds of nil ones. The abstract machine, part S: what typed cells are, told by the facts of their types. What the laws of clocks are given. Conditions: none. -/
import Derived.Test.YtbbmfemplmelhaaZClockFullB
import Derived.Shelf.SlSortCmp.WholeK
import Derived.Shelf.SlGeneric

section
set_option linter.unusedVariables false
set_option linter.unusedSimpArgs false
set_option maxRecDepth 4000
set_option maxHeartbeats 4000000
namespace Go.Proofs.Ytbbmfemplmelhaa.AM
open Go Go.Proofs
set_option linter.defProp false in
def TTCkF := And.intro T2 (And.intro T3 (And.intro T4 (And.intro T22 (And.intro T55 (And.intro T57 (And.intro T59 T68))))))
attribute [local irreducible] awp aops aqops aeops arun arunT
variable {G : Nat → Option (List PV)}

theorem takeC_st (fs : List (Nat × Nat × Nat)) (sz by' : Nat) (z : Option (List PV)) (cells : List AV) : takeA ⟨.struct fs, sz, by', z⟩ cells = if sz ≤ cells.length then some (.agg (cells.take sz)) else none := by unfold takeA; rfl

def findA (p : Al → Bool) : List Al → Nat → Int
  | [], _ => -1
  | k :: r, i => if p k then (i : Int) else findA p r (i + 1)
theorem findA_step {p : Al → Bool} {l : List Al} {i : Nat} {k : Al} (hk : l[i]? = some k) : findA p (l.drop i) i = if p k then (i : Int) else findA p (l.drop (i + 1)) (i + 1) := by
  obtain ⟨h, e⟩ := List.getElem?_eq_some_iff.mp hk
  rw [List.drop_eq_getElem_cons h, e]; rfl

theorem find1_calls (a : Al) (id : Int) {H : Heap} {bx : Nat} (hb : H[bx]? = some (some ⟨0, [.i id]⟩)) (hlt : bx < H.length) : ACalls Try.prog G 33 [.agg [.i a.1, .i a.2], .ptr bx 0 0] H (fun r h' => r = .b (a.2 == id) ∧ h' = H) := by
  have hb' : ∀ L : Heap, (H ++ L)[bx]? = some (some ⟨0, [.i id]⟩) := fun L => by rw [List.getElem?_append_left hlt]; exact hb
  refine acalls_pure (rl := []) mixed Try.func33 rfl (rs := [.tmp 3]) rfl Try.ntmps33 (by simp) ?_
  repeat' (first | ((first | refine aops_nil ?_ | refine aqops_nil ?_); (try simp only [NB])) | ((repeat ((fail_if_success (refine hK _ ?_)); clear hK K)); refine hK _ ?_; clear hK K) | ((first | refine aops_k fun K1 hK1 => ?_ | refine aqops_k fun K1 hK1 => ?_ | refine awp_cond_k fun A B hA hB => ?_); simp only [S1, simprocAttr, TTCkF, hb, hb']; first | (refine hK1 _ ?_; clear hK1 K1) | ((first | refine hA ?_ | refine hB ?_); clear hA hB A B) | (((first | (refine ⟨fun hg => hA ?_, fun hg => hB ?_⟩ <;> clear hA hB A B) | refine ⟨fun hg => ?_, fun hg => ?_⟩) <;> (try simp only [BN2] at hg) <;> (try simp only [hg, cond_true, cond_false])) <;> (try (refine hK1 _ ?_; clear hK1 K1)) <;> (try simp only [BN3] at hg))) | (refine awp_seq_k fun K hK => ?_) | ((first | refine awp_region ?_ | refine awp_draw (by kernel_rfl) ?_ | refine awp_block ?_ | refine awp_exit ?_ | refine awp_skip ?_ | refine awp_ret ?_); (try simp only [NB, simprocAttr])))
  all_goals simp only [EndP, FinP, resA, resL, resA1, lastV, lastA, lastAs, pur, purs, take_app, List.take_length, S1, simprocAttr, TTCkF, Nat.le_add_right, Nat.le_refl]

theorem indexA_calls {f : FuncId} (hE : Enters Try.prog f) {caps : List AV} {p : Al → Bool} {l : List Al} {lb g : Nat} (hl : l.length ≤ 100) {H : Heap} (hlb : H[lb]? = some (some ⟨g, cAl l⟩)) (hlt : lb < H.length) (hcap : avlts H.length caps)
    (hc0 : ∀ a ∈ l, ACalls Try.prog G f (.agg [.i a.1, .i a.2] :: caps) H (fun r h' => r = .b (p a) ∧ h' = H)) :
    ACalls Try.prog G 32 [.ref lb g 0 2 l.length, .fn f caps] H (fun r h' => r = .i (findA p l 0) ∧ h' = H) := by
  refine acalls_pure (rl := []) mixed Try.func32 rfl (rs := [.tmp 4]) rfl Try.ntmps32 (by simp) ?_
  repeat' (first | ((first | refine aops_nil ?_ | refine aqops_nil ?_); (try simp only [NB])) | ((repeat ((fail_if_success (refine hK _ ?_)); clear hK K)); refine hK _ ?_; clear hK K) | ((first | refine aops_k fun K1 hK1 => ?_ | refine aqops_k fun K1 hK1 => ?_ | refine awp_cond_k fun A B hA hB => ?_); simp only [S1, simprocAttr, TTCkF]; first | (refine hK1 _ ?_; clear hK1 K1) | ((first | refine hA ?_ | refine hB ?_); clear hA hB A B) | (((first | (refine ⟨fun hg => hA ?_, fun hg => hB ?_⟩ <;> clear hA hB A B) | refine ⟨fun hg => ?_, fun hg => ?_⟩) <;> (try simp only [BN2] at hg) <;> (try simp only [hg, cond_true, cond_false])) <;> (try (refine hK1 _ ?_; clear hK1 K1)) <;> (try simp only [BN3] at hg))) | (refine awp_seq_k fun K hK => ?_) | ((first | refine awp_region ?_ | refine awp_draw (by kernel_rfl) ?_ | refine awp_block ?_ | refine awp_exit ?_ | refine awp_skip ?_ | refine awp_ret ?_); (try simp only [NB, simprocAttr])))
  refine awp_for l.length 19 (fun i => [(8, .i i), (7, .i l.length), (0, .ref lb g 0 2 l.length), (1, .fn f caps)]) (fun i => []) (fun i => findA p l 0 = findA p (l.drop i) i) ?_ rfl fun i hi hp K hK => ?_
  · (refine ⟨rfl, (by first | exact ⟨_, rfl⟩ | exact ⟨[], by simp⟩), ?_, ?_⟩ <;> simp only [keeps, avlt, avlts, blksLt, frL, upd_get, S1, simprocAttr, List.length_map, Int.natCast_zero, AV.p.injEq, PV.int.injEq, PV.bool.injEq, PV.sl.injEq] <;> (try and_intros) <;> (try assumption) <;> (try trivial) <;> (try omega))
  rcases Nat.lt_or_ge i l.length with hlt2 | hge
  · obtain ⟨k, hx⟩ : ∃ k, l[i]? = some k := ⟨_, List.getElem?_eq_getElem hlt2⟩
    have hm := List.mem_of_getElem? hx
    rw [findA_step hx] at hp
    have jl : (i : Int) < (l.length : Int) := by omega
    have j0 : (0 : Int) ≤ (i : Int) := by omega
    have hnx : IntKind.i64.wrap ((i : Int) + 1) = ((i + 1 : Nat) : Int) := by rw [IntWalk.i64_in _ (by omega)]; omega
    have ht := cAl_take2 l i k hx
    have hle : 2 ≤ l.length * 2 - i * 2 := by omega
    repeat' (first | ((first | refine aops_nil ?_ | refine aqops_nil ?_); (try simp only [NB])) | ((repeat ((fail_if_success (refine hK _ ?_)); clear hK K)); refine hK _ ?_; clear hK K) | ((first | refine aops_k fun K1 hK1 => ?_ | refine aqops_k fun K1 hK1 => ?_ | refine awp_cond_k fun A B hA hB => ?_); simp only [S1, simprocAttr, TTCkF, jl, j0, hnx, hlb, takeC_st, ht, hle, cAl_len, List.length_drop, Nat.zero_add]; first | (refine hK1 _ ?_; clear hK1 K1) | ((first | refine hA ?_ | refine hB ?_); clear hA hB A B) | ((first | apply call_a hE | apply call_q hE); exact (hc0 k hm); (refine hK1 _ ?_; clear hK1 K1)) | (((first | (refine ⟨fun hg => hA ?_, fun hg => hB ?_⟩ <;> clear hA hB A B) | refine ⟨fun hg => ?_, fun hg => ?_⟩) <;> (try simp only [BN2] at hg) <;> (try simp only [hg, cond_true, cond_false])) <;> (try (refine hK1 _ ?_; clear hK1 K1)) <;> (try simp only [BN3] at hg))) | (refine awp_seq_k fun K hK => ?_) | ((first | refine awp_region ?_ | refine awp_draw (by kernel_rfl) ?_ | refine awp_block ?_ | refine awp_exit ?_ | refine awp_skip ?_ | refine awp_ret ?_); (try simp only [NB, simprocAttr])))
    · simp only [EndP, FinP, resA, resL, resA1, lastV, lastA, lastAs, pur, purs, take_app, List.take_length, S1, simprocAttr, TTCkF, Nat.le_add_right, Nat.le_refl]
      simp [hp, hg]
    · exact ⟨hlt2, by simpa [hg] using hp, by (refine ⟨rfl, (by first | exact ⟨_, rfl⟩ | exact ⟨[], by simp⟩), ?_, ?_⟩ <;> simp only [keeps, avlt, avlts, blksLt, frL, upd_get, S1, simprocAttr, List.length_map, Int.natCast_zero, AV.p.injEq, PV.int.injEq, PV.bool.injEq, PV.sl.injEq] <;> (try and_intros) <;> (try assumption) <;> (try trivial) <;> (try omega))⟩
  · obtain rfl : i = l.length := by omega
    repeat' (first | ((first | refine aops_nil ?_ | refine aqops_nil ?_); (try simp only [NB])) | ((repeat ((fail_if_success (refine hK _ ?_)); clear hK K)); refine hK _ ?_; clear hK K) | ((first | refine aops_k fun K1 hK1 => ?_ | refine aqops_k fun K1 hK1 => ?_ | refine awp_cond_k fun A B hA hB => ?_); simp only [S1, simprocAttr, TTCkF, Int.lt_irrefl]; first | (refine hK1 _ ?_; clear hK1 K1) | ((first | refine hA ?_ | refine hB ?_); clear hA hB A B) | (((first | (refine ⟨fun hg => hA ?_, fun hg => hB ?_⟩ <;> clear hA hB A B) | refine ⟨fun hg => ?_, fun hg => ?_⟩) <;> (try simp only [BN2] at hg) <;> (try simp only [hg, cond_true, cond_false])) <;> (try (refine hK1 _ ?_; clear hK1 K1)) <;> (try simp only [BN3] at hg))) | (refine awp_seq_k fun K hK => ?_) | ((first | refine awp_region ?_ | refine awp_draw (by kernel_rfl) ?_ | refine awp_block ?_ | refine awp_exit ?_ | refine awp_skip ?_ | refine awp_ret ?_); (try simp only [NB, simprocAttr])))
    simp only [EndP, FinP, resA, resL, resA1, lastV, lastA, lastAs, pur, purs, take_app, List.take_length, S1, simprocAttr, TTCkF, Nat.le_add_right, Nat.le_refl]
    rw [List.drop_length] at hp
    simp [hp, findA]

section
variable {h : Heap} {b lb g : Nat} {now : Int} {l : List Al}
theorem find_calls (hb : b < h.length) (hl : lb < h.length) (hne : b ≠ lb) (hn : l.length ≤ 100) (id : Int) :
    ACalls Try.prog G 22 [.ptr b 0 0, .i id] (putK h b lb now g l) (fun r h' => r = .i (findA (fun a => a.2 == id) l 0) ∧ h' = putK h b lb now g l) := by
  have hE := E33
  have hlen : (putK h b lb now g l).length = h.length := pk_len
  have hfc := fun (a : Al) => find1_calls (G := G) a id (H := putK h b lb now g l ++ [some ⟨0, [.i id]⟩]) (bx := h.length) (pk_get0 _) (by rw [List.length_append, hlen]; simp)
  have hix := indexA_calls (G := G) hE (caps := [.ptr h.length 0 0]) (p := fun a => a.2 == id) hn (H := putK h b lb now g l ++ [some ⟨0, [.i id]⟩]) (pk_lb (b := b) (now := now) (g := g) (l := l) hl _) (by rw [List.length_append, hlen]; omega) ⟨by rw [List.length_append, hlen]; exact Nat.lt_succ_self _, trivial⟩ (fun a _ => hfc a)
  refine acalls_pure (rl := []) mixed Try.func22 rfl (rs := [.tmp 4]) rfl Try.ntmps22 (by simp) ?_
  repeat' (first | ((first | refine aops_nil ?_ | refine aqops_nil ?_); (try simp only [NB])) | ((repeat ((fail_if_success (refine hK _ ?_)); clear hK K)); refine hK _ ?_; clear hK K) | ((first | refine aops_k fun K1 hK1 => ?_ | refine aqops_k fun K1 hK1 => ?_ | refine awp_cond_k fun A B hA hB => ?_); simp only [S1, simprocAttr, TTCkF, pk_len, pk_b hb hne, ckB]; first | (refine hK1 _ ?_; clear hK1 K1) | ((first | refine hA ?_ | refine hB ?_); clear hA hB A B) | ((first | apply call_a E32 | apply call_q E32); exact hix; (refine hK1 _ ?_; clear hK1 K1)) | (((first | (refine ⟨fun hg => hA ?_, fun hg => hB ?_⟩ <;> clear hA hB A B) | refine ⟨fun hg => ?_, fun hg => ?_⟩) <;> (try simp only [BN2] at hg) <;> (try simp only [hg, cond_true, cond_false])) <;> (try (refine hK1 _ ?_; clear hK1 K1)) <;> (try simp only [BN3] at hg))) | (refine awp_seq_k fun K hK => ?_) | ((first | refine awp_region ?_ | refine awp_draw (by kernel_rfl) ?_ | refine awp_block ?_ | refine awp_exit ?_ | refine awp_skip ?_ | refine awp_ret ?_); (try simp only [NB, simprocAttr])))
  all_goals simp only [EndP, FinP, resA, resL, resA1, lastV, lastA, lastAs, pur, purs, take_app, List.take_length, S1, simprocAttr, TTCkF, Nat.le_add_right, Nat.le_refl, pk_take, pk_len]

theorem later_calls (hb : b < h.length) (hl : lb < h.length) (hne : b ≠ lb) (h0 : 0 ≤ now) (h1 : now ≤ maxC) (n : Int) (hn0 : 0 ≤ n) (hn1 : n ≤ maxC) :
    ACalls Try.prog G 23 [.ptr b 0 0, .i n] (putK h b lb now g l) (fun r h' => r = (if n > maxC - now then .tup [.i 0, .b false] else .tup [.i (now + n), .b true]) ∧ h' = putK h b lb now g l) := by
  have hw : IntKind.i64.wrap (1099511627776 - now) = 1099511627776 - now := IntWalk.i64_in _ (by unfold maxC at h1; omega)
  have hw2 : IntKind.i64.wrap (now + n) = now + n := IntWalk.i64_in _ (by unfold maxC at h1 hn1; omega)
  by_cases hc : n > maxC - now
  · have hc' : 1099511627776 - now < n := by unfold maxC at hc; omega
    rw [if_pos hc]
    refine acalls_pure (rl := []) mixed Try.func23 rfl (rs := [.tmp 4, .tmp 5]) rfl Try.ntmps23 (by simp) ?_
    repeat' (first | ((first | refine aops_nil ?_ | refine aqops_nil ?_); (try simp only [NB])) | ((repeat ((fail_if_success (refine hK _ ?_)); clear hK K)); refine hK _ ?_; clear hK K) | ((first | refine aops_k fun K1 hK1 => ?_ | refine aqops_k fun K1 hK1 => ?_ | refine awp_cond_k fun A B hA hB => ?_); simp only [S1, simprocAttr, TTCkF, hw, hw2, hc']; first | (refine hK1 _ ?_; clear hK1 K1) | ((first | refine hA ?_ | refine hB ?_); clear hA hB A B) | ((first | apply call_a E17 | apply call_q E17); exact (now_calls hb hl hne); (refine hK1 _ ?_; clear hK1 K1)) | (((first | (refine ⟨fun hg => hA ?_, fun hg => hB ?_⟩ <;> clear hA hB A B) | refine ⟨fun hg => ?_, fun hg => ?_⟩) <;> (try simp only [BN2] at hg) <;> (try simp only [hg, cond_true, cond_false])) <;> (try (refine hK1 _ ?_; clear hK1 K1)) <;> (try simp only [BN3] at hg))) | (refine awp_seq_k fun K hK => ?_) | ((first | refine awp_region ?_ | refine awp_draw (by kernel_rfl) ?_ | refine awp_block ?_ | refine awp_exit ?_ | refine awp_skip ?_ | refine awp_ret ?_); (try simp only [NB, simprocAttr])))
    all_goals simp only [EndP, FinP, resA, resL, resA1, lastV, lastA, lastAs, pur, purs, take_app, List.take_length, S1, simprocAttr, TTCkF, Nat.le_add_right, Nat.le_refl, pk_take0]
  · have hc' : ¬ (1099511627776 - now < n) := by unfold maxC at hc; omega
    rw [if_neg hc]
    refine acalls_pure (rl := []) mixed Try.func23 rfl (rs := [.tmp 4, .tmp 5]) rfl Try.ntmps23 (by simp) ?_
    repeat' (first | ((first | refine aops_nil ?_ | refine aqops_nil ?_); (try simp only [NB])) | ((repeat ((fail_if_success (refine hK _ ?_)); clear hK K)); refine hK _ ?_; clear hK K) | ((first | refine aops_k fun K1 hK1 => ?_ | refine aqops_k fun K1 hK1 => ?_ | refine awp_cond_k fun A B hA hB => ?_); simp only [S1, simprocAttr, TTCkF, hw, hw2, hc']; first | (refine hK1 _ ?_; clear hK1 K1) | ((first | refine hA ?_ | refine hB ?_); clear hA hB A B) | ((first | apply call_a E17 | apply call_q E17); exact (now_calls hb hl hne); (refine hK1 _ ?_; clear hK1 K1)) | (((first | (refine ⟨fun hg => hA ?_, fun hg => hB ?_⟩ <;> clear hA hB A B) | refine ⟨fun hg => ?_, fun hg => ?_⟩) <;> (try simp only [BN2] at hg) <;> (try simp only [hg, cond_true, cond_false])) <;> (try (refine hK1 _ ?_; clear hK1 K1)) <;> (try simp only [BN3] at hg))) | (refine awp_seq_k fun K hK => ?_) | ((first | refine awp_region ?_ | refine awp_draw (by kernel_rfl) ?_ | refine awp_block ?_ | refine awp_exit ?_ | refine awp_skip ?_ | refine awp_ret ?_); (try simp only [NB, simprocAttr])))
    all_goals simp only [EndP, FinP, resA, resL, resA1, lastV, lastA, lastAs, pur, purs, take_app, List.take_length, S1, simprocAttr, TTCkF, Nat.le_add_right, Nat.le_refl, pk_take0]
end
end Go.Proofs.Ytbbmfemplmelhaa.AM
end

section
set_option linter.unusedVariables false
set_option linter.unusedSimpArgs false
set_option maxRecDepth 4000
set_option maxHeartbeats 4000000
namespace Go.Proofs.Ytbbmfemplmelhaa.AM
open Go Go.Proofs
set_option linter.defProp false in
def TTCkG := And.intro T2 (And.intro T3 (And.intro T4 (And.intro T22 (And.intro T25 (And.intro T28 (And.intro T54 (And.intro T55 (And.intro T57 (And.intro T59 T73)))))))))
attribute [local irreducible] awp aops aqops aeops arun arunT
variable {G : Nat → Option (List PV)}
section
variable {h : Heap} {b lb g g0 : Nat} {now now0 : Int} {l l0 : List Al}
theorem pk_keep' (hl : lb < h.length) (i : Nat) (bk : Blk) (hi : (putK h b lb now g l)[i]? = some (some bk)) : (putK h b lb now0 g0 l0)[i]? = some (some bk) ∨ ∀ x, x ∈ bk.cells → AVlt h.length x :=
  (pk_keep hl i bk hi).imp id fun hx => by rw [pk_len] at hx; exact avlts_lt _ hx

theorem tick_calls (hb : b < h.length) (hl : lb < h.length) (hne : b ≠ lb) (h0 : 0 ≤ now) (h1 : now ≤ maxC) (n : Int) :
    ACalls Try.prog G 11 [.ptr b 0 0, .i n] (putK h b lb now g l) (fun r h' => r = .i (tickC now n).1 ∧ h' = putK h b lb (tickC now n).2 g l) := by
  by_cases ha : n < 0
  · have e : tickC now n = (1, now) := by unfold tickC; rw [if_pos (.inl ha)]
    rw [e]
    refine acalls_pure (rl := []) mixed Try.func11 rfl (rs := [.tmp 4]) rfl Try.ntmps11 (by simp) ?_
    repeat' (first | ((first | refine aops_nil ?_ | refine aqops_nil ?_); (try simp only [NB])) | ((repeat ((fail_if_success (refine hK _ ?_)); clear hK K)); refine hK _ ?_; clear hK K) | ((first | refine aops_k fun K1 hK1 => ?_ | refine aqops_k fun K1 hK1 => ?_ | refine awp_cond_k fun A B hA hB => ?_); simp only [S1, simprocAttr, TTCkG, ha]; first | (refine hK1 _ ?_; clear hK1 K1) | ((first | refine hA ?_ | refine hB ?_); clear hA hB A B) | (refine join_x (v := ?_) (fun hg hk9 => ?_) ?_; rotate_left; (focus (try ((try simp only [BN] at hg); simp only [S1, simprocAttr, TTCkG, ha, hg] at hk9 ⊢)); first | exact hk9); (refine hK1 _ ?_; clear hK1 K1)) | (((first | (refine ⟨fun hg => hA ?_, fun hg => hB ?_⟩ <;> clear hA hB A B) | refine ⟨fun hg => ?_, fun hg => ?_⟩) <;> (try simp only [BN2] at hg) <;> (try simp only [hg, cond_true, cond_false])) <;> (try (refine hK1 _ ?_; clear hK1 K1)) <;> (try simp only [BN3] at hg))) | (refine awp_seq_k fun K hK => ?_) | ((first | refine awp_region ?_ | refine awp_draw (by kernel_rfl) ?_ | refine awp_block ?_ | refine awp_exit ?_ | refine awp_skip ?_ | refine awp_ret ?_); (try simp only [NB, simprocAttr])))
    all_goals simp only [EndP, FinP, resA, resL, resA1, lastV, lastA, lastAs, pur, purs, take_app, List.take_length, S1, simprocAttr, TTCkG, Nat.le_add_right, Nat.le_refl, pk_take0]
  by_cases hc : 1099511627776 < n
  · have e : tickC now n = (1, now) := by unfold tickC; rw [if_pos (.inr hc)]
    rw [e]
    refine acalls_pure (rl := []) mixed Try.func11 rfl (rs := [.tmp 4]) rfl Try.ntmps11 (by simp) ?_
    repeat' (first | ((first | refine aops_nil ?_ | refine aqops_nil ?_); (try simp only [NB])) | ((repeat ((fail_if_success (refine hK _ ?_)); clear hK K)); refine hK _ ?_; clear hK K) | ((first | refine aops_k fun K1 hK1 => ?_ | refine aqops_k fun K1 hK1 => ?_ | refine awp_cond_k fun A B hA hB => ?_); simp only [S1, simprocAttr, TTCkG, ha, hc]; first | (refine hK1 _ ?_; clear hK1 K1) | ((first | refine hA ?_ | refine hB ?_); clear hA hB A B) | (refine join_x (v := ?_) (fun hg hk9 => ?_) ?_; rotate_left; (focus (try ((try simp only [BN] at hg); simp only [S1, simprocAttr, TTCkG, ha, hc, hg] at hk9 ⊢)); first | exact hk9); (refine hK1 _ ?_; clear hK1 K1)) | (((first | (refine ⟨fun hg => hA ?_, fun hg => hB ?_⟩ <;> clear hA hB A B) | refine ⟨fun hg => ?_, fun hg => ?_⟩) <;> (try simp only [BN2] at hg) <;> (try simp only [hg, cond_true, cond_false])) <;> (try (refine hK1 _ ?_; clear hK1 K1)) <;> (try simp only [BN3] at hg))) | (refine awp_seq_k fun K hK => ?_) | ((first | refine awp_region ?_ | refine awp_draw (by kernel_rfl) ?_ | refine awp_block ?_ | refine awp_exit ?_ | refine awp_skip ?_ | refine awp_ret ?_); (try simp only [NB, simprocAttr])))
    all_goals simp only [EndP, FinP, resA, resL, resA1, lastV, lastA, lastAs, pur, purs, take_app, List.take_length, S1, simprocAttr, TTCkG, Nat.le_add_right, Nat.le_refl, pk_take0]
  have hlt := later_calls (G := G) (g := g) (l := l) hb hl hne h0 h1 n (by omega) (by unfold maxC; omega)
  have e0 : ¬ (n < 0 ∨ n > maxC) := by unfold maxC; omega
  by_cases hm : n > maxC - now
  · have e : tickC now n = (40, now) := by unfold tickC; rw [if_neg e0, if_pos hm]
    rw [if_pos hm] at hlt
    rw [e]
    refine acalls_pure (rl := []) mixed Try.func11 rfl (rs := [.tmp 4]) rfl Try.ntmps11 (by simp) ?_
    repeat' (first | ((first | refine aops_nil ?_ | refine aqops_nil ?_); (try simp only [NB])) | ((repeat ((fail_if_success (refine hK _ ?_)); clear hK K)); refine hK _ ?_; clear hK K) | ((first | refine aops_k fun K1 hK1 => ?_ | refine aqops_k fun K1 hK1 => ?_ | refine awp_cond_k fun A B hA hB => ?_); simp only [S1, simprocAttr, TTCkG, ha, hc]; first | (refine hK1 _ ?_; clear hK1 K1) | ((first | refine hA ?_ | refine hB ?_); clear hA hB A B) | ((first | apply call_a E23 | apply call_q E23); exact hlt; (refine hK1 _ ?_; clear hK1 K1)) | (refine join_x (v := ?_) (fun hg hk9 => ?_) ?_; rotate_left; (focus (try ((try simp only [BN] at hg); simp only [S1, simprocAttr, TTCkG, ha, hc, hg] at hk9 ⊢)); first | exact hk9 | ((first | apply call_a E23 | apply call_q E23); exact hlt; exact hk9)); (refine hK1 _ ?_; clear hK1 K1)) | (((first | (refine ⟨fun hg => hA ?_, fun hg => hB ?_⟩ <;> clear hA hB A B) | refine ⟨fun hg => ?_, fun hg => ?_⟩) <;> (try simp only [BN2] at hg) <;> (try simp only [hg, cond_true, cond_false])) <;> (try (refine hK1 _ ?_; clear hK1 K1)) <;> (try simp only [BN3] at hg))) | (refine awp_seq_k fun K hK => ?_) | ((first | refine awp_region ?_ | refine awp_draw (by kernel_rfl) ?_ | refine awp_block ?_ | refine awp_exit ?_ | refine awp_skip ?_ | refine awp_ret ?_); (try simp only [NB, simprocAttr])))
    all_goals simp only [EndP, FinP, resA, resL, resA1, lastV, lastA, lastAs, pur, purs, take_app, List.take_length, S1, simprocAttr, TTCkG, Nat.le_add_right, Nat.le_refl, pk_take0]
  · have e : tickC now n = (0, now + n) := by unfold tickC; rw [if_neg e0, if_neg hm]
    rw [if_neg hm] at hlt
    rw [e]
    have hst := atomic_store (G := G) (P := Try.prog) store_fn (pk_b0 (now := now) (g := g) (l := l) hb hne) (off := 0) (n := now + n) rfl
    have hnw : (putK h b lb now g l).set b (some ⟨0, ([.i now, .ref lb g 0 2 l.length] : List AV).set 0 (AV.i (now + n))⟩) = putK h b lb (now + n) g l := pk_now hb hne
    rw [hnw] at hst
    refine acalls_heap (rl := []) mixed Try.func11 rfl (rs := [.tmp 4]) rfl Try.ntmps11 (by simp) ?_
    repeat' (first | ((first | refine aops_nil ?_ | refine aqops_nil ?_); (try simp only [NB])) | ((repeat ((fail_if_success (refine hK _ ?_)); clear hK K)); refine hK _ ?_; clear hK K) | ((first | refine aops_k fun K1 hK1 => ?_ | refine aqops_k fun K1 hK1 => ?_ | refine awp_cond_k fun A B hA hB => ?_); simp only [S1, simprocAttr, TTCkG, ha, hc, pk_len]; first | (refine hK1 _ ?_; clear hK1 K1) | ((first | refine hA ?_ | refine hB ?_); clear hA hB A B) | ((first | apply call_a E23 | apply call_q E23); exact hlt; (refine hK1 _ ?_; clear hK1 K1)) | ((first | apply call_a E26 | apply call_q E26); exact hst; (refine hK1 _ ?_; clear hK1 K1)) | (refine join_x (v := ?_) (fun hg hk9 => ?_) ?_; rotate_left; (focus (try ((try simp only [BN] at hg); simp only [S1, simprocAttr, TTCkG, ha, hc, pk_len, hg] at hk9 ⊢)); first | exact hk9 | ((first | apply call_a E23 | apply call_q E23); exact hlt; exact hk9) | ((first | apply call_a E26 | apply call_q E26); exact hst; exact hk9)); (refine hK1 _ ?_; clear hK1 K1)) | (((first | (refine ⟨fun hg => hA ?_, fun hg => hB ?_⟩ <;> clear hA hB A B) | refine ⟨fun hg => ?_, fun hg => ?_⟩) <;> (try simp only [BN2] at hg) <;> (try simp only [hg, cond_true, cond_false])) <;> (try (refine hK1 _ ?_; clear hK1 K1)) <;> (try simp only [BN3] at hg))) | (refine awp_seq_k fun K hK => ?_) | ((first | refine awp_region ?_ | refine awp_draw (by kernel_rfl) ?_ | refine awp_block ?_ | refine awp_exit ?_ | refine awp_skip ?_ | refine awp_ret ?_); (try simp only [NB, simprocAttr])))
    all_goals simp only [EndH, FinH, resA, resL, resA1, lastV, lastA, lastAs, pur, purs, pk_len, pk_take, pk_take0, S1, simprocAttr, Nat.le_add_right, Nat.le_refl] <;> first | exact pk_keep' hl | exact ⟨pk_keep' hl, rfl⟩ | exact ⟨pk_keep' hl, rfl, rfl⟩
end
end Go.Proofs.Ytbbmfemplmelhaa.AM
end

section
set_option linter.unusedVariables false
set_option linter.unusedSimpArgs false
set_option maxRecDepth 4000
set_option maxHeartbeats 4000000
namespace Go.Proofs.Ytbbmfemplmelhaa.AM
open Go Go.Proofs
set_option linter.defProp false in
def TTCkH := And.intro T2 (And.intro T3 (And.intro T4 (And.intro T22 (And.intro T25 (And.intro T28 (And.intro T54 (And.intro T55 (And.intro T57 (And.intro T59 T73)))))))))
attribute [local irreducible] awp aops aqops aeops arun arunT
variable {G : Nat → Option (List PV)}

theorem findA_spec {p : Al → Bool} : ∀ (l : List Al) (k : Nat), (findA p l k = -1 ∧ l.find? p = none) ∨ ∃ (i : Nat) (a : Al), findA p l k = ((k + i : Nat) : Int) ∧ l[i]? = some a ∧ l.find? p = some a
  | [], k => .inl ⟨rfl, rfl⟩
  | x :: l, k => by
    unfold findA
    rw [List.find?_cons]
    cases hx : p x with
    | true => exact .inr ⟨0, x, by simp, rfl, rfl⟩
    | false =>
      rcases findA_spec l (k + 1) with ⟨h1, h2⟩ | ⟨i, a, h1, h2, h3⟩
      · exact .inl ⟨by simpa using h1, by simpa using h2⟩
      · exact .inr ⟨i + 1, a, by simp only [Bool.false_eq_true, if_false, h1]; omega, h2, by simpa using h3⟩

section
variable {h : Heap} {b lb g : Nat} {now : Int} {l : List Al}
theorem max_is (x : Int) : (if (0 : Int) < x then x else 0) = max 0 x := by omega

theorem left_calls (hb : b < h.length) (hl : lb < h.length) (hne : b ≠ lb) (ok : CkOk now l) (id : Int) :
    ACalls Try.prog G 15 [.ptr b 0 0, .i id] (putK h b lb now g l) (fun r h' => r = .tup [.i (leftC now l id).1, .b (leftC now l id).2] ∧ h' = putK h b lb now g l) := by
  have hfd := find_calls (G := G) (now := now) (g := g) hb hl hne (Nat.le_trans ok.len (by omega)) id
  have h64 := ok.len
  rcases findA_spec (p := fun a => a.2 == id) l 0 with ⟨h1, h2⟩ | ⟨i, a, h1, h2, h3⟩
  · have e : leftC now l id = (0, false) := by unfold leftC; rw [h2]
    rw [h1] at hfd
    rw [e]
    refine acalls_pure (rl := []) mixed Try.func15 rfl (rs := [.tmp 4, .tmp 5]) rfl Try.ntmps15 (by simp) ?_
    repeat' (first | ((first | refine aops_nil ?_ | refine aqops_nil ?_); (try simp only [NB])) | ((repeat ((fail_if_success (refine hK _ ?_)); clear hK K)); refine hK _ ?_; clear hK K) | ((first | refine aops_k fun K1 hK1 => ?_ | refine aqops_k fun K1 hK1 => ?_ | refine awp_cond_k fun A B hA hB => ?_); simp only [S1, simprocAttr, TTCkH]; first | (refine hK1 _ ?_; clear hK1 K1) | ((first | refine hA ?_ | refine hB ?_); clear hA hB A B) | ((first | apply call_a E22 | apply call_q E22); exact hfd; (refine hK1 _ ?_; clear hK1 K1)) | (((first | (refine ⟨fun hg => hA ?_, fun hg => hB ?_⟩ <;> clear hA hB A B) | refine ⟨fun hg => ?_, fun hg => ?_⟩) <;> (try simp only [BN2] at hg) <;> (try simp only [hg, cond_true, cond_false])) <;> (try (refine hK1 _ ?_; clear hK1 K1)) <;> (try simp only [BN3] at hg))) | (refine awp_seq_k fun K hK => ?_) | ((first | refine awp_region ?_ | refine awp_draw (by kernel_rfl) ?_ | refine awp_block ?_ | refine awp_exit ?_ | refine awp_skip ?_ | refine awp_ret ?_); (try simp only [NB, simprocAttr])))
    all_goals simp only [EndP, FinP, resA, resL, resA1, lastV, lastA, lastAs, pur, purs, take_app, List.take_length, S1, simprocAttr, TTCkH, Nat.le_add_right, Nat.le_refl, pk_take0]
  · have e : leftC now l id = (max 0 (a.1 - now), true) := by unfold leftC; rw [h3]
    rw [Nat.zero_add] at h1
    rw [h1] at hfd
    rw [e, ← max_is]
    have ht := cAl_take2 l i a h2
    have hil := (List.getElem?_eq_some_iff.mp h2).1
    have hle : 2 ≤ l.length * 2 - i * 2 := by omega
    have hat := cAl_at l i a h2
    have hd0 : ((cAl l).drop (i * 2))[0]? = some (AV.i a.1) := by rw [List.getElem?_drop]; exact hat.1
    have jl : (i : Int) < (l.length : Int) := by omega
    have j0 : ¬ ((i : Int) < 0) := by omega
    have j1 : (0 : Int) ≤ (i : Int) := by omega
    have ha := ok.at_ a (List.mem_of_getElem? h2)
    have hw : IntKind.i64.wrap (a.1 - now) = a.1 - now := IntWalk.i64_in _ (by have := ok.n0; have := ok.n1; unfold maxC at *; omega)
    have hdd : (cAl l).drop (i * 2) = .i a.1 :: .i a.2 :: (cAl l).drop (i * 2 + 2) := by
      rw [cAl_drop, List.drop_eq_getElem_cons hil, (List.getElem?_eq_some_iff.mp h2).2]
      rw [show i * 2 + 2 = (i + 1) * 2 by omega, cAl_drop]; rfl
    refine acalls_pure (rl := []) mixed Try.func15 rfl (rs := [.tmp 4, .tmp 5]) rfl Try.ntmps15 (by simp) ?_
    repeat' (first | ((first | refine aops_nil ?_ | refine aqops_nil ?_); (try simp only [NB])) | ((repeat ((fail_if_success (refine hK _ ?_)); clear hK K)); refine hK _ ?_; clear hK K) | ((first | refine aops_k fun K1 hK1 => ?_ | refine aqops_k fun K1 hK1 => ?_ | refine awp_cond_k fun A B hA hB => ?_); simp only [S1, simprocAttr, TTCkH, jl, j0, j1, pk_b0 hb hne, pk_lb0 hl, ckB, alB, takeC_st, hdd, hle, hw, cAl_len, List.length_drop, Nat.zero_add]; first | (refine hK1 _ ?_; clear hK1 K1) | ((first | refine hA ?_ | refine hB ?_); clear hA hB A B) | ((first | apply call_a E22 | apply call_q E22); exact hfd; (refine hK1 _ ?_; clear hK1 K1)) | ((first | apply call_a E17 | apply call_q E17); exact (now_calls hb hl hne); (refine hK1 _ ?_; clear hK1 K1)) | (((first | (refine ⟨fun hg => hA ?_, fun hg => hB ?_⟩ <;> clear hA hB A B) | refine ⟨fun hg => ?_, fun hg => ?_⟩) <;> (try simp only [BN2] at hg) <;> (try simp only [hg, cond_true, cond_false])) <;> (try (refine hK1 _ ?_; clear hK1 K1)) <;> (try simp only [BN3] at hg))) | (refine awp_seq_k fun K hK => ?_) | ((first | refine awp_region ?_ | refine awp_draw (by kernel_rfl) ?_ | refine awp_block ?_ | refine awp_exit ?_ | refine awp_skip ?_ | refine awp_ret ?_); (try simp only [NB, simprocAttr])))
    all_goals simp only [EndP, FinP, resA, resL, resA1, lastV, lastA, lastAs, pur, purs, take_app, List.take_length, S1, simprocAttr, TTCkH, Nat.le_add_right, Nat.le_refl, pk_take0]

theorem next_calls (hb : b < h.length) (hl : lb < h.length) (hne : b ≠ lb) (ok : CkOk now l) :
    ACalls Try.prog G 13 [.ptr b 0 0] (putK h b lb now g l) (fun r h' => r = .tup [.i (nextC now l).1, .b (nextC now l).2] ∧ h' = putK h b lb now g l) := by
  have h64 := ok.len
  cases hq : l with
  | nil =>
    refine acalls_pure (rl := []) mixed Try.func13 rfl (rs := [.tmp 2, .tmp 3]) rfl Try.ntmps13 (by simp) ?_
    repeat' (first | ((first | refine aops_nil ?_ | refine aqops_nil ?_); (try simp only [NB])) | ((repeat ((fail_if_success (refine hK _ ?_)); clear hK K)); refine hK _ ?_; clear hK K) | ((first | refine aops_k fun K1 hK1 => ?_ | refine aqops_k fun K1 hK1 => ?_ | refine awp_cond_k fun A B hA hB => ?_); simp only [S1, simprocAttr, TTCkH, pk_b0 hb hne, pk_lb0 hl, ckB, alB]; first | (refine hK1 _ ?_; clear hK1 K1) | ((first | refine hA ?_ | refine hB ?_); clear hA hB A B) | (refine join_x (v := ?_) (fun hg hk9 => ?_) ?_; rotate_left; (focus (try ((try simp only [BN] at hg); simp only [S1, simprocAttr, TTCkH, pk_b0 hb hne, pk_lb0 hl, ckB, alB, hg] at hk9 ⊢)); first | exact hk9); (refine hK1 _ ?_; clear hK1 K1)) | (((first | (refine ⟨fun hg => hA ?_, fun hg => hB ?_⟩ <;> clear hA hB A B) | refine ⟨fun hg => ?_, fun hg => ?_⟩) <;> (try simp only [BN2] at hg) <;> (try simp only [hg, cond_true, cond_false])) <;> (try (refine hK1 _ ?_; clear hK1 K1)) <;> (try simp only [BN3] at hg))) | (refine awp_seq_k fun K hK => ?_) | ((first | refine awp_region ?_ | refine awp_draw (by kernel_rfl) ?_ | refine awp_block ?_ | refine awp_exit ?_ | refine awp_skip ?_ | refine awp_ret ?_); (try simp only [NB, simprocAttr])))
    all_goals simp only [EndP, FinP, resA, resL, resA1, lastV, lastA, lastAs, pur, purs, take_app, List.take_length, S1, simprocAttr, TTCkH, Nat.le_add_right, Nat.le_refl, pk_take0, nextC]
  | cons a r =>
    rw [hq] at ok h64
    have ha := ok.at_ a (List.mem_cons_self ..)
    have hw : IntKind.i64.wrap (a.1 - now) = a.1 - now := IntWalk.i64_in _ (by have := ok.n0; have := ok.n1; unfold maxC at *; omega)
    have hz : (((r.length + 1 : Nat) : Int) == 0) = false := by simp; omega
    have hz' : ((r.length : Int) + 1 == 0) = false := by simp; omega
    have hp : (0 : Int) < ((r.length + 1 : Nat) : Int) := by omega
    have hp' : (0 : Int) < (r.length : Int) + 1 := by omega
    have hdd : (cAl (a :: r)).drop (0 * 2) = .i a.1 :: .i a.2 :: cAl r := rfl
    have hc : cAl (a :: r) = .i a.1 :: .i a.2 :: cAl r := rfl
    show ACalls _ _ _ _ _ (fun r' h' => r' = .tup [.i (max 0 (a.1 - now)), .b true] ∧ h' = _)
    rw [← max_is]
    refine acalls_pure (rl := []) mixed Try.func13 rfl (rs := [.tmp 2, .tmp 3]) rfl Try.ntmps13 (by simp) ?_
    repeat' (first | ((first | refine aops_nil ?_ | refine aqops_nil ?_); (try simp only [NB])) | ((repeat ((fail_if_success (refine hK _ ?_)); clear hK K)); refine hK _ ?_; clear hK K) | ((first | refine aops_k fun K1 hK1 => ?_ | refine aqops_k fun K1 hK1 => ?_ | refine awp_cond_k fun A B hA hB => ?_); simp only [S1, simprocAttr, TTCkH, pk_b0 hb hne, pk_lb0 hl, ckB, alB, takeC_st, hc, hw, hz, hz', hp, hp', cAl_len, List.length_drop, Nat.zero_add]; first | (refine hK1 _ ?_; clear hK1 K1) | ((first | refine hA ?_ | refine hB ?_); clear hA hB A B) | ((first | apply call_a E17 | apply call_q E17); exact (now_calls hb hl hne); (refine hK1 _ ?_; clear hK1 K1)) | (refine join_x (v := ?_) (fun hg hk9 => ?_) ?_; rotate_left; (focus (try ((try simp only [BN] at hg); simp only [S1, simprocAttr, TTCkH, pk_b0 hb hne, pk_lb0 hl, ckB, alB, takeC_st, hc, hw, hz, hz', hp, hp', cAl_len, List.length_drop, Nat.zero_add, hg] at hk9 ⊢)); first | exact hk9 | ((first | apply call_a E17 | apply call_q E17); exact (now_calls hb hl hne); exact hk9)); (refine hK1 _ ?_; clear hK1 K1)) | (((first | (refine ⟨fun hg => hA ?_, fun hg => hB ?_⟩ <;> clear hA hB A B) | refine ⟨fun hg => ?_, fun hg => ?_⟩) <;> (try simp only [BN2] at hg) <;> (try simp only [hg, cond_true, cond_false])) <;> (try (refine hK1 _ ?_; clear hK1 K1)) <;> (try simp only [BN3] at hg))) | (refine awp_seq_k fun K hK => ?_) | ((first | refine awp_region ?_ | refine awp_draw (by kernel_rfl) ?_ | refine awp_block ?_ | refine awp_exit ?_ | refine awp_skip ?_ | refine awp_ret ?_); (try simp only [NB, simprocAttr])))
    all_goals simp only [EndP, FinP, resA, resL, resA1, lastV, lastA, lastAs, pur, purs, take_app, List.take_length, S1, simprocAttr, TTCkH, Nat.le_add_right, Nat.le_refl, pk_take0]
end
end Go.Proofs.Ytbbmfemplmelhaa.AM
end

section
set_option linter.unusedVariables false
set_option linter.unusedSimpArgs false
set_option maxRecDepth 4000
set_option maxHeartbeats 4000000
namespace Go.Proofs.Ytbbmfemplmelhaa.AM
open Go Go.Proofs Go.Sort
set_option linter.defProp false in
def TTCkI := And.intro T2 (And.intro T3 (And.intro T4 (And.intro T22 (And.intro T25 (And.intro T28 (And.intro T54 (And.intro T55 (And.intro T57 (And.intro T59 T73)))))))))
attribute [local irreducible] awp aops aqops aeops arun arunT
variable {G : Nat → Option (List PV)}

theorem findA_has (p : Al → Bool) : ∀ (l : List Al) (k : Nat), decide ((0 : Int) ≤ findA p l k) = l.any p
  | [], k => rfl
  | x :: l, k => by
    unfold findA
    cases h : p x with
    | true => simp [h]
    | false => simp [h, findA_has p l (k + 1)]

section
variable {h : Heap} {b lb g : Nat} {now : Int} {l : List Al}
/-- A row of alarms is sorted. -/
theorem sortC_calls (hsk : SortsK Try.prog 24 25 2) (hb : b < h.length) (hl : lb < h.length) (hne : b ≠ lb) {m out : List Al} (hm : m ≠ []) (hm1 : m.length ≤ 1000)
    (hr : ∀ a ∈ m, InRange .i64 a.1 ∧ InRange .i64 a.2) (hp : out.Perm m) (hs : srtA out) :
    ACalls Try.prog G 24 [.ref lb g 0 2 m.length, .fn 25 []] (putK h b lb now g m) (fun r h' => r = .undef ∧ h' = putK h b lb now g out) := by
  have hcm : ∀ x y : Rec 2, ACalls Try.prog G 25 [.agg (cellR x), .agg (cellR y)] [] fun r h' => r = .i (cmpL x.1 y.1) := by
    intro x y
    obtain ⟨a, i, e1⟩ := rec2 x
    obtain ⟨c, j, e2⟩ := rec2 y
    have hx : cellR x = [.i a, .i i] := by unfold cellR; rw [e1]; rfl
    have hy : cellR y = [.i c, .i j] := by unfold cellR; rw [e2]; rfl
    rw [hx, hy, e1, e2]
    intro ι w vs hS hv
    refine (alarm_calls (G := G) (a, i) (c, j) [] ι w vs hS hv).mono ?_
    rintro e w' ⟨v, r, h', ι', q1, ⟨q2, _⟩, q3⟩
    exact ⟨v, r, h', ι', q1, q2, q3⟩
  have key := sort_lists (G := G) (k := 2) (by omega) hsk cmpL cmpL_swo hcm (h := putK h b lb now g m) (b := lb) (gg := g) (off := 0) (pre := []) (post := []) (rows := m.map recA) (out := out.map recA)
    (by rw [pk_lb0 hl, cAl_recs]; simp [alB]) rfl (by simpa using hm) (by rw [List.length_map]; omega)
    (fun r hr' => by obtain ⟨a, ha, rfl⟩ := List.mem_map.mp hr'; exact ⟨rfl, fun n hn => by simp [recA] at hn; rcases hn with rfl | rfl; exact (hr a ha).1; exact (hr a ha).2⟩)
    (hp.map _) (by rw [List.pairwise_map]; exact hs) (fun x y hx hy a1 a2 => by
      obtain ⟨a, _, rfl⟩ := List.mem_map.mp hx
      obtain ⟨c, _, rfl⟩ := List.mem_map.mp hy
      rw [cmpA_anti (x := a) (y := c) a1 a2])
  rw [List.length_map] at key
  intro ι w vs hS hv
  refine (key ι w vs hS hv).mono ?_
  rintro e w' ⟨v, r, h', ι', q1, ⟨q2, q3⟩, q4⟩
  refine ⟨v, r, h', ι', q1, ⟨q2, ?_⟩, q4⟩
  rw [q3, cAl_recs]
  have := pk_list (h := h) (b := b) (now := now) (g := g) (l := m) (l' := out) hl hp.length_eq
  simpa using this

theorem pk_push (hb : b < h.length) (hl : lb < h.length) (hne : b ≠ lb) (a : Al) :
    (((putK h b lb now g l).set lb (some ⟨g + 1, cAl l ++ [.i a.1, .i a.2]⟩)).set b (some ⟨0, [.i now, .ref lb (g + 1) 0 2 (l.length + 1)]⟩)) = putK h b lb now (g + 1) (l ++ [a]) := by
  unfold putK
  rw [List.set_set, List.set_comm _ _ (fun e => hne e.symm), List.set_set]
  unfold ckB alB
  rw [cAl_app, List.length_append]; rfl

theorem set_calls (hsk : SortsK Try.prog 24 25 2) (hb : b < h.length) (hl : lb < h.length) (hne : b ≠ lb) (ok : CkOk now l) (id after : Int) (hid : id ≤ 9223372036854775807) :
    ACalls Try.prog G 10 [.ptr b 0 0, .i id, .i after] (putK h b lb now g l) (fun r h' => r = .i (setC now l id after).1 ∧ h' = putK h b lb now (if (setC now l id after).1 = 0 then g + 1 else g) (setC now l id after).2) := by
  have h64 := ok.len
  by_cases c1 : id < 0
  · have e : setC now l id after = (1, l) := by unfold setC; rw [if_pos (.inl c1)]
    rw [e]
    refine acalls_pure (rl := []) mixed Try.func10 rfl (rs := [.tmp 6]) rfl Try.ntmps10 (by simp) ?_
    repeat' (first | ((first | refine aops_nil ?_ | refine aqops_nil ?_); (try simp only [NB])) | ((repeat ((fail_if_success (refine hK _ ?_)); clear hK K)); refine hK _ ?_; clear hK K) | ((first | refine aops_k fun K1 hK1 => ?_ | refine aqops_k fun K1 hK1 => ?_ | refine awp_cond_k fun A B hA hB => ?_); simp only [S1, simprocAttr, TTCkI, c1]; first | (refine hK1 _ ?_; clear hK1 K1) | ((first | refine hA ?_ | refine hB ?_); clear hA hB A B) | (refine join_x (v := ?_) (fun hg hk9 => ?_) ?_; rotate_left; (focus (try ((try simp only [BN] at hg); simp only [S1, simprocAttr, TTCkI, c1, hg] at hk9 ⊢)); first | exact hk9); (refine hK1 _ ?_; clear hK1 K1)) | (((first | (refine ⟨fun hg => hA ?_, fun hg => hB ?_⟩ <;> clear hA hB A B) | refine ⟨fun hg => ?_, fun hg => ?_⟩) <;> (try simp only [BN2] at hg) <;> (try simp only [hg, cond_true, cond_false])) <;> (try (refine hK1 _ ?_; clear hK1 K1)) <;> (try simp only [BN3] at hg))) | (refine awp_seq_k fun K hK => ?_) | ((first | refine awp_region ?_ | refine awp_draw (by kernel_rfl) ?_ | refine awp_block ?_ | refine awp_exit ?_ | refine awp_skip ?_ | refine awp_ret ?_); (try simp only [NB, simprocAttr])))
    all_goals simp only [EndP, FinP, resA, resL, resA1, lastV, lastA, lastAs, pur, purs, take_app, List.take_length, S1, simprocAttr, TTCkI, Nat.le_add_right, Nat.le_refl, pk_take0]
    all_goals rfl
  by_cases c2 : after < 0
  · have e : setC now l id after = (1, l) := by unfold setC; rw [if_pos (.inr (.inl c2))]
    rw [e]
    refine acalls_pure (rl := []) mixed Try.func10 rfl (rs := [.tmp 6]) rfl Try.ntmps10 (by simp) ?_
    repeat' (first | ((first | refine aops_nil ?_ | refine aqops_nil ?_); (try simp only [NB])) | ((repeat ((fail_if_success (refine hK _ ?_)); clear hK K)); refine hK _ ?_; clear hK K) | ((first | refine aops_k fun K1 hK1 => ?_ | refine aqops_k fun K1 hK1 => ?_ | refine awp_cond_k fun A B hA hB => ?_); simp only [S1, simprocAttr, TTCkI, c1, c2]; first | (refine hK1 _ ?_; clear hK1 K1) | ((first | refine hA ?_ | refine hB ?_); clear hA hB A B) | (refine join_x (v := ?_) (fun hg hk9 => ?_) ?_; rotate_left; (focus (try ((try simp only [BN] at hg); simp only [S1, simprocAttr, TTCkI, c1, c2, hg] at hk9 ⊢)); first | exact hk9); (refine hK1 _ ?_; clear hK1 K1)) | (((first | (refine ⟨fun hg => hA ?_, fun hg => hB ?_⟩ <;> clear hA hB A B) | refine ⟨fun hg => ?_, fun hg => ?_⟩) <;> (try simp only [BN2] at hg) <;> (try simp only [hg, cond_true, cond_false])) <;> (try (refine hK1 _ ?_; clear hK1 K1)) <;> (try simp only [BN3] at hg))) | (refine awp_seq_k fun K hK => ?_) | ((first | refine awp_region ?_ | refine awp_draw (by kernel_rfl) ?_ | refine awp_block ?_ | refine awp_exit ?_ | refine awp_skip ?_ | refine awp_ret ?_); (try simp only [NB, simprocAttr])))
    all_goals simp only [EndP, FinP, resA, resL, resA1, lastV, lastA, lastAs, pur, purs, take_app, List.take_length, S1, simprocAttr, TTCkI, Nat.le_add_right, Nat.le_refl, pk_take0]
    all_goals rfl
  by_cases c3 : 1099511627776 < after
  · have e : setC now l id after = (1, l) := by unfold setC; rw [if_pos (.inr (.inr c3))]
    rw [e]
    refine acalls_pure (rl := []) mixed Try.func10 rfl (rs := [.tmp 6]) rfl Try.ntmps10 (by simp) ?_
    repeat' (first | ((first | refine aops_nil ?_ | refine aqops_nil ?_); (try simp only [NB])) | ((repeat ((fail_if_success (refine hK _ ?_)); clear hK K)); refine hK _ ?_; clear hK K) | ((first | refine aops_k fun K1 hK1 => ?_ | refine aqops_k fun K1 hK1 => ?_ | refine awp_cond_k fun A B hA hB => ?_); simp only [S1, simprocAttr, TTCkI, c1, c2, c3]; first | (refine hK1 _ ?_; clear hK1 K1) | ((first | refine hA ?_ | refine hB ?_); clear hA hB A B) | (refine join_x (v := ?_) (fun hg hk9 => ?_) ?_; rotate_left; (focus (try ((try simp only [BN] at hg); simp only [S1, simprocAttr, TTCkI, c1, c2, c3, hg] at hk9 ⊢)); first | exact hk9); (refine hK1 _ ?_; clear hK1 K1)) | (((first | (refine ⟨fun hg => hA ?_, fun hg => hB ?_⟩ <;> clear hA hB A B) | refine ⟨fun hg => ?_, fun hg => ?_⟩) <;> (try simp only [BN2] at hg) <;> (try simp only [hg, cond_true, cond_false])) <;> (try (refine hK1 _ ?_; clear hK1 K1)) <;> (try simp only [BN3] at hg))) | (refine awp_seq_k fun K hK => ?_) | ((first | refine awp_region ?_ | refine awp_draw (by kernel_rfl) ?_ | refine awp_block ?_ | refine awp_exit ?_ | refine awp_skip ?_ | refine awp_ret ?_); (try simp only [NB, simprocAttr])))
    all_goals simp only [EndP, FinP, resA, resL, resA1, lastV, lastA, lastAs, pur, purs, take_app, List.take_length, S1, simprocAttr, TTCkI, Nat.le_add_right, Nat.le_refl, pk_take0]
    all_goals rfl
  have c0 : ¬ (id < 0 ∨ after < 0 ∨ after > maxC) := by unfold maxC; omega
  have hfd := find_calls (G := G) (now := now) (g := g) hb hl hne (Nat.le_trans ok.len (by omega)) id
  have hany := findA_has (fun a => a.2 == id) l 0
  cases c4 : hasA l id with
  | true =>
    have e : setC now l id after = (8, l) := by unfold setC; rw [if_neg c0, c4]; rfl
    have hge : (0 : Int) ≤ findA (fun a => a.2 == id) l 0 := by
      unfold hasA at c4; rw [c4] at hany; exact of_decide_eq_true hany
    rw [e]
    refine acalls_pure (rl := []) mixed Try.func10 rfl (rs := [.tmp 6]) rfl Try.ntmps10 (by simp) ?_
    repeat' (first | ((first | refine aops_nil ?_ | refine aqops_nil ?_); (try simp only [NB])) | ((repeat ((fail_if_success (refine hK _ ?_)); clear hK K)); refine hK _ ?_; clear hK K) | ((first | refine aops_k fun K1 hK1 => ?_ | refine aqops_k fun K1 hK1 => ?_ | refine awp_cond_k fun A B hA hB => ?_); simp only [S1, simprocAttr, TTCkI, c1, c2, c3, hge]; first | (refine hK1 _ ?_; clear hK1 K1) | ((first | refine hA ?_ | refine hB ?_); clear hA hB A B) | ((first | apply call_a E22 | apply call_q E22); exact hfd; (refine hK1 _ ?_; clear hK1 K1)) | (refine join_x (v := ?_) (fun hg hk9 => ?_) ?_; rotate_left; (focus (try ((try simp only [BN] at hg); simp only [S1, simprocAttr, TTCkI, c1, c2, c3, hge, hg] at hk9 ⊢)); first | exact hk9 | ((first | apply call_a E22 | apply call_q E22); exact hfd; exact hk9)); (refine hK1 _ ?_; clear hK1 K1)) | (((first | (refine ⟨fun hg => hA ?_, fun hg => hB ?_⟩ <;> clear hA hB A B) | refine ⟨fun hg => ?_, fun hg => ?_⟩) <;> (try simp only [BN2] at hg) <;> (try simp only [hg, cond_true, cond_false])) <;> (try (refine hK1 _ ?_; clear hK1 K1)) <;> (try simp only [BN3] at hg))) | (refine awp_seq_k fun K hK => ?_) | ((first | refine awp_region ?_ | refine awp_draw (by kernel_rfl) ?_ | refine awp_block ?_ | refine awp_exit ?_ | refine awp_skip ?_ | refine awp_ret ?_); (try simp only [NB, simprocAttr])))
    all_goals simp only [EndP, FinP, resA, resL, resA1, lastV, lastA, lastAs, pur, purs, take_app, List.take_length, S1, simprocAttr, TTCkI, Nat.le_add_right, Nat.le_refl, pk_take0]
    all_goals rfl
  | false =>
  have hge : ¬ ((0 : Int) ≤ findA (fun a => a.2 == id) l 0) := by
    unfold hasA at c4; rw [c4] at hany; exact of_decide_eq_false hany
  by_cases c5 : l.length = 64
  · have e : setC now l id after = (5, l) := by unfold setC; rw [if_neg c0, c4, if_pos c5]; rfl
    have h5 : ((l.length : Int) == 64) = true := by rw [c5]; rfl
    rw [e]
    refine acalls_pure (rl := []) mixed Try.func10 rfl (rs := [.tmp 6]) rfl Try.ntmps10 (by simp) ?_
    repeat' (first | ((first | refine aops_nil ?_ | refine aqops_nil ?_); (try simp only [NB])) | ((repeat ((fail_if_success (refine hK _ ?_)); clear hK K)); refine hK _ ?_; clear hK K) | ((first | refine aops_k fun K1 hK1 => ?_ | refine aqops_k fun K1 hK1 => ?_ | refine awp_cond_k fun A B hA hB => ?_); simp only [S1, simprocAttr, TTCkI, c1, c2, c3, hge, h5, pk_b0 hb hne, ckB]; first | (refine hK1 _ ?_; clear hK1 K1) | ((first | refine hA ?_ | refine hB ?_); clear hA hB A B) | ((first | apply call_a E22 | apply call_q E22); exact hfd; (refine hK1 _ ?_; clear hK1 K1)) | (refine join_x (v := ?_) (fun hg hk9 => ?_) ?_; rotate_left; (focus (try ((try simp only [BN] at hg); simp only [S1, simprocAttr, TTCkI, c1, c2, c3, hge, h5, pk_b0 hb hne, ckB, hg] at hk9 ⊢)); first | exact hk9 | ((first | apply call_a E22 | apply call_q E22); exact hfd; exact hk9)); (refine hK1 _ ?_; clear hK1 K1)) | (((first | (refine ⟨fun hg => hA ?_, fun hg => hB ?_⟩ <;> clear hA hB A B) | refine ⟨fun hg => ?_, fun hg => ?_⟩) <;> (try simp only [BN2] at hg) <;> (try simp only [hg, cond_true, cond_false])) <;> (try (refine hK1 _ ?_; clear hK1 K1)) <;> (try simp only [BN3] at hg))) | (refine awp_seq_k fun K hK => ?_) | ((first | refine awp_region ?_ | refine awp_draw (by kernel_rfl) ?_ | refine awp_block ?_ | refine awp_exit ?_ | refine awp_skip ?_ | refine awp_ret ?_); (try simp only [NB, simprocAttr])))
    all_goals simp only [EndP, FinP, resA, resL, resA1, lastV, lastA, lastAs, pur, purs, take_app, List.take_length, S1, simprocAttr, TTCkI, Nat.le_add_right, Nat.le_refl, pk_take0]
    all_goals rfl
  have h5 : ((l.length : Int) == 64) = false := by simp; omega
  have hlt := later_calls (G := G) (g := g) (l := l) hb hl hne ok.n0 ok.n1 after (by omega) (by unfold maxC; omega)
  by_cases c6 : after > maxC - now
  · have e : setC now l id after = (40, l) := by unfold setC; rw [if_neg c0, c4, if_neg c5, if_pos c6]; rfl
    rw [if_pos c6] at hlt
    rw [e]
    refine acalls_pure (rl := []) mixed Try.func10 rfl (rs := [.tmp 6]) rfl Try.ntmps10 (by simp) ?_
    repeat' (first | ((first | refine aops_nil ?_ | refine aqops_nil ?_); (try simp only [NB])) | ((repeat ((fail_if_success (refine hK _ ?_)); clear hK K)); refine hK _ ?_; clear hK K) | ((first | refine aops_k fun K1 hK1 => ?_ | refine aqops_k fun K1 hK1 => ?_ | refine awp_cond_k fun A B hA hB => ?_); simp only [S1, simprocAttr, TTCkI, c1, c2, c3, hge, h5, pk_b0 hb hne, ckB]; first | (refine hK1 _ ?_; clear hK1 K1) | ((first | refine hA ?_ | refine hB ?_); clear hA hB A B) | ((first | apply call_a E22 | apply call_q E22); exact hfd; (refine hK1 _ ?_; clear hK1 K1)) | ((first | apply call_a E23 | apply call_q E23); exact hlt; (refine hK1 _ ?_; clear hK1 K1)) | (refine join_x (v := ?_) (fun hg hk9 => ?_) ?_; rotate_left; (focus (try ((try simp only [BN] at hg); simp only [S1, simprocAttr, TTCkI, c1, c2, c3, hge, h5, pk_b0 hb hne, ckB, hg] at hk9 ⊢)); first | exact hk9 | ((first | apply call_a E22 | apply call_q E22); exact hfd; exact hk9) | ((first | apply call_a E23 | apply call_q E23); exact hlt; exact hk9)); (refine hK1 _ ?_; clear hK1 K1)) | (((first | (refine ⟨fun hg => hA ?_, fun hg => hB ?_⟩ <;> clear hA hB A B) | refine ⟨fun hg => ?_, fun hg => ?_⟩) <;> (try simp only [BN2] at hg) <;> (try simp only [hg, cond_true, cond_false])) <;> (try (refine hK1 _ ?_; clear hK1 K1)) <;> (try simp only [BN3] at hg))) | (refine awp_seq_k fun K hK => ?_) | ((first | refine awp_region ?_ | refine awp_draw (by kernel_rfl) ?_ | refine awp_block ?_ | refine awp_exit ?_ | refine awp_skip ?_ | refine awp_ret ?_); (try simp only [NB, simprocAttr])))
    all_goals simp only [EndP, FinP, resA, resL, resA1, lastV, lastA, lastAs, pur, purs, take_app, List.take_length, S1, simprocAttr, TTCkI, Nat.le_add_right, Nat.le_refl, pk_take0]
    all_goals rfl
  · have e : setC now l id after = (0, insA (now + after, id) l) := by unfold setC; rw [if_neg c0, c4, if_neg c5, if_neg c6]; rfl
    rw [if_neg c6] at hlt
    rw [e]
    have hin : ∀ a ∈ l ++ [(now + after, id)], InRange .i64 a.1 ∧ InRange .i64 a.2 := fun a ha => by
      have n0 := ok.n0
      have hmin : IntKind.i64.min = -9223372036854775808 := by decide
      have hmax : IntKind.i64.max = 9223372036854775807 := by decide
      unfold InRange
      rw [hmin, hmax]
      unfold maxC at c6
      rcases List.mem_append.mp ha with ha | ha
      · have := ok.at_ a ha; have := ok.id_ a ha; have := ok.i64 a ha; unfold maxC at *; omega
      · rw [List.mem_singleton] at ha; subst ha; simp only; omega
    have hso := sortC_calls (G := G) (g := g + 1) (now := now) hsk hb hl hne (m := l ++ [(now + after, id)]) (out := insA (now + after, id) l) (by simp) (by simp; omega) hin (insA_perm _ l) (insA_srt _ l ok.srt)
    rw [List.length_append] at hso
    have hmc : l.length + 1 ≤ maxCount := by unfold maxCount; omega
    have hbs : ∀ x : Option Blk, ((putK h b lb now g l).set lb x)[b]? = some (ckB now lb g l) := fun x => by rw [List.getElem?_set_ne (fun e => hne e.symm)]; exact pk_b0 hb hne
    have hps := pk_push (g := g) (now := now) (l := l) hb hl hne (now + after, id)
    have hbs2 := pk_b0 (h := h) (b := b) (lb := lb) (now := now) (g := g + 1) (l := l ++ [(now + after, id)]) hb hne
    refine acalls_heap (rl := []) mixed Try.func10 rfl (rs := [.tmp 6]) rfl Try.ntmps10 (by simp) ?_
    repeat' (first | ((first | refine aops_nil ?_ | refine aqops_nil ?_); (try simp only [NB])) | ((repeat ((fail_if_success (refine hK _ ?_)); clear hK K)); refine hK _ ?_; clear hK K) | ((first | refine aops_k fun K1 hK1 => ?_ | refine aqops_k fun K1 hK1 => ?_ | refine awp_cond_k fun A B hA hB => ?_); simp only [S1, simprocAttr, TTCkI, c1, c2, c3, hge, h5, hmc, hbs, hps, hbs2, pk_b0 hb hne, pk_lb0 hl, ckB, alB, cAl_len, pk_len, Nat.zero_add]; first | (refine hK1 _ ?_; clear hK1 K1) | ((first | refine hA ?_ | refine hB ?_); clear hA hB A B) | ((first | apply call_a E22 | apply call_q E22); exact hfd; (refine hK1 _ ?_; clear hK1 K1)) | ((first | apply call_a E23 | apply call_q E23); exact hlt; (refine hK1 _ ?_; clear hK1 K1)) | ((first | apply call_a E24 | apply call_q E24); exact hso; (refine hK1 _ ?_; clear hK1 K1)) | (refine join_x (v := ?_) (fun hg hk9 => ?_) ?_; rotate_left; (focus (try ((try simp only [BN] at hg); simp only [S1, simprocAttr, TTCkI, c1, c2, c3, hge, h5, hmc, hbs, hps, hbs2, pk_b0 hb hne, pk_lb0 hl, ckB, alB, cAl_len, pk_len, Nat.zero_add, hg] at hk9 ⊢)); first | exact hk9 | ((first | apply call_a E22 | apply call_q E22); exact hfd; exact hk9) | ((first | apply call_a E23 | apply call_q E23); exact hlt; exact hk9) | ((first | apply call_a E24 | apply call_q E24); exact hso; exact hk9)); (refine hK1 _ ?_; clear hK1 K1)) | (((first | (refine ⟨fun hg => hA ?_, fun hg => hB ?_⟩ <;> clear hA hB A B) | refine ⟨fun hg => ?_, fun hg => ?_⟩) <;> (try simp only [BN2] at hg) <;> (try simp only [hg, cond_true, cond_false])) <;> (try (refine hK1 _ ?_; clear hK1 K1)) <;> (try simp only [BN3] at hg))) | (refine awp_seq_k fun K hK => ?_) | ((first | refine awp_region ?_ | refine awp_draw (by kernel_rfl) ?_ | refine awp_block ?_ | refine awp_exit ?_ | refine awp_skip ?_ | refine awp_ret ?_); (try simp only [NB, simprocAttr])))
    all_goals simp only [EndH, FinH, resA, resL, resA1, lastV, lastA, lastAs, pur, purs, pk_len, pk_take, pk_take0, S1, simprocAttr, Nat.le_add_right, Nat.le_refl] <;> first | exact pk_keep' hl | exact ⟨pk_keep' hl, rfl⟩ | exact ⟨pk_keep' hl, rfl, rfl⟩
end
end Go.Proofs.Ytbbmfemplmelhaa.AM
end

section
set_option linter.unusedVariables false
set_option linter.unusedSimpArgs false
namespace Go.Proofs.Ytbbmfemplmelhaa.AM
open Go
section
variable {P : Program} {G : Nat → Option (List PV)} {rl : List String} {h : Heap}
theorem Sim.evoKeepG (hm : P.follows .mixedOrders = true) {f : FuncId} {fn : Func} {c : Code} (hf : P.funcs[f]? = some fn) (hb : fn.body = some c) {args : List AV} {K : AV → Heap → Prop}
    (hnt : args.length ≤ fn.ntmps)
    (H : awp P G rl h c (fun e s => (e = .normal ∨ e = .ret) ∧ ∃ s1, Ghost P G h s s1 ∧ FinK P fn.results.toList h K s1) (entry args fn.ntmps h)) : ACalls P G f args h K := by
  intro ι w vs hS hv
  refine calls_of_wp hf hb ?_
  have hs : Sim P G ι (entry args fn.ntmps h) { tmps := vs ++ Array.replicate (fn.ntmps - vs.size) undef, defers := [] } w := by
    refine ⟨hS, fun k x hx => ?_, ?_, rfl⟩
    · have hk : k < args.length := getElem?_lt hx
      have hk' : k < vs.size := by rw [← hv.1]; exact hk
      exact ⟨vs[k], by rw [Array.getElem?_append_left hk']; simp, hv.2 k x _ hx (by simp)⟩
    · have := hv.1
      simp [entry]; omega
  refine wp_mono (awp_sound hm hS c _ _ ι _ w hs (.refl (Nat.le_refl h.length)) H) fun e a w' ⟨s0, ι0, ⟨he, s', hg, hn1, hr⟩, hs0, hev0⟩ => ?_
  obtain ⟨ι', hs', hev⟩ := hg ι0 a w' ι w hS hs0 hev0
  split at hr
  case h_2 => exact hr.elim
  rename_i r hr'
  obtain ⟨v, hrun, hrv⟩ := resA_sound hs' hr'
  have hpost : a.defers = [] ∧ ∃ v, (results fn a.tmps).run P w' = .ok v w' ∧ ∃ v1 r h' ι', Ending.returned v = .returned v1 ∧ K r h' ∧ SimH P G ι' h' w' ∧ VRel ι' h' w' r v1 ∧ Evo h.length ι h w ι' h' w' :=
    ⟨hs'.df, v, hrun, v, r, s'.heap, ι', rfl, hr, hs'.hS, hrv, hev⟩
  rcases he with rfl | rfl <;> exact hpost
end
end Go.Proofs.Ytbbmfemplmelhaa.AM
end

section
set_option linter.unusedVariables false
set_option linter.unusedSimpArgs false
set_option maxRecDepth 4000
set_option maxHeartbeats 4000000
namespace Go.Proofs.Ytbbmfemplmelhaa.AM
open Go Go.Proofs
set_option linter.defProp false in
def TTCkJ := And.intro T2 (And.intro T3 (And.intro T4 (And.intro T22 (And.intro T54 (And.intro T55 (And.intro T57 T59))))))
attribute [local irreducible] awp aops aqops aeops arun arunT
variable {G : Nat → Option (List PV)}

/-- A heap with a new clock behind it. -/
def pk1 (h : Heap) (now : Int) (g : Nat) (l : List Al) : Heap := putK (h ++ [none, none]) h.length (h.length + 1) now g l
theorem pk1_is (h : Heap) (now : Int) (g : Nat) (l : List Al) : pk1 h now g l = h ++ [ckB now (h.length + 1) g l, alB g l] := by
  unfold pk1 putK
  rw [set_app0, set_app]; rfl
theorem pk1_len (h : Heap) (now : Int) (g : Nat) (l : List Al) : (pk1 h now g l).length = h.length + 2 := by rw [pk1_is]; simp
theorem pk1_take (h : Heap) (now : Int) (g : Nat) (l : List Al) : (pk1 h now g l).take h.length = h := by rw [pk1_is]; simp
theorem new_calls (h : Heap) : ACalls Try.prog G 8 [] h (fun r h' => r = .ptr h.length 0 0 ∧ h' = pk1 h 0 0 []) := by
  refine Sim.evoKeepG (rl := []) mixed Try.func8 rfl (by rw [Try.ntmps8]; simp) ?_
  repeat' (first | ((first | refine aops_nil ?_ | refine aqops_nil ?_); (try simp only [NB])) | ((repeat ((fail_if_success (refine hK _ ?_)); clear hK K)); refine hK _ ?_; clear hK K) | ((first | refine aops_k fun K1 hK1 => ?_ | refine aqops_k fun K1 hK1 => ?_ | refine awp_cond_k fun A B hA hB => ?_); simp only [S1, simprocAttr, TTCkJ]; first | (refine hK1 _ ?_; clear hK1 K1) | ((first | refine hA ?_ | refine hB ?_); clear hA hB A B) | (refine join_x (v := ?_) (fun hg hk9 => ?_) ?_; rotate_left; (focus (try ((try simp only [BN] at hg); simp only [S1, simprocAttr, TTCkJ, hg] at hk9 ⊢)); first | exact hk9); (refine hK1 _ ?_; clear hK1 K1)) | (((first | (refine ⟨fun hg => hA ?_, fun hg => hB ?_⟩ <;> clear hA hB A B) | refine ⟨fun hg => ?_, fun hg => ?_⟩) <;> (try simp only [BN2] at hg) <;> (try simp only [hg, cond_true, cond_false])) <;> (try (refine hK1 _ ?_; clear hK1 K1)) <;> (try simp only [BN3] at hg))) | (refine awp_seq_k fun K hK => ?_) | ((first | refine awp_region ?_ | refine awp_draw (by kernel_rfl) ?_ | refine awp_block ?_ | refine awp_exit ?_ | refine awp_skip ?_ | refine awp_ret ?_); (try simp only [NB, simprocAttr])))
  all_goals refine ⟨.inr trivial, _, Ghost.adoptCell 2 (b := h.length) (j := 1) (bk := ⟨0, [.i 0, .p .nils]⟩) (by simp [get_app0]) rfl (Nat.le_refl _), FinK_tmp (t := 0) (v := .ptr h.length 0 0) rfl (by simp) ⟨rfl, ?_⟩⟩
  all_goals rw [pk1_is]; simp [ckB, alB, cAl]
theorem hk1 (h : Heap) : h.length < (h ++ [none, none] : Heap).length := by simp
theorem hk2 (h : Heap) : h.length + 1 < (h ++ [none, none] : Heap).length := by simp
theorem hk3 (h : Heap) : h.length ≠ h.length + 1 := by omega
end Go.Proofs.Ytbbmfemplmelhaa.AM
end

section
set_option linter.unusedVariables false
set_option linter.unusedSimpArgs false
set_option maxRecDepth 4000
set_option maxHeartbeats 4000000
namespace Go.Proofs.Ytbbmfemplmelhaa.AM
open Go Go.Proofs
set_option linter.defProp false in
def TTCkL := And.intro T2 (And.intro T3 (And.intro T4 (And.intro T22 (And.intro T28 (And.intro T54 (And.intro T55 (And.intro T57 T59)))))))
attribute [local irreducible] awp aops aqops aeops arun arunT
variable {G : Nat → Option (List PV)}

/-! Lists of whole numbers. -/
def eJ (n : Int) : List PV := [.int .i64 n]
abbrev aJ (l : List Int) : AV := .p (.sl (l.map eJ))
theorem rowJ {l : List Int} {i : Nat} {k : Int} (h : l[i]? = some k) : (l.map eJ)[i]? = some [.int .i64 k] := by simp [h, eJ]
theorem hitJ {l : List Int} {i : Nat} (h : i < l.length) : decide ((i : Int) < (l.length : Int)) = true := by simp; omega
theorem endJ {l : List Int} : decide ((l.length : Int) < (l.length : Int)) = false := by simp
theorem nextJ {n i : Nat} (hk : n ≤ 1000) (h : i < n) : IntKind.i64.wrap ((i : Int) + 1) = ((i + 1 : Nat) : Int) := by rw [IntWalk.i64_in _ (by omega)]; omega
theorem avltsJ (m : Nat) (l : List Int) : avlts m (l.map AV.i) := by
  induction l with
  | nil => trivial
  | cons x l ih => exact ⟨trivial, ih⟩
theorem chunkJ : ∀ l : List Int, chunk 1 l.length (l.map (PV.int .i64)) = l.map eJ
  | [] => rfl
  | x :: r => by simp only [List.length_cons, List.map_cons, chunk, List.take_succ_cons, List.take_zero, List.drop_succ_cons, List.drop_zero, chunkJ r, eJ]
theorem pursJ (h : Heap) (n fuel : Nat) : ∀ l : List Int, purs h n fuel (l.map AV.i) = some (l.map (PV.int .i64))
  | [] => by unfold purs; rfl
  | x :: r => by
    simp only [List.map_cons]
    unfold purs pur
    rw [pursJ h n fuel r]
theorem purJ {h : Heap} {n fuel b g : Nat} {l : List Int} (hb : blkAt h b g = some (l.map AV.i)) (hn : n ≤ b) : pur h n (fuel + 1) (.ref b g 0 1 l.length) = some (.sl (l.map eJ)) := by
  unfold pur
  by_cases h0 : l.length = 0
  · rw [if_pos h0]; have := List.eq_nil_of_length_eq_zero h0; subst this; rfl
  · rw [if_neg h0, hb]
    simp only [hn, true_and, Nat.zero_add, Nat.mul_one, List.length_map, Nat.le_refl, if_true, List.drop_zero]
    rw [List.take_of_length_le (by simp), pursJ]
    simp only [Option.map_some, chunkJ]
theorem EndP_J {P : Program} {h : Heap} {K : AV → Prop} {e : Exit} {s : St} (he : e = .normal ∨ e = .ret) {t b g : Nat} {l : List Int} (hf : s.fr t = some (.ref b g 0 1 l.length)) (hb : blkAt s.heap b g = some (l.map AV.i)) (hn : h.length ≤ b)
    (ht : s.heap.take h.length = h) (hle : h.length ≤ s.heap.length) (hk : K (aJ l)) : EndP P [.tmp t] h K e s := by
  have key : FinP P [.tmp t] h K s := by
    unfold FinP
    simp only [resA, resL, resA1, hf, lastV, lastA, purJ hb hn, Option.map_some]
    exact ⟨ht, hle, hk⟩
  rcases he with rfl | rfl <;> exact key
/-- A loop of which more is known ahead. -/
theorem awp_forC {P : Program} {rl : List String} {h : Heap} {c : Code} {Q : Exit → St → Prop} {s : St} (N nt : Nat) (l : Nat → List (Nat × AV)) (L : Nat → List (Option Blk)) (p : Nat → Prop) (hi : Ghost P G h s ⟨frL (l 0), nt, h ++ L 0⟩) (hp : p 0)
    (hb : ∀ i, i ≤ N → p i → ∀ K : St → Prop, (∀ s', (i < N ∧ p (i + 1) ∧ Sub h s' (l (i + 1)) (L (i + 1)) nt) → K s') → awp P G rl h c (thenA K Q) ⟨frL (l i), nt, h ++ L i⟩) : awp P G rl h (.loop c) Q s := by
  refine awp_loop (fun n s => ∃ i, i ≤ N ∧ p i ∧ n = N - i ∧ s = ⟨frL (l i), nt, h ++ L i⟩) N _ hi ⟨0, Nat.zero_le _, hp, rfl, rfl⟩ fun n s hI => ?_
  obtain ⟨i, h1, h2, rfl, rfl⟩ := hI
  exact hb i h1 h2 _ fun s' hs => ⟨N - (i + 1), _, by omega, hs.2.2.ghost, i + 1, by omega, hs.2.1, rfl, rfl⟩

theorem ints_calls (a b : List Int) (ha : a.length ≤ 1000) (h : Heap) : ACalls Try.prog G 14 [aJ a, aJ b] h (fun r h' => r = .b (decide (a = b)) ∧ h' = h) := by
  refine acalls_pure (rl := []) mixed Try.func14 rfl (rs := [.tmp 4]) rfl Try.ntmps14 (by simp) ?_
  repeat' (first | ((first | refine aops_nil ?_ | refine aqops_nil ?_); (try simp only [NB])) | ((repeat ((fail_if_success (refine hK _ ?_)); clear hK K)); refine hK _ ?_; clear hK K) | ((first | refine aops_k fun K1 hK1 => ?_ | refine aqops_k fun K1 hK1 => ?_ | refine awp_cond_k fun A B hA hB => ?_); simp only [S1, simprocAttr, TTCkL, List.length_map]; first | (refine hK1 _ ?_; clear hK1 K1) | ((first | refine hA ?_ | refine hB ?_); clear hA hB A B) | (refine join_x (v := ?_) (fun hg hk9 => ?_) ?_; rotate_left; (focus (try ((try simp only [BN] at hg); simp only [S1, simprocAttr, TTCkL, List.length_map, hg] at hk9 ⊢)); first | exact hk9); (refine hK1 _ ?_; clear hK1 K1)) | (((first | (refine ⟨fun hg => hA ?_, fun hg => hB ?_⟩ <;> clear hA hB A B) | refine ⟨fun hg => ?_, fun hg => ?_⟩) <;> (try simp only [BN2] at hg) <;> (try simp only [hg, cond_true, cond_false])) <;> (try (refine hK1 _ ?_; clear hK1 K1)) <;> (try simp only [BN3] at hg))) | (refine awp_seq_k fun K hK => ?_) | ((first | refine awp_region ?_ | refine awp_draw (by kernel_rfl) ?_ | refine awp_block ?_ | refine awp_exit ?_ | refine awp_skip ?_ | refine awp_ret ?_); (try simp only [NB, simprocAttr])))
  refine awp_for a.length 32 (fun i => [(8, .i i), (7, .i a.length), (1, aJ b), (0, aJ a)]) (fun i => []) (fun i => ∀ k, k < i → b[k]? = a[k]?) ?_ (fun k hk => by omega) fun i hi hp K hK => ?_
  · (refine ⟨rfl, (by first | exact ⟨_, rfl⟩ | exact ⟨[], by simp⟩), ?_, ?_⟩ <;> simp only [keeps, avlt, avlts, blksLt, frL, upd_get, S1, simprocAttr, List.length_map, Int.natCast_zero, AV.p.injEq, PV.int.injEq, PV.bool.injEq, PV.sl.injEq] <;> (try and_intros) <;> (try assumption) <;> (try trivial) <;> (try omega))
  rcases Nat.lt_or_ge i a.length with hlt | hge
  · obtain ⟨x, hx⟩ : ∃ k, a[i]? = some k := ⟨_, List.getElem?_eq_getElem hlt⟩
    have i0 : (0 : Int) ≤ (i : Int) := by omega
    cases hb : b[i]? with
    | none =>
      have hl : b.length ≤ i := List.getElem?_eq_none_iff.mp hb
      have f1 : decide ((b.length : Int) ≤ (i : Int)) = true := decide_eq_true (by omega)
      have hne : decide (a = b) = false := decide_eq_false (by rintro rfl; rw [hb] at hx; cases hx)
      repeat' (first | ((first | refine aops_nil ?_ | refine aqops_nil ?_); (try simp only [NB])) | ((repeat ((fail_if_success (refine hK _ ?_)); clear hK K)); refine hK _ ?_; clear hK K) | ((first | refine aops_k fun K1 hK1 => ?_ | refine aqops_k fun K1 hK1 => ?_ | refine awp_cond_k fun A B hA hB => ?_); simp only [S1, simprocAttr, TTCkL, rowJ hx, hitJ hlt, nextJ ha hlt, f1, i0, Int.toNat_natCast, List.length_map]; first | (refine hK1 _ ?_; clear hK1 K1) | ((first | refine hA ?_ | refine hB ?_); clear hA hB A B) | (refine join_x (v := ?_) (fun hg hk9 => ?_) ?_; rotate_left; (focus (try ((try simp only [BN] at hg); simp only [S1, simprocAttr, TTCkL, rowJ hx, hitJ hlt, nextJ ha hlt, f1, i0, Int.toNat_natCast, List.length_map, hg] at hk9 ⊢)); first | exact hk9); (refine hK1 _ ?_; clear hK1 K1)) | (((first | (refine ⟨fun hg => hA ?_, fun hg => hB ?_⟩ <;> clear hA hB A B) | refine ⟨fun hg => ?_, fun hg => ?_⟩) <;> (try simp only [BN2] at hg) <;> (try simp only [hg, cond_true, cond_false])) <;> (try (refine hK1 _ ?_; clear hK1 K1)) <;> (try simp only [BN3] at hg))) | (refine awp_seq_k fun K hK => ?_) | ((first | refine awp_region ?_ | refine awp_draw (by kernel_rfl) ?_ | refine awp_block ?_ | refine awp_exit ?_ | refine awp_skip ?_ | refine awp_ret ?_); (try simp only [NB, simprocAttr])))
      all_goals simp only [EndP, FinP, resA, resL, resA1, lastV, lastA, lastAs, pur, purs, take_app, List.take_length, S1, simprocAttr, TTCkL, Nat.le_add_right, Nat.le_refl]
      all_goals simp [hne]
    | some y =>
      have hl : i < b.length := (List.getElem?_eq_some_iff.mp hb).1
      have f1 : decide ((b.length : Int) ≤ (i : Int)) = false := decide_eq_false (by omega)
      cases hxy : (x != y) with
      | true =>
        have hne : decide (a = b) = false := decide_eq_false (by
          rintro rfl
          rw [hb] at hx; cases hx
          simp at hxy)
        repeat' (first | ((first | refine aops_nil ?_ | refine aqops_nil ?_); (try simp only [NB])) | ((repeat ((fail_if_success (refine hK _ ?_)); clear hK K)); refine hK _ ?_; clear hK K) | ((first | refine aops_k fun K1 hK1 => ?_ | refine aqops_k fun K1 hK1 => ?_ | refine awp_cond_k fun A B hA hB => ?_); simp only [S1, simprocAttr, TTCkL, rowJ hx, rowJ hb, hitJ hlt, nextJ ha hlt, f1, hxy, i0, Int.toNat_natCast, List.length_map]; first | (refine hK1 _ ?_; clear hK1 K1) | ((first | refine hA ?_ | refine hB ?_); clear hA hB A B) | (refine join_x (v := ?_) (fun hg hk9 => ?_) ?_; rotate_left; (focus (try ((try simp only [BN] at hg); simp only [S1, simprocAttr, TTCkL, rowJ hx, rowJ hb, hitJ hlt, nextJ ha hlt, f1, hxy, i0, Int.toNat_natCast, List.length_map, hg] at hk9 ⊢)); first | exact hk9); (refine hK1 _ ?_; clear hK1 K1)) | (((first | (refine ⟨fun hg => hA ?_, fun hg => hB ?_⟩ <;> clear hA hB A B) | refine ⟨fun hg => ?_, fun hg => ?_⟩) <;> (try simp only [BN2] at hg) <;> (try simp only [hg, cond_true, cond_false])) <;> (try (refine hK1 _ ?_; clear hK1 K1)) <;> (try simp only [BN3] at hg))) | (refine awp_seq_k fun K hK => ?_) | ((first | refine awp_region ?_ | refine awp_draw (by kernel_rfl) ?_ | refine awp_block ?_ | refine awp_exit ?_ | refine awp_skip ?_ | refine awp_ret ?_); (try simp only [NB, simprocAttr])))
        all_goals simp only [EndP, FinP, resA, resL, resA1, lastV, lastA, lastAs, pur, purs, take_app, List.take_length, S1, simprocAttr, TTCkL, Nat.le_add_right, Nat.le_refl]
        all_goals simp [hne]
      | false =>
        have exy : x = y := by simpa using hxy
        repeat' (first | ((first | refine aops_nil ?_ | refine aqops_nil ?_); (try simp only [NB])) | ((repeat ((fail_if_success (refine hK _ ?_)); clear hK K)); refine hK _ ?_; clear hK K) | ((first | refine aops_k fun K1 hK1 => ?_ | refine aqops_k fun K1 hK1 => ?_ | refine awp_cond_k fun A B hA hB => ?_); simp only [S1, simprocAttr, TTCkL, rowJ hx, rowJ hb, hitJ hlt, nextJ ha hlt, f1, hxy, i0, Int.toNat_natCast, List.length_map]; first | (refine hK1 _ ?_; clear hK1 K1) | ((first | refine hA ?_ | refine hB ?_); clear hA hB A B) | (refine join_x (v := ?_) (fun hg hk9 => ?_) ?_; rotate_left; (focus (try ((try simp only [BN] at hg); simp only [S1, simprocAttr, TTCkL, rowJ hx, rowJ hb, hitJ hlt, nextJ ha hlt, f1, hxy, i0, Int.toNat_natCast, List.length_map, hg] at hk9 ⊢)); first | exact hk9); (refine hK1 _ ?_; clear hK1 K1)) | (((first | (refine ⟨fun hg => hA ?_, fun hg => hB ?_⟩ <;> clear hA hB A B) | refine ⟨fun hg => ?_, fun hg => ?_⟩) <;> (try simp only [BN2] at hg) <;> (try simp only [hg, cond_true, cond_false])) <;> (try (refine hK1 _ ?_; clear hK1 K1)) <;> (try simp only [BN3] at hg))) | (refine awp_seq_k fun K hK => ?_) | ((first | refine awp_region ?_ | refine awp_draw (by kernel_rfl) ?_ | refine awp_block ?_ | refine awp_exit ?_ | refine awp_skip ?_ | refine awp_ret ?_); (try simp only [NB, simprocAttr])))
        all_goals refine ⟨hlt, fun k hk => ?_, by (refine ⟨rfl, (by first | exact ⟨_, rfl⟩ | exact ⟨[], by simp⟩), ?_, ?_⟩ <;> simp only [keeps, avlt, avlts, blksLt, frL, upd_get, S1, simprocAttr, List.length_map, Int.natCast_zero, AV.p.injEq, PV.int.injEq, PV.bool.injEq, PV.sl.injEq] <;> (try and_intros) <;> (try assumption) <;> (try trivial) <;> (try omega))⟩
        all_goals
          rcases Nat.lt_or_ge k i with h1 | h1
          · exact hp k h1
          · obtain rfl : k = i := by omega
            rw [hb, hx, exy]
  · obtain rfl : i = a.length := by omega
    have key : ((a.length : Int) == (b.length : Int)) = decide (a = b) := by
      rw [Bool.eq_iff_iff]
      simp only [beq_iff_eq, decide_eq_true_eq]
      constructor
      · intro e
        apply List.ext_getElem?
        intro k
        rcases Nat.lt_or_ge k a.length with h1 | h1
        · exact (hp k h1).symm
        · rw [List.getElem?_eq_none h1, List.getElem?_eq_none (by omega)]
      · intro e; rw [e]
    repeat' (first | ((first | refine aops_nil ?_ | refine aqops_nil ?_); (try simp only [NB])) | ((repeat ((fail_if_success (refine hK _ ?_)); clear hK K)); refine hK _ ?_; clear hK K) | ((first | refine aops_k fun K1 hK1 => ?_ | refine aqops_k fun K1 hK1 => ?_ | refine awp_cond_k fun A B hA hB => ?_); simp only [S1, simprocAttr, TTCkL, endJ, key, List.length_map]; first | (refine hK1 _ ?_; clear hK1 K1) | ((first | refine hA ?_ | refine hB ?_); clear hA hB A B) | (refine join_x (v := ?_) (fun hg hk9 => ?_) ?_; rotate_left; (focus (try ((try simp only [BN] at hg); simp only [S1, simprocAttr, TTCkL, endJ, key, List.length_map, hg] at hk9 ⊢)); first | exact hk9); (refine hK1 _ ?_; clear hK1 K1)) | (((first | (refine ⟨fun hg => hA ?_, fun hg => hB ?_⟩ <;> clear hA hB A B) | refine ⟨fun hg => ?_, fun hg => ?_⟩) <;> (try simp only [BN2] at hg) <;> (try simp only [hg, cond_true, cond_false])) <;> (try (refine hK1 _ ?_; clear hK1 K1)) <;> (try simp only [BN3] at hg))) | (refine awp_seq_k fun K hK => ?_) | ((first | refine awp_region ?_ | refine awp_draw (by kernel_rfl) ?_ | refine awp_block ?_ | refine awp_exit ?_ | refine awp_skip ?_ | refine awp_ret ?_); (try simp only [NB, simprocAttr])))
    all_goals simp only [EndP, FinP, resA, resL, resA1, lastV, lastA, lastAs, pur, purs, take_app, List.take_length, S1, simprocAttr, TTCkL, Nat.le_add_right, Nat.le_refl]

section
variable {h : Heap} {b lb g : Nat} {now : Int} {l : List Al}
def dueN (now : Int) (l : List Al) (j : Nat) : List Int := ((l.take j).filter fun a => a.1 ≤ now).map (·.2)
theorem dueN_le (now : Int) (l : List Al) (j : Nat) : (dueN now l j).length ≤ l.length := by
  unfold dueN
  rw [List.length_map]
  exact Nat.le_trans (List.length_filter_le _ _) (by rw [List.length_take]; omega)
theorem dueN_succ {now : Int} {l : List Al} {j : Nat} {a : Al} (h : l[j]? = some a) : dueN now l (j + 1) = dueN now l j ++ if a.1 ≤ now then [a.2] else [] := by
  unfold dueN
  rw [List.take_add_one, h, List.filter_append, List.map_append]
  congr 1
  by_cases hc : a.1 ≤ now <;> simp [hc]

theorem due_calls (hb : b < h.length) (hl : lb < h.length) (hne : b ≠ lb) (ok : CkOk now l) :
    ACalls Try.prog G 12 [.ptr b 0 0] (putK h b lb now g l) (fun r h' => r = aJ (dueC now l) ∧ h' = putK h b lb now g l) := by
  have h64 := ok.len
  have hbH : ∀ L, (putK h b lb now g l ++ L)[b]? = some (ckB now lb g l) := pk_b hb hne
  have hlH : ∀ L, (putK h b lb now g l ++ L)[lb]? = some (alB g l) := pk_lb hl
  have hb0 : (putK h b lb now g l)[b]? = some (ckB now lb g l) := pk_b0 hb hne
  have hl0 : (putK h b lb now g l)[lb]? = some (alB g l) := pk_lb0 hl
  have hlen : (putK h b lb now g l).length = h.length := pk_len
  have hnow : ∀ L, ACalls Try.prog G 17 [.ptr b 0 0] (putK h b lb now g l ++ L) (fun r h' => r = .i now ∧ h' = putK h b lb now g l ++ L) := fun L => by
    rw [← pk_app hb hl]
    exact now_calls (by rw [List.length_append]; omega) (by rw [List.length_append]; omega) hne
  generalize hH : putK h b lb now g l = H at *
  have hbl : b < H.length := by omega
  have hll : lb < H.length := by omega
  clear hH
  refine acalls_pure (rl := []) mixed Try.func12 rfl (rs := [.tmp 2]) rfl Try.ntmps12 (by simp) ?_
  refine awp_seq_k fun K hK => ?_
  repeat' (first | ((first | refine aops_nil ?_ | refine aqops_nil ?_); (try simp only [NB]); ((repeat ((fail_if_success (refine hK _ ?_)); clear hK K)); refine hK _ ?_; clear hK K)) | ((first | refine aops_k fun K1 hK1 => ?_ | refine aqops_k fun K1 hK1 => ?_ | refine awp_cond_k fun A B hA hB => ?_); simp only [S1, simprocAttr, TTCkL]; first | (refine hK1 _ ?_; clear hK1 K1) | ((first | refine hA ?_ | refine hB ?_); clear hA hB A B) | (((first | (refine ⟨fun hg => hA ?_, fun hg => hB ?_⟩ <;> clear hA hB A B) | refine ⟨fun hg => ?_, fun hg => ?_⟩) <;> (try simp only [BN2] at hg) <;> (try simp only [hg, cond_true, cond_false])) <;> (try (refine hK1 _ ?_; clear hK1 K1)) <;> (try simp only [BN3] at hg))) | (fail) | ((first | refine awp_region ?_ | refine awp_draw (by kernel_rfl) ?_ | refine awp_block ?_ | refine awp_exit ?_ | refine awp_skip ?_ | refine awp_ret ?_); (try simp only [NB, simprocAttr]); (try ((repeat ((fail_if_success (refine hK _ ?_)); clear hK K)); refine hK _ ?_; clear hK K))))
  refine awp_seq_k fun K hK => ?_
  repeat' (first | ((first | refine aops_nil ?_ | refine aqops_nil ?_); (try simp only [NB]); ((repeat ((fail_if_success (refine hK _ ?_)); clear hK K)); refine hK _ ?_; clear hK K)) | ((first | refine aops_k fun K1 hK1 => ?_ | refine aqops_k fun K1 hK1 => ?_ | refine awp_cond_k fun A B hA hB => ?_); simp only [S1, simprocAttr, TTCkL]; first | (refine hK1 _ ?_; clear hK1 K1) | ((first | refine hA ?_ | refine hB ?_); clear hA hB A B) | (((first | (refine ⟨fun hg => hA ?_, fun hg => hB ?_⟩ <;> clear hA hB A B) | refine ⟨fun hg => ?_, fun hg => ?_⟩) <;> (try simp only [BN2] at hg) <;> (try simp only [hg, cond_true, cond_false])) <;> (try (refine hK1 _ ?_; clear hK1 K1)) <;> (try simp only [BN3] at hg))) | (fail) | ((first | refine awp_region ?_ | refine awp_draw (by kernel_rfl) ?_ | refine awp_block ?_ | refine awp_exit ?_ | refine awp_skip ?_ | refine awp_ret ?_); (try simp only [NB, simprocAttr]); (try ((repeat ((fail_if_success (refine hK _ ?_)); clear hK K)); refine hK _ ?_; clear hK K))))
  repeat' (first | ((first | refine aops_nil ?_ | refine aqops_nil ?_); (try simp only [NB])) | ((repeat ((fail_if_success (refine hK _ ?_)); clear hK K)); refine hK _ ?_; clear hK K) | ((first | refine aops_k fun K1 hK1 => ?_ | refine aqops_k fun K1 hK1 => ?_ | refine awp_cond_k fun A B hA hB => ?_); simp only [S1, simprocAttr, TTCkL, hb0, hl0, ckB, alB]; first | (refine hK1 _ ?_; clear hK1 K1) | ((first | refine hA ?_ | refine hB ?_); clear hA hB A B) | (((first | (refine ⟨fun hg => hA ?_, fun hg => hB ?_⟩ <;> clear hA hB A B) | refine ⟨fun hg => ?_, fun hg => ?_⟩) <;> (try simp only [BN2] at hg) <;> (try simp only [hg, cond_true, cond_false])) <;> (try (refine hK1 _ ?_; clear hK1 K1)) <;> (try simp only [BN3] at hg))) | (refine awp_seq_k fun K hK => ?_) | ((first | refine awp_region ?_ | refine awp_draw (by kernel_rfl) ?_ | refine awp_block ?_ | refine awp_exit ?_ | refine awp_skip ?_ | refine awp_ret ?_); (try simp only [NB, simprocAttr])))
  refine awp_forC l.length 30 (fun j => [(14, .i j), (13, .i l.length), (12, .ref lb g 0 2 l.length), (0, .ptr b 0 0), (3, .ref H.length (dueN now l j).length 0 1 (dueN now l j).length)])
    (fun j => [some ⟨(dueN now l j).length, (dueN now l j).map AV.i⟩]) (fun j => True) ?_ trivial fun j hj hp K hK => ?_
  · refine (Ghost.adopt 3 1 rfl).trans (Sub.ghost ⟨rfl, ⟨[], by simp [dueN]⟩, ?_, ?_⟩)
    · simp [keeps, upd, avlt, dueN]; omega
    · simp [blksLt, avlts, avlt, dueN]
  rcases Nat.lt_or_ge j l.length with hlt | hge
  · obtain ⟨a, hx⟩ : ∃ k, l[j]? = some k := ⟨_, List.getElem?_eq_getElem hlt⟩
    have jl : (j : Int) < (l.length : Int) := by omega
    have j0 : (0 : Int) ≤ (j : Int) := by omega
    have hnx := nextJ (n := l.length) (by omega) hlt
    have hle := dueN_le now l j
    have hmax : (dueN now l j).length + 1 ≤ maxCount := by unfold maxCount; omega
    have hdd : (cAl l).drop (j * 2) = .i a.1 :: .i a.2 :: (cAl l).drop (j * 2 + 2) := by
      rw [cAl_drop, List.drop_eq_getElem_cons hlt, (List.getElem?_eq_some_iff.mp hx).2]
      rw [show j * 2 + 2 = (j + 1) * 2 by omega, cAl_drop]; rfl
    have hcl : 2 ≤ l.length * 2 - j * 2 := by omega
    have es := dueN_succ (now := now) hx
    by_cases hc : a.1 ≤ now
    · rw [if_pos hc] at es
      repeat' (first | ((first | refine aops_nil ?_ | refine aqops_nil ?_ | refine arun_nil ?_ | refine arunT_nil ?_); (try simp only [NB])) | ((repeat ((fail_if_success (refine hK _ ?_)); clear hK K)); refine hK _ ?_; clear hK K) | ((first | refine aops_k fun K1 hK1 => ?_ | refine aqops_k fun K1 hK1 => ?_ | refine arun_eff rfl rfl rfl fun K1 hK1 => ?_ | refine awp_cond_k fun A B hA hB => ?_); simp only [S1, simprocAttr, TTCkL, jl, j0, hnx, hmax, hc, hbH, hlH, ckB, alB, hdd, hcl, takeC_st, cAl_len, List.length_map, List.length_drop, Nat.mul_one, Nat.zero_add]; first | (refine hK1 _ ?_; clear hK1 K1) | ((first | refine hA ?_ | refine hB ?_); clear hA hB A B) | ((first | apply call_a E17 | apply call_q E17); exact (hnow _); (refine hK1 _ ?_; clear hK1 K1)) | (((first | (refine ⟨fun hg => hA ?_, fun hg => hB ?_⟩ <;> clear hA hB A B) | refine ⟨fun hg => ?_, fun hg => ?_⟩) <;> (try simp only [BN2] at hg) <;> (try simp only [hg, cond_true, cond_false])) <;> (try (refine hK1 _ ?_; clear hK1 K1)) <;> (try simp only [BN3] at hg))) | ((first | refine arun_q (v := ?_) rfl rfl rfl rfl (by decide) (fun R1 K1 hK1 => ?_) ?_ | refine arun_f (v := ?_) rfl rfl rfl (by decide) (fun K1 hK1 => ?_) ?_ | refine arunT_f (v := ?_) rfl rfl rfl (by decide) (fun K1 hK1 => ?_) ?_); rotate_left; (focus (simp only [S1, simprocAttr, TTCkL, jl, j0, hnx, hmax, hc, hbH, hlH, ckB, alB, hdd, hcl, takeC_st, cAl_len, List.length_map, List.length_drop, Nat.mul_one, Nat.zero_add]; first | (exact hK1 _ _ _) | ((first | apply call_a E17 | apply call_q E17); exact (hnow _); exact hK1 _ _ _)))) | (refine arun_tail rfl rfl rfl ?_) | ((first | refine arun_allocj (z := ?_) 0 rfl rfl rfl rfl (by decide) rfl ?_ ?_ | refine arun_allocj (z := ?_) 1 rfl rfl rfl rfl (by decide) rfl ?_ ?_ | refine arun_allocj (z := ?_) 2 rfl rfl rfl rfl (by decide) rfl ?_ ?_); rotate_left; (focus (simp only [S1, simprocAttr, TTCkL, jl, j0, hnx, hmax, hc, hbH, hlH, ckB, alB, hdd, hcl, takeC_st, cAl_len, List.length_map, List.length_drop, Nat.mul_one, Nat.zero_add, zeroB]; rfl))) | (refine awp_seq_k fun K hK => ?_) | (refine awp_drawR (es := []) [0, 1, 2, 3, 4] 0 (fs := []) rfl (by kernel_rfl) (by kernel_rfl) ?_) | ((first | refine awp_region ?_ | refine awp_draw (by kernel_rfl) ?_ | refine awp_block ?_ | refine awp_exit ?_ | refine awp_skip ?_ | refine awp_ret ?_); (try simp only [NB, simprocAttr])))
      all_goals refine ⟨hlt, trivial, ?_⟩
      all_goals simp only [es, List.length_append, List.map_append, List.length_cons, List.length_nil, List.map_cons, List.map_nil, Nat.zero_add]
      all_goals refine ⟨rfl, ⟨_, rfl⟩, ?_, ?_⟩
      · simp only [keeps, avlt, avlts, blksLt, frL, upd_get, S1, simprocAttr, List.length_map, Int.natCast_zero, AV.p.injEq, PV.int.injEq, PV.bool.injEq, PV.sl.injEq] <;> (try and_intros) <;> (try assumption) <;> (try trivial) <;> (try omega)
      · exact ⟨by simpa using avltsJ _ (dueN now l j ++ [a.2]), trivial⟩
    · rw [if_neg hc, List.append_nil] at es
      repeat' (first | ((first | refine aops_nil ?_ | refine aqops_nil ?_ | refine arun_nil ?_ | refine arunT_nil ?_); (try simp only [NB])) | ((repeat ((fail_if_success (refine hK _ ?_)); clear hK K)); refine hK _ ?_; clear hK K) | ((first | refine aops_k fun K1 hK1 => ?_ | refine aqops_k fun K1 hK1 => ?_ | refine arun_eff rfl rfl rfl fun K1 hK1 => ?_ | refine awp_cond_k fun A B hA hB => ?_); simp only [S1, simprocAttr, TTCkL, jl, j0, hnx, hmax, hc, hbH, hlH, ckB, alB, hdd, hcl, takeC_st, cAl_len, List.length_map, List.length_drop, Nat.mul_one, Nat.zero_add]; first | (refine hK1 _ ?_; clear hK1 K1) | ((first | refine hA ?_ | refine hB ?_); clear hA hB A B) | ((first | apply call_a E17 | apply call_q E17); exact (hnow _); (refine hK1 _ ?_; clear hK1 K1)) | (((first | (refine ⟨fun hg => hA ?_, fun hg => hB ?_⟩ <;> clear hA hB A B) | refine ⟨fun hg => ?_, fun hg => ?_⟩) <;> (try simp only [BN2] at hg) <;> (try simp only [hg, cond_true, cond_false])) <;> (try (refine hK1 _ ?_; clear hK1 K1)) <;> (try simp only [BN3] at hg))) | ((first | refine arun_q (v := ?_) rfl rfl rfl rfl (by decide) (fun R1 K1 hK1 => ?_) ?_ | refine arun_f (v := ?_) rfl rfl rfl (by decide) (fun K1 hK1 => ?_) ?_ | refine arunT_f (v := ?_) rfl rfl rfl (by decide) (fun K1 hK1 => ?_) ?_); rotate_left; (focus (simp only [S1, simprocAttr, TTCkL, jl, j0, hnx, hmax, hc, hbH, hlH, ckB, alB, hdd, hcl, takeC_st, cAl_len, List.length_map, List.length_drop, Nat.mul_one, Nat.zero_add]; first | (exact hK1 _ _ _) | ((first | apply call_a E17 | apply call_q E17); exact (hnow _); exact hK1 _ _ _)))) | (refine arun_tail rfl rfl rfl ?_) | ((first | refine arun_allocj (z := ?_) 0 rfl rfl rfl rfl (by decide) rfl ?_ ?_ | refine arun_allocj (z := ?_) 1 rfl rfl rfl rfl (by decide) rfl ?_ ?_ | refine arun_allocj (z := ?_) 2 rfl rfl rfl rfl (by decide) rfl ?_ ?_); rotate_left; (focus (simp only [S1, simprocAttr, TTCkL, jl, j0, hnx, hmax, hc, hbH, hlH, ckB, alB, hdd, hcl, takeC_st, cAl_len, List.length_map, List.length_drop, Nat.mul_one, Nat.zero_add, zeroB]; rfl))) | (refine awp_seq_k fun K hK => ?_) | (refine awp_drawR (es := []) [0, 1, 2, 3, 4] 0 (fs := []) rfl (by kernel_rfl) (by kernel_rfl) ?_) | ((first | refine awp_region ?_ | refine awp_draw (by kernel_rfl) ?_ | refine awp_block ?_ | refine awp_exit ?_ | refine awp_skip ?_ | refine awp_ret ?_); (try simp only [NB, simprocAttr])))
      all_goals refine ⟨hlt, trivial, ?_⟩
      all_goals simp only [es]
      all_goals refine ⟨rfl, ⟨_, rfl⟩, ?_, ?_⟩
      · simp only [keeps, avlt, avlts, blksLt, frL, upd_get, S1, simprocAttr, List.length_map, Int.natCast_zero, AV.p.injEq, PV.int.injEq, PV.bool.injEq, PV.sl.injEq] <;> (try and_intros) <;> (try assumption) <;> (try trivial) <;> (try omega)
      · exact ⟨avltsJ _ _, trivial⟩
  · obtain rfl : j = l.length := by omega
    have e2 : dueN now l l.length = dueC now l := by unfold dueN dueC; rw [List.take_length]
    repeat' (first | ((first | refine aops_nil ?_ | refine aqops_nil ?_); (try simp only [NB])) | ((repeat ((fail_if_success (refine hK _ ?_)); clear hK K)); refine hK _ ?_; clear hK K) | ((first | refine aops_k fun K1 hK1 => ?_ | refine aqops_k fun K1 hK1 => ?_ | refine awp_cond_k fun A B hA hB => ?_); simp only [S1, simprocAttr, TTCkL, Int.lt_irrefl]; first | (refine hK1 _ ?_; clear hK1 K1) | ((first | refine hA ?_ | refine hB ?_); clear hA hB A B) | (((first | (refine ⟨fun hg => hA ?_, fun hg => hB ?_⟩ <;> clear hA hB A B) | refine ⟨fun hg => ?_, fun hg => ?_⟩) <;> (try simp only [BN2] at hg) <;> (try simp only [hg, cond_true, cond_false])) <;> (try (refine hK1 _ ?_; clear hK1 K1)) <;> (try simp only [BN3] at hg))) | (refine awp_seq_k fun K hK => ?_) | ((first | refine awp_region ?_ | refine awp_draw (by kernel_rfl) ?_ | refine awp_block ?_ | refine awp_exit ?_ | refine awp_skip ?_ | refine awp_ret ?_); (try simp only [NB, simprocAttr])))
    all_goals exact EndP_J (b := H.length) (g := (dueN now l l.length).length) (l := dueN now l l.length) (.inr rfl) rfl (by simp [blkAt, get_app0]) (Nat.le_refl _) (by simp) (by simp) (by rw [e2])
end
end Go.Proofs.Ytbbmfemplmelhaa.AM
end

section
set_option linter.unusedVariables false
set_option linter.unusedSimpArgs false
set_option maxRecDepth 4000
set_option maxHeartbeats 4000000
namespace Go.Proofs.Ytbbmfemplmelhaa.AM
open Go Go.Proofs
set_option linter.defProp false in
def TTCkM := And.intro T2 (And.intro T3 (And.intro T4 (And.intro T22 (And.intro T25 (And.intro T28 (And.intro T54 (And.intro T55 (And.intro T57 T59))))))))
attribute [local irreducible] awp aops aqops aeops arun arunT
variable {G : Nat → Option (List PV)}

/-- What the shelf tells of the sort of alarms. -/
abbrev HSK : Prop := SortsK Try.prog 24 25 2

section
variable {now : Int} {g : Nat} {l : List Al}
theorem set1 (hsk : HSK) (h : Heap) (ok : CkOk now l) (id after : Int) (hid : id ≤ 9223372036854775807) :
    ACalls Try.prog G 10 [.ptr h.length 0 0, .i id, .i after] (pk1 h now g l) (fun r h' => r = .i (setC now l id after).1 ∧ h' = pk1 h now (if (setC now l id after).1 = 0 then g + 1 else g) (setC now l id after).2) :=
  set_calls hsk (hk1 h) (hk2 h) (hk3 h) ok id after hid
theorem tick1 (h : Heap) (ok : CkOk now l) (n : Int) : ACalls Try.prog G 11 [.ptr h.length 0 0, .i n] (pk1 h now g l) (fun r h' => r = .i (tickC now n).1 ∧ h' = pk1 h (tickC now n).2 g l) :=
  tick_calls (hk1 h) (hk2 h) (hk3 h) ok.n0 ok.n1 n
theorem due1 (h : Heap) (ok : CkOk now l) : ACalls Try.prog G 12 [.ptr h.length 0 0] (pk1 h now g l) (fun r h' => r = aJ (dueC now l) ∧ h' = pk1 h now g l) :=
  due_calls (hk1 h) (hk2 h) (hk3 h) ok
theorem now1 (h : Heap) : ACalls Try.prog G 17 [.ptr h.length 0 0] (pk1 h now g l) (fun r h' => r = .i now ∧ h' = pk1 h now g l) :=
  now_calls (hk1 h) (hk2 h) (hk3 h)
theorem left1 (h : Heap) (ok : CkOk now l) (id : Int) : ACalls Try.prog G 15 [.ptr h.length 0 0, .i id] (pk1 h now g l) (fun r h' => r = .tup [.i (leftC now l id).1, .b (leftC now l id).2] ∧ h' = pk1 h now g l) :=
  left_calls (hk1 h) (hk2 h) (hk3 h) ok id
end

theorem twoOk : CkOk 2 [(2, 3), (2, 7)] := ⟨by decide, by decide, by decide, by decide, by decide, by decide, by unfold srtA; decide⟩
theorem twoOk1 : CkOk 0 [(2, 7)] := ⟨by decide, by decide, by decide, by decide, by decide, by decide, by unfold srtA; decide⟩
theorem twoOk2 : CkOk 1 [(2, 3), (2, 7)] := ⟨by decide, by decide, by decide, by decide, by decide, by decide, by unfold srtA; decide⟩
theorem twoOk3 : CkOk 1 [(2, 7)] := ⟨by decide, by decide, by decide, by decide, by decide, by decide, by unfold srtA; decide⟩

theorem two_calls (hsk : HSK) (h : Heap) : ACalls Try.prog G 9 [] h (fun r h' => r = .b true ∧ h' = h) := by
  have c1 : ACalls Try.prog G 10 [.ptr h.length 0 0, .i 7, .i 2] (pk1 h 0 0 []) (fun r h' => r = .i 0 ∧ h' = pk1 h 0 1 [(2, 7)]) := set1 hsk h CkOk.nil 7 2 (by decide)
  have c2 : ACalls Try.prog G 11 [.ptr h.length 0 0, .i 1] (pk1 h 0 1 [(2, 7)]) (fun r h' => r = .i 0 ∧ h' = pk1 h 1 1 [(2, 7)]) := tick1 h twoOk1 1
  have c3 : ACalls Try.prog G 10 [.ptr h.length 0 0, .i 3, .i 1] (pk1 h 1 1 [(2, 7)]) (fun r h' => r = .i 0 ∧ h' = pk1 h 1 2 [(2, 3), (2, 7)]) := set1 hsk h twoOk3 3 1 (by decide)
  have c4 : ACalls Try.prog G 11 [.ptr h.length 0 0, .i 1] (pk1 h 1 2 [(2, 3), (2, 7)]) (fun r h' => r = .i 0 ∧ h' = pk1 h 2 2 [(2, 3), (2, 7)]) := tick1 h twoOk2 1
  have c5 : ACalls Try.prog G 12 [.ptr h.length 0 0] (pk1 h 2 2 [(2, 3), (2, 7)]) (fun r h' => r = aJ [3, 7] ∧ h' = pk1 h 2 2 [(2, 3), (2, 7)]) := due1 h twoOk
  have c6 := fun h => ints_calls (G := G) [3, 7] [3, 7] (by simp) h
  have c7 := now1 (G := G) (now := 2) (g := 2) (l := [(2, 3), (2, 7)]) h
  have e0 : ((0 : Int) == 0) = true := rfl
  refine acalls_pure (rl := []) mixed Try.func9 rfl (rs := [.tmp 0]) rfl Try.ntmps9 (by simp) ?_
  repeat' (first | ((first | refine aops_nil ?_ | refine aqops_nil ?_); (try simp only [NB])) | ((repeat ((fail_if_success (refine hK _ ?_)); clear hK K)); refine hK _ ?_; clear hK K) | ((first | refine aops_k fun K1 hK1 => ?_ | refine aqops_k fun K1 hK1 => ?_ | refine awp_cond_k fun A B hA hB => ?_); simp only [S1, simprocAttr, TTCkM, pk1_len]; first | (refine hK1 _ ?_; clear hK1 K1) | ((first | refine hA ?_ | refine hB ?_); clear hA hB A B) | ((first | apply call_a E8 | apply call_q E8); exact (new_calls _); (refine hK1 _ ?_; clear hK1 K1)) | ((first | apply call_a E10 | apply call_q E10); exact c1; (refine hK1 _ ?_; clear hK1 K1)) | ((first | apply call_a E10 | apply call_q E10); exact c3; (refine hK1 _ ?_; clear hK1 K1)) | ((first | apply call_a E11 | apply call_q E11); exact c2; (refine hK1 _ ?_; clear hK1 K1)) | ((first | apply call_a E11 | apply call_q E11); exact c4; (refine hK1 _ ?_; clear hK1 K1)) | ((first | apply call_a E12 | apply call_q E12); exact c5; (refine hK1 _ ?_; clear hK1 K1)) | ((first | apply call_a E17 | apply call_q E17); exact c7; (refine hK1 _ ?_; clear hK1 K1)) | ((first | apply call_a E14 | apply call_q E14); exact (c6 _); (refine hK1 _ ?_; clear hK1 K1)) | (refine join_x (v := ?_) (fun hg hk9 => ?_) ?_; rotate_left; (focus (try ((try simp only [BN] at hg); simp only [S1, simprocAttr, TTCkM, pk1_len, hg] at hk9 ⊢)); first | exact hk9 | ((first | apply call_a E8 | apply call_q E8); exact (new_calls _); exact hk9) | ((first | apply call_a E10 | apply call_q E10); exact c1; exact hk9) | ((first | apply call_a E10 | apply call_q E10); exact c3; exact hk9) | ((first | apply call_a E11 | apply call_q E11); exact c2; exact hk9) | ((first | apply call_a E11 | apply call_q E11); exact c4; exact hk9) | ((first | apply call_a E12 | apply call_q E12); exact c5; exact hk9) | ((first | apply call_a E17 | apply call_q E17); exact c7; exact hk9) | ((first | apply call_a E14 | apply call_q E14); exact (c6 _); exact hk9)); (refine hK1 _ ?_; clear hK1 K1)) | (((first | (refine ⟨fun hg => hA ?_, fun hg => hB ?_⟩ <;> clear hA hB A B) | refine ⟨fun hg => ?_, fun hg => ?_⟩) <;> (try simp only [BN2] at hg) <;> (try simp only [hg, cond_true, cond_false])) <;> (try (refine hK1 _ ?_; clear hK1 K1)) <;> (try simp only [BN3] at hg))) | (refine awp_seq_k fun K hK => ?_) | ((first | refine awp_region ?_ | refine awp_draw (by kernel_rfl) ?_ | refine awp_block ?_ | refine awp_exit ?_ | refine awp_skip ?_ | refine awp_ret ?_); (try simp only [NB, simprocAttr])))
  all_goals simp only [EndP, FinP, resA, resL, resA1, lastV, lastA, lastAs, pur, purs, take_app, List.take_length, S1, simprocAttr, TTCkM, Nat.le_add_right, Nat.le_refl, pk1_take, pk1_len]
  all_goals simp

/-! A nil clock. -/
theorem nset_calls (id after : Int) (h : Heap) : ACalls Try.prog G 10 [.p .nilp, .i id, .i after] h (fun r h' => r = .i (if id < 0 ∨ after < 0 ∨ after > maxC then 1 else 7) ∧ h' = h) := by
  by_cases c1 : id < 0
  · rw [if_pos (.inl c1)]
    refine acalls_pure (rl := []) mixed Try.func10 rfl (rs := [.tmp 6]) rfl Try.ntmps10 (by simp) ?_
    repeat' (first | ((first | refine aops_nil ?_ | refine aqops_nil ?_); (try simp only [NB])) | ((repeat ((fail_if_success (refine hK _ ?_)); clear hK K)); refine hK _ ?_; clear hK K) | ((first | refine aops_k fun K1 hK1 => ?_ | refine aqops_k fun K1 hK1 => ?_ | refine awp_cond_k fun A B hA hB => ?_); simp only [S1, simprocAttr, TTCkM, c1]; first | (refine hK1 _ ?_; clear hK1 K1) | ((first | refine hA ?_ | refine hB ?_); clear hA hB A B) | (refine join_x (v := ?_) (fun hg hk9 => ?_) ?_; rotate_left; (focus (try ((try simp only [BN] at hg); simp only [S1, simprocAttr, TTCkM, c1, hg] at hk9 ⊢)); first | exact hk9); (refine hK1 _ ?_; clear hK1 K1)) | (((first | (refine ⟨fun hg => hA ?_, fun hg => hB ?_⟩ <;> clear hA hB A B) | refine ⟨fun hg => ?_, fun hg => ?_⟩) <;> (try simp only [BN2] at hg) <;> (try simp only [hg, cond_true, cond_false])) <;> (try (refine hK1 _ ?_; clear hK1 K1)) <;> (try simp only [BN3] at hg))) | (refine awp_seq_k fun K hK => ?_) | ((first | refine awp_region ?_ | refine awp_draw (by kernel_rfl) ?_ | refine awp_block ?_ | refine awp_exit ?_ | refine awp_skip ?_ | refine awp_ret ?_); (try simp only [NB, simprocAttr])))
    all_goals simp only [EndP, FinP, resA, resL, resA1, lastV, lastA, lastAs, pur, purs, take_app, List.take_length, S1, simprocAttr, TTCkM, Nat.le_add_right, Nat.le_refl]
  by_cases c2 : after < 0
  · rw [if_pos (.inr (.inl c2))]
    refine acalls_pure (rl := []) mixed Try.func10 rfl (rs := [.tmp 6]) rfl Try.ntmps10 (by simp) ?_
    repeat' (first | ((first | refine aops_nil ?_ | refine aqops_nil ?_); (try simp only [NB])) | ((repeat ((fail_if_success (refine hK _ ?_)); clear hK K)); refine hK _ ?_; clear hK K) | ((first | refine aops_k fun K1 hK1 => ?_ | refine aqops_k fun K1 hK1 => ?_ | refine awp_cond_k fun A B hA hB => ?_); simp only [S1, simprocAttr, TTCkM, c1, c2]; first | (refine hK1 _ ?_; clear hK1 K1) | ((first | refine hA ?_ | refine hB ?_); clear hA hB A B) | (refine join_x (v := ?_) (fun hg hk9 => ?_) ?_; rotate_left; (focus (try ((try simp only [BN] at hg); simp only [S1, simprocAttr, TTCkM, c1, c2, hg] at hk9 ⊢)); first | exact hk9); (refine hK1 _ ?_; clear hK1 K1)) | (((first | (refine ⟨fun hg => hA ?_, fun hg => hB ?_⟩ <;> clear hA hB A B) | refine ⟨fun hg => ?_, fun hg => ?_⟩) <;> (try simp only [BN2] at hg) <;> (try simp only [hg, cond_true, cond_false])) <;> (try (refine hK1 _ ?_; clear hK1 K1)) <;> (try simp only [BN3] at hg))) | (refine awp_seq_k fun K hK => ?_) | ((first | refine awp_region ?_ | refine awp_draw (by kernel_rfl) ?_ | refine awp_block ?_ | refine awp_exit ?_ | refine awp_skip ?_ | refine awp_ret ?_); (try simp only [NB, simprocAttr])))
    all_goals simp only [EndP, FinP, resA, resL, resA1, lastV, lastA, lastAs, pur, purs, take_app, List.take_length, S1, simprocAttr, TTCkM, Nat.le_add_right, Nat.le_refl]
  by_cases c3 : 1099511627776 < after
  · rw [if_pos (.inr (.inr c3))]
    refine acalls_pure (rl := []) mixed Try.func10 rfl (rs := [.tmp 6]) rfl Try.ntmps10 (by simp) ?_
    repeat' (first | ((first | refine aops_nil ?_ | refine aqops_nil ?_); (try simp only [NB])) | ((repeat ((fail_if_success (refine hK _ ?_)); clear hK K)); refine hK _ ?_; clear hK K) | ((first | refine aops_k fun K1 hK1 => ?_ | refine aqops_k fun K1 hK1 => ?_ | refine awp_cond_k fun A B hA hB => ?_); simp only [S1, simprocAttr, TTCkM, c1, c2, c3]; first | (refine hK1 _ ?_; clear hK1 K1) | ((first | refine hA ?_ | refine hB ?_); clear hA hB A B) | (refine join_x (v := ?_) (fun hg hk9 => ?_) ?_; rotate_left; (focus (try ((try simp only [BN] at hg); simp only [S1, simprocAttr, TTCkM, c1, c2, c3, hg] at hk9 ⊢)); first | exact hk9); (refine hK1 _ ?_; clear hK1 K1)) | (((first | (refine ⟨fun hg => hA ?_, fun hg => hB ?_⟩ <;> clear hA hB A B) | refine ⟨fun hg => ?_, fun hg => ?_⟩) <;> (try simp only [BN2] at hg) <;> (try simp only [hg, cond_true, cond_false])) <;> (try (refine hK1 _ ?_; clear hK1 K1)) <;> (try simp only [BN3] at hg))) | (refine awp_seq_k fun K hK => ?_) | ((first | refine awp_region ?_ | refine awp_draw (by kernel_rfl) ?_ | refine awp_block ?_ | refine awp_exit ?_ | refine awp_skip ?_ | refine awp_ret ?_); (try simp only [NB, simprocAttr])))
    all_goals simp only [EndP, FinP, resA, resL, resA1, lastV, lastA, lastAs, pur, purs, take_app, List.take_length, S1, simprocAttr, TTCkM, Nat.le_add_right, Nat.le_refl]
  · rw [if_neg (by unfold maxC; omega)]
    refine acalls_pure (rl := []) mixed Try.func10 rfl (rs := [.tmp 6]) rfl Try.ntmps10 (by simp) ?_
    repeat' (first | ((first | refine aops_nil ?_ | refine aqops_nil ?_); (try simp only [NB])) | ((repeat ((fail_if_success (refine hK _ ?_)); clear hK K)); refine hK _ ?_; clear hK K) | ((first | refine aops_k fun K1 hK1 => ?_ | refine aqops_k fun K1 hK1 => ?_ | refine awp_cond_k fun A B hA hB => ?_); simp only [S1, simprocAttr, TTCkM, c1, c2, c3]; first | (refine hK1 _ ?_; clear hK1 K1) | ((first | refine hA ?_ | refine hB ?_); clear hA hB A B) | (refine join_x (v := ?_) (fun hg hk9 => ?_) ?_; rotate_left; (focus (try ((try simp only [BN] at hg); simp only [S1, simprocAttr, TTCkM, c1, c2, c3, hg] at hk9 ⊢)); first | exact hk9); (refine hK1 _ ?_; clear hK1 K1)) | (((first | (refine ⟨fun hg => hA ?_, fun hg => hB ?_⟩ <;> clear hA hB A B) | refine ⟨fun hg => ?_, fun hg => ?_⟩) <;> (try simp only [BN2] at hg) <;> (try simp only [hg, cond_true, cond_false])) <;> (try (refine hK1 _ ?_; clear hK1 K1)) <;> (try simp only [BN3] at hg))) | (refine awp_seq_k fun K hK => ?_) | ((first | refine awp_region ?_ | refine awp_draw (by kernel_rfl) ?_ | refine awp_block ?_ | refine awp_exit ?_ | refine awp_skip ?_ | refine awp_ret ?_); (try simp only [NB, simprocAttr])))
    all_goals simp only [EndP, FinP, resA, resL, resA1, lastV, lastA, lastAs, pur, purs, take_app, List.take_length, S1, simprocAttr, TTCkM, Nat.le_add_right, Nat.le_refl]
theorem ntick_calls (n : Int) (h : Heap) : ACalls Try.prog G 11 [.p .nilp, .i n] h (fun r h' => r = .i (if n < 0 ∨ n > maxC then 1 else 7) ∧ h' = h) := by
  by_cases c2 : n < 0
  · rw [if_pos (.inl c2)]
    refine acalls_pure (rl := []) mixed Try.func11 rfl (rs := [.tmp 4]) rfl Try.ntmps11 (by simp) ?_
    repeat' (first | ((first | refine aops_nil ?_ | refine aqops_nil ?_); (try simp only [NB])) | ((repeat ((fail_if_success (refine hK _ ?_)); clear hK K)); refine hK _ ?_; clear hK K) | ((first | refine aops_k fun K1 hK1 => ?_ | refine aqops_k fun K1 hK1 => ?_ | refine awp_cond_k fun A B hA hB => ?_); simp only [S1, simprocAttr, TTCkM, c2]; first | (refine hK1 _ ?_; clear hK1 K1) | ((first | refine hA ?_ | refine hB ?_); clear hA hB A B) | (refine join_x (v := ?_) (fun hg hk9 => ?_) ?_; rotate_left; (focus (try ((try simp only [BN] at hg); simp only [S1, simprocAttr, TTCkM, c2, hg] at hk9 ⊢)); first | exact hk9); (refine hK1 _ ?_; clear hK1 K1)) | (((first | (refine ⟨fun hg => hA ?_, fun hg => hB ?_⟩ <;> clear hA hB A B) | refine ⟨fun hg => ?_, fun hg => ?_⟩) <;> (try simp only [BN2] at hg) <;> (try simp only [hg, cond_true, cond_false])) <;> (try (refine hK1 _ ?_; clear hK1 K1)) <;> (try simp only [BN3] at hg))) | (refine awp_seq_k fun K hK => ?_) | ((first | refine awp_region ?_ | refine awp_draw (by kernel_rfl) ?_ | refine awp_block ?_ | refine awp_exit ?_ | refine awp_skip ?_ | refine awp_ret ?_); (try simp only [NB, simprocAttr])))
    all_goals simp only [EndP, FinP, resA, resL, resA1, lastV, lastA, lastAs, pur, purs, take_app, List.take_length, S1, simprocAttr, TTCkM, Nat.le_add_right, Nat.le_refl]
  by_cases c3 : 1099511627776 < n
  · rw [if_pos (.inr c3)]
    refine acalls_pure (rl := []) mixed Try.func11 rfl (rs := [.tmp 4]) rfl Try.ntmps11 (by simp) ?_
    repeat' (first | ((first | refine aops_nil ?_ | refine aqops_nil ?_); (try simp only [NB])) | ((repeat ((fail_if_success (refine hK _ ?_)); clear hK K)); refine hK _ ?_; clear hK K) | ((first | refine aops_k fun K1 hK1 => ?_ | refine aqops_k fun K1 hK1 => ?_ | refine awp_cond_k fun A B hA hB => ?_); simp only [S1, simprocAttr, TTCkM, c2, c3]; first | (refine hK1 _ ?_; clear hK1 K1) | ((first | refine hA ?_ | refine hB ?_); clear hA hB A B) | (refine join_x (v := ?_) (fun hg hk9 => ?_) ?_; rotate_left; (focus (try ((try simp only [BN] at hg); simp only [S1, simprocAttr, TTCkM, c2, c3, hg] at hk9 ⊢)); first | exact hk9); (refine hK1 _ ?_; clear hK1 K1)) | (((first | (refine ⟨fun hg => hA ?_, fun hg => hB ?_⟩ <;> clear hA hB A B) | refine ⟨fun hg => ?_, fun hg => ?_⟩) <;> (try simp only [BN2] at hg) <;> (try simp only [hg, cond_true, cond_false])) <;> (try (refine hK1 _ ?_; clear hK1 K1)) <;> (try simp only [BN3] at hg))) | (refine awp_seq_k fun K hK => ?_) | ((first | refine awp_region ?_ | refine awp_draw (by kernel_rfl) ?_ | refine awp_block ?_ | refine awp_exit ?_ | refine awp_skip ?_ | refine awp_ret ?_); (try simp only [NB, simprocAttr])))
    all_goals simp only [EndP, FinP, resA, resL, resA1, lastV, lastA, lastAs, pur, purs, take_app, List.take_length, S1, simprocAttr, TTCkM, Nat.le_add_right, Nat.le_refl]
  · rw [if_neg (by unfold maxC; omega)]
    refine acalls_pure (rl := []) mixed Try.func11 rfl (rs := [.tmp 4]) rfl Try.ntmps11 (by simp) ?_
    repeat' (first | ((first | refine aops_nil ?_ | refine aqops_nil ?_); (try simp only [NB])) | ((repeat ((fail_if_success (refine hK _ ?_)); clear hK K)); refine hK _ ?_; clear hK K) | ((first | refine aops_k fun K1 hK1 => ?_ | refine aqops_k fun K1 hK1 => ?_ | refine awp_cond_k fun A B hA hB => ?_); simp only [S1, simprocAttr, TTCkM, c2, c3]; first | (refine hK1 _ ?_; clear hK1 K1) | ((first | refine hA ?_ | refine hB ?_); clear hA hB A B) | (refine join_x (v := ?_) (fun hg hk9 => ?_) ?_; rotate_left; (focus (try ((try simp only [BN] at hg); simp only [S1, simprocAttr, TTCkM, c2, c3, hg] at hk9 ⊢)); first | exact hk9); (refine hK1 _ ?_; clear hK1 K1)) | (((first | (refine ⟨fun hg => hA ?_, fun hg => hB ?_⟩ <;> clear hA hB A B) | refine ⟨fun hg => ?_, fun hg => ?_⟩) <;> (try simp only [BN2] at hg) <;> (try simp only [hg, cond_true, cond_false])) <;> (try (refine hK1 _ ?_; clear hK1 K1)) <;> (try simp only [BN3] at hg))) | (refine awp_seq_k fun K hK => ?_) | ((first | refine awp_region ?_ | refine awp_draw (by kernel_rfl) ?_ | refine awp_block ?_ | refine awp_exit ?_ | refine awp_skip ?_ | refine awp_ret ?_); (try simp only [NB, simprocAttr])))
    all_goals simp only [EndP, FinP, resA, resL, resA1, lastV, lastA, lastAs, pur, purs, take_app, List.take_length, S1, simprocAttr, TTCkM, Nat.le_add_right, Nat.le_refl]
theorem nfind_calls (id : Int) (h : Heap) : ACalls Try.prog G 22 [.p .nilp, .i id] h (fun r h' => r = .i (-1) ∧ h' = h) := by
  refine acalls_pure (rl := []) mixed Try.func22 rfl (rs := [.tmp 4]) rfl Try.ntmps22 (by simp) ?_
  repeat' (first | ((first | refine aops_nil ?_ | refine aqops_nil ?_); (try simp only [NB])) | ((repeat ((fail_if_success (refine hK _ ?_)); clear hK K)); refine hK _ ?_; clear hK K) | ((first | refine aops_k fun K1 hK1 => ?_ | refine aqops_k fun K1 hK1 => ?_ | refine awp_cond_k fun A B hA hB => ?_); simp only [S1, simprocAttr, TTCkM]; first | (refine hK1 _ ?_; clear hK1 K1) | ((first | refine hA ?_ | refine hB ?_); clear hA hB A B) | (((first | (refine ⟨fun hg => hA ?_, fun hg => hB ?_⟩ <;> clear hA hB A B) | refine ⟨fun hg => ?_, fun hg => ?_⟩) <;> (try simp only [BN2] at hg) <;> (try simp only [hg, cond_true, cond_false])) <;> (try (refine hK1 _ ?_; clear hK1 K1)) <;> (try simp only [BN3] at hg))) | (refine awp_seq_k fun K hK => ?_) | ((first | refine awp_region ?_ | refine awp_draw (by kernel_rfl) ?_ | refine awp_block ?_ | refine awp_exit ?_ | refine awp_skip ?_ | refine awp_ret ?_); (try simp only [NB, simprocAttr])))
  all_goals simp only [EndP, FinP, resA, resL, resA1, lastV, lastA, lastAs, pur, purs, take_app, List.take_length, S1, simprocAttr, TTCkM, Nat.le_add_right, Nat.le_refl]
theorem nleft_calls (id : Int) (h : Heap) : ACalls Try.prog G 15 [.p .nilp, .i id] h (fun r h' => r = .tup [.i 0, .b false] ∧ h' = h) := by
  refine acalls_pure (rl := []) mixed Try.func15 rfl (rs := [.tmp 4, .tmp 5]) rfl Try.ntmps15 (by simp) ?_
  repeat' (first | ((first | refine aops_nil ?_ | refine aqops_nil ?_); (try simp only [NB])) | ((repeat ((fail_if_success (refine hK _ ?_)); clear hK K)); refine hK _ ?_; clear hK K) | ((first | refine aops_k fun K1 hK1 => ?_ | refine aqops_k fun K1 hK1 => ?_ | refine awp_cond_k fun A B hA hB => ?_); simp only [S1, simprocAttr, TTCkM]; first | (refine hK1 _ ?_; clear hK1 K1) | ((first | refine hA ?_ | refine hB ?_); clear hA hB A B) | ((first | apply call_a E22 | apply call_q E22); exact (nfind_calls _ _); (refine hK1 _ ?_; clear hK1 K1)) | (((first | (refine ⟨fun hg => hA ?_, fun hg => hB ?_⟩ <;> clear hA hB A B) | refine ⟨fun hg => ?_, fun hg => ?_⟩) <;> (try simp only [BN2] at hg) <;> (try simp only [hg, cond_true, cond_false])) <;> (try (refine hK1 _ ?_; clear hK1 K1)) <;> (try simp only [BN3] at hg))) | (refine awp_seq_k fun K hK => ?_) | ((first | refine awp_region ?_ | refine awp_draw (by kernel_rfl) ?_ | refine awp_block ?_ | refine awp_exit ?_ | refine awp_skip ?_ | refine awp_ret ?_); (try simp only [NB, simprocAttr])))
  all_goals simp only [EndP, FinP, resA, resL, resA1, lastV, lastA, lastAs, pur, purs, take_app, List.take_length, S1, simprocAttr, TTCkM, Nat.le_add_right, Nat.le_refl]
theorem nnext_calls (h : Heap) : ACalls Try.prog G 13 [.p .nilp] h (fun r h' => r = .tup [.i 0, .b false] ∧ h' = h) := by
  refine acalls_pure (rl := []) mixed Try.func13 rfl (rs := [.tmp 2, .tmp 3]) rfl Try.ntmps13 (by simp) ?_
  repeat' (first | ((first | refine aops_nil ?_ | refine aqops_nil ?_); (try simp only [NB])) | ((repeat ((fail_if_success (refine hK _ ?_)); clear hK K)); refine hK _ ?_; clear hK K) | ((first | refine aops_k fun K1 hK1 => ?_ | refine aqops_k fun K1 hK1 => ?_ | refine awp_cond_k fun A B hA hB => ?_); simp only [S1, simprocAttr, TTCkM]; first | (refine hK1 _ ?_; clear hK1 K1) | ((first | refine hA ?_ | refine hB ?_); clear hA hB A B) | (refine join_x (v := ?_) (fun hg hk9 => ?_) ?_; rotate_left; (focus (try ((try simp only [BN] at hg); simp only [S1, simprocAttr, TTCkM, hg] at hk9 ⊢)); first | exact hk9); (refine hK1 _ ?_; clear hK1 K1)) | (((first | (refine ⟨fun hg => hA ?_, fun hg => hB ?_⟩ <;> clear hA hB A B) | refine ⟨fun hg => ?_, fun hg => ?_⟩) <;> (try simp only [BN2] at hg) <;> (try simp only [hg, cond_true, cond_false])) <;> (try (refine hK1 _ ?_; clear hK1 K1)) <;> (try simp only [BN3] at hg))) | (refine awp_seq_k fun K hK => ?_) | ((first | refine awp_region ?_ | refine awp_draw (by kernel_rfl) ?_ | refine awp_block ?_ | refine awp_exit ?_ | refine awp_skip ?_ | refine awp_ret ?_); (try simp only [NB, simprocAttr])))
  all_goals simp only [EndP, FinP, resA, resL, resA1, lastV, lastA, lastAs, pur, purs, take_app, List.take_length, S1, simprocAttr, TTCkM, Nat.le_add_right, Nat.le_refl]
theorem ndrop_calls (id : Int) (h : Heap) : ACalls Try.prog G 21 [.p .nilp, .i id] h (fun r h' => r = .i 7 ∧ h' = h) := by
  refine acalls_pure (rl := []) mixed Try.func21 rfl (rs := [.tmp 4]) rfl Try.ntmps21 (by simp) ?_
  repeat' (first | ((first | refine aops_nil ?_ | refine aqops_nil ?_); (try simp only [NB])) | ((repeat ((fail_if_success (refine hK _ ?_)); clear hK K)); refine hK _ ?_; clear hK K) | ((first | refine aops_k fun K1 hK1 => ?_ | refine aqops_k fun K1 hK1 => ?_ | refine awp_cond_k fun A B hA hB => ?_); simp only [S1, simprocAttr, TTCkM]; first | (refine hK1 _ ?_; clear hK1 K1) | ((first | refine hA ?_ | refine hB ?_); clear hA hB A B) | (((first | (refine ⟨fun hg => hA ?_, fun hg => hB ?_⟩ <;> clear hA hB A B) | refine ⟨fun hg => ?_, fun hg => ?_⟩) <;> (try simp only [BN2] at hg) <;> (try simp only [hg, cond_true, cond_false])) <;> (try (refine hK1 _ ?_; clear hK1 K1)) <;> (try simp only [BN3] at hg))) | (refine awp_seq_k fun K hK => ?_) | ((first | refine awp_region ?_ | refine awp_draw (by kernel_rfl) ?_ | refine awp_block ?_ | refine awp_exit ?_ | refine awp_skip ?_ | refine awp_ret ?_); (try simp only [NB, simprocAttr])))
  all_goals simp only [EndP, FinP, resA, resL, resA1, lastV, lastA, lastAs, pur, purs, take_app, List.take_length, S1, simprocAttr, TTCkM, Nat.le_add_right, Nat.le_refl]
theorem ndue_calls (h : Heap) : ACalls Try.prog G 12 [.p .nilp] h (fun r h' => r = aJ [] ∧ h' = h) := by
  refine acalls_pure (rl := []) mixed Try.func12 rfl (rs := [.tmp 2]) rfl Try.ntmps12 (by simp) ?_
  repeat' (first | ((first | refine aops_nil ?_ | refine aqops_nil ?_); (try simp only [NB])) | ((repeat ((fail_if_success (refine hK _ ?_)); clear hK K)); refine hK _ ?_; clear hK K) | ((first | refine aops_k fun K1 hK1 => ?_ | refine aqops_k fun K1 hK1 => ?_ | refine awp_cond_k fun A B hA hB => ?_); simp only [S1, simprocAttr, TTCkM]; first | (refine hK1 _ ?_; clear hK1 K1) | ((first | refine hA ?_ | refine hB ?_); clear hA hB A B) | (((first | (refine ⟨fun hg => hA ?_, fun hg => hB ?_⟩ <;> clear hA hB A B) | refine ⟨fun hg => ?_, fun hg => ?_⟩) <;> (try simp only [BN2] at hg) <;> (try simp only [hg, cond_true, cond_false])) <;> (try (refine hK1 _ ?_; clear hK1 K1)) <;> (try simp only [BN3] at hg))) | (refine awp_seq_k fun K hK => ?_) | ((first | refine awp_region ?_ | refine awp_draw (by kernel_rfl) ?_ | refine awp_block ?_ | refine awp_exit ?_ | refine awp_skip ?_ | refine awp_ret ?_); (try simp only [NB, simprocAttr])))
  all_goals simp only [EndP, FinP, resA, resL, resA1, lastV, lastA, lastAs, pur, purs, take_app, List.take_length, S1, simprocAttr, TTCkM, Nat.le_add_right, Nat.le_refl]
  all_goals rfl
theorem nnow_calls (h : Heap) : ACalls Try.prog G 17 [.p .nilp] h (fun r h' => r = .i 0 ∧ h' = h) := by
  refine acalls_pure (rl := []) mixed Try.func17 rfl (rs := [.tmp 2]) rfl Try.ntmps17 (by simp) ?_
  repeat' (first | ((first | refine aops_nil ?_ | refine aqops_nil ?_); (try simp only [NB])) | ((repeat ((fail_if_success (refine hK _ ?_)); clear hK K)); refine hK _ ?_; clear hK K) | ((first | refine aops_k fun K1 hK1 => ?_ | refine aqops_k fun K1 hK1 => ?_ | refine awp_cond_k fun A B hA hB => ?_); simp only [S1, simprocAttr, TTCkM]; first | (refine hK1 _ ?_; clear hK1 K1) | ((first | refine hA ?_ | refine hB ?_); clear hA hB A B) | (((first | (refine ⟨fun hg => hA ?_, fun hg => hB ?_⟩ <;> clear hA hB A B) | refine ⟨fun hg => ?_, fun hg => ?_⟩) <;> (try simp only [BN2] at hg) <;> (try simp only [hg, cond_true, cond_false])) <;> (try (refine hK1 _ ?_; clear hK1 K1)) <;> (try simp only [BN3] at hg))) | (refine awp_seq_k fun K hK => ?_) | ((first | refine awp_region ?_ | refine awp_draw (by kernel_rfl) ?_ | refine awp_block ?_ | refine awp_exit ?_ | refine awp_skip ?_ | refine awp_ret ?_); (try simp only [NB, simprocAttr])))
  all_goals simp only [EndP, FinP, resA, resL, resA1, lastV, lastA, lastAs, pur, purs, take_app, List.take_length, S1, simprocAttr, TTCkM, Nat.le_add_right, Nat.le_refl]
end Go.Proofs.Ytbbmfemplmelhaa.AM
end

section
set_option linter.unusedVariables false
set_option linter.unusedSimpArgs false
set_option maxRecDepth 4000
set_option maxHeartbeats 4000000
namespace Go.Proofs.Ytbbmfemplmelhaa.AM
open Go Go.Proofs
set_option linter.defProp false in
def TTCkN := And.intro T2 (And.intro T3 (And.intro T4 (And.intro T22 (And.intro T25 (And.intro T28 (And.intro T31 (And.intro T33 (And.intro T54 (And.intro T55 (And.intro T57 T59))))))))))
attribute [local irreducible] awp aops aqops aeops arun arunT
variable {G : Nat → Option (List PV)}

theorem nil_calls (hsk : HSK) (a id n : Int) (h : Heap) : ACalls Try.prog G 7 [.agg [.i a, .i id, .i n]] h (fun r h' => r = .b true ∧ h' = h) := by
  have htwo := fun h => two_calls (G := G) hsk h
  have hset := fun h => nset_calls (G := G) id n h
  have htick := fun h => ntick_calls (G := G) n h
  have hleft := fun h => nleft_calls (G := G) id h
  have hdrop := fun h => ndrop_calls (G := G) id h
  have tk3 : ∀ h : Heap, ∀ x : Int, True := fun _ _ => trivial
  by_cases c1 : 0 ≤ id
  · by_cases c2 : 0 ≤ n
    · by_cases c3 : n ≤ 1099511627776
      · have e1 : (if id < 0 ∨ n < 0 ∨ n > maxC then (1 : Int) else 7) = 7 := if_neg (by unfold maxC; omega)
        have e2 : (if n < 0 ∨ n > maxC then (1 : Int) else 7) = 7 := if_neg (by unfold maxC; omega)
        rw [e1] at hset; rw [e2] at htick
        refine acalls_pure (rl := []) mixed Try.func7 rfl (rs := [.tmp 2]) rfl Try.ntmps7 (by simp) ?_
        repeat' (first | ((first | refine aops_nil ?_ | refine aqops_nil ?_); (try simp only [NB])) | ((repeat ((fail_if_success (refine hK _ ?_)); clear hK K)); refine hK _ ?_; clear hK K) | ((first | refine aops_k fun K1 hK1 => ?_ | refine aqops_k fun K1 hK1 => ?_ | refine awp_cond_k fun A B hA hB => ?_); simp only [S1, simprocAttr, TTCkN, c1, c2, c3, takeC_st, List.map_nil, List.length_nil]; first | (refine hK1 _ ?_; clear hK1 K1) | ((first | refine hA ?_ | refine hB ?_); clear hA hB A B) | ((first | apply call_a E10 | apply call_q E10); exact (hset _); (refine hK1 _ ?_; clear hK1 K1)) | ((first | apply call_a E11 | apply call_q E11); exact (htick _); (refine hK1 _ ?_; clear hK1 K1)) | ((first | apply call_a E15 | apply call_q E15); exact (hleft _); (refine hK1 _ ?_; clear hK1 K1)) | ((first | apply call_a E21 | apply call_q E21); exact (hdrop _); (refine hK1 _ ?_; clear hK1 K1)) | ((first | apply call_a E13 | apply call_q E13); exact (nnext_calls _); (refine hK1 _ ?_; clear hK1 K1)) | ((first | apply call_a E12 | apply call_q E12); exact (ndue_calls _); (refine hK1 _ ?_; clear hK1 K1)) | ((first | apply call_a E17 | apply call_q E17); exact (nnow_calls _); (refine hK1 _ ?_; clear hK1 K1)) | ((first | apply call_a E9 | apply call_q E9); exact (htwo _); (refine hK1 _ ?_; clear hK1 K1)) | (refine join_x (v := ?_) (fun hg hk9 => ?_) ?_; rotate_left; (focus (try ((try simp only [BN] at hg); simp only [S1, simprocAttr, TTCkN, c1, c2, c3, takeC_st, List.map_nil, List.length_nil, hg] at hk9 ⊢)); first | exact hk9 | ((first | apply call_a E10 | apply call_q E10); exact (hset _); exact hk9) | ((first | apply call_a E11 | apply call_q E11); exact (htick _); exact hk9) | ((first | apply call_a E15 | apply call_q E15); exact (hleft _); exact hk9) | ((first | apply call_a E21 | apply call_q E21); exact (hdrop _); exact hk9) | ((first | apply call_a E13 | apply call_q E13); exact (nnext_calls _); exact hk9) | ((first | apply call_a E12 | apply call_q E12); exact (ndue_calls _); exact hk9) | ((first | apply call_a E17 | apply call_q E17); exact (nnow_calls _); exact hk9) | ((first | apply call_a E9 | apply call_q E9); exact (htwo _); exact hk9)); (refine hK1 _ ?_; clear hK1 K1)) | (((first | (refine ⟨fun hg => hA ?_, fun hg => hB ?_⟩ <;> clear hA hB A B) | refine ⟨fun hg => ?_, fun hg => ?_⟩) <;> (try simp only [BN2] at hg) <;> (try simp only [hg, cond_true, cond_false])) <;> (try (refine hK1 _ ?_; clear hK1 K1)) <;> (try simp only [BN3] at hg))) | (refine awp_seq_k fun K hK => ?_) | ((first | refine awp_region ?_ | refine awp_draw (by kernel_rfl) ?_ | refine awp_block ?_ | refine awp_exit ?_ | refine awp_skip ?_ | refine awp_ret ?_); (try simp only [NB, simprocAttr])))
        all_goals simp only [EndP, FinP, resA, resL, resA1, lastV, lastA, lastAs, pur, purs, take_app, List.take_length, S1, simprocAttr, TTCkN, Nat.le_add_right, Nat.le_refl]
      · have e1 : (if id < 0 ∨ n < 0 ∨ n > maxC then (1 : Int) else 7) = 1 := if_pos (by unfold maxC; omega)
        have e2 : (if n < 0 ∨ n > maxC then (1 : Int) else 7) = 1 := if_pos (by unfold maxC; omega)
        rw [e1] at hset; rw [e2] at htick
        refine acalls_pure (rl := []) mixed Try.func7 rfl (rs := [.tmp 2]) rfl Try.ntmps7 (by simp) ?_
        repeat' (first | ((first | refine aops_nil ?_ | refine aqops_nil ?_); (try simp only [NB])) | ((repeat ((fail_if_success (refine hK _ ?_)); clear hK K)); refine hK _ ?_; clear hK K) | ((first | refine aops_k fun K1 hK1 => ?_ | refine aqops_k fun K1 hK1 => ?_ | refine awp_cond_k fun A B hA hB => ?_); simp only [S1, simprocAttr, TTCkN, c1, c2, c3, takeC_st, List.map_nil, List.length_nil]; first | (refine hK1 _ ?_; clear hK1 K1) | ((first | refine hA ?_ | refine hB ?_); clear hA hB A B) | ((first | apply call_a E10 | apply call_q E10); exact (hset _); (refine hK1 _ ?_; clear hK1 K1)) | ((first | apply call_a E11 | apply call_q E11); exact (htick _); (refine hK1 _ ?_; clear hK1 K1)) | ((first | apply call_a E15 | apply call_q E15); exact (hleft _); (refine hK1 _ ?_; clear hK1 K1)) | ((first | apply call_a E21 | apply call_q E21); exact (hdrop _); (refine hK1 _ ?_; clear hK1 K1)) | ((first | apply call_a E13 | apply call_q E13); exact (nnext_calls _); (refine hK1 _ ?_; clear hK1 K1)) | ((first | apply call_a E12 | apply call_q E12); exact (ndue_calls _); (refine hK1 _ ?_; clear hK1 K1)) | ((first | apply call_a E17 | apply call_q E17); exact (nnow_calls _); (refine hK1 _ ?_; clear hK1 K1)) | ((first | apply call_a E9 | apply call_q E9); exact (htwo _); (refine hK1 _ ?_; clear hK1 K1)) | (refine join_x (v := ?_) (fun hg hk9 => ?_) ?_; rotate_left; (focus (try ((try simp only [BN] at hg); simp only [S1, simprocAttr, TTCkN, c1, c2, c3, takeC_st, List.map_nil, List.length_nil, hg] at hk9 ⊢)); first | exact hk9 | ((first | apply call_a E10 | apply call_q E10); exact (hset _); exact hk9) | ((first | apply call_a E11 | apply call_q E11); exact (htick _); exact hk9) | ((first | apply call_a E15 | apply call_q E15); exact (hleft _); exact hk9) | ((first | apply call_a E21 | apply call_q E21); exact (hdrop _); exact hk9) | ((first | apply call_a E13 | apply call_q E13); exact (nnext_calls _); exact hk9) | ((first | apply call_a E12 | apply call_q E12); exact (ndue_calls _); exact hk9) | ((first | apply call_a E17 | apply call_q E17); exact (nnow_calls _); exact hk9) | ((first | apply call_a E9 | apply call_q E9); exact (htwo _); exact hk9)); (refine hK1 _ ?_; clear hK1 K1)) | (((first | (refine ⟨fun hg => hA ?_, fun hg => hB ?_⟩ <;> clear hA hB A B) | refine ⟨fun hg => ?_, fun hg => ?_⟩) <;> (try simp only [BN2] at hg) <;> (try simp only [hg, cond_true, cond_false])) <;> (try (refine hK1 _ ?_; clear hK1 K1)) <;> (try simp only [BN3] at hg))) | (refine awp_seq_k fun K hK => ?_) | ((first | refine awp_region ?_ | refine awp_draw (by kernel_rfl) ?_ | refine awp_block ?_ | refine awp_exit ?_ | refine awp_skip ?_ | refine awp_ret ?_); (try simp only [NB, simprocAttr])))
        all_goals simp only [EndP, FinP, resA, resL, resA1, lastV, lastA, lastAs, pur, purs, take_app, List.take_length, S1, simprocAttr, TTCkN, Nat.le_add_right, Nat.le_refl]
    · have e1 : (if id < 0 ∨ n < 0 ∨ n > maxC then (1 : Int) else 7) = 1 := if_pos (by omega)
      have e2 : (if n < 0 ∨ n > maxC then (1 : Int) else 7) = 1 := if_pos (by omega)
      rw [e1] at hset; rw [e2] at htick
      refine acalls_pure (rl := []) mixed Try.func7 rfl (rs := [.tmp 2]) rfl Try.ntmps7 (by simp) ?_
      repeat' (first | ((first | refine aops_nil ?_ | refine aqops_nil ?_); (try simp only [NB])) | ((repeat ((fail_if_success (refine hK _ ?_)); clear hK K)); refine hK _ ?_; clear hK K) | ((first | refine aops_k fun K1 hK1 => ?_ | refine aqops_k fun K1 hK1 => ?_ | refine awp_cond_k fun A B hA hB => ?_); simp only [S1, simprocAttr, TTCkN, c1, c2, takeC_st, List.map_nil, List.length_nil]; first | (refine hK1 _ ?_; clear hK1 K1) | ((first | refine hA ?_ | refine hB ?_); clear hA hB A B) | ((first | apply call_a E10 | apply call_q E10); exact (hset _); (refine hK1 _ ?_; clear hK1 K1)) | ((first | apply call_a E11 | apply call_q E11); exact (htick _); (refine hK1 _ ?_; clear hK1 K1)) | ((first | apply call_a E15 | apply call_q E15); exact (hleft _); (refine hK1 _ ?_; clear hK1 K1)) | ((first | apply call_a E21 | apply call_q E21); exact (hdrop _); (refine hK1 _ ?_; clear hK1 K1)) | ((first | apply call_a E13 | apply call_q E13); exact (nnext_calls _); (refine hK1 _ ?_; clear hK1 K1)) | ((first | apply call_a E12 | apply call_q E12); exact (ndue_calls _); (refine hK1 _ ?_; clear hK1 K1)) | ((first | apply call_a E17 | apply call_q E17); exact (nnow_calls _); (refine hK1 _ ?_; clear hK1 K1)) | ((first | apply call_a E9 | apply call_q E9); exact (htwo _); (refine hK1 _ ?_; clear hK1 K1)) | (refine join_x (v := ?_) (fun hg hk9 => ?_) ?_; rotate_left; (focus (try ((try simp only [BN] at hg); simp only [S1, simprocAttr, TTCkN, c1, c2, takeC_st, List.map_nil, List.length_nil, hg] at hk9 ⊢)); first | exact hk9 | ((first | apply call_a E10 | apply call_q E10); exact (hset _); exact hk9) | ((first | apply call_a E11 | apply call_q E11); exact (htick _); exact hk9) | ((first | apply call_a E15 | apply call_q E15); exact (hleft _); exact hk9) | ((first | apply call_a E21 | apply call_q E21); exact (hdrop _); exact hk9) | ((first | apply call_a E13 | apply call_q E13); exact (nnext_calls _); exact hk9) | ((first | apply call_a E12 | apply call_q E12); exact (ndue_calls _); exact hk9) | ((first | apply call_a E17 | apply call_q E17); exact (nnow_calls _); exact hk9) | ((first | apply call_a E9 | apply call_q E9); exact (htwo _); exact hk9)); (refine hK1 _ ?_; clear hK1 K1)) | (((first | (refine ⟨fun hg => hA ?_, fun hg => hB ?_⟩ <;> clear hA hB A B) | refine ⟨fun hg => ?_, fun hg => ?_⟩) <;> (try simp only [BN2] at hg) <;> (try simp only [hg, cond_true, cond_false])) <;> (try (refine hK1 _ ?_; clear hK1 K1)) <;> (try simp only [BN3] at hg))) | (refine awp_seq_k fun K hK => ?_) | ((first | refine awp_region ?_ | refine awp_draw (by kernel_rfl) ?_ | refine awp_block ?_ | refine awp_exit ?_ | refine awp_skip ?_ | refine awp_ret ?_); (try simp only [NB, simprocAttr])))
      all_goals simp only [EndP, FinP, resA, resL, resA1, lastV, lastA, lastAs, pur, purs, take_app, List.take_length, S1, simprocAttr, TTCkN, Nat.le_add_right, Nat.le_refl]
  · have e1 : (if id < 0 ∨ n < 0 ∨ n > maxC then (1 : Int) else 7) = 1 := if_pos (by omega)
    rw [e1] at hset
    by_cases c2 : 0 ≤ n
    · by_cases c3 : n ≤ 1099511627776
      · have e2 : (if n < 0 ∨ n > maxC then (1 : Int) else 7) = 7 := if_neg (by unfold maxC; omega)
        rw [e2] at htick
        refine acalls_pure (rl := []) mixed Try.func7 rfl (rs := [.tmp 2]) rfl Try.ntmps7 (by simp) ?_
        repeat' (first | ((first | refine aops_nil ?_ | refine aqops_nil ?_); (try simp only [NB])) | ((repeat ((fail_if_success (refine hK _ ?_)); clear hK K)); refine hK _ ?_; clear hK K) | ((first | refine aops_k fun K1 hK1 => ?_ | refine aqops_k fun K1 hK1 => ?_ | refine awp_cond_k fun A B hA hB => ?_); simp only [S1, simprocAttr, TTCkN, c1, c2, c3, takeC_st, List.map_nil, List.length_nil]; first | (refine hK1 _ ?_; clear hK1 K1) | ((first | refine hA ?_ | refine hB ?_); clear hA hB A B) | ((first | apply call_a E10 | apply call_q E10); exact (hset _); (refine hK1 _ ?_; clear hK1 K1)) | ((first | apply call_a E11 | apply call_q E11); exact (htick _); (refine hK1 _ ?_; clear hK1 K1)) | ((first | apply call_a E15 | apply call_q E15); exact (hleft _); (refine hK1 _ ?_; clear hK1 K1)) | ((first | apply call_a E21 | apply call_q E21); exact (hdrop _); (refine hK1 _ ?_; clear hK1 K1)) | ((first | apply call_a E13 | apply call_q E13); exact (nnext_calls _); (refine hK1 _ ?_; clear hK1 K1)) | ((first | apply call_a E12 | apply call_q E12); exact (ndue_calls _); (refine hK1 _ ?_; clear hK1 K1)) | ((first | apply call_a E17 | apply call_q E17); exact (nnow_calls _); (refine hK1 _ ?_; clear hK1 K1)) | ((first | apply call_a E9 | apply call_q E9); exact (htwo _); (refine hK1 _ ?_; clear hK1 K1)) | (refine join_x (v := ?_) (fun hg hk9 => ?_) ?_; rotate_left; (focus (try ((try simp only [BN] at hg); simp only [S1, simprocAttr, TTCkN, c1, c2, c3, takeC_st, List.map_nil, List.length_nil, hg] at hk9 ⊢)); first | exact hk9 | ((first | apply call_a E10 | apply call_q E10); exact (hset _); exact hk9) | ((first | apply call_a E11 | apply call_q E11); exact (htick _); exact hk9) | ((first | apply call_a E15 | apply call_q E15); exact (hleft _); exact hk9) | ((first | apply call_a E21 | apply call_q E21); exact (hdrop _); exact hk9) | ((first | apply call_a E13 | apply call_q E13); exact (nnext_calls _); exact hk9) | ((first | apply call_a E12 | apply call_q E12); exact (ndue_calls _); exact hk9) | ((first | apply call_a E17 | apply call_q E17); exact (nnow_calls _); exact hk9) | ((first | apply call_a E9 | apply call_q E9); exact (htwo _); exact hk9)); (refine hK1 _ ?_; clear hK1 K1)) | (((first | (refine ⟨fun hg => hA ?_, fun hg => hB ?_⟩ <;> clear hA hB A B) | refine ⟨fun hg => ?_, fun hg => ?_⟩) <;> (try simp only [BN2] at hg) <;> (try simp only [hg, cond_true, cond_false])) <;> (try (refine hK1 _ ?_; clear hK1 K1)) <;> (try simp only [BN3] at hg))) | (refine awp_seq_k fun K hK => ?_) | ((first | refine awp_region ?_ | refine awp_draw (by kernel_rfl) ?_ | refine awp_block ?_ | refine awp_exit ?_ | refine awp_skip ?_ | refine awp_ret ?_); (try simp only [NB, simprocAttr])))
        all_goals simp only [EndP, FinP, resA, resL, resA1, lastV, lastA, lastAs, pur, purs, take_app, List.take_length, S1, simprocAttr, TTCkN, Nat.le_add_right, Nat.le_refl]
      · have e2 : (if n < 0 ∨ n > maxC then (1 : Int) else 7) = 1 := if_pos (by unfold maxC; omega)
        rw [e2] at htick
        refine acalls_pure (rl := []) mixed Try.func7 rfl (rs := [.tmp 2]) rfl Try.ntmps7 (by simp) ?_
        repeat' (first | ((first | refine aops_nil ?_ | refine aqops_nil ?_); (try simp only [NB])) | ((repeat ((fail_if_success (refine hK _ ?_)); clear hK K)); refine hK _ ?_; clear hK K) | ((first | refine aops_k fun K1 hK1 => ?_ | refine aqops_k fun K1 hK1 => ?_ | refine awp_cond_k fun A B hA hB => ?_); simp only [S1, simprocAttr, TTCkN, c1, c2, c3, takeC_st, List.map_nil, List.length_nil]; first | (refine hK1 _ ?_; clear hK1 K1) | ((first | refine hA ?_ | refine hB ?_); clear hA hB A B) | ((first | apply call_a E10 | apply call_q E10); exact (hset _); (refine hK1 _ ?_; clear hK1 K1)) | ((first | apply call_a E11 | apply call_q E11); exact (htick _); (refine hK1 _ ?_; clear hK1 K1)) | ((first | apply call_a E15 | apply call_q E15); exact (hleft _); (refine hK1 _ ?_; clear hK1 K1)) | ((first | apply call_a E21 | apply call_q E21); exact (hdrop _); (refine hK1 _ ?_; clear hK1 K1)) | ((first | apply call_a E13 | apply call_q E13); exact (nnext_calls _); (refine hK1 _ ?_; clear hK1 K1)) | ((first | apply call_a E12 | apply call_q E12); exact (ndue_calls _); (refine hK1 _ ?_; clear hK1 K1)) | ((first | apply call_a E17 | apply call_q E17); exact (nnow_calls _); (refine hK1 _ ?_; clear hK1 K1)) | ((first | apply call_a E9 | apply call_q E9); exact (htwo _); (refine hK1 _ ?_; clear hK1 K1)) | (refine join_x (v := ?_) (fun hg hk9 => ?_) ?_; rotate_left; (focus (try ((try simp only [BN] at hg); simp only [S1, simprocAttr, TTCkN, c1, c2, c3, takeC_st, List.map_nil, List.length_nil, hg] at hk9 ⊢)); first | exact hk9 | ((first | apply call_a E10 | apply call_q E10); exact (hset _); exact hk9) | ((first | apply call_a E11 | apply call_q E11); exact (htick _); exact hk9) | ((first | apply call_a E15 | apply call_q E15); exact (hleft _); exact hk9) | ((first | apply call_a E21 | apply call_q E21); exact (hdrop _); exact hk9) | ((first | apply call_a E13 | apply call_q E13); exact (nnext_calls _); exact hk9) | ((first | apply call_a E12 | apply call_q E12); exact (ndue_calls _); exact hk9) | ((first | apply call_a E17 | apply call_q E17); exact (nnow_calls _); exact hk9) | ((first | apply call_a E9 | apply call_q E9); exact (htwo _); exact hk9)); (refine hK1 _ ?_; clear hK1 K1)) | (((first | (refine ⟨fun hg => hA ?_, fun hg => hB ?_⟩ <;> clear hA hB A B) | refine ⟨fun hg => ?_, fun hg => ?_⟩) <;> (try simp only [BN2] at hg) <;> (try simp only [hg, cond_true, cond_false])) <;> (try (refine hK1 _ ?_; clear hK1 K1)) <;> (try simp only [BN3] at hg))) | (refine awp_seq_k fun K hK => ?_) | ((first | refine awp_region ?_ | refine awp_draw (by kernel_rfl) ?_ | refine awp_block ?_ | refine awp_exit ?_ | refine awp_skip ?_ | refine awp_ret ?_); (try simp only [NB, simprocAttr])))
        all_goals simp only [EndP, FinP, resA, resL, resA1, lastV, lastA, lastAs, pur, purs, take_app, List.take_length, S1, simprocAttr, TTCkN, Nat.le_add_right, Nat.le_refl]
    · have e2 : (if n < 0 ∨ n > maxC then (1 : Int) else 7) = 1 := if_pos (by omega)
      rw [e2] at htick
      refine acalls_pure (rl := []) mixed Try.func7 rfl (rs := [.tmp 2]) rfl Try.ntmps7 (by simp) ?_
      repeat' (first | ((first | refine aops_nil ?_ | refine aqops_nil ?_); (try simp only [NB])) | ((repeat ((fail_if_success (refine hK _ ?_)); clear hK K)); refine hK _ ?_; clear hK K) | ((first | refine aops_k fun K1 hK1 => ?_ | refine aqops_k fun K1 hK1 => ?_ | refine awp_cond_k fun A B hA hB => ?_); simp only [S1, simprocAttr, TTCkN, c1, c2, takeC_st, List.map_nil, List.length_nil]; first | (refine hK1 _ ?_; clear hK1 K1) | ((first | refine hA ?_ | refine hB ?_); clear hA hB A B) | ((first | apply call_a E10 | apply call_q E10); exact (hset _); (refine hK1 _ ?_; clear hK1 K1)) | ((first | apply call_a E11 | apply call_q E11); exact (htick _); (refine hK1 _ ?_; clear hK1 K1)) | ((first | apply call_a E15 | apply call_q E15); exact (hleft _); (refine hK1 _ ?_; clear hK1 K1)) | ((first | apply call_a E21 | apply call_q E21); exact (hdrop _); (refine hK1 _ ?_; clear hK1 K1)) | ((first | apply call_a E13 | apply call_q E13); exact (nnext_calls _); (refine hK1 _ ?_; clear hK1 K1)) | ((first | apply call_a E12 | apply call_q E12); exact (ndue_calls _); (refine hK1 _ ?_; clear hK1 K1)) | ((first | apply call_a E17 | apply call_q E17); exact (nnow_calls _); (refine hK1 _ ?_; clear hK1 K1)) | ((first | apply call_a E9 | apply call_q E9); exact (htwo _); (refine hK1 _ ?_; clear hK1 K1)) | (refine join_x (v := ?_) (fun hg hk9 => ?_) ?_; rotate_left; (focus (try ((try simp only [BN] at hg); simp only [S1, simprocAttr, TTCkN, c1, c2, takeC_st, List.map_nil, List.length_nil, hg] at hk9 ⊢)); first | exact hk9 | ((first | apply call_a E10 | apply call_q E10); exact (hset _); exact hk9) | ((first | apply call_a E11 | apply call_q E11); exact (htick _); exact hk9) | ((first | apply call_a E15 | apply call_q E15); exact (hleft _); exact hk9) | ((first | apply call_a E21 | apply call_q E21); exact (hdrop _); exact hk9) | ((first | apply call_a E13 | apply call_q E13); exact (nnext_calls _); exact hk9) | ((first | apply call_a E12 | apply call_q E12); exact (ndue_calls _); exact hk9) | ((first | apply call_a E17 | apply call_q E17); exact (nnow_calls _); exact hk9) | ((first | apply call_a E9 | apply call_q E9); exact (htwo _); exact hk9)); (refine hK1 _ ?_; clear hK1 K1)) | (((first | (refine ⟨fun hg => hA ?_, fun hg => hB ?_⟩ <;> clear hA hB A B) | refine ⟨fun hg => ?_, fun hg => ?_⟩) <;> (try simp only [BN2] at hg) <;> (try simp only [hg, cond_true, cond_false])) <;> (try (refine hK1 _ ?_; clear hK1 K1)) <;> (try simp only [BN3] at hg))) | (refine awp_seq_k fun K hK => ?_) | ((first | refine awp_region ?_ | refine awp_draw (by kernel_rfl) ?_ | refine awp_block ?_ | refine awp_exit ?_ | refine awp_skip ?_ | refine awp_ret ?_); (try simp only [NB, simprocAttr])))
      all_goals simp only [EndP, FinP, resA, resL, resA1, lastV, lastA, lastAs, pur, purs, take_app, List.take_length, S1, simprocAttr, TTCkN, Nat.le_add_right, Nat.le_refl]
end Go.Proofs.Ytbbmfemplmelhaa.AM
end

section
set_option linter.unusedVariables false
set_option linter.unusedSimpArgs false
set_option maxRecDepth 4000
set_option maxHeartbeats 4000000
namespace Go.Proofs.Ytbbmfemplmelhaa.AM
open Go Go.Proofs
set_option linter.defProp false in
def TTCkO := And.intro T2 (And.intro T3 (And.intro T4 (And.intro T22 (And.intro T25 (And.intro T28 (And.intro T31 (And.intro T33 (And.intro T54 (And.intro T55 (And.intro T57 T59))))))))))
attribute [local irreducible] awp aops aqops aeops arun arunT
variable {G : Nat → Option (List PV)}

theorem full_calls (hsk : HSK) (n : Int) (h : Heap) : ACalls Try.prog G 3 [.i n] h (fun r h' => r = .b true ∧ h' = h) := by
  have htwo := fun h => two_calls (G := G) hsk h
  by_cases c1 : n < 0
  · refine acalls_pure (rl := []) mixed Try.func3 rfl (rs := [.tmp 2]) rfl Try.ntmps3 (by simp) ?_
    repeat' (first | ((first | refine aops_nil ?_ | refine aqops_nil ?_); (try simp only [NB])) | ((repeat ((fail_if_success (refine hK _ ?_)); clear hK K)); refine hK _ ?_; clear hK K) | ((first | refine aops_k fun K1 hK1 => ?_ | refine aqops_k fun K1 hK1 => ?_ | refine awp_cond_k fun A B hA hB => ?_); simp only [S1, simprocAttr, TTCkO, c1, pk1_len]; first | (refine hK1 _ ?_; clear hK1 K1) | ((first | refine hA ?_ | refine hB ?_); clear hA hB A B) | ((first | apply call_a E8 | apply call_q E8); exact (new_calls _); (refine hK1 _ ?_; clear hK1 K1)) | ((first | apply call_a E9 | apply call_q E9); exact (htwo _); (refine hK1 _ ?_; clear hK1 K1)) | (refine join_x (v := ?_) (fun hg hk9 => ?_) ?_; rotate_left; (focus (try ((try simp only [BN] at hg); simp only [S1, simprocAttr, TTCkO, c1, pk1_len, hg] at hk9 ⊢)); first | exact hk9 | ((first | apply call_a E8 | apply call_q E8); exact (new_calls _); exact hk9) | ((first | apply call_a E9 | apply call_q E9); exact (htwo _); exact hk9)); (refine hK1 _ ?_; clear hK1 K1)) | (((first | (refine ⟨fun hg => hA ?_, fun hg => hB ?_⟩ <;> clear hA hB A B) | refine ⟨fun hg => ?_, fun hg => ?_⟩) <;> (try simp only [BN2] at hg) <;> (try simp only [hg, cond_true, cond_false])) <;> (try (refine hK1 _ ?_; clear hK1 K1)) <;> (try simp only [BN3] at hg))) | (refine awp_seq_k fun K hK => ?_) | ((first | refine awp_region ?_ | refine awp_draw (by kernel_rfl) ?_ | refine awp_block ?_ | refine awp_exit ?_ | refine awp_skip ?_ | refine awp_ret ?_); (try simp only [NB, simprocAttr])))
    all_goals simp only [EndP, FinP, resA, resL, resA1, lastV, lastA, lastAs, pur, purs, take_app, List.take_length, S1, simprocAttr, TTCkO, Nat.le_add_right, Nat.le_refl, pk1_take, pk1_len]
    all_goals simp
  by_cases c2 : 100 < n
  · refine acalls_pure (rl := []) mixed Try.func3 rfl (rs := [.tmp 2]) rfl Try.ntmps3 (by simp) ?_
    repeat' (first | ((first | refine aops_nil ?_ | refine aqops_nil ?_); (try simp only [NB])) | ((repeat ((fail_if_success (refine hK _ ?_)); clear hK K)); refine hK _ ?_; clear hK K) | ((first | refine aops_k fun K1 hK1 => ?_ | refine aqops_k fun K1 hK1 => ?_ | refine awp_cond_k fun A B hA hB => ?_); simp only [S1, simprocAttr, TTCkO, c1, c2, pk1_len]; first | (refine hK1 _ ?_; clear hK1 K1) | ((first | refine hA ?_ | refine hB ?_); clear hA hB A B) | ((first | apply call_a E8 | apply call_q E8); exact (new_calls _); (refine hK1 _ ?_; clear hK1 K1)) | ((first | apply call_a E9 | apply call_q E9); exact (htwo _); (refine hK1 _ ?_; clear hK1 K1)) | (refine join_x (v := ?_) (fun hg hk9 => ?_) ?_; rotate_left; (focus (try ((try simp only [BN] at hg); simp only [S1, simprocAttr, TTCkO, c1, c2, pk1_len, hg] at hk9 ⊢)); first | exact hk9 | ((first | apply call_a E8 | apply call_q E8); exact (new_calls _); exact hk9) | ((first | apply call_a E9 | apply call_q E9); exact (htwo _); exact hk9)); (refine hK1 _ ?_; clear hK1 K1)) | (((first | (refine ⟨fun hg => hA ?_, fun hg => hB ?_⟩ <;> clear hA hB A B) | refine ⟨fun hg => ?_, fun hg => ?_⟩) <;> (try simp only [BN2] at hg) <;> (try simp only [hg, cond_true, cond_false])) <;> (try (refine hK1 _ ?_; clear hK1 K1)) <;> (try simp only [BN3] at hg))) | (refine awp_seq_k fun K hK => ?_) | ((first | refine awp_region ?_ | refine awp_draw (by kernel_rfl) ?_ | refine awp_block ?_ | refine awp_exit ?_ | refine awp_skip ?_ | refine awp_ret ?_); (try simp only [NB, simprocAttr])))
    all_goals simp only [EndP, FinP, resA, resL, resA1, lastV, lastA, lastAs, pur, purs, take_app, List.take_length, S1, simprocAttr, TTCkO, Nat.le_add_right, Nat.le_refl, pk1_take, pk1_len]
    all_goals simp
  obtain ⟨m, rfl⟩ : ∃ m : Nat, n = (m : Int) := ⟨n.toNat, by omega⟩
  have hm : m ≤ 100 := by omega
  have hag : (setC 0 (fullS m) 0 5).1 = if m = 0 then 0 else 8 := by
    by_cases h0 : m = 0
    · subst h0; rw [full_none]; rfl
    · rw [full_again hm (by omega), if_neg h0]
  have hok : CkOk 0 (setC 0 (fullS m) 0 5).2 := (full_ok m hm).set 0 5 (by decide)
  have hdl : (dueC 100 (setC 0 (fullS m) 0 5).2).length = if m = 0 then 1 else min m 64 := by
    by_cases h0 : m = 0
    · subst h0; rw [full_none]; rfl
    · rw [full_again hm (by omega), if_neg h0]; exact full_due hm
  have hs5 := fun g h => set1 (G := G) (g := g) hsk h (full_ok m hm) 0 5 (by decide)
  rw [hag] at hs5
  have hok2 : CkOk 100 (setC 0 (fullS m) 0 5).2 := by have := hok.tick 100; rwa [full_tick] at this
  generalize (setC 0 (fullS m) 0 5).2 = l2 at *
  have ht := fun g h => tick1 (G := G) (g := g) h hok 100
  rw [full_tick] at ht
  simp only at ht
  have hd := fun g h => due1 (G := G) (g := g) h hok2
  refine acalls_pure (rl := []) mixed Try.func3 rfl (rs := [.tmp 2]) rfl Try.ntmps3 (by simp) ?_
  repeat' (first | ((first | refine aops_nil ?_ | refine aqops_nil ?_); (try simp only [NB])) | ((repeat ((fail_if_success (refine hK _ ?_)); clear hK K)); refine hK _ ?_; clear hK K) | ((first | refine aops_k fun K1 hK1 => ?_ | refine aqops_k fun K1 hK1 => ?_ | refine awp_cond_k fun A B hA hB => ?_); simp only [S1, simprocAttr, TTCkO, c1, c2, pk1_len]; first | (refine hK1 _ ?_; clear hK1 K1) | ((first | refine hA ?_ | refine hB ?_); clear hA hB A B) | ((first | apply call_a E8 | apply call_q E8); exact (new_calls _); (refine hK1 _ ?_; clear hK1 K1)) | (refine join_x (v := ?_) (fun hg hk9 => ?_) ?_; rotate_left; (focus (try ((try simp only [BN] at hg); simp only [S1, simprocAttr, TTCkO, c1, c2, pk1_len, hg] at hk9 ⊢)); first | exact hk9 | ((first | apply call_a E8 | apply call_q E8); exact (new_calls _); exact hk9)); (refine hK1 _ ?_; clear hK1 K1)) | (((first | (refine ⟨fun hg => hA ?_, fun hg => hB ?_⟩ <;> clear hA hB A B) | refine ⟨fun hg => ?_, fun hg => ?_⟩) <;> (try simp only [BN2] at hg) <;> (try simp only [hg, cond_true, cond_false])) <;> (try (refine hK1 _ ?_; clear hK1 K1)) <;> (try simp only [BN3] at hg))) | (refine awp_seq_k fun K hK => ?_) | ((first | refine awp_region ?_ | refine awp_draw (by kernel_rfl) ?_ | refine awp_block ?_ | refine awp_exit ?_ | refine awp_skip ?_ | refine awp_ret ?_); (try simp only [NB, simprocAttr])))
  refine awp_for m 71 (fun j => [(4, .i j), (0, .i m), (3, .ptr h.length 0 0)]) (fun j => [ckB 0 (h.length + 1) (min j 64) (fullS j), alB (min j 64) (fullS j)]) (fun j => True) ?_ trivial fun j hj hp K hK => ?_
  · refine ⟨rfl, ⟨[], by rw [pk1_is]; rfl⟩, ?_, ?_⟩
    · simp only [keeps, avlt, avlts, blksLt, frL, upd_get, S1, simprocAttr, List.length_map, Int.natCast_zero, AV.p.injEq, PV.int.injEq, PV.bool.injEq, PV.sl.injEq] <;> (try and_intros) <;> (try assumption) <;> (try trivial) <;> (try omega)
    · exact ⟨⟨trivial, by simp only [avlt, List.length_cons, List.length_nil]; omega, trivial⟩, cAl_avl _ _, trivial⟩
  rw [← pk1_is]
  rcases Nat.lt_or_ge j m with hlt | hge
  · have jl : (j : Int) < (m : Int) := by omega
    have hw : IntKind.i64.wrap (100 - (j : Int)) = 100 - (j : Int) := IntWalk.i64_in _ (by omega)
    have hnx : IntKind.i64.wrap ((j : Int) + 1) = ((j + 1 : Nat) : Int) := by rw [IntWalk.i64_in _ (by omega)]; omega
    have hfi := (full_is (j + 1) (by omega)).2 (by omega)
    rw [Nat.add_sub_cancel] at hfi
    have hse := set1 (G := G) (g := min j 64) hsk h (full_ok j (by omega)) j (100 - j) (by omega)
    rw [hfi] at hse
    have el : (setC 0 (fullS j) j (100 - j)).2 = fullS (j + 1) := rfl
    rw [el] at hse
    by_cases h63 : j > 63
    · have j63 : (63 : Int) < (j : Int) := by omega
      have eg : min (j + 1) 64 = min j 64 := by omega
      rw [if_pos h63, if_neg (by decide)] at hse
      repeat' (first | ((first | refine aops_nil ?_ | refine aqops_nil ?_); (try simp only [NB])) | ((repeat ((fail_if_success (refine hK _ ?_)); clear hK K)); refine hK _ ?_; clear hK K) | ((first | refine aops_k fun K1 hK1 => ?_ | refine aqops_k fun K1 hK1 => ?_ | refine awp_cond_k fun A B hA hB => ?_); simp only [S1, simprocAttr, TTCkO, jl, hw, hnx, j63]; first | (refine hK1 _ ?_; clear hK1 K1) | ((first | refine hA ?_ | refine hB ?_); clear hA hB A B) | ((first | apply call_a E10 | apply call_q E10); exact hse; (refine hK1 _ ?_; clear hK1 K1)) | (refine join_x (v := ?_) (fun hg hk9 => ?_) ?_; rotate_left; (focus (try ((try simp only [BN] at hg); simp only [S1, simprocAttr, TTCkO, jl, hw, hnx, j63, hg] at hk9 ⊢)); first | exact hk9 | ((first | apply call_a E10 | apply call_q E10); exact hse; exact hk9)); (refine hK1 _ ?_; clear hK1 K1)) | (((first | (refine ⟨fun hg => hA ?_, fun hg => hB ?_⟩ <;> clear hA hB A B) | refine ⟨fun hg => ?_, fun hg => ?_⟩) <;> (try simp only [BN2] at hg) <;> (try simp only [hg, cond_true, cond_false])) <;> (try (refine hK1 _ ?_; clear hK1 K1)) <;> (try simp only [BN3] at hg))) | (refine awp_seq_k fun K hK => ?_) | ((first | refine awp_region ?_ | refine awp_draw (by kernel_rfl) ?_ | refine awp_block ?_ | refine awp_exit ?_ | refine awp_skip ?_ | refine awp_ret ?_); (try simp only [NB, simprocAttr])))
      all_goals refine ⟨hlt, trivial, ?_⟩
      all_goals refine ⟨rfl, ⟨[], by rw [pk1_is, eg, List.append_nil]⟩, ?_, ?_⟩
      · simp only [keeps, avlt, avlts, blksLt, frL, upd_get, S1, simprocAttr, List.length_map, Int.natCast_zero, AV.p.injEq, PV.int.injEq, PV.bool.injEq, PV.sl.injEq] <;> (try and_intros) <;> (try assumption) <;> (try trivial) <;> (try omega)
      · exact ⟨⟨trivial, by simp only [avlt, List.length_cons, List.length_nil]; omega, trivial⟩, cAl_avl _ _, trivial⟩
    · have j63 : ¬ ((63 : Int) < (j : Int)) := by omega
      have eg : min (j + 1) 64 = min j 64 + 1 := by omega
      rw [if_neg h63, if_pos rfl] at hse
      repeat' (first | ((first | refine aops_nil ?_ | refine aqops_nil ?_); (try simp only [NB])) | ((repeat ((fail_if_success (refine hK _ ?_)); clear hK K)); refine hK _ ?_; clear hK K) | ((first | refine aops_k fun K1 hK1 => ?_ | refine aqops_k fun K1 hK1 => ?_ | refine awp_cond_k fun A B hA hB => ?_); simp only [S1, simprocAttr, TTCkO, jl, hw, hnx, j63]; first | (refine hK1 _ ?_; clear hK1 K1) | ((first | refine hA ?_ | refine hB ?_); clear hA hB A B) | ((first | apply call_a E10 | apply call_q E10); exact hse; (refine hK1 _ ?_; clear hK1 K1)) | (refine join_x (v := ?_) (fun hg hk9 => ?_) ?_; rotate_left; (focus (try ((try simp only [BN] at hg); simp only [S1, simprocAttr, TTCkO, jl, hw, hnx, j63, hg] at hk9 ⊢)); first | exact hk9 | ((first | apply call_a E10 | apply call_q E10); exact hse; exact hk9)); (refine hK1 _ ?_; clear hK1 K1)) | (((first | (refine ⟨fun hg => hA ?_, fun hg => hB ?_⟩ <;> clear hA hB A B) | refine ⟨fun hg => ?_, fun hg => ?_⟩) <;> (try simp only [BN2] at hg) <;> (try simp only [hg, cond_true, cond_false])) <;> (try (refine hK1 _ ?_; clear hK1 K1)) <;> (try simp only [BN3] at hg))) | (refine awp_seq_k fun K hK => ?_) | ((first | refine awp_region ?_ | refine awp_draw (by kernel_rfl) ?_ | refine awp_block ?_ | refine awp_exit ?_ | refine awp_skip ?_ | refine awp_ret ?_); (try simp only [NB, simprocAttr])))
      all_goals refine ⟨hlt, trivial, ?_⟩
      all_goals refine ⟨rfl, ⟨[], by rw [pk1_is, eg, List.append_nil]⟩, ?_, ?_⟩
      · simp only [keeps, avlt, avlts, blksLt, frL, upd_get, S1, simprocAttr, List.length_map, Int.natCast_zero, AV.p.injEq, PV.int.injEq, PV.bool.injEq, PV.sl.injEq] <;> (try and_intros) <;> (try assumption) <;> (try trivial) <;> (try omega)
      · exact ⟨⟨trivial, by simp only [avlt, List.length_cons, List.length_nil]; omega, trivial⟩, cAl_avl _ _, trivial⟩
  · obtain rfl : j = m := by omega
    by_cases h0 : j = 0
    · have z1 : ((j : Int) == 0) = true := by simp [h0]
      have z2 : ¬ ((0 : Int) < (j : Int)) := by omega
      rw [if_pos h0] at hdl
      have hs5' := hs5 (min j 64) h
      rw [if_pos h0, if_pos rfl] at hs5'
      have ht' := ht (min j 64 + 1) h
      have hd' := hd (min j 64 + 1) h
      repeat' (first | ((first | refine aops_nil ?_ | refine aqops_nil ?_); (try simp only [NB])) | ((repeat ((fail_if_success (refine hK _ ?_)); clear hK K)); refine hK _ ?_; clear hK K) | ((first | refine aops_k fun K1 hK1 => ?_ | refine aqops_k fun K1 hK1 => ?_ | refine awp_cond_k fun A B hA hB => ?_); simp only [S1, simprocAttr, TTCkO, Int.lt_irrefl, z1, z2, hdl, pk1_len, List.length_map]; first | (refine hK1 _ ?_; clear hK1 K1) | ((first | refine hA ?_ | refine hB ?_); clear hA hB A B) | ((first | apply call_a E10 | apply call_q E10); exact hs5'; (refine hK1 _ ?_; clear hK1 K1)) | ((first | apply call_a E11 | apply call_q E11); exact ht'; (refine hK1 _ ?_; clear hK1 K1)) | ((first | apply call_a E12 | apply call_q E12); exact hd'; (refine hK1 _ ?_; clear hK1 K1)) | ((first | apply call_a E9 | apply call_q E9); exact (htwo _); (refine hK1 _ ?_; clear hK1 K1)) | (refine join_x (v := ?_) (fun hg hk9 => ?_) ?_; rotate_left; (focus (try ((try simp only [BN] at hg); simp only [S1, simprocAttr, TTCkO, Int.lt_irrefl, z1, z2, hdl, pk1_len, List.length_map, hg] at hk9 ⊢)); first | exact hk9 | ((first | apply call_a E10 | apply call_q E10); exact hs5'; exact hk9) | ((first | apply call_a E11 | apply call_q E11); exact ht'; exact hk9) | ((first | apply call_a E12 | apply call_q E12); exact hd'; exact hk9) | ((first | apply call_a E9 | apply call_q E9); exact (htwo _); exact hk9)); (refine hK1 _ ?_; clear hK1 K1)) | (((first | (refine ⟨fun hg => hA ?_, fun hg => hB ?_⟩ <;> clear hA hB A B) | refine ⟨fun hg => ?_, fun hg => ?_⟩) <;> (try simp only [BN2] at hg) <;> (try simp only [hg, cond_true, cond_false])) <;> (try (refine hK1 _ ?_; clear hK1 K1)) <;> (try simp only [BN3] at hg))) | (refine awp_seq_k fun K hK => ?_) | ((first | refine awp_region ?_ | refine awp_draw (by kernel_rfl) ?_ | refine awp_block ?_ | refine awp_exit ?_ | refine awp_skip ?_ | refine awp_ret ?_); (try simp only [NB, simprocAttr])))
      all_goals simp only [EndP, FinP, resA, resL, resA1, lastV, lastA, lastAs, pur, purs, take_app, List.take_length, S1, simprocAttr, TTCkO, Nat.le_add_right, Nat.le_refl, pk1_take, pk1_len]
      all_goals simp
    · have z1 : ((j : Int) == 0) = false := by simp [h0]
      have z2 : (0 : Int) < (j : Int) := by omega
      have z3 : ((if (64 : Int) < (j : Int) then (64 : Int) else (j : Int))) = ((min j 64 : Nat) : Int) := by split <;> omega
      have z4 : ((if (j : Int) < 64 then (j : Int) else (64 : Int))) = ((min j 64 : Nat) : Int) := by split <;> omega
      have z5 : ((8 : Int) == 0) = false := rfl
      rw [if_neg h0] at hdl
      have hs5' := hs5 (min j 64) h
      rw [if_neg h0, if_neg (by decide)] at hs5'
      have ht' := ht (min j 64) h
      have hd' := hd (min j 64) h
      repeat' (first | ((first | refine aops_nil ?_ | refine aqops_nil ?_); (try simp only [NB])) | ((repeat ((fail_if_success (refine hK _ ?_)); clear hK K)); refine hK _ ?_; clear hK K) | ((first | refine aops_k fun K1 hK1 => ?_ | refine aqops_k fun K1 hK1 => ?_ | refine awp_cond_k fun A B hA hB => ?_); simp only [S1, simprocAttr, TTCkO, Int.lt_irrefl, z1, z2, z3, z4, z5, hdl, pk1_len, List.length_map, beq_self_eq_true]; first | (refine hK1 _ ?_; clear hK1 K1) | ((first | refine hA ?_ | refine hB ?_); clear hA hB A B) | ((first | apply call_a E10 | apply call_q E10); exact hs5'; (refine hK1 _ ?_; clear hK1 K1)) | ((first | apply call_a E11 | apply call_q E11); exact ht'; (refine hK1 _ ?_; clear hK1 K1)) | ((first | apply call_a E12 | apply call_q E12); exact hd'; (refine hK1 _ ?_; clear hK1 K1)) | ((first | apply call_a E9 | apply call_q E9); exact (htwo _); (refine hK1 _ ?_; clear hK1 K1)) | (refine join_x (v := ?_) (fun hg hk9 => ?_) ?_; rotate_left; (focus (try ((try simp only [BN] at hg); simp only [S1, simprocAttr, TTCkO, Int.lt_irrefl, z1, z2, z3, z4, z5, hdl, pk1_len, List.length_map, beq_self_eq_true, hg] at hk9 ⊢)); first | exact hk9 | ((first | apply call_a E10 | apply call_q E10); exact hs5'; exact hk9) | ((first | apply call_a E11 | apply call_q E11); exact ht'; exact hk9) | ((first | apply call_a E12 | apply call_q E12); exact hd'; exact hk9) | ((first | apply call_a E9 | apply call_q E9); exact (htwo _); exact hk9)); (refine hK1 _ ?_; clear hK1 K1)) | (((first | (refine ⟨fun hg => hA ?_, fun hg => hB ?_⟩ <;> clear hA hB A B) | refine ⟨fun hg => ?_, fun hg => ?_⟩) <;> (try simp only [BN2] at hg) <;> (try simp only [hg, cond_true, cond_false])) <;> (try (refine hK1 _ ?_; clear hK1 K1)) <;> (try simp only [BN3] at hg))) | (refine awp_seq_k fun K hK => ?_) | ((first | refine awp_region ?_ | refine awp_draw (by kernel_rfl) ?_ | refine awp_block ?_ | refine awp_exit ?_ | refine awp_skip ?_ | refine awp_ret ?_); (try simp only [NB, simprocAttr])))
      all_goals simp only [EndP, FinP, resA, resL, resA1, lastV, lastA, lastAs, pur, purs, take_app, List.take_length, S1, simprocAttr, TTCkO, Nat.le_add_right, Nat.le_refl, pk1_take, pk1_len]
      all_goals simp
end Go.Proofs.Ytbbmfemplmelhaa.AM
end

section
set_option linter.unusedVariables false
set_option linter.unusedSimpArgs false
set_option maxRecDepth 4000
set_option maxHeartbeats 4000000
namespace Go.Proofs.Ytbbmfemplmelhaa.AM
open Go Go.Proofs
set_option linter.defProp false in
def TTCkP := And.intro T2 (And.intro T3 (And.intro T4 (And.intro T22 (And.intro T25 (And.intro T28 (And.intro T31 (And.intro T33 (And.intro T54 (And.intro T55 (And.intro T57 T59))))))))))
attribute [local irreducible] awp aops aqops aeops arun arunT
variable {G : Nat → Option (List PV)}

def nowN (ticks : List Int) (j : Nat) : Int := (ticks.take j).foldl (fun now n => (tickC now n).2) 0
theorem nowN_succ {ticks : List Int} {j : Nat} {n : Int} (h : ticks[j]? = some n) : nowN ticks (j + 1) = (tickC (nowN ticks j) n).2 := by
  unfold nowN
  rw [List.take_add_one, h, List.foldl_append]; rfl
theorem tick_cases (now n : Int) : (∃ e, tickC now n = (e, now) ∧ (e == 0) = false) ∨ (tickC now n = (0, now + n) ∧ 0 ≤ n ∧ now + n ≤ maxC) := by
  unfold tickC
  split
  · exact .inl ⟨1, rfl, rfl⟩
  · split
    · exact .inl ⟨40, rfl, rfl⟩
    · exact .inr ⟨rfl, by omega, by omega⟩
theorem bneI (x : Int) : (x != x) = false := by simp

theorem goes_calls (hsk : HSK) (after : Int) (ticks : List Int) (h : Heap) : ACalls Try.prog G 5 [.i after, aJ ticks] h (fun r h' => r = .b true ∧ h' = h) := by
  have htwo := fun h => two_calls (G := G) hsk h
  by_cases c0 : (100 : Int) < (ticks.length : Int)
  · refine acalls_pure (rl := []) mixed Try.func5 rfl (rs := [.tmp 4]) rfl Try.ntmps5 (by simp) ?_
    repeat' (first | ((first | refine aops_nil ?_ | refine aqops_nil ?_); (try simp only [NB])) | ((repeat ((fail_if_success (refine hK _ ?_)); clear hK K)); refine hK _ ?_; clear hK K) | ((first | refine aops_k fun K1 hK1 => ?_ | refine aqops_k fun K1 hK1 => ?_ | refine awp_cond_k fun A B hA hB => ?_); simp only [S1, simprocAttr, TTCkP, c0, pk1_len, List.length_map]; first | (refine hK1 _ ?_; clear hK1 K1) | ((first | refine hA ?_ | refine hB ?_); clear hA hB A B) | ((first | apply call_a E8 | apply call_q E8); exact (new_calls _); (refine hK1 _ ?_; clear hK1 K1)) | ((first | apply call_a E9 | apply call_q E9); exact (htwo _); (refine hK1 _ ?_; clear hK1 K1)) | (refine join_x (v := ?_) (fun hg hk9 => ?_) ?_; rotate_left; (focus (try ((try simp only [BN] at hg); simp only [S1, simprocAttr, TTCkP, c0, pk1_len, List.length_map, hg] at hk9 ⊢)); first | exact hk9 | ((first | apply call_a E8 | apply call_q E8); exact (new_calls _); exact hk9) | ((first | apply call_a E9 | apply call_q E9); exact (htwo _); exact hk9)); (refine hK1 _ ?_; clear hK1 K1)) | (((first | (refine ⟨fun hg => hA ?_, fun hg => hB ?_⟩ <;> clear hA hB A B) | refine ⟨fun hg => ?_, fun hg => ?_⟩) <;> (try simp only [BN2] at hg) <;> (try simp only [hg, cond_true, cond_false])) <;> (try (refine hK1 _ ?_; clear hK1 K1)) <;> (try simp only [BN3] at hg))) | (refine awp_seq_k fun K hK => ?_) | ((first | refine awp_region ?_ | refine awp_draw (by kernel_rfl) ?_ | refine awp_block ?_ | refine awp_exit ?_ | refine awp_skip ?_ | refine awp_ret ?_); (try simp only [NB, simprocAttr])))
    all_goals simp only [EndP, FinP, resA, resL, resA1, lastV, lastA, lastAs, pur, purs, take_app, List.take_length, S1, simprocAttr, TTCkP, Nat.le_add_right, Nat.le_refl, pk1_take, pk1_len]
    all_goals simp
  by_cases c1 : after < 0
  · refine acalls_pure (rl := []) mixed Try.func5 rfl (rs := [.tmp 4]) rfl Try.ntmps5 (by simp) ?_
    repeat' (first | ((first | refine aops_nil ?_ | refine aqops_nil ?_); (try simp only [NB])) | ((repeat ((fail_if_success (refine hK _ ?_)); clear hK K)); refine hK _ ?_; clear hK K) | ((first | refine aops_k fun K1 hK1 => ?_ | refine aqops_k fun K1 hK1 => ?_ | refine awp_cond_k fun A B hA hB => ?_); simp only [S1, simprocAttr, TTCkP, c0, c1, pk1_len, List.length_map]; first | (refine hK1 _ ?_; clear hK1 K1) | ((first | refine hA ?_ | refine hB ?_); clear hA hB A B) | ((first | apply call_a E8 | apply call_q E8); exact (new_calls _); (refine hK1 _ ?_; clear hK1 K1)) | ((first | apply call_a E9 | apply call_q E9); exact (htwo _); (refine hK1 _ ?_; clear hK1 K1)) | (refine join_x (v := ?_) (fun hg hk9 => ?_) ?_; rotate_left; (focus (try ((try simp only [BN] at hg); simp only [S1, simprocAttr, TTCkP, c0, c1, pk1_len, List.length_map, hg] at hk9 ⊢)); first | exact hk9 | ((first | apply call_a E8 | apply call_q E8); exact (new_calls _); exact hk9) | ((first | apply call_a E9 | apply call_q E9); exact (htwo _); exact hk9)); (refine hK1 _ ?_; clear hK1 K1)) | (((first | (refine ⟨fun hg => hA ?_, fun hg => hB ?_⟩ <;> clear hA hB A B) | refine ⟨fun hg => ?_, fun hg => ?_⟩) <;> (try simp only [BN2] at hg) <;> (try simp only [hg, cond_true, cond_false])) <;> (try (refine hK1 _ ?_; clear hK1 K1)) <;> (try simp only [BN3] at hg))) | (refine awp_seq_k fun K hK => ?_) | ((first | refine awp_region ?_ | refine awp_draw (by kernel_rfl) ?_ | refine awp_block ?_ | refine awp_exit ?_ | refine awp_skip ?_ | refine awp_ret ?_); (try simp only [NB, simprocAttr])))
    all_goals simp only [EndP, FinP, resA, resL, resA1, lastV, lastA, lastAs, pur, purs, take_app, List.take_length, S1, simprocAttr, TTCkP, Nat.le_add_right, Nat.le_refl, pk1_take, pk1_len]
    all_goals simp
  by_cases c2 : 1099511627776 < after
  · refine acalls_pure (rl := []) mixed Try.func5 rfl (rs := [.tmp 4]) rfl Try.ntmps5 (by simp) ?_
    repeat' (first | ((first | refine aops_nil ?_ | refine aqops_nil ?_); (try simp only [NB])) | ((repeat ((fail_if_success (refine hK _ ?_)); clear hK K)); refine hK _ ?_; clear hK K) | ((first | refine aops_k fun K1 hK1 => ?_ | refine aqops_k fun K1 hK1 => ?_ | refine awp_cond_k fun A B hA hB => ?_); simp only [S1, simprocAttr, TTCkP, c0, c1, c2, pk1_len, List.length_map]; first | (refine hK1 _ ?_; clear hK1 K1) | ((first | refine hA ?_ | refine hB ?_); clear hA hB A B) | ((first | apply call_a E8 | apply call_q E8); exact (new_calls _); (refine hK1 _ ?_; clear hK1 K1)) | ((first | apply call_a E9 | apply call_q E9); exact (htwo _); (refine hK1 _ ?_; clear hK1 K1)) | (refine join_x (v := ?_) (fun hg hk9 => ?_) ?_; rotate_left; (focus (try ((try simp only [BN] at hg); simp only [S1, simprocAttr, TTCkP, c0, c1, c2, pk1_len, List.length_map, hg] at hk9 ⊢)); first | exact hk9 | ((first | apply call_a E8 | apply call_q E8); exact (new_calls _); exact hk9) | ((first | apply call_a E9 | apply call_q E9); exact (htwo _); exact hk9)); (refine hK1 _ ?_; clear hK1 K1)) | (((first | (refine ⟨fun hg => hA ?_, fun hg => hB ?_⟩ <;> clear hA hB A B) | refine ⟨fun hg => ?_, fun hg => ?_⟩) <;> (try simp only [BN2] at hg) <;> (try simp only [hg, cond_true, cond_false])) <;> (try (refine hK1 _ ?_; clear hK1 K1)) <;> (try simp only [BN3] at hg))) | (refine awp_seq_k fun K hK => ?_) | ((first | refine awp_region ?_ | refine awp_draw (by kernel_rfl) ?_ | refine awp_block ?_ | refine awp_exit ?_ | refine awp_skip ?_ | refine awp_ret ?_); (try simp only [NB, simprocAttr])))
    all_goals simp only [EndP, FinP, resA, resL, resA1, lastV, lastA, lastAs, pur, purs, take_app, List.take_length, S1, simprocAttr, TTCkP, Nat.le_add_right, Nat.le_refl, pk1_take, pk1_len]
    all_goals simp
  have hlen : ticks.length ≤ 1000 := by omega
  have e1 : setC 0 [] 1 after = (0, [(after, 1)]) := by
    unfold setC
    rw [if_neg (by unfold maxC; omega), if_neg (by simp [hasA]), if_neg (by simp), if_neg (by unfold maxC; omega), Int.zero_add]; rfl
  have hok : CkOk 0 [(after, 1)] := by have := CkOk.nil.set 1 after (by decide); rwa [e1] at this
  have hset := set1 (G := G) (g := 0) hsk h CkOk.nil 1 after (by decide)
  rw [e1, if_pos rfl] at hset
  simp only at hset
  have hokN : ∀ j, CkOk (nowN ticks j) [(after, 1)] := by
    intro j
    induction j with
    | zero => exact hok
    | succ j ih =>
      cases hx : ticks[j]? with
      | none =>
        have : nowN ticks (j + 1) = nowN ticks j := by unfold nowN; rw [List.take_add_one, hx]; simp
        rw [this]; exact ih
      | some n => rw [nowN_succ hx]; exact ih.tick n
  refine acalls_pure (rl := []) mixed Try.func5 rfl (rs := [.tmp 4]) rfl Try.ntmps5 (by simp) ?_
  repeat' (first | ((first | refine aops_nil ?_ | refine aqops_nil ?_); (try simp only [NB])) | ((repeat ((fail_if_success (refine hK _ ?_)); clear hK K)); refine hK _ ?_; clear hK K) | ((first | refine aops_k fun K1 hK1 => ?_ | refine aqops_k fun K1 hK1 => ?_ | refine awp_cond_k fun A B hA hB => ?_); simp only [S1, simprocAttr, TTCkP, c0, c1, c2, pk1_len, List.length_map]; first | (refine hK1 _ ?_; clear hK1 K1) | ((first | refine hA ?_ | refine hB ?_); clear hA hB A B) | ((first | apply call_a E8 | apply call_q E8); exact (new_calls _); (refine hK1 _ ?_; clear hK1 K1)) | ((first | apply call_a E10 | apply call_q E10); exact hset; (refine hK1 _ ?_; clear hK1 K1)) | (refine join_x (v := ?_) (fun hg hk9 => ?_) ?_; rotate_left; (focus (try ((try simp only [BN] at hg); simp only [S1, simprocAttr, TTCkP, c0, c1, c2, pk1_len, List.length_map, hg] at hk9 ⊢)); first | exact hk9 | ((first | apply call_a E8 | apply call_q E8); exact (new_calls _); exact hk9) | ((first | apply call_a E10 | apply call_q E10); exact hset; exact hk9)); (refine hK1 _ ?_; clear hK1 K1)) | (((first | (refine ⟨fun hg => hA ?_, fun hg => hB ?_⟩ <;> clear hA hB A B) | refine ⟨fun hg => ?_, fun hg => ?_⟩) <;> (try simp only [BN2] at hg) <;> (try simp only [hg, cond_true, cond_false])) <;> (try (refine hK1 _ ?_; clear hK1 K1)) <;> (try simp only [BN3] at hg))) | (refine awp_seq_k fun K hK => ?_) | ((first | refine awp_region ?_ | refine awp_draw (by kernel_rfl) ?_ | refine awp_block ?_ | refine awp_exit ?_ | refine awp_skip ?_ | refine awp_ret ?_); (try simp only [NB, simprocAttr])))
  refine awp_for ticks.length 87 (fun j => [(38, .i j), (37, .i ticks.length), (36, aJ ticks), (6, .i (nowN ticks j)), (0, .i after), (5, .ptr h.length 0 0)]) (fun j => [ckB (nowN ticks j) (h.length + 1) 1 [(after, 1)], alB 1 [(after, 1)]]) (fun j => True) ?_ trivial fun j hj hp K hK => ?_
  · refine ⟨rfl, ⟨[], by rw [pk1_is]; rfl⟩, ?_, ?_⟩
    · simp only [nowN, List.take_zero, List.foldl_nil]
      simp only [keeps, avlt, avlts, blksLt, frL, upd_get, S1, simprocAttr, List.length_map, Int.natCast_zero, AV.p.injEq, PV.int.injEq, PV.bool.injEq, PV.sl.injEq] <;> (try and_intros) <;> (try assumption) <;> (try trivial) <;> (try omega)
    · exact ⟨⟨trivial, by simp only [avlt, List.length_cons, List.length_nil]; omega, trivial⟩, cAl_avl _ _, trivial⟩
  rw [← pk1_is]
  rcases Nat.lt_or_ge j ticks.length with hlt | hge
  · obtain ⟨n, hx⟩ : ∃ k, ticks[j]? = some k := ⟨_, List.getElem?_eq_getElem hlt⟩
    have j0 : (0 : Int) ≤ (j : Int) := by omega
    have ok := hokN j
    have okn := hokN (j + 1)
    have htk := tick1 (G := G) (g := 1) h ok n
    have es := nowN_succ hx
    have hn0 := okn.n0
    have hn1 := okn.n1
    have hlf := left1 (G := G) (g := 1) h okn 1
    have hdu := due1 (G := G) (g := 1) h okn
    rw [goes_left] at hlf
    rw [goes_due] at hdu
    have nfin : nowN ticks (j + 1) = (tickC (nowN ticks j) n).2 := es
    rcases tick_cases (nowN ticks j) n with ⟨e, he, he0⟩ | ⟨he, hn, hm⟩
    · rw [he] at htk es
      simp only at htk es
      rw [es] at hlf hdu hn0 hn1 okn
      by_cases hc : after ≤ nowN ticks j
      · have hmx : max 0 (after - nowN ticks j) = 0 := by omega
        rw [hmx] at hlf
        rw [if_pos hc] at hdu
        repeat' (first | ((first | refine aops_nil ?_ | refine aqops_nil ?_); (try simp only [NB])) | ((repeat ((fail_if_success (refine hK _ ?_)); clear hK K)); refine hK _ ?_; clear hK K) | ((first | refine aops_k fun K1 hK1 => ?_ | refine aqops_k fun K1 hK1 => ?_ | refine awp_cond_k fun A B hA hB => ?_); simp only [S1, simprocAttr, TTCkP, rowJ hx, hitJ hlt, nextJ hlen hlt, j0, he0, hc, Int.toNat_natCast, List.length_map, List.length_cons, List.length_nil]; first | (refine hK1 _ ?_; clear hK1 K1) | ((first | refine hA ?_ | refine hB ?_); clear hA hB A B) | ((first | apply call_a E11 | apply call_q E11); exact htk; (refine hK1 _ ?_; clear hK1 K1)) | ((first | apply call_a E15 | apply call_q E15); exact hlf; (refine hK1 _ ?_; clear hK1 K1)) | ((first | apply call_a E12 | apply call_q E12); exact hdu; (refine hK1 _ ?_; clear hK1 K1)) | (refine join_x (v := ?_) (fun hg hk9 => ?_) ?_; rotate_left; (focus (try ((try simp only [BN] at hg); simp only [S1, simprocAttr, TTCkP, rowJ hx, hitJ hlt, nextJ hlen hlt, j0, he0, hc, Int.toNat_natCast, List.length_map, List.length_cons, List.length_nil, hg] at hk9 ⊢)); first | exact hk9 | ((first | apply call_a E11 | apply call_q E11); exact htk; exact hk9) | ((first | apply call_a E15 | apply call_q E15); exact hlf; exact hk9) | ((first | apply call_a E12 | apply call_q E12); exact hdu; exact hk9)); (refine hK1 _ ?_; clear hK1 K1)) | (((first | (refine ⟨fun hg => hA ?_, fun hg => hB ?_⟩ <;> clear hA hB A B) | refine ⟨fun hg => ?_, fun hg => ?_⟩) <;> (try simp only [BN2] at hg) <;> (try simp only [hg, cond_true, cond_false])) <;> (try (refine hK1 _ ?_; clear hK1 K1)) <;> (try simp only [BN3] at hg))) | (refine awp_seq_k fun K hK => ?_) | ((first | refine awp_region ?_ | refine awp_draw (by kernel_rfl) ?_ | refine awp_block ?_ | refine awp_exit ?_ | refine awp_skip ?_ | refine awp_ret ?_); (try simp only [NB, simprocAttr])))
        all_goals refine ⟨hlt, trivial, ?_⟩
        all_goals refine ⟨rfl, ⟨[], by rw [pk1_is, es, List.append_nil]⟩, ?_, ?_⟩
        · simp only [es]
          simp only [keeps, avlt, avlts, blksLt, frL, upd_get, S1, simprocAttr, List.length_map, Int.natCast_zero, AV.p.injEq, PV.int.injEq, PV.bool.injEq, PV.sl.injEq] <;> (try and_intros) <;> (try assumption) <;> (try trivial) <;> (try omega)
        · exact ⟨⟨trivial, by simp only [avlt, List.length_cons, List.length_nil]; omega, trivial⟩, cAl_avl _ _, trivial⟩
      · have hmx : max 0 (after - nowN ticks j) = after - nowN ticks j := by omega
        have hz : ((after - nowN ticks j) == 0) = false := by simp; omega
        have hp : (0 : Int) < after - nowN ticks j := by omega
        have hw : IntKind.i64.wrap (after - nowN ticks j) = after - nowN ticks j := IntWalk.i64_in _ (by unfold maxC at hn1; omega)
        rw [hmx] at hlf
        rw [if_neg hc] at hdu
        repeat' (first | ((first | refine aops_nil ?_ | refine aqops_nil ?_); (try simp only [NB])) | ((repeat ((fail_if_success (refine hK _ ?_)); clear hK K)); refine hK _ ?_; clear hK K) | ((first | refine aops_k fun K1 hK1 => ?_ | refine aqops_k fun K1 hK1 => ?_ | refine awp_cond_k fun A B hA hB => ?_); simp only [S1, simprocAttr, TTCkP, rowJ hx, hitJ hlt, nextJ hlen hlt, j0, he0, hc, hz, hp, hw, bneI, Int.toNat_natCast, List.length_map, List.length_cons, List.length_nil, List.map_nil]; first | (refine hK1 _ ?_; clear hK1 K1) | ((first | refine hA ?_ | refine hB ?_); clear hA hB A B) | ((first | apply call_a E11 | apply call_q E11); exact htk; (refine hK1 _ ?_; clear hK1 K1)) | ((first | apply call_a E15 | apply call_q E15); exact hlf; (refine hK1 _ ?_; clear hK1 K1)) | ((first | apply call_a E12 | apply call_q E12); exact hdu; (refine hK1 _ ?_; clear hK1 K1)) | (refine join_x (v := ?_) (fun hg hk9 => ?_) ?_; rotate_left; (focus (try ((try simp only [BN] at hg); simp only [S1, simprocAttr, TTCkP, rowJ hx, hitJ hlt, nextJ hlen hlt, j0, he0, hc, hz, hp, hw, bneI, Int.toNat_natCast, List.length_map, List.length_cons, List.length_nil, List.map_nil, hg] at hk9 ⊢)); first | exact hk9 | ((first | apply call_a E11 | apply call_q E11); exact htk; exact hk9) | ((first | apply call_a E15 | apply call_q E15); exact hlf; exact hk9) | ((first | apply call_a E12 | apply call_q E12); exact hdu; exact hk9)); (refine hK1 _ ?_; clear hK1 K1)) | (((first | (refine ⟨fun hg => hA ?_, fun hg => hB ?_⟩ <;> clear hA hB A B) | refine ⟨fun hg => ?_, fun hg => ?_⟩) <;> (try simp only [BN2] at hg) <;> (try simp only [hg, cond_true, cond_false])) <;> (try (refine hK1 _ ?_; clear hK1 K1)) <;> (try simp only [BN3] at hg))) | (refine awp_seq_k fun K hK => ?_) | ((first | refine awp_region ?_ | refine awp_draw (by kernel_rfl) ?_ | refine awp_block ?_ | refine awp_exit ?_ | refine awp_skip ?_ | refine awp_ret ?_); (try simp only [NB, simprocAttr])))
        all_goals refine ⟨hlt, trivial, ?_⟩
        all_goals refine ⟨rfl, ⟨[], by rw [pk1_is, es, List.append_nil]⟩, ?_, ?_⟩
        · simp only [es]
          simp only [keeps, avlt, avlts, blksLt, frL, upd_get, S1, simprocAttr, List.length_map, Int.natCast_zero, AV.p.injEq, PV.int.injEq, PV.bool.injEq, PV.sl.injEq] <;> (try and_intros) <;> (try assumption) <;> (try trivial) <;> (try omega)
        · exact ⟨⟨trivial, by simp only [avlt, List.length_cons, List.length_nil]; omega, trivial⟩, cAl_avl _ _, trivial⟩
    · rw [he] at htk es
      simp only at htk es
      rw [es] at hlf hdu hn0 hn1 okn
      have hwn : IntKind.i64.wrap (nowN ticks j + n) = nowN ticks j + n := IntWalk.i64_in _ (by unfold maxC at hn1; omega)
      by_cases hc : after ≤ nowN ticks j + n
      · have hmx : max 0 (after - (nowN ticks j + n)) = 0 := by omega
        rw [hmx] at hlf
        rw [if_pos hc] at hdu
        repeat' (first | ((first | refine aops_nil ?_ | refine aqops_nil ?_); (try simp only [NB])) | ((repeat ((fail_if_success (refine hK _ ?_)); clear hK K)); refine hK _ ?_; clear hK K) | ((first | refine aops_k fun K1 hK1 => ?_ | refine aqops_k fun K1 hK1 => ?_ | refine awp_cond_k fun A B hA hB => ?_); simp only [S1, simprocAttr, TTCkP, rowJ hx, hitJ hlt, nextJ hlen hlt, j0, hwn, hc, Int.toNat_natCast, List.length_map, List.length_cons, List.length_nil]; first | (refine hK1 _ ?_; clear hK1 K1) | ((first | refine hA ?_ | refine hB ?_); clear hA hB A B) | ((first | apply call_a E11 | apply call_q E11); exact htk; (refine hK1 _ ?_; clear hK1 K1)) | ((first | apply call_a E15 | apply call_q E15); exact hlf; (refine hK1 _ ?_; clear hK1 K1)) | ((first | apply call_a E12 | apply call_q E12); exact hdu; (refine hK1 _ ?_; clear hK1 K1)) | (refine join_x (v := ?_) (fun hg hk9 => ?_) ?_; rotate_left; (focus (try ((try simp only [BN] at hg); simp only [S1, simprocAttr, TTCkP, rowJ hx, hitJ hlt, nextJ hlen hlt, j0, hwn, hc, Int.toNat_natCast, List.length_map, List.length_cons, List.length_nil, hg] at hk9 ⊢)); first | exact hk9 | ((first | apply call_a E11 | apply call_q E11); exact htk; exact hk9) | ((first | apply call_a E15 | apply call_q E15); exact hlf; exact hk9) | ((first | apply call_a E12 | apply call_q E12); exact hdu; exact hk9)); (refine hK1 _ ?_; clear hK1 K1)) | (((first | (refine ⟨fun hg => hA ?_, fun hg => hB ?_⟩ <;> clear hA hB A B) | refine ⟨fun hg => ?_, fun hg => ?_⟩) <;> (try simp only [BN2] at hg) <;> (try simp only [hg, cond_true, cond_false])) <;> (try (refine hK1 _ ?_; clear hK1 K1)) <;> (try simp only [BN3] at hg))) | (refine awp_seq_k fun K hK => ?_) | ((first | refine awp_region ?_ | refine awp_draw (by kernel_rfl) ?_ | refine awp_block ?_ | refine awp_exit ?_ | refine awp_skip ?_ | refine awp_ret ?_); (try simp only [NB, simprocAttr])))
        all_goals refine ⟨hlt, trivial, ?_⟩
        all_goals refine ⟨rfl, ⟨[], by rw [pk1_is, es, List.append_nil]⟩, ?_, ?_⟩
        · simp only [es]
          simp only [keeps, avlt, avlts, blksLt, frL, upd_get, S1, simprocAttr, List.length_map, Int.natCast_zero, AV.p.injEq, PV.int.injEq, PV.bool.injEq, PV.sl.injEq] <;> (try and_intros) <;> (try assumption) <;> (try trivial) <;> (try omega)
        · exact ⟨⟨trivial, by simp only [avlt, List.length_cons, List.length_nil]; omega, trivial⟩, cAl_avl _ _, trivial⟩
      · have hmx : max 0 (after - (nowN ticks j + n)) = after - (nowN ticks j + n) := by omega
        have hz : ((after - (nowN ticks j + n)) == 0) = false := by simp; omega
        have hp : (0 : Int) < after - (nowN ticks j + n) := by omega
        have hw : IntKind.i64.wrap (after - (nowN ticks j + n)) = after - (nowN ticks j + n) := IntWalk.i64_in _ (by unfold maxC at hn1; omega)
        rw [hmx] at hlf
        rw [if_neg hc] at hdu
        repeat' (first | ((first | refine aops_nil ?_ | refine aqops_nil ?_); (try simp only [NB])) | ((repeat ((fail_if_success (refine hK _ ?_)); clear hK K)); refine hK _ ?_; clear hK K) | ((first | refine aops_k fun K1 hK1 => ?_ | refine aqops_k fun K1 hK1 => ?_ | refine awp_cond_k fun A B hA hB => ?_); simp only [S1, simprocAttr, TTCkP, rowJ hx, hitJ hlt, nextJ hlen hlt, j0, hwn, hc, hz, hp, hw, bneI, Int.toNat_natCast, List.length_map, List.length_cons, List.length_nil, List.map_nil]; first | (refine hK1 _ ?_; clear hK1 K1) | ((first | refine hA ?_ | refine hB ?_); clear hA hB A B) | ((first | apply call_a E11 | apply call_q E11); exact htk; (refine hK1 _ ?_; clear hK1 K1)) | ((first | apply call_a E15 | apply call_q E15); exact hlf; (refine hK1 _ ?_; clear hK1 K1)) | ((first | apply call_a E12 | apply call_q E12); exact hdu; (refine hK1 _ ?_; clear hK1 K1)) | (refine join_x (v := ?_) (fun hg hk9 => ?_) ?_; rotate_left; (focus (try ((try simp only [BN] at hg); simp only [S1, simprocAttr, TTCkP, rowJ hx, hitJ hlt, nextJ hlen hlt, j0, hwn, hc, hz, hp, hw, bneI, Int.toNat_natCast, List.length_map, List.length_cons, List.length_nil, List.map_nil, hg] at hk9 ⊢)); first | exact hk9 | ((first | apply call_a E11 | apply call_q E11); exact htk; exact hk9) | ((first | apply call_a E15 | apply call_q E15); exact hlf; exact hk9) | ((first | apply call_a E12 | apply call_q E12); exact hdu; exact hk9)); (refine hK1 _ ?_; clear hK1 K1)) | (((first | (refine ⟨fun hg => hA ?_, fun hg => hB ?_⟩ <;> clear hA hB A B) | refine ⟨fun hg => ?_, fun hg => ?_⟩) <;> (try simp only [BN2] at hg) <;> (try simp only [hg, cond_true, cond_false])) <;> (try (refine hK1 _ ?_; clear hK1 K1)) <;> (try simp only [BN3] at hg))) | (refine awp_seq_k fun K hK => ?_) | ((first | refine awp_region ?_ | refine awp_draw (by kernel_rfl) ?_ | refine awp_block ?_ | refine awp_exit ?_ | refine awp_skip ?_ | refine awp_ret ?_); (try simp only [NB, simprocAttr])))
        all_goals refine ⟨hlt, trivial, ?_⟩
        all_goals refine ⟨rfl, ⟨[], by rw [pk1_is, es, List.append_nil]⟩, ?_, ?_⟩
        · simp only [es]
          simp only [keeps, avlt, avlts, blksLt, frL, upd_get, S1, simprocAttr, List.length_map, Int.natCast_zero, AV.p.injEq, PV.int.injEq, PV.bool.injEq, PV.sl.injEq] <;> (try and_intros) <;> (try assumption) <;> (try trivial) <;> (try omega)
        · exact ⟨⟨trivial, by simp only [avlt, List.length_cons, List.length_nil]; omega, trivial⟩, cAl_avl _ _, trivial⟩
  · obtain rfl : j = ticks.length := by omega
    repeat' (first | ((first | refine aops_nil ?_ | refine aqops_nil ?_); (try simp only [NB])) | ((repeat ((fail_if_success (refine hK _ ?_)); clear hK K)); refine hK _ ?_; clear hK K) | ((first | refine aops_k fun K1 hK1 => ?_ | refine aqops_k fun K1 hK1 => ?_ | refine awp_cond_k fun A B hA hB => ?_); simp only [S1, simprocAttr, TTCkP, Int.lt_irrefl, pk1_len]; first | (refine hK1 _ ?_; clear hK1 K1) | ((first | refine hA ?_ | refine hB ?_); clear hA hB A B) | ((first | apply call_a E9 | apply call_q E9); exact (htwo _); (refine hK1 _ ?_; clear hK1 K1)) | (refine join_x (v := ?_) (fun hg hk9 => ?_) ?_; rotate_left; (focus (try ((try simp only [BN] at hg); simp only [S1, simprocAttr, TTCkP, Int.lt_irrefl, pk1_len, hg] at hk9 ⊢)); first | exact hk9 | ((first | apply call_a E9 | apply call_q E9); exact (htwo _); exact hk9)); (refine hK1 _ ?_; clear hK1 K1)) | (((first | (refine ⟨fun hg => hA ?_, fun hg => hB ?_⟩ <;> clear hA hB A B) | refine ⟨fun hg => ?_, fun hg => ?_⟩) <;> (try simp only [BN2] at hg) <;> (try simp only [hg, cond_true, cond_false])) <;> (try (refine hK1 _ ?_; clear hK1 K1)) <;> (try simp only [BN3] at hg))) | (refine awp_seq_k fun K hK => ?_) | ((first | refine awp_region ?_ | refine awp_draw (by kernel_rfl) ?_ | refine awp_block ?_ | refine awp_exit ?_ | refine awp_skip ?_ | refine awp_ret ?_); (try simp only [NB, simprocAttr])))
    all_goals simp only [EndP, FinP, resA, resL, resA1, lastV, lastA, lastAs, pur, purs, take_app, List.take_length, S1, simprocAttr, TTCkP, Nat.le_add_right, Nat.le_refl, pk1_take, pk1_len]
    all_goals simp
end Go.Proofs.Ytbbmfemplmelhaa.AM
end

section
set_option linter.unusedVariables false
set_option linter.unusedSimpArgs false
set_option maxRecDepth 4000
set_option maxHeartbeats 4000000
namespace Go.Proofs.Ytbbmfemplmelhaa.AM
open Go Go.Proofs
set_option linter.defProp false in
def TTCkQ := And.intro T2 (And.intro T3 (And.intro T4 (And.intro T22 (And.intro T25 (And.intro T28 (And.intro T31 (And.intro T33 (And.intro T54 (And.intro T55 (And.intro T57 T59))))))))))
attribute [local irreducible] awp aops aqops aeops arun arunT
variable {G : Nat → Option (List PV)}

/-- Two clocks behind a heap. -/
def pk2 (h : Heap) (n1 : Int) (g1 : Nat) (l1 : List Al) (n2 : Int) (g2 : Nat) (l2 : List Al) : Heap := h ++ [ckB n1 (h.length + 1) g1 l1, alB g1 l1, ckB n2 (h.length + 3) g2 l2, alB g2 l2]
section
variable {h : Heap} {n1 n2 : Int} {g1 g2 : Nat} {l1 l2 : List Al}
theorem pk2_len : (pk2 h n1 g1 l1 n2 g2 l2).length = h.length + 4 := by simp [pk2]
theorem pk2_take : (pk2 h n1 g1 l1 n2 g2 l2).take h.length = h := by simp [pk2]
theorem pk2_get0 (L : Heap) : (pk2 h n1 g1 l1 n2 g2 l2 ++ L)[h.length + 4]? = L[0]? := by
  rw [List.getElem?_append_right (by rw [pk2_len]; exact Nat.le_refl _), pk2_len, Nat.sub_self]
theorem pk2_set0 (L : Heap) (x : Option Blk) : (pk2 h n1 g1 l1 n2 g2 l2 ++ L).set (h.length + 4) x = pk2 h n1 g1 l1 n2 g2 l2 ++ L.set 0 x := by
  rw [List.set_append_right _ _ (by rw [pk2_len]; exact Nat.le_refl _), pk2_len, Nat.sub_self]
theorem pk2_a (h : Heap) (n1 : Int) (g1 : Nat) (l1 : List Al) (n2 : Int) (g2 : Nat) (l2 : List Al) : pk2 h n1 g1 l1 n2 g2 l2 = putK (h ++ [none, none, ckB n2 (h.length + 3) g2 l2, alB g2 l2]) h.length (h.length + 1) n1 g1 l1 := by
  unfold pk2 putK
  rw [set_app0, set_app]; rfl
theorem pk2_b (h : Heap) (n1 : Int) (g1 : Nat) (l1 : List Al) (n2 : Int) (g2 : Nat) (l2 : List Al) : pk2 h n1 g1 l1 n2 g2 l2 = putK (h ++ [ckB n1 (h.length + 1) g1 l1, alB g1 l1, none, none]) (h.length + 2) (h.length + 3) n2 g2 l2 := by
  unfold pk2 putK
  rw [set_app, set_app]; rfl
theorem pk2_new : pk1 (pk1 h n1 g1 l1) n2 g2 l2 = pk2 h n1 g1 l1 n2 g2 l2 := by
  rw [pk1_is, pk1_len, pk1_is]
  unfold pk2
  rw [List.append_assoc]; rfl
theorem ha1 (x y : Option Blk) : h.length < (h ++ [none, none, x, y] : Heap).length := by simp
theorem ha2 (x y : Option Blk) : h.length + 1 < (h ++ [none, none, x, y] : Heap).length := by simp
theorem hb1 (x y : Option Blk) : h.length + 2 < (h ++ [x, y, none, none] : Heap).length := by simp
theorem hb2 (x y : Option Blk) : h.length + 3 < (h ++ [x, y, none, none] : Heap).length := by simp
theorem hb3 : h.length + 2 ≠ h.length + 3 := by omega
theorem setA (hsk : HSK) (ok : CkOk n1 l1) (id after : Int) (hid : id ≤ 9223372036854775807) : ACalls Try.prog G 10 [.ptr h.length 0 0, .i id, .i after] (pk2 h n1 g1 l1 n2 g2 l2) (fun r h' => r = .i (setC n1 l1 id after).1 ∧ h' = pk2 h n1 (if (setC n1 l1 id after).1 = 0 then g1 + 1 else g1) (setC n1 l1 id after).2 n2 g2 l2) := by
  simp only [pk2_a]
  exact set_calls hsk (ha1 _ _) (ha2 _ _) (hk3 h) ok id after hid
theorem setB (hsk : HSK) (ok : CkOk n2 l2) (id after : Int) (hid : id ≤ 9223372036854775807) : ACalls Try.prog G 10 [.ptr (h.length + 2) 0 0, .i id, .i after] (pk2 h n1 g1 l1 n2 g2 l2) (fun r h' => r = .i (setC n2 l2 id after).1 ∧ h' = pk2 h n1 g1 l1 n2 (if (setC n2 l2 id after).1 = 0 then g2 + 1 else g2) (setC n2 l2 id after).2) := by
  simp only [pk2_b]
  exact set_calls hsk (hb1 _ _) (hb2 _ _) hb3 ok id after hid
theorem tickA (ok : CkOk n1 l1) (n : Int) : ACalls Try.prog G 11 [.ptr h.length 0 0, .i n] (pk2 h n1 g1 l1 n2 g2 l2) (fun r h' => r = .i (tickC n1 n).1 ∧ h' = pk2 h (tickC n1 n).2 g1 l1 n2 g2 l2) := by
  simp only [pk2_a]
  exact tick_calls (ha1 _ _) (ha2 _ _) (hk3 h) ok.n0 ok.n1 n
theorem tickB (ok : CkOk n2 l2) (n : Int) : ACalls Try.prog G 11 [.ptr (h.length + 2) 0 0, .i n] (pk2 h n1 g1 l1 n2 g2 l2) (fun r h' => r = .i (tickC n2 n).1 ∧ h' = pk2 h n1 g1 l1 (tickC n2 n).2 g2 l2) := by
  simp only [pk2_b]
  exact tick_calls (hb1 _ _) (hb2 _ _) hb3 ok.n0 ok.n1 n
theorem dueA (ok : CkOk n1 l1) : ACalls Try.prog G 12 [.ptr h.length 0 0] (pk2 h n1 g1 l1 n2 g2 l2) (fun r h' => r = aJ (dueC n1 l1) ∧ h' = pk2 h n1 g1 l1 n2 g2 l2) := by
  simp only [pk2_a]
  exact due_calls (ha1 _ _) (ha2 _ _) (hk3 h) ok
theorem dueB (ok : CkOk n2 l2) : ACalls Try.prog G 12 [.ptr (h.length + 2) 0 0] (pk2 h n1 g1 l1 n2 g2 l2) (fun r h' => r = aJ (dueC n2 l2) ∧ h' = pk2 h n1 g1 l1 n2 g2 l2) := by
  simp only [pk2_b]
  exact due_calls (hb1 _ _) (hb2 _ _) hb3 ok
theorem nextA (ok : CkOk n1 l1) : ACalls Try.prog G 13 [.ptr h.length 0 0] (pk2 h n1 g1 l1 n2 g2 l2) (fun r h' => r = .tup [.i (nextC n1 l1).1, .b (nextC n1 l1).2] ∧ h' = pk2 h n1 g1 l1 n2 g2 l2) := by
  simp only [pk2_a]
  exact next_calls (ha1 _ _) (ha2 _ _) (hk3 h) ok
theorem nextB (ok : CkOk n2 l2) : ACalls Try.prog G 13 [.ptr (h.length + 2) 0 0] (pk2 h n1 g1 l1 n2 g2 l2) (fun r h' => r = .tup [.i (nextC n2 l2).1, .b (nextC n2 l2).2] ∧ h' = pk2 h n1 g1 l1 n2 g2 l2) := by
  simp only [pk2_b]
  exact next_calls (hb1 _ _) (hb2 _ _) hb3 ok
theorem pk2_avl (m : Nat) (hm : h.length + 4 ≤ m) : blksLt m [ckB n1 (h.length + 1) g1 l1, alB g1 l1, ckB n2 (h.length + 3) g2 l2, alB g2 l2] :=
  ⟨⟨trivial, by simp only [avlt]; omega, trivial⟩, cAl_avl _ _, ⟨trivial, by simp only [avlt]; omega, trivial⟩, cAl_avl _ _, trivial⟩
end

/-- A step of a law. -/
abbrev St3 := Int × Int × Int
def e3 (s : St3) : List PV := [.int .i64 s.1, .int .i64 s.2.1, .int .i64 s.2.2]
abbrev a3 (l : List St3) : AV := .p (.sl (l.map e3))
theorem row3 {l : List St3} {i : Nat} {k : St3} (h : l[i]? = some k) : (l.map e3)[i]? = some [.int .i64 k.1, .int .i64 k.2.1, .int .i64 k.2.2] := by simp [h, e3]

/-- All are set; how often the list grew. -/
def setsG (l : List (Int × Int)) : Nat × List Al := l.foldl (fun a s => (if (setC 0 a.2 s.1 s.2).1 = 0 then a.1 + 1 else a.1, (setC 0 a.2 s.1 s.2).2)) (0, [])
theorem setsG_aux (l : List (Int × Int)) : ∀ (k : Nat) (acc : List Al), (l.foldl (fun (a : Nat × List Al) s => (if (setC 0 a.2 s.1 s.2).1 = 0 then a.1 + 1 else a.1, (setC 0 a.2 s.1 s.2).2)) (k, acc)).2 = setsC l acc := by
  induction l with
  | nil => intro k acc; rfl
  | cons s l ih => intro k acc; simp only [List.foldl_cons]; rw [ih]; rfl
theorem setsG_is (l : List (Int × Int)) : (setsG l).2 = setsC l [] := setsG_aux l 0 []
theorem setsG_succ {l : List (Int × Int)} {j : Nat} {s : Int × Int} (h : l[j]? = some s) : setsG (l.take (j + 1)) = (if (setC 0 (setsG (l.take j)).2 s.1 s.2).1 = 0 then (setsG (l.take j)).1 + 1 else (setsG (l.take j)).1, (setC 0 (setsG (l.take j)).2 s.1 s.2).2) := by
  conv => lhs; unfold setsG
  rw [List.take_add_one, h, List.foldl_append]; rfl

theorem order_calls (hsk : HSK) (l : List St3) (hid : ∀ s ∈ l, s.2.1 ≤ 9223372036854775807) (n : Int) (h : Heap) : ACalls Try.prog G 4 [a3 l, .i n] h (fun r h' => r = .b true ∧ h' = h) := by
  have htwo := fun h => two_calls (G := G) hsk h
  by_cases c0 : (40 : Int) < (l.length : Int)
  · refine acalls_pure (rl := []) mixed Try.func4 rfl (rs := [.tmp 4]) rfl Try.ntmps4 (by simp) ?_
    repeat' (first | ((first | refine aops_nil ?_ | refine aqops_nil ?_); (try simp only [NB])) | ((repeat ((fail_if_success (refine hK _ ?_)); clear hK K)); refine hK _ ?_; clear hK K) | ((first | refine aops_k fun K1 hK1 => ?_ | refine aqops_k fun K1 hK1 => ?_ | refine awp_cond_k fun A B hA hB => ?_); simp only [S1, simprocAttr, TTCkQ, c0, pk1_len, pk2_len, pk2_new, List.length_map]; first | (refine hK1 _ ?_; clear hK1 K1) | ((first | refine hA ?_ | refine hB ?_); clear hA hB A B) | ((first | apply call_a E8 | apply call_q E8); exact (new_calls _); (refine hK1 _ ?_; clear hK1 K1)) | ((first | apply call_a E9 | apply call_q E9); exact (htwo _); (refine hK1 _ ?_; clear hK1 K1)) | (refine join_x (v := ?_) (fun hg hk9 => ?_) ?_; rotate_left; (focus (try ((try simp only [BN] at hg); simp only [S1, simprocAttr, TTCkQ, c0, pk1_len, pk2_len, pk2_new, List.length_map, hg] at hk9 ⊢)); first | exact hk9 | ((first | apply call_a E8 | apply call_q E8); exact (new_calls _); exact hk9) | ((first | apply call_a E9 | apply call_q E9); exact (htwo _); exact hk9)); (refine hK1 _ ?_; clear hK1 K1)) | (((first | (refine ⟨fun hg => hA ?_, fun hg => hB ?_⟩ <;> clear hA hB A B) | refine ⟨fun hg => ?_, fun hg => ?_⟩) <;> (try simp only [BN2] at hg) <;> (try simp only [hg, cond_true, cond_false])) <;> (try (refine hK1 _ ?_; clear hK1 K1)) <;> (try simp only [BN3] at hg))) | (refine awp_seq_k fun K hK => ?_) | ((first | refine awp_region ?_ | refine awp_draw (by kernel_rfl) ?_ | refine awp_block ?_ | refine awp_exit ?_ | refine awp_skip ?_ | refine awp_ret ?_); (try simp only [NB, simprocAttr])))
    all_goals simp only [EndP, FinP, resA, resL, resA1, lastV, lastA, lastAs, pur, purs, take_app, List.take_length, S1, simprocAttr, TTCkQ, Nat.le_add_right, Nat.le_refl, pk2_take, pk2_len]
    all_goals simp
  have hlen : l.length ≤ 1000 := by omega
  refine acalls_pure (rl := []) mixed Try.func4 rfl (rs := [.tmp 4]) rfl Try.ntmps4 (by simp) ?_
  repeat' (first | ((first | refine aops_nil ?_ | refine aqops_nil ?_); (try simp only [NB])) | ((repeat ((fail_if_success (refine hK _ ?_)); clear hK K)); refine hK _ ?_; clear hK K) | ((first | refine aops_k fun K1 hK1 => ?_ | refine aqops_k fun K1 hK1 => ?_ | refine awp_cond_k fun A B hA hB => ?_); simp only [S1, simprocAttr, TTCkQ, c0, pk1_len, pk2_len, pk2_new, List.length_map]; first | (refine hK1 _ ?_; clear hK1 K1) | ((first | refine hA ?_ | refine hB ?_); clear hA hB A B) | ((first | apply call_a E8 | apply call_q E8); exact (new_calls _); (refine hK1 _ ?_; clear hK1 K1)) | (refine join_x (v := ?_) (fun hg hk9 => ?_) ?_; rotate_left; (focus (try ((try simp only [BN] at hg); simp only [S1, simprocAttr, TTCkQ, c0, pk1_len, pk2_len, pk2_new, List.length_map, hg] at hk9 ⊢)); first | exact hk9 | ((first | apply call_a E8 | apply call_q E8); exact (new_calls _); exact hk9)); (refine hK1 _ ?_; clear hK1 K1)) | (((first | (refine ⟨fun hg => hA ?_, fun hg => hB ?_⟩ <;> clear hA hB A B) | refine ⟨fun hg => ?_, fun hg => ?_⟩) <;> (try simp only [BN2] at hg) <;> (try simp only [hg, cond_true, cond_false])) <;> (try (refine hK1 _ ?_; clear hK1 K1)) <;> (try simp only [BN3] at hg))) | (refine awp_seq_k fun K hK => ?_) | ((first | refine awp_region ?_ | refine awp_draw (by kernel_rfl) ?_ | refine awp_block ?_ | refine awp_exit ?_ | refine awp_skip ?_ | refine awp_ret ?_); (try simp only [NB, simprocAttr])))
  refine awp_for l.length 140 (fun j => [(42, .i j), (41, .i l.length), (40, a3 l), (0, a3 l), (1, .i n), (5, .ptr h.length 0 0), (6, .ptr (h.length + 2) 0 0)]) (fun j => [ckB 0 (h.length + 1) 0 [], alB 0 [], ckB 0 (h.length + 3) 0 [], alB 0 []])
    (fun j => ∀ (i k : Nat) s t, i < j → k < i → l[i]? = some s → l[k]? = some t → s.2.1 ≠ t.2.1) ?_ (fun i k s t hi => by omega) fun j hj hp K hK => ?_
  · refine ⟨rfl, ⟨[], by unfold pk2; rfl⟩, ?_, pk2_avl _ (by simp)⟩
    simp only [keeps, avlt, avlts, blksLt, frL, upd_get, S1, simprocAttr, List.length_map, Int.natCast_zero, AV.p.injEq, PV.int.injEq, PV.bool.injEq, PV.sl.injEq] <;> (try and_intros) <;> (try assumption) <;> (try trivial) <;> (try omega)
  rcases Nat.lt_or_ge j l.length with hlt | hge
  · obtain ⟨s, hx⟩ : ∃ k, l[j]? = some k := ⟨_, List.getElem?_eq_getElem hlt⟩
    have jl : (j : Int) < (l.length : Int) := by omega
    have j0 : (0 : Int) ≤ (j : Int) := by omega
    have jle : j ≤ l.length := hj
    have hall : (l.map e3).all (fun r => r.length == 3) = true := by simp [e3]
    have hlt' : (l.take j).length = j := by rw [List.length_take]; omega
    have htk : (l.map e3).take j = (l.take j).map e3 := by rw [List.map_take]
    have hpk : h ++ [ckB 0 (h.length + 1) 0 [], alB 0 [], ckB 0 (h.length + 3) 0 [], alB 0 []] = pk2 h 0 0 [] 0 0 [] := rfl
    rw [hpk]
    repeat' (first | ((first | refine aops_nil ?_ | refine aqops_nil ?_); (try simp only [NB])) | ((repeat ((fail_if_success (refine hK _ ?_)); clear hK K)); refine hK _ ?_; clear hK K) | ((first | refine aops_k fun K1 hK1 => ?_ | refine aqops_k fun K1 hK1 => ?_ | refine awp_cond_k fun A B hA hB => ?_); simp only [S1, simprocAttr, TTCkQ, row3 hx, jl, j0, jle, hall, htk, hlt', pk2_len, pk2_get0, pk2_set0, takeC_st, Nat.sub_zero, List.drop_zero, Int.toNat_natCast, List.length_map]; first | (refine hK1 _ ?_; clear hK1 K1) | ((first | refine hA ?_ | refine hB ?_); clear hA hB A B) | (refine join_x (v := ?_) (fun hg hk9 => ?_) ?_; rotate_left; (focus (try ((try simp only [BN] at hg); simp only [S1, simprocAttr, TTCkQ, row3 hx, jl, j0, jle, hall, htk, hlt', pk2_len, pk2_get0, pk2_set0, takeC_st, Nat.sub_zero, List.drop_zero, Int.toNat_natCast, List.length_map, hg] at hk9 ⊢)); first | exact hk9); (refine hK1 _ ?_; clear hK1 K1)) | (((first | (refine ⟨fun hg => hA ?_, fun hg => hB ?_⟩ <;> clear hA hB A B) | refine ⟨fun hg => ?_, fun hg => ?_⟩) <;> (try simp only [BN2] at hg) <;> (try simp only [hg, cond_true, cond_false])) <;> (try (refine hK1 _ ?_; clear hK1 K1)) <;> (try simp only [BN3] at hg))) | (refine awp_seq_k fun K hK => ?_) | ((first | refine awp_region ?_ | refine awp_draw (by kernel_rfl) ?_ | refine awp_block ?_ | refine awp_exit ?_ | refine awp_skip ?_ | refine awp_ret ?_); (try simp only [NB, simprocAttr])))
    refine awp_for j 140 (fun k => [(51, .i k), (50, .i j), (49, a3 (l.take j)), (8, .ptr (h.length + 4) 0 0), (42, .i j), (41, .i l.length), (40, a3 l), (0, a3 l), (1, .i n), (5, .ptr h.length 0 0), (6, .ptr (h.length + 2) 0 0)])
      (fun k => [ckB 0 (h.length + 1) 0 [], alB 0 [], ckB 0 (h.length + 3) 0 [], alB 0 [], some ⟨0, [.i s.1, .i s.2.1, .i s.2.2]⟩])
      (fun k => ∀ (k' : Nat) t, k' < k → l[k']? = some t → s.2.1 ≠ t.2.1) ?_ (fun k' t hk => by omega) fun k hk hp2 K hK => ?_
    · refine ⟨rfl, ⟨[], by unfold pk2; simp⟩, ?_, ?_⟩
      · simp only [keeps, avlt, avlts, blksLt, frL, upd_get, S1, simprocAttr, List.length_map, Int.natCast_zero, AV.p.injEq, PV.int.injEq, PV.bool.injEq, PV.sl.injEq] <;> (try and_intros) <;> (try assumption) <;> (try trivial) <;> (try omega)
      · exact ⟨⟨trivial, by simp only [avlt, List.length_cons, List.length_nil]; omega, trivial⟩, cAl_avl _ _, ⟨trivial, by simp only [avlt, List.length_cons, List.length_nil]; omega, trivial⟩, cAl_avl _ _, ⟨trivial, trivial, trivial, trivial⟩, trivial⟩
    rcases Nat.lt_or_ge k j with hlk | hgk
    · obtain ⟨t, hy⟩ : ∃ t, l[k]? = some t := ⟨_, List.getElem?_eq_getElem (by omega)⟩
      have hyt : (l.take j)[k]? = some t := by rw [List.getElem?_take]; rw [if_pos hlk]; exact hy
      have kl : (k : Int) < (j : Int) := by omega
      have k0 : (0 : Int) ≤ (k : Int) := by omega
      by_cases heq : s.2.1 = t.2.1
      · have f1 : (s.2.1 == t.2.1) = true := by simp [heq]
        repeat' (first | ((first | refine aops_nil ?_ | refine aqops_nil ?_); (try simp only [NB])) | ((repeat ((fail_if_success (refine hK _ ?_)); clear hK K)); refine hK _ ?_; clear hK K) | ((first | refine aops_k fun K1 hK1 => ?_ | refine aqops_k fun K1 hK1 => ?_ | refine awp_cond_k fun A B hA hB => ?_); simp only [S1, simprocAttr, TTCkQ, row3 hyt, kl, k0, f1, takeC_st, Int.toNat_natCast, List.length_map]; first | (refine hK1 _ ?_; clear hK1 K1) | ((first | refine hA ?_ | refine hB ?_); clear hA hB A B) | ((first | apply call_a E9 | apply call_q E9); exact (htwo _); (refine hK1 _ ?_; clear hK1 K1)) | (refine join_x (v := ?_) (fun hg hk9 => ?_) ?_; rotate_left; (focus (try ((try simp only [BN] at hg); simp only [S1, simprocAttr, TTCkQ, row3 hyt, kl, k0, f1, takeC_st, Int.toNat_natCast, List.length_map, hg] at hk9 ⊢)); first | exact hk9 | ((first | apply call_a E9 | apply call_q E9); exact (htwo _); exact hk9)); (refine hK1 _ ?_; clear hK1 K1)) | (((first | (refine ⟨fun hg => hA ?_, fun hg => hB ?_⟩ <;> clear hA hB A B) | refine ⟨fun hg => ?_, fun hg => ?_⟩) <;> (try simp only [BN2] at hg) <;> (try simp only [hg, cond_true, cond_false])) <;> (try (refine hK1 _ ?_; clear hK1 K1)) <;> (try simp only [BN3] at hg))) | (refine awp_seq_k fun K hK => ?_) | ((first | refine awp_region ?_ | refine awp_draw (by kernel_rfl) ?_ | refine awp_block ?_ | refine awp_exit ?_ | refine awp_skip ?_ | refine awp_ret ?_); (try simp only [NB, simprocAttr])))
        all_goals simp only [EndP, FinP, resA, resL, resA1, lastV, lastA, lastAs, pur, purs, take_app, List.take_length, S1, simprocAttr, TTCkQ, Nat.le_add_right, Nat.le_refl]
      · have f1 : (s.2.1 == t.2.1) = false := by simp [heq]
        repeat' (first | ((first | refine aops_nil ?_ | refine aqops_nil ?_); (try simp only [NB])) | ((repeat ((fail_if_success (refine hK _ ?_)); clear hK K)); refine hK _ ?_; clear hK K) | ((first | refine aops_k fun K1 hK1 => ?_ | refine aqops_k fun K1 hK1 => ?_ | refine awp_cond_k fun A B hA hB => ?_); simp only [S1, simprocAttr, TTCkQ, row3 hyt, kl, k0, f1, nextJ (n := j) (by omega) hlk, takeC_st, Int.toNat_natCast, List.length_map]; first | (refine hK1 _ ?_; clear hK1 K1) | ((first | refine hA ?_ | refine hB ?_); clear hA hB A B) | (refine join_x (v := ?_) (fun hg hk9 => ?_) ?_; rotate_left; (focus (try ((try simp only [BN] at hg); simp only [S1, simprocAttr, TTCkQ, row3 hyt, kl, k0, f1, nextJ (n := j) (by omega) hlk, takeC_st, Int.toNat_natCast, List.length_map, hg] at hk9 ⊢)); first | exact hk9); (refine hK1 _ ?_; clear hK1 K1)) | (((first | (refine ⟨fun hg => hA ?_, fun hg => hB ?_⟩ <;> clear hA hB A B) | refine ⟨fun hg => ?_, fun hg => ?_⟩) <;> (try simp only [BN2] at hg) <;> (try simp only [hg, cond_true, cond_false])) <;> (try (refine hK1 _ ?_; clear hK1 K1)) <;> (try simp only [BN3] at hg))) | (refine awp_seq_k fun K hK => ?_) | ((first | refine awp_region ?_ | refine awp_draw (by kernel_rfl) ?_ | refine awp_block ?_ | refine awp_exit ?_ | refine awp_skip ?_ | refine awp_ret ?_); (try simp only [NB, simprocAttr])))
        all_goals refine ⟨hlk, fun k' t' hk' ht' => ?_, ?_⟩
        · rcases Nat.lt_or_ge k' k with hq | hq
          · exact hp2 k' t' hq ht'
          · obtain rfl : k' = k := by omega
            rw [hy] at ht'; cases ht'; exact heq
        · refine ⟨rfl, ⟨_, rfl⟩, ?_, ?_⟩
          · simp only [keeps, avlt, avlts, blksLt, frL, upd_get, S1, simprocAttr, List.length_map, Int.natCast_zero, AV.p.injEq, PV.int.injEq, PV.bool.injEq, PV.sl.injEq] <;> (try and_intros) <;> (try assumption) <;> (try trivial) <;> (try omega)
          · exact ⟨⟨trivial, by simp only [avlt, List.length_cons, List.length_nil]; omega, trivial⟩, cAl_avl _ _, ⟨trivial, by simp only [avlt, List.length_cons, List.length_nil]; omega, trivial⟩, cAl_avl _ _, ⟨trivial, trivial, trivial, trivial⟩, trivial⟩
    · obtain rfl : j = k := by omega
      repeat' (first | ((first | refine aops_nil ?_ | refine aqops_nil ?_); (try simp only [NB])) | ((repeat ((fail_if_success (refine hK _ ?_)); clear hK K)); refine hK _ ?_; clear hK K) | ((first | refine aops_k fun K1 hK1 => ?_ | refine aqops_k fun K1 hK1 => ?_ | refine awp_cond_k fun A B hA hB => ?_); simp only [S1, simprocAttr, TTCkQ, Int.lt_irrefl, nextJ hlen hlt]; first | (refine hK1 _ ?_; clear hK1 K1) | ((first | refine hA ?_ | refine hB ?_); clear hA hB A B) | (refine join_x (v := ?_) (fun hg hk9 => ?_) ?_; rotate_left; (focus (try ((try simp only [BN] at hg); simp only [S1, simprocAttr, TTCkQ, Int.lt_irrefl, nextJ hlen hlt, hg] at hk9 ⊢)); first | exact hk9); (refine hK1 _ ?_; clear hK1 K1)) | (((first | (refine ⟨fun hg => hA ?_, fun hg => hB ?_⟩ <;> clear hA hB A B) | refine ⟨fun hg => ?_, fun hg => ?_⟩) <;> (try simp only [BN2] at hg) <;> (try simp only [hg, cond_true, cond_false])) <;> (try (refine hK1 _ ?_; clear hK1 K1)) <;> (try simp only [BN3] at hg))) | (refine awp_seq_k fun K hK => ?_) | ((first | refine awp_region ?_ | refine awp_draw (by kernel_rfl) ?_ | refine awp_block ?_ | refine awp_exit ?_ | refine awp_skip ?_ | refine awp_ret ?_); (try simp only [NB, simprocAttr])))
      all_goals refine ⟨hlt, fun i k' s' t' hi hk' hs' ht' => ?_, ?_⟩
      · rcases Nat.lt_or_ge i j with hq | hq
        · exact hp i k' s' t' hq hk' hs' ht'
        · obtain rfl : i = j := by omega
          rw [hx] at hs'; cases hs'
          exact hp2 k' t' hk' ht'
      · refine ⟨rfl, ⟨[some ⟨0, [.i s.1, .i s.2.1, .i s.2.2]⟩], by simp⟩, ?_, pk2_avl _ (by simp)⟩
        simp only [keeps, avlt, avlts, blksLt, frL, upd_get, S1, simprocAttr, List.length_map, Int.natCast_zero, AV.p.injEq, PV.int.injEq, PV.bool.injEq, PV.sl.injEq] <;> (try and_intros) <;> (try assumption) <;> (try trivial) <;> (try omega)
  · obtain rfl : j = l.length := by omega
    have hpw : (l.map fun s => (s.2.1, s.2.2)).Pairwise fun s t => s.1 ≠ t.1 := by
      rw [List.pairwise_map, List.pairwise_iff_getElem]
      intro i k hi hk hik
      exact fun e => hp k i l[k] l[i] hk hik (List.getElem?_eq_getElem hk) (List.getElem?_eq_getElem hi) e.symm
    clear hp hge hj
    have hpl : (l.map fun s => (s.2.1, s.2.2)).length = l.length := List.length_map ..
    have hpi : ∀ s ∈ (l.map fun s => (s.2.1, s.2.2)), s.1 ≤ 9223372036854775807 := fun s hs => by
      obtain ⟨t, ht, rfl⟩ := List.mem_map.mp hs
      exact hid t ht
    have hpg : ∀ (j : Nat) s, l[j]? = some s → (l.map fun s => (s.2.1, s.2.2))[j]? = some (s.2.1, s.2.2) := fun j s hs => by rw [List.getElem?_map, hs]; rfl
    generalize (l.map fun s => (s.2.1, s.2.2)) = ps at *
    have okA : ∀ j, CkOk 0 (setsG (ps.take j)).2 := fun j => by rw [setsG_is]; exact setsC_ok _ _ CkOk.nil fun s hs => hpi s (List.mem_of_mem_take hs)
    have okB : ∀ j, CkOk 0 (setsG (ps.reverse.take j)).2 := fun j => by rw [setsG_is]; exact setsC_ok _ _ CkOk.nil fun s hs => hpi s (List.mem_reverse.mp (List.mem_of_mem_take hs))
    have hrv : (setsG (ps.reverse.take l.length)).2 = (setsG (ps.take l.length)).2 := by
      rw [setsG_is, setsG_is, List.take_of_length_le (l := ps.reverse) (by rw [List.length_reverse, hpl]; exact Nat.le_refl _), List.take_of_length_le (l := ps) (by rw [hpl]; exact Nat.le_refl _)]
      exact (sets_rev (by omega) hpw).symm
    repeat' (first | ((first | refine aops_nil ?_ | refine aqops_nil ?_); (try simp only [NB])) | ((repeat ((fail_if_success (refine hK _ ?_)); clear hK K)); refine hK _ ?_; clear hK K) | ((first | refine aops_k fun K1 hK1 => ?_ | refine aqops_k fun K1 hK1 => ?_ | refine awp_cond_k fun A B hA hB => ?_); simp only [S1, simprocAttr, TTCkQ, Int.lt_irrefl, List.length_map]; first | (refine hK1 _ ?_; clear hK1 K1) | ((first | refine hA ?_ | refine hB ?_); clear hA hB A B) | (refine join_x (v := ?_) (fun hg hk9 => ?_) ?_; rotate_left; (focus (try ((try simp only [BN] at hg); simp only [S1, simprocAttr, TTCkQ, Int.lt_irrefl, List.length_map, hg] at hk9 ⊢)); first | exact hk9); (refine hK1 _ ?_; clear hK1 K1)) | (((first | (refine ⟨fun hg => hA ?_, fun hg => hB ?_⟩ <;> clear hA hB A B) | refine ⟨fun hg => ?_, fun hg => ?_⟩) <;> (try simp only [BN2] at hg) <;> (try simp only [hg, cond_true, cond_false])) <;> (try (refine hK1 _ ?_; clear hK1 K1)) <;> (try simp only [BN3] at hg))) | (refine awp_seq_k fun K hK => ?_) | ((first | refine awp_region ?_ | refine awp_draw (by kernel_rfl) ?_ | refine awp_block ?_ | refine awp_exit ?_ | refine awp_skip ?_ | refine awp_ret ?_); (try simp only [NB, simprocAttr])))
    refine awp_for l.length 140 (fun j => [(65, .i j), (64, .i l.length), (0, a3 l), (1, .i n), (5, .ptr h.length 0 0), (6, .ptr (h.length + 2) 0 0)])
      (fun j => [ckB 0 (h.length + 1) (setsG (ps.take j)).1 (setsG (ps.take j)).2, alB (setsG (ps.take j)).1 (setsG (ps.take j)).2, ckB 0 (h.length + 3) (setsG (ps.reverse.take j)).1 (setsG (ps.reverse.take j)).2, alB (setsG (ps.reverse.take j)).1 (setsG (ps.reverse.take j)).2])
      (fun j => True) ?_ trivial fun j hj _ K hK => ?_
    · refine ⟨rfl, ⟨[], by simp [setsG]⟩, ?_, pk2_avl _ (by simp)⟩
      simp only [keeps, avlt, avlts, blksLt, frL, upd_get, S1, simprocAttr, List.length_map, Int.natCast_zero, AV.p.injEq, PV.int.injEq, PV.bool.injEq, PV.sl.injEq] <;> (try and_intros) <;> (try assumption) <;> (try trivial) <;> (try omega)
    rw [show ∀ n1 g1 l1 n2 g2 l2, h ++ [ckB n1 (h.length + 1) g1 l1, alB g1 l1, ckB n2 (h.length + 3) g2 l2, alB g2 l2] = pk2 h n1 g1 l1 n2 g2 l2 from fun _ _ _ _ _ _ => rfl]
    have kA := okA j
    have kB := okB j
    rcases Nat.lt_or_ge j l.length with hlt | hge
    · obtain ⟨s, hx⟩ : ∃ k, l[j]? = some k := ⟨_, List.getElem?_eq_getElem hlt⟩
      obtain ⟨t, hy⟩ : ∃ k, l[l.length - 1 - j]? = some k := ⟨_, List.getElem?_eq_getElem (by omega)⟩
      have hxp := hpg j s hx
      have hyp : ps.reverse[j]? = some (t.2.1, t.2.2) := by
        rw [List.getElem?_reverse (by omega), hpl]
        exact hpg _ t hy
      have eA := setsG_succ hxp
      have eB := setsG_succ hyp
      have jl : (j : Int) < (l.length : Int) := by omega
      have j0 : (0 : Int) ≤ (j : Int) := by omega
      have hw1 : IntKind.i64.wrap ((l.length : Int) - 1) = (l.length : Int) - 1 := IntWalk.i64_in _ (by omega)
      have hw2 : IntKind.i64.wrap ((l.length : Int) - 1 - (j : Int)) = ((l.length - 1 - j : Nat) : Int) := by rw [IntWalk.i64_in _ (by omega)]; omega
      have k0 : (0 : Int) ≤ ((l.length - 1 - j : Nat) : Int) := by omega
      have kl : ((l.length - 1 - j : Nat) : Int) < (l.length : Int) := by omega
      have hsA := fun g l2 => setA (G := G) (h := h) (g1 := (setsG (ps.take j)).1) (n2 := 0) (g2 := g) (l2 := l2) hsk kA s.2.1 s.2.2 (hpi _ (List.mem_of_getElem? hxp))
      have hsB := fun g l1 => setB (G := G) (h := h) (n1 := 0) (g1 := g) (l1 := l1) (g2 := (setsG (ps.reverse.take j)).1) hsk kB t.2.1 t.2.2 (hpi _ (List.mem_reverse.mp (List.mem_of_getElem? hyp)))
      generalize hqA : setsG (ps.take j) = qA at *
      generalize hqB : setsG (ps.reverse.take j) = qB at *
      repeat' (first | ((first | refine aops_nil ?_ | refine aqops_nil ?_ | refine arun_nil ?_ | refine arunT_nil ?_); (try simp only [NB])) | ((repeat ((fail_if_success (refine hK _ ?_)); clear hK K)); refine hK _ ?_; clear hK K) | ((first | refine aops_k fun K1 hK1 => ?_ | refine aqops_k fun K1 hK1 => ?_ | refine arun_eff rfl rfl rfl fun K1 hK1 => ?_ | refine awp_cond_k fun A B hA hB => ?_); simp only [S1, simprocAttr, TTCkQ, row3 hx, row3 hy, jl, j0, hw1, hw2, k0, kl, nextJ hlen hlt, takeC_st, Int.toNat_natCast, List.length_map]; first | (refine hK1 _ ?_; clear hK1 K1) | ((first | refine hA ?_ | refine hB ?_); clear hA hB A B) | ((first | apply call_a E10 | apply call_q E10); exact (hsA _ _); (refine hK1 _ ?_; clear hK1 K1)) | ((first | apply call_a E10 | apply call_q E10); exact (hsB _ _); (refine hK1 _ ?_; clear hK1 K1)) | (refine join_x (v := ?_) (fun hg hk9 => ?_) ?_; rotate_left; (focus (try ((try simp only [BN] at hg); simp only [S1, simprocAttr, TTCkQ, row3 hx, row3 hy, jl, j0, hw1, hw2, k0, kl, nextJ hlen hlt, takeC_st, Int.toNat_natCast, List.length_map, hg] at hk9 ⊢)); first | exact hk9 | ((first | apply call_a E10 | apply call_q E10); exact (hsA _ _); exact hk9) | ((first | apply call_a E10 | apply call_q E10); exact (hsB _ _); exact hk9)); (refine hK1 _ ?_; clear hK1 K1)) | (((first | (refine ⟨fun hg => hA ?_, fun hg => hB ?_⟩ <;> clear hA hB A B) | refine ⟨fun hg => ?_, fun hg => ?_⟩) <;> (try simp only [BN2] at hg) <;> (try simp only [hg, cond_true, cond_false])) <;> (try (refine hK1 _ ?_; clear hK1 K1)) <;> (try simp only [BN3] at hg))) | ((first | refine arun_q (v := ?_) rfl rfl rfl rfl (by decide) (fun R1 K1 hK1 => ?_) ?_ | refine arun_f (v := ?_) rfl rfl rfl (by decide) (fun K1 hK1 => ?_) ?_ | refine arunT_f (v := ?_) rfl rfl rfl (by decide) (fun K1 hK1 => ?_) ?_ | refine arun_w (v := ?_) rfl rfl rfl rfl (by decide) (fun H1 K1 hK1 => ?_) ?_); rotate_left; (focus (simp only [S1, simprocAttr, TTCkQ, row3 hx, row3 hy, jl, j0, hw1, hw2, k0, kl, nextJ hlen hlt, takeC_st, Int.toNat_natCast, List.length_map]; first | (exact hK1 _ _ _) | ((first | apply call_a E10 | apply call_q E10); exact (hsA _ _); exact hK1 _ _ _) | ((first | apply call_a E10 | apply call_q E10); exact (hsB _ _); exact hK1 _ _ _)))) | (refine arun_tail rfl rfl rfl ?_) | ((first | refine arun_allocj (z := ?_) 0 rfl rfl rfl rfl (by decide) rfl ?_ ?_ | refine arun_allocj (z := ?_) 1 rfl rfl rfl rfl (by decide) rfl ?_ ?_ | refine arun_allocj (z := ?_) 2 rfl rfl rfl rfl (by decide) rfl ?_ ?_); rotate_left; (focus (simp only [S1, simprocAttr, TTCkQ, row3 hx, row3 hy, jl, j0, hw1, hw2, k0, kl, nextJ hlen hlt, takeC_st, Int.toNat_natCast, List.length_map, zeroB]; rfl))) | (refine awp_seq_k fun K hK => ?_) | (refine awp_drawR (es := [11]) [0, 1, 2, 3, 4, 5, 6, 7, 8, 9, 10, 11] 0 (fs := []) rfl (by kernel_rfl) (by kernel_rfl) ?_) | (refine awp_drawR (es := [19]) [0, 1, 2, 3, 4, 5, 6, 7, 8, 9, 10, 11, 12, 13, 14, 15, 16, 17, 18, 19] 0 (fs := []) rfl (by kernel_rfl) (by kernel_rfl) ?_) | ((first | refine awp_region ?_ | refine awp_draw (by kernel_rfl) ?_ | refine awp_block ?_ | refine awp_exit ?_ | refine awp_skip ?_ | refine awp_ret ?_); (try simp only [NB, simprocAttr])))
      all_goals refine ⟨hlt, trivial, ?_⟩
      all_goals refine ⟨rfl, ⟨[], by rw [eA, eB]; simp [pk2]⟩, ?_, pk2_avl _ (by simp)⟩
      all_goals simp only [keeps, avlt, avlts, blksLt, frL, upd_get, S1, simprocAttr, List.length_map, Int.natCast_zero, AV.p.injEq, PV.int.injEq, PV.bool.injEq, PV.sl.injEq] <;> (try and_intros) <;> (try assumption) <;> (try trivial) <;> (try omega)
    · obtain rfl : j = l.length := by omega
      rw [hrv] at kB ⊢
      generalize (setsG (ps.take l.length)).2 = LA at *
      generalize (setsG (ps.take l.length)).1 = gA at *
      generalize (setsG (ps.reverse.take l.length)).1 = gB at *
      obtain ⟨e, now, ht⟩ : ∃ e now, tickC 0 n = (e, now) := ⟨_, _, rfl⟩
      have okT : CkOk now LA := by have := kA.tick n; rwa [ht] at this
      have htA := tickA (G := G) (h := h) (g1 := gA) (n2 := 0) (g2 := gB) (l2 := LA) kA n
      have htB := tickB (G := G) (h := h) (g2 := gB) (n1 := now) (g1 := gA) (l1 := LA) kA n
      rw [ht] at htA htB
      simp only at htA htB
      have hnA := nextA (G := G) (h := h) (g1 := gA) (n2 := now) (g2 := gB) (l2 := LA) okT
      have hnB := nextB (G := G) (h := h) (g2 := gB) (n1 := now) (g1 := gA) (l1 := LA) okT
      have hdA := dueA (G := G) (h := h) (g1 := gA) (n2 := now) (g2 := gB) (l2 := LA) okT
      have hdB := dueB (G := G) (h := h) (g2 := gB) (n1 := now) (g1 := gA) (l1 := LA) okT
      have hdl : (dueC now LA).length ≤ 1000 := by
        unfold dueC
        rw [List.length_map]
        have := List.length_filter_le (fun a : Al => decide (a.1 ≤ now)) LA
        have := okT.len
        omega
      have hin := fun h => ints_calls (G := G) (dueC now LA) (dueC now LA) hdl h
      generalize (nextC now LA).1 = m1 at *
      generalize (nextC now LA).2 = m2 at *
      generalize dueC now LA = D at *
      have bb : (m2 == m2) = true := by cases m2 <;> rfl
      have be : (e == e) = true := by simp
      have bm : (m1 == m1) = true := by simp
      have bD : decide (D = D) = true := by simp
      repeat' (first | ((first | refine aops_nil ?_ | refine aqops_nil ?_); (try simp only [NB])) | ((repeat ((fail_if_success (refine hK _ ?_)); clear hK K)); refine hK _ ?_; clear hK K) | ((first | refine aops_k fun K1 hK1 => ?_ | refine aqops_k fun K1 hK1 => ?_ | refine awp_cond_k fun A B hA hB => ?_); simp only [S1, simprocAttr, TTCkQ, Int.lt_irrefl, bb, be, bm, bD, pk2_len, List.length_map]; first | (refine hK1 _ ?_; clear hK1 K1) | ((first | refine hA ?_ | refine hB ?_); clear hA hB A B) | ((first | apply call_a E11 | apply call_q E11); exact htA; (refine hK1 _ ?_; clear hK1 K1)) | ((first | apply call_a E11 | apply call_q E11); exact htB; (refine hK1 _ ?_; clear hK1 K1)) | ((first | apply call_a E13 | apply call_q E13); exact hnA; (refine hK1 _ ?_; clear hK1 K1)) | ((first | apply call_a E13 | apply call_q E13); exact hnB; (refine hK1 _ ?_; clear hK1 K1)) | ((first | apply call_a E12 | apply call_q E12); exact hdA; (refine hK1 _ ?_; clear hK1 K1)) | ((first | apply call_a E12 | apply call_q E12); exact hdB; (refine hK1 _ ?_; clear hK1 K1)) | ((first | apply call_a E14 | apply call_q E14); exact (hin _); (refine hK1 _ ?_; clear hK1 K1)) | ((first | apply call_a E9 | apply call_q E9); exact (htwo _); (refine hK1 _ ?_; clear hK1 K1)) | (refine join_x (v := ?_) (fun hg hk9 => ?_) ?_; rotate_left; (focus (try ((try simp only [BN] at hg); simp only [S1, simprocAttr, TTCkQ, Int.lt_irrefl, bb, be, bm, bD, pk2_len, List.length_map, hg] at hk9 ⊢)); first | exact hk9 | ((first | apply call_a E11 | apply call_q E11); exact htA; exact hk9) | ((first | apply call_a E11 | apply call_q E11); exact htB; exact hk9) | ((first | apply call_a E13 | apply call_q E13); exact hnA; exact hk9) | ((first | apply call_a E13 | apply call_q E13); exact hnB; exact hk9) | ((first | apply call_a E12 | apply call_q E12); exact hdA; exact hk9) | ((first | apply call_a E12 | apply call_q E12); exact hdB; exact hk9) | ((first | apply call_a E14 | apply call_q E14); exact (hin _); exact hk9) | ((first | apply call_a E9 | apply call_q E9); exact (htwo _); exact hk9)); (refine hK1 _ ?_; clear hK1 K1)) | (((first | (refine ⟨fun hg => hA ?_, fun hg => hB ?_⟩ <;> clear hA hB A B) | refine ⟨fun hg => ?_, fun hg => ?_⟩) <;> (try simp only [BN2] at hg) <;> (try simp only [hg, cond_true, cond_false])) <;> (try (refine hK1 _ ?_; clear hK1 K1)) <;> (try simp only [BN3] at hg))) | (refine awp_seq_k fun K hK => ?_) | ((first | refine awp_region ?_ | refine awp_draw (by kernel_rfl) ?_ | refine awp_block ?_ | refine awp_exit ?_ | refine awp_skip ?_ | refine awp_ret ?_); (try simp only [NB, simprocAttr])))
      all_goals simp only [EndP, FinP, resA, resL, resA1, lastV, lastA, lastAs, pur, purs, take_app, List.take_length, S1, simprocAttr, TTCkQ, Nat.le_add_right, Nat.le_refl, pk2_take, pk2_len]
      all_goals simp
end Go.Proofs.Ytbbmfemplmelhaa.AM
end

section
namespace Go.Proofs
open Go.Shelf
def Try.sortIv_ren : Go.Shelf.Ren := ⟨fun | 6 => 24 | 15 => 35 | 14 => 34 | 28 => 48 | 29 => 49 | 20 => 40 | 21 => 41 | 22 => 42 | 23 => 43 | 24 => 44 | 25 => 45 | 26 => 46 | 27 => 47 | 46 => 51 | 47 => 52 | 48 => 53 | 49 => 54 | 50 => 55 | 57 => 56 | n => n, fun | 22 => 55 | 24 => 59 | 25 => 61 | 3 => 3 | 39 => 71 | 0 => 0 | 53 => 85 | 55 => 87 | 4 => 4 | 46 => 79 | 45 => 78 | 50 => 34 | 5 => 5 | 9 => 9 | 66 => 88 | 70 => 92 | 76 => 94 | 77 => 95 | n => n, fun | n => n⟩
theorem Try.sortIv : Go.Proofs.SlLaysF0.n6 Try.prog Try.sortIv_ren := {
  mixed := by kernel_rfl
  f6 := ⟨Try.f24.name, by decide, Try.func24.trans (congrArg some (by kernel_rfl))⟩
  f14 := ⟨Try.f34.name, by decide, Try.func34.trans (congrArg some (by kernel_rfl))⟩
  f15 := Try.func35.trans (congrArg some (by kernel_rfl))
  f20 := ⟨Try.f40.name, by decide, Try.func40.trans (congrArg some (by kernel_rfl))⟩
  f21 := ⟨Try.f41.name, by decide, Try.func41.trans (congrArg some (by kernel_rfl))⟩
  f22 := ⟨Try.f42.name, by decide, Try.func42.trans (congrArg some (by kernel_rfl))⟩
  f23 := ⟨Try.f43.name, by decide, Try.func43.trans (congrArg some (by kernel_rfl))⟩
  f24 := ⟨Try.f44.name, by decide, Try.func44.trans (congrArg some (by kernel_rfl))⟩
  f25 := ⟨Try.f45.name, by decide, Try.func45.trans (congrArg some (by kernel_rfl))⟩
  f26 := ⟨Try.f46.name, by decide, Try.func46.trans (congrArg some (by kernel_rfl))⟩
  f27 := ⟨Try.f47.name, by decide, Try.func47.trans (congrArg some (by kernel_rfl))⟩
  f28 := Try.func48.trans (congrArg some (by kernel_rfl))
  f29 := Try.func49.trans (congrArg some (by kernel_rfl))
  f46 := ⟨Try.f51.name, by decide, Try.func51.trans (congrArg some (by kernel_rfl))⟩
  f47 := Try.func52.trans (congrArg some (by kernel_rfl))
  f48 := Try.func53.trans (congrArg some (by kernel_rfl))
  f49 := ⟨Try.f54.name, by decide, Try.func54.trans (congrArg some (by kernel_rfl))⟩
  f50 := ⟨Try.f55.name, by decide, Try.func55.trans (congrArg some (by kernel_rfl))⟩
  f57 := ⟨Try.f56.name, by decide, Try.func56.trans (congrArg some (by kernel_rfl))⟩
  t0 := Try.underlying0
  a0 := Try.isAgg0
  z0 := Try.sizeOf0
  v0 := Try.zeroValue0
  t3 := Try.underlying3
  a3 := Try.isAgg3
  z3 := Try.sizeOf3
  v3 := Try.zeroValue3
  t4 := Try.underlying4
  a4 := Try.isAgg4
  z4 := Try.sizeOf4
  v4 := Try.zeroValue4
  t5 := Try.underlying5
  a5 := Try.isAgg5
  z5 := Try.sizeOf5
  v5 := Try.zeroValue5
  t9 := Try.underlying9
  a9 := Try.isAgg9
  z9 := Try.sizeOf9
  v9 := Try.zeroValue9
  t22 := Try.underlying55
  a22 := Try.isAgg55
  z22 := Try.sizeOf55
  v22 := Try.zeroValue55
  t25 := Try.underlying61
  a25 := Try.isAgg61
  z25 := Try.sizeOf61
  v25 := Try.zeroValue61
  t39 := Try.underlying71
  a39 := Try.isAgg71
  z39 := Try.sizeOf71
  v39 := Try.zeroValue71
  t45 := Try.underlying78
  a45 := Try.isAgg78
  z45 := Try.sizeOf78
  v45 := Try.zeroValue78
  t46 := Try.underlying79
  a46 := Try.isAgg79
  z46 := Try.sizeOf79
  v46 := Try.zeroValue79
  t50 := Try.underlying34
  a50 := Try.isAgg34
  z50 := Try.sizeOf34
  v50 := Try.zeroValue34
  t53 := Try.underlying85
  a53 := Try.isAgg85
  z53 := Try.sizeOf85
  v53 := Try.zeroValue85
  t55 := Try.underlying87
  a55 := Try.isAgg87
  z55 := Try.sizeOf87
  v55 := Try.zeroValue87
  t66 := Try.underlying88
  a66 := Try.isAgg88
  z66 := Try.sizeOf88
  v66 := Try.zeroValue88
  t70 := Try.underlying92
  a70 := Try.isAgg92
  z70 := Try.sizeOf92
  v70 := Try.zeroValue92
  t76 := Try.underlying94
  a76 := Try.isAgg94
  z76 := Try.sizeOf94
  v76 := Try.zeroValue94
  t77 := Try.underlying95
  a77 := Try.isAgg95
  z77 := Try.sizeOf95
  v77 := Try.zeroValue95 }
end Go.Proofs
namespace Go.Proofs.Ytbbmfemplmelhaa.AM
open Go Go.Proofs Go.Sort
theorem enc_len {k : Nat} (x : Rec k) : (encR x).length = k := by rw [encR, List.length_map, x.2.1]
theorem enc_one {k : Nat} (x : Rec k) : ∀ v ∈ encR x, v.oneCell' = true := by
  intro v hv
  obtain ⟨n, _, rfl⟩ := List.mem_map.mp hv
  rfl
theorem hskC : SortsK Try.prog 24 25 2 := by
  intro cf hO blk off cap d w hcmp hH hblk hsz
  have eg : ∀ args w, (callFunc 25 args).run Try.prog w = .ok (.enter 25 args) w := enters_of Try.func25 (by kernel_rfl) rfl
  exact AnyQ.slices_SortFunc Try.sortIv 2 (fun w => run_isAgg T59 w) (fun w => run_sizeOf' T59 w) encR enc_len enc_one cf hO 25 #[] blk off cap d w eg hcmp hH hblk hsz
end Go.Proofs.Ytbbmfemplmelhaa.AM
end

section
set_option linter.unusedVariables false
set_option linter.unusedSimpArgs false
namespace Go.Proofs.Ytbbmfemplmelhaa.AM
open Go

mutual
def nrm : PV → PV
  | .nils => .sl []
  | .sl rows => .sl (nrmRows rows)
  | .int k n => .int k n
  | .bool b => .bool b
  | .str s => .str s
  | .nilp => .nilp
  | .nilf => .nilf
def nrmRow : List PV → List PV
  | [] => []
  | x :: r => nrm x :: nrmRow r
def nrmRows : List (List PV) → List (List PV)
  | [] => []
  | x :: r => nrmRow x :: nrmRows r
end

mutual
def nrmA : AV → AV
  | .p x => .p (nrm x)
  | .agg l => .agg (nrmAs l)
  | .tup l => .tup (nrmAs l)
  | .ref b g o s l => .ref b g o s l
  | .ptr b g o => .ptr b g o
  | .pin c => .pin c
  | .mref b g => .mref b g
  | .mp es => .mp es
  | .fn f l => .fn f l
def nrmAs : List AV → List AV
  | [] => []
  | x :: r => nrmA x :: nrmAs r
end

section
variable {P : Program} {G : Nat → Option (List PV)} {ι : Nat → Nat × Nat} {h : Heap} {w : World}

end
end Go.Proofs.Ytbbmfemplmelhaa.AM
end

section
set_option linter.unusedVariables false
set_option linter.unusedSimpArgs false
namespace Go.Proofs.Ytbbmfemplmelhaa.AM
open Go

section
variable {P : Program}

theorem ty_int {k : IntKind} {a b : Nat} {z : Option (List PV)} {t fuel : Nat} {xs : List PV} (ht : tinfo P t = some ⟨.int k, a, b, z⟩) (h : Ty P fuel t xs) : ∃ n, InRange k n ∧ xs = [.int k n] := by
  obtain ⟨_, d, _, h2, h3, _⟩ := tinfo_some ht
  have := kind_int h3; subst this
  cases fuel with
  | zero => exact h.elim
  | succ m => unfold Ty at h; rw [h2] at h; exact h

theorem ty_slice {e a b : Nat} {z : Option (List PV)} {t fuel : Nat} {xs : List PV} (ht : tinfo P t = some ⟨.slice e, a, b, z⟩) (h : Ty P fuel t xs) : ∃ (m : Nat) (rows : List (List PV)), fuel = m + 1 ∧ xs = [.sl rows] ∧ ∀ row ∈ rows, Ty P m e row := by
  obtain ⟨_, d, _, h2, h3, _⟩ := tinfo_some ht
  have := kind_slice h3; subst this
  cases fuel with
  | zero => exact h.elim
  | succ m => unfold Ty at h; rw [h2] at h; obtain ⟨rows, h1, h2⟩ := h; exact ⟨m, rows, rfl, h1, h2⟩

theorem ty_struct {fs : List (Nat × Nat × Nat)} {a b : Nat} {z : Option (List PV)} {t fuel : Nat} {xs : List PV} (ht : tinfo P t = some ⟨.struct fs, a, b, z⟩) (h : Ty P fuel t xs) :
    ∃ (m : Nat) (rows : List (List PV)), fuel = m + 1 ∧ rows.length = fs.length ∧ xs = rows.flatMap id ∧ ∀ (i : Nat) f row, fs[i]? = some f → rows[i]? = some row → Ty P m f.2.2 row := by
  obtain ⟨_, d, _, h2, h3, _⟩ := tinfo_some ht
  obtain ⟨F, rfl, h4⟩ := kind_struct h3
  cases fuel with
  | zero => exact h.elim
  | succ m =>
    unfold Ty at h
    rw [h2] at h
    obtain ⟨rows, g1, g2, g3⟩ := h
    refine ⟨m, rows, rfl, by rw [h4]; simpa using g1, g2, fun i f row hf hr => ?_⟩
    rw [h4] at hf
    simp only [List.getElem?_map, Option.map_eq_some_iff] at hf
    obtain ⟨fd, hfd, rfl⟩ := hf
    exact g3 i fd row (by simpa using hfd) hr

/-- Rows of numbers. -/
theorem ty_ints {k : IntKind} {a b : Nat} {z : Option (List PV)} {e m : Nat} (ht : tinfo P e = some ⟨.int k, a, b, z⟩) : ∀ (rows : List (List PV)), (∀ row ∈ rows, Ty P m e row) → ∃ l : List Int, l.length = rows.length ∧ (∀ n ∈ l, InRange k n) ∧ rows = l.map fun n => [.int k n]
  | [], _ => ⟨[], rfl, by simp, rfl⟩
  | r :: rows, h => by
    obtain ⟨n, hn, rfl⟩ := ty_int ht (h r (by simp))
    obtain ⟨l, h1, h2, h3⟩ := ty_ints ht rows fun row hr => h row (by simp [hr])
    exact ⟨n :: l, by simp [h1], by simpa using ⟨hn, h2⟩, by simp [h3]⟩

theorem argA_at {i : TI} {t : Nat} (ht : tinfo P t = some i) (xs : List PV) : argA P t xs = if i.isAgg then .agg (xs.map .p) else match xs with | x :: _ => .p x | [] => .undef := by
  obtain ⟨_, d, _, h2, h3, _⟩ := tinfo_some ht
  have : aggT P t = i.isAgg := by
    unfold aggT TI.isAgg
    rw [h2, ← h3]
    cases d <;> rfl
  unfold argA
  rw [this]
  all_goals (cases xs <;> rfl)
end
end Go.Proofs.Ytbbmfemplmelhaa.AM
end

section
set_option linter.unusedVariables false
set_option linter.unusedSimpArgs false
set_option maxRecDepth 4000
set_option maxHeartbeats 4000000
namespace Go.Proofs.Ytbbmfemplmelhaa.AM
open Go Go.Proofs
set_option linter.defProp false in
def gK : Nat → Option (List PV) := fun _ => none
theorem gK_pin {W : World} : ∀ g cells, gK g = some cells → PinRel W (fun _ => False) cells g 0 := fun g cells h => by cases h

theorem argk_num {fuel : Nat} {xs : List PV} (h : Ty Try.prog fuel 3 xs) : ∃ n : Int, n ≤ 9223372036854775807 ∧ argA Try.prog 3 xs = .i n := by
  obtain ⟨n, hn, rfl⟩ := ty_int T3 h
  exact ⟨n, hn.2, by rw [argA_at T3]; simp [TI.isAgg]⟩
theorem argk_ints {fuel : Nat} {xs : List PV} (h : Ty Try.prog fuel 28 xs) : ∃ l : List Int, argA Try.prog 28 xs = aJ l := by
  obtain ⟨m, rows, _, rfl, hr⟩ := ty_slice T28 h
  obtain ⟨l, _, _, hl⟩ := ty_ints T3 rows hr
  exact ⟨l, by rw [argA_at T28, hl]; simp [TI.isAgg, eJ]⟩
theorem stepk_of {fuel : Nat} {xs : List PV} (h : Ty Try.prog fuel 33 xs) : ∃ s : St3, s.2.1 ≤ 9223372036854775807 ∧ xs = e3 s := by
  obtain ⟨m, rows, e, hl, rfl, hf⟩ := ty_struct T33 h
  match rows, hl with
  | [r0, r1, r2], _ =>
    obtain ⟨a, _, rfl⟩ := ty_int T3 (show Ty Try.prog m 3 r0 from hf 0 _ r0 rfl rfl)
    obtain ⟨b, hb, rfl⟩ := ty_int T3 (show Ty Try.prog m 3 r1 from hf 1 _ r1 rfl rfl)
    obtain ⟨c, _, rfl⟩ := ty_int T3 (show Ty Try.prog m 3 r2 from hf 2 _ r2 rfl rfl)
    exact ⟨(a, b, c), hb.2, rfl⟩
theorem stepsk_of {m : Nat} : ∀ rows : List (List PV), (∀ row ∈ rows, Ty Try.prog m 33 row) → ∃ l : List St3, (∀ s ∈ l, s.2.1 ≤ 9223372036854775807) ∧ rows = l.map e3
  | [], _ => ⟨[], by simp, rfl⟩
  | r :: rows, h => by
    obtain ⟨s, hs, rfl⟩ := stepk_of (h r (by simp))
    obtain ⟨l, hl, rfl⟩ := stepsk_of rows fun row hr => h row (by simp [hr])
    exact ⟨s :: l, fun q hq => (List.mem_cons.mp hq).elim (fun e => by rw [e]; exact hs) (hl q), rfl⟩
theorem argk_steps {fuel : Nat} {xs : List PV} (h : Ty Try.prog fuel 31 xs) : ∃ l : List St3, (∀ s ∈ l, s.2.1 ≤ 9223372036854775807) ∧ argA Try.prog 31 xs = a3 l := by
  obtain ⟨m, rows, _, rfl, hr⟩ := ty_slice T31 h
  obtain ⟨l, hl, rfl⟩ := stepsk_of rows hr
  exact ⟨l, hl, by rw [argA_at T31]; simp [TI.isAgg]⟩
theorem argk_step {fuel : Nat} {xs : List PV} (h : Ty Try.prog fuel 33 xs) : ∃ s : St3, argA Try.prog 33 xs = .agg [.i s.1, .i s.2.1, .i s.2.2] := by
  obtain ⟨s, hs, rfl⟩ := stepk_of h
  exact ⟨s, by rw [argA_at T33]; simp [TI.isAgg, e3]⟩

theorem full_given (xss : List (List PV)) (hl : xss.length = [3].length) (ht : ∀ (j : Nat) t xs, [3][j]? = some t → xss[j]? = some xs → ∃ fuel, Ty Try.prog fuel t xs) :
    ACalls Try.prog gK 3 (List.zipWith (argA Try.prog) [3] xss) [] fun r h' => r = .b true ∧ h' = [] := by
  match xss, hl, ht with
  | [x0], _, ht =>
    obtain ⟨_, h0⟩ := ht 0 3 x0 rfl rfl
    obtain ⟨n, _, e0⟩ := argk_num h0
    simp only [List.zipWith_cons_cons, List.zipWith_nil_left, e0]
    exact full_calls hskC n []
theorem nil_given (xss : List (List PV)) (hl : xss.length = [33].length) (ht : ∀ (j : Nat) t xs, [33][j]? = some t → xss[j]? = some xs → ∃ fuel, Ty Try.prog fuel t xs) :
    ACalls Try.prog gK 7 (List.zipWith (argA Try.prog) [33] xss) [] fun r h' => r = .b true ∧ h' = [] := by
  match xss, hl, ht with
  | [x0], _, ht =>
    obtain ⟨_, h0⟩ := ht 0 33 x0 rfl rfl
    obtain ⟨s, e0⟩ := argk_step h0
    simp only [List.zipWith_cons_cons, List.zipWith_nil_left, e0]
    exact nil_calls hskC s.1 s.2.1 s.2.2 []
theorem goes_given (xss : List (List PV)) (hl : xss.length = [3, 28].length) (ht : ∀ (j : Nat) t xs, [3, 28][j]? = some t → xss[j]? = some xs → ∃ fuel, Ty Try.prog fuel t xs) :
    ACalls Try.prog gK 5 (List.zipWith (argA Try.prog) [3, 28] xss) [] fun r h' => r = .b true ∧ h' = [] := by
  match xss, hl, ht with
  | [x0, x1], _, ht =>
    obtain ⟨_, h0⟩ := ht 0 3 x0 rfl rfl
    obtain ⟨_, h1⟩ := ht 1 28 x1 rfl rfl
    obtain ⟨n, _, e0⟩ := argk_num h0
    obtain ⟨l, e1⟩ := argk_ints h1
    simp only [List.zipWith_cons_cons, List.zipWith_nil_left, e0, e1]
    exact goes_calls hskC n l []
theorem order_given (xss : List (List PV)) (hl : xss.length = [31, 3].length) (ht : ∀ (j : Nat) t xs, [31, 3][j]? = some t → xss[j]? = some xs → ∃ fuel, Ty Try.prog fuel t xs) :
    ACalls Try.prog gK 4 (List.zipWith (argA Try.prog) [31, 3] xss) [] fun r h' => r = .b true ∧ h' = [] := by
  match xss, hl, ht with
  | [x0, x1], _, ht =>
    obtain ⟨_, h0⟩ := ht 0 31 x0 rfl rfl
    obtain ⟨_, h1⟩ := ht 1 3 x1 rfl rfl
    obtain ⟨l, hl, e0⟩ := argk_steps h0
    obtain ⟨n, _, e1⟩ := argk_num h1
    simp only [List.zipWith_cons_cons, List.zipWith_nil_left, e0, e1]
    exact order_calls hskC l hl n []
end Go.Proofs.Ytbbmfemplmelhaa.AM
end
