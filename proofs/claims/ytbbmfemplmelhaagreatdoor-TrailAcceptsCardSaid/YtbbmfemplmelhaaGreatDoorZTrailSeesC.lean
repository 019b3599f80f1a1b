/- Proved here, in parts, for one law: contracts of the functions that the laws call, and the plain facts behind them. Conditions: none. -/
import Derived.Test.YtbbmfemplmelhaaGreatDoorZTrailSeesB
set_option linter.unusedVariables false
set_option linter.unusedSimpArgs false
set_option linter.defProp false
set_option maxRecDepth 4000
set_option maxHeartbeats 4000000
namespace Go.Proofs.YtbbmfemplmelhaaGreatDoor.AM
open Go Go.Proofs
section
def bl := And.intro T2 (And.intro T3 (And.intro T4 (And.intro T23 (And.intro T25 (And.intro T41 (And.intro T73 (And.intro T75 T80)))))))
attribute [local irreducible] awp n9 k3 l8 o6
variable {G : Nat → Option (List PV)}
theorem I9 (m : Nat) (l : List Int) : o4 m (l.map AV.i) := lS _ fun x hx => by
  simp only [List.mem_map] at hx
  obtain ⟨i, _, rfl⟩ := hx
  exact ⟨_, rfl⟩
theorem jL : ∀ l : List Int, B7 1 l.length (l.map (PV.int .i64)) = l.map eI
  | [] => rfl
  | x :: r => by simp only [List.length_cons, List.map_cons, B7, List.take_succ_cons, List.take_zero, List.drop_succ_cons, List.drop_zero, jL r, eI]
theorem wh {h : Heap} {n fuel b g : Nat} {l : List Int} (hb : s8 h b g = some (l.map AV.i)) (hn : n ≤ b) : pur h n (fuel + 1) (.ref b g 0 1 l.length) = some (.sl (l.map eI)) := by
  unfold pur
  by_cases h0 : l.length = 0
  · rw [if_pos h0]; have := List.eq_nil_of_length_eq_zero h0; subst this; rfl
  · rw [if_neg h0, hb]
    simp only [hn, true_and, Nat.zero_add, Nat.mul_one, List.length_map, Nat.le_refl, if_true, List.drop_zero]
    rw [List.take_of_length_le (by simp), fT]
    simp only [Option.map_some, jL]
theorem fU {P : Program} {h : Heap} {K : AV → Prop} {e : Exit} {s : St} (he : e = .normal ∨ e = .ret) {t b g : Nat} {l : List Int} (hf : s.fr t = some (.ref b g 0 1 l.length)) (hb : s8 s.heap b g = some (l.map AV.i)) (hn : h.length ≤ b)
    (ht : s.heap.take h.length = h) (hle : h.length ≤ s.heap.length) (hk : K (aI l)) : iL P [.tmp t] h K e s := by
  have key : W8 P [.tmp t] h K s := by
    unfold W8
    simp only [Q3, Q2, I4, hf, F8, E6, wh hb hn, Option.map_some]
    exact ⟨ht, hle, hk⟩
  rcases he with rfl | rfl <;> exact key
theorem D9 (nodes : List (List PV)) (fl : List Fl) (hl : fl.length ≤ 100) (i : Int) (h : Heap) : d5 Tryz.prog G 66 [.agg [.p (.sl nodes), .p (.sl (fl.map eF))], .i i] h (fun r h' => r = aI (o5 fl i) ∧ h' = h) := by
  refine c8 (rl := []) e9 Tryz.func66 rfl (rs := [.tmp 4]) rfl Tryz.ntmps66 (by simp) ?_
  refine b6 fun K hK => ?_
  repeat' (first | (apply b8; (try simp only [NB]); ((repeat ((fail_if_success (refine hK _ ?_)); clear hK K)); refine hK _ ?_; clear hK K)) | (refine b9 fun K1 q6 => ?_; simp only [S1, simprocAttr, bl]; refine q6 _ ?_; clear q6 K1) | (apply b5; try simp only [NB, simprocAttr]; (try ((repeat ((fail_if_success (refine hK _ ?_)); clear hK K)); refine hK _ ?_; clear hK K))))
  refine b6 fun K hK => ?_
  repeat' (first | (apply b8; (try simp only [NB]); ((repeat ((fail_if_success (refine hK _ ?_)); clear hK K)); refine hK _ ?_; clear hK K)) | (refine b9 fun K1 q6 => ?_; simp only [S1, simprocAttr, bl]; refine q6 _ ?_; clear q6 K1) | (apply b5; try simp only [NB, simprocAttr]; (try ((repeat ((fail_if_success (refine hK _ ?_)); clear hK K)); refine hK _ ?_; clear hK K))))
  refine b6 fun K hK => ?_
  repeat' (first | ((repeat ((fail_if_success (refine hK _ ?_)); clear hK K)); refine hK _ ?_; clear hK K) | (refine b9 fun K1 q6 => ?_; simp only [S1, simprocAttr, bl, List.length_map]; refine q6 _ ?_; clear q6 K1) | refine b6 fun K hK => ?_ | ((first | apply b8 | apply b5 | apply c7); try simp only [NB, simprocAttr]))
  let q := fun f : Fl => f.dst == i
  refine F0 fl.length 26 (fun j => [(11, .i j), (10, .i fl.length), (9, .p (.sl (fl.map eF))), (1, .i i), (5, .ref (h.length + 1) (r7 q fl j).length 0 1 (r7 q fl j).length)])
    (fun j => [some ⟨0, [.p (.sl nodes), .p (.sl (fl.map eF))]⟩, some ⟨(r7 q fl j).length, (r7 q fl j).map AV.i⟩]) (fun j => True) ?_ trivial fun j hj hp K hK => ?_
  · refine (o8.adopt 5 1 rfl).trans (Sub.ghost ⟨rfl, ⟨[], by simp [r7]⟩, ?_, ?_⟩)
    · simp [K4, upd, s7, r7]
    · simp [B9, o4, s7, r7]
  rcases Nat.lt_or_ge j fl.length with hlt | hge
  · obtain ⟨k, hx⟩ : ∃ k, fl[j]? = some k := ⟨_, List.getElem?_eq_getElem hlt⟩
    have hle := R8 q fl j
    have hmax : (r7 q fl j).length + 1 ≤ j7 := by unfold j7; omega
    cases hq : q k with
    | false =>
      have f1 : (k.dst == i) = false := hq
      have e1 : r7 q fl (j + 1) = r7 q fl j := by simp only [r7, hx, hq]; rfl
      repeat' (first | ((repeat ((fail_if_success (refine hK _ ?_)); clear hK K)); refine hK _ ?_; clear hK K) | ((first | refine b9 fun K1 q6 => ?_ | refine b7 fun A B hA hB => ?_); simp only [S1, simprocAttr, bl, U6 hx, cN hlt, T5 hl hlt, eF, f1, List.length_map]; first | refine q6 _ ?_; clear q6 K1 | ((first | refine hA ?_ | refine hB ?_); clear hA hB A B)) | refine b6 fun K hK => ?_ | ((first | apply b8 | apply b5 | apply c7 | apply c9); try simp only [NB, simprocAttr]))
      all_goals refine ⟨hlt, trivial, ?_⟩
      all_goals simp only [e1]
      all_goals refine ⟨rfl, ⟨_, rfl⟩, ?_, ?_⟩
      · simp only [S1, simprocAttr, KNB] <;> (try and_intros) <;> (try assumption) <;> (try trivial) <;> (try omega)
      · simp only [B9, o4, s7]; exact ⟨⟨trivial, trivial, trivial⟩, I9 _ _, trivial⟩
    | true =>
      have f1 : (k.dst == i) = true := hq
      have e1 : r7 q fl (j + 1) = r7 q fl j ++ [(j : Int)] := by simp only [r7, hx, hq]; rfl
      repeat' (first | ((repeat ((fail_if_success (refine hK _ ?_)); clear hK K)); refine hK _ ?_; clear hK K) | ((first | refine b9 fun K1 q6 => ?_ | refine b7 fun A B hA hB => ?_); simp only [S1, simprocAttr, bl, U6 hx, cN hlt, T5 hl hlt, eF, f1, List.length_map, hmax, Nat.mul_one]; first | refine q6 _ ?_; clear q6 K1 | (refine hA ?_; clear hA hB A B)) | refine b6 fun K hK => ?_ | ((first | apply b8 | apply b5 | apply c7 | apply c9); try simp only [NB, simprocAttr]))
      all_goals refine ⟨hlt, trivial, ?_⟩
      all_goals simp only [e1, List.length_append, List.map_append, List.length_cons, List.length_nil, List.map_cons, List.map_nil, Nat.zero_add]
      all_goals refine ⟨rfl, ⟨_, rfl⟩, ?_, ?_⟩
      · simp only [S1, simprocAttr, KNB] <;> (try and_intros) <;> (try assumption) <;> (try trivial) <;> (try omega)
      · simp only [B9, o4, s7]; exact ⟨⟨trivial, trivial, trivial⟩, (by have := I9 (h.length + 2) (r7 q fl j ++ [(j : Int)]); simpa using this), trivial⟩
  · obtain rfl : j = fl.length := by omega
    repeat' (first | ((repeat ((fail_if_success (refine hK _ ?_)); clear hK K)); refine hK _ ?_; clear hK K) | ((first | refine b9 fun K1 q6 => ?_ | refine b7 fun A B hA hB => ?_); simp only [S1, simprocAttr, bl, rz]; first | refine q6 _ ?_; clear q6 K1 | (refine hB ?_; clear hA hB A B)) | refine b6 fun K hK => ?_ | ((first | apply b8 | apply b5 | apply f9 | apply d3); try simp only [NB, simprocAttr]))
    exact fU (.inr rfl) rfl (by simp only [s8, n8, List.getElem?_cons_succ, List.getElem?_cons_zero, if_true]) (by omega) (by simp) (by simp) rfl
theorem t7 (nodes : List (List PV)) (fl : List Fl) (hl : fl.length ≤ 100) (i : Int) (h : Heap) : d5 Tryz.prog G 47 [.agg [.p (.sl nodes), .p (.sl (fl.map eF))], .i i] h (fun r h' => r = aI (i7 fl i) ∧ h' = h) := by
  refine c8 (rl := []) e9 Tryz.func47 rfl (rs := [.tmp 4]) rfl Tryz.ntmps47 (by simp) ?_
  refine b6 fun K hK => ?_
  repeat' (first | (apply b8; (try simp only [NB]); ((repeat ((fail_if_success (refine hK _ ?_)); clear hK K)); refine hK _ ?_; clear hK K)) | (refine b9 fun K1 q6 => ?_; simp only [S1, simprocAttr, bl]; refine q6 _ ?_; clear q6 K1) | (apply b5; try simp only [NB, simprocAttr]; (try ((repeat ((fail_if_success (refine hK _ ?_)); clear hK K)); refine hK _ ?_; clear hK K))))
  refine b6 fun K hK => ?_
  repeat' (first | (apply b8; (try simp only [NB]); ((repeat ((fail_if_success (refine hK _ ?_)); clear hK K)); refine hK _ ?_; clear hK K)) | (refine b9 fun K1 q6 => ?_; simp only [S1, simprocAttr, bl]; refine q6 _ ?_; clear q6 K1) | (apply b5; try simp only [NB, simprocAttr]; (try ((repeat ((fail_if_success (refine hK _ ?_)); clear hK K)); refine hK _ ?_; clear hK K))))
  refine b6 fun K hK => ?_
  repeat' (first | ((repeat ((fail_if_success (refine hK _ ?_)); clear hK K)); refine hK _ ?_; clear hK K) | (refine b9 fun K1 q6 => ?_; simp only [S1, simprocAttr, bl, List.length_map]; refine q6 _ ?_; clear q6 K1) | refine b6 fun K hK => ?_ | ((first | apply b8 | apply b5 | apply c7); try simp only [NB, simprocAttr]))
  let q := fun f : Fl => f.src == i
  refine F0 fl.length 26 (fun j => [(11, .i j), (10, .i fl.length), (9, .p (.sl (fl.map eF))), (1, .i i), (5, .ref (h.length + 1) (r7 q fl j).length 0 1 (r7 q fl j).length)])
    (fun j => [some ⟨0, [.p (.sl nodes), .p (.sl (fl.map eF))]⟩, some ⟨(r7 q fl j).length, (r7 q fl j).map AV.i⟩]) (fun j => True) ?_ trivial fun j hj hp K hK => ?_
  · refine (o8.adopt 5 1 rfl).trans (Sub.ghost ⟨rfl, ⟨[], by simp [r7]⟩, ?_, ?_⟩)
    · simp [K4, upd, s7, r7]
    · simp [B9, o4, s7, r7]
  rcases Nat.lt_or_ge j fl.length with hlt | hge
  · obtain ⟨k, hx⟩ : ∃ k, fl[j]? = some k := ⟨_, List.getElem?_eq_getElem hlt⟩
    have hle := R8 q fl j
    have hmax : (r7 q fl j).length + 1 ≤ j7 := by unfold j7; omega
    cases hq : q k with
    | false =>
      have f1 : (k.src == i) = false := hq
      have e1 : r7 q fl (j + 1) = r7 q fl j := by simp only [r7, hx, hq]; rfl
      repeat' (first | ((repeat ((fail_if_success (refine hK _ ?_)); clear hK K)); refine hK _ ?_; clear hK K) | ((first | refine b9 fun K1 q6 => ?_ | refine b7 fun A B hA hB => ?_); simp only [S1, simprocAttr, bl, U6 hx, cN hlt, T5 hl hlt, eF, f1, List.length_map]; first | refine q6 _ ?_; clear q6 K1 | ((first | refine hA ?_ | refine hB ?_); clear hA hB A B)) | refine b6 fun K hK => ?_ | ((first | apply b8 | apply b5 | apply c7 | apply c9); try simp only [NB, simprocAttr]))
      all_goals refine ⟨hlt, trivial, ?_⟩
      all_goals simp only [e1]
      all_goals refine ⟨rfl, ⟨_, rfl⟩, ?_, ?_⟩
      · simp only [S1, simprocAttr, KNB] <;> (try and_intros) <;> (try assumption) <;> (try trivial) <;> (try omega)
      · simp only [B9, o4, s7]; exact ⟨⟨trivial, trivial, trivial⟩, I9 _ _, trivial⟩
    | true =>
      have f1 : (k.src == i) = true := hq
      have e1 : r7 q fl (j + 1) = r7 q fl j ++ [(j : Int)] := by simp only [r7, hx, hq]; rfl
      repeat' (first | ((repeat ((fail_if_success (refine hK _ ?_)); clear hK K)); refine hK _ ?_; clear hK K) | ((first | refine b9 fun K1 q6 => ?_ | refine b7 fun A B hA hB => ?_); simp only [S1, simprocAttr, bl, U6 hx, cN hlt, T5 hl hlt, eF, f1, List.length_map, hmax, Nat.mul_one]; first | refine q6 _ ?_; clear q6 K1 | (refine hA ?_; clear hA hB A B)) | refine b6 fun K hK => ?_ | ((first | apply b8 | apply b5 | apply c7 | apply c9); try simp only [NB, simprocAttr]))
      all_goals refine ⟨hlt, trivial, ?_⟩
      all_goals simp only [e1, List.length_append, List.map_append, List.length_cons, List.length_nil, List.map_cons, List.map_nil, Nat.zero_add]
      all_goals refine ⟨rfl, ⟨_, rfl⟩, ?_, ?_⟩
      · simp only [S1, simprocAttr, KNB] <;> (try and_intros) <;> (try assumption) <;> (try trivial) <;> (try omega)
      · simp only [B9, o4, s7]; exact ⟨⟨trivial, trivial, trivial⟩, (by have := I9 (h.length + 2) (r7 q fl j ++ [(j : Int)]); simpa using this), trivial⟩
  · obtain rfl : j = fl.length := by omega
    repeat' (first | ((repeat ((fail_if_success (refine hK _ ?_)); clear hK K)); refine hK _ ?_; clear hK K) | ((first | refine b9 fun K1 q6 => ?_ | refine b7 fun A B hA hB => ?_); simp only [S1, simprocAttr, bl, rz]; first | refine q6 _ ?_; clear q6 K1 | (refine hB ?_; clear hA hB A B)) | refine b6 fun K hK => ?_ | ((first | apply b8 | apply b5 | apply f9 | apply d3); try simp only [NB, simprocAttr]))
    exact fU (.inr rfl) rfl (by simp only [s8, n8, List.getElem?_cons_succ, List.getElem?_cons_zero, if_true]) (by omega) (by simp) (by simp) rfl
end
section
def X6 := And.intro T2 (And.intro T3 (And.intro T4 (And.intro T23 (And.intro T25 (And.intro T41 (And.intro T73 (And.intro T75 (And.intro T80 Bc))))))))
attribute [local irreducible] awp n9 k3 l8 o6
variable {G : Nat → Option (List PV)}
mutual
theorem uh {m n : Nat} (hmn : m ≤ n) : ∀ x : AV, s7 m x → s7 n x
  | .p _, _ => by simp [s7]
  | .agg l, h => by simp only [s7] at h ⊢; exact E0 hmn l h
  | .tup l, h => by simp only [s7] at h ⊢; exact E0 hmn l h
  | .fn f l, h => by simp only [s7] at h ⊢; exact E0 hmn l h
  | .ref b g o s l, h => by simp only [s7] at h ⊢; omega
  | .ptr b g o, h => by simp only [s7] at h ⊢; omega
  | .pin c, _ => by simp [s7]
  | .mref b g, h => by simp only [s7] at h ⊢; omega
  | .mp es, _ => by simp [s7]
theorem E0 {m n : Nat} (hmn : m ≤ n) : ∀ l : List AV, o4 m l → o4 n l
  | [], _ => by simp [o4]
  | x :: r, h => by simp only [o4] at h ⊢; exact ⟨uh hmn x h.1, E0 hmn r h.2⟩
end
theorem J8 {H : Heap} {b : Nat} {x : Option Blk} (hb : H[b]? = some x) (L : Heap) : (H ++ L)[b]? = some x := by
  have : b < H.length := by
    rcases Nat.lt_or_ge b H.length with h | h
    · exact h
    · rw [List.getElem?_eq_none h] at hb; cases hb
  rw [List.getElem?_append_left this]; exact hb
abbrev aF (k : Fl) : AV := .agg [.i k.src, .i k.dst, .b k.els, .i k.cond.op, .i k.cond.n, .p (.sl (k.cond.kids.map eT))]
theorem rA (k : Fl) (i : Int) (H : Heap) {b g : Nat} (hb : H[b]? = some (some ⟨g, [.i i]⟩)) : d5 Tryz.prog G 138 [aF k, .ptr b g 0] H (fun r h' => r = .b (k.dst == i) ∧ h' = H) := by
  refine c8 (rl := []) e9 Tryz.func138 rfl (rs := [.tmp 3]) rfl Tryz.ntmps138 (by simp) ?_
  repeat' (first | ((repeat ((fail_if_success (refine hK _ ?_)); clear hK K)); refine hK _ ?_; clear hK K) | (refine b9 fun K1 q6 => ?_; simp only [S1, simprocAttr, X6, J8 hb]; refine q6 _ ?_; clear q6 K1) | refine b6 fun K hK => ?_ | ((first | apply b8 | apply b5 | apply d3); try simp only [NB, simprocAttr]))
  simp only [S1, simprocAttr, ENB, X6]
theorem pD (k : Fl) (i : Int) (H : Heap) {b g : Nat} (hb : H[b]? = some (some ⟨g, [.i i]⟩)) : d5 Tryz.prog G 77 [aF k, .ptr b g 0] H (fun r h' => r = .b (k.src == i) ∧ h' = H) := by
  refine c8 (rl := []) e9 Tryz.func77 rfl (rs := [.tmp 3]) rfl Tryz.ntmps77 (by simp) ?_
  repeat' (first | ((repeat ((fail_if_success (refine hK _ ?_)); clear hK K)); refine hK _ ?_; clear hK K) | (refine b9 fun K1 q6 => ?_; simp only [S1, simprocAttr, X6, J8 hb]; refine q6 _ ?_; clear q6 K1) | refine b6 fun K hK => ?_ | ((first | apply b8 | apply b5 | apply d3); try simp only [NB, simprocAttr]))
  simp only [S1, simprocAttr, ENB, X6]
theorem gY {f : FuncId} (hE : g8 Tryz.prog f) {caps : List AV} {q : Fl → Bool} (nodes : List (List PV)) (fl : List Fl) (hl : fl.length ≤ 100) (h : Heap) (hcap : o4 h.length caps)
    (hc : ∀ L, ∀ k ∈ fl, d5 Tryz.prog G f (aF k :: caps) (h ++ L) (fun r h' => r = .b (q k) ∧ h' = h ++ L)) :
    d5 Tryz.prog G 76 [.agg [.p (.sl nodes), .p (.sl (fl.map eF))], .fn f caps] h (fun r h' => r = aI (r7 q fl fl.length) ∧ h' = h) := by
  refine c8 (rl := []) e9 Tryz.func76 rfl (rs := [.tmp 4]) rfl Tryz.ntmps76 (by simp) ?_
  refine b6 fun K hK => ?_
  repeat' (first | (apply b8; (try simp only [NB]); ((repeat ((fail_if_success (refine hK _ ?_)); clear hK K)); refine hK _ ?_; clear hK K)) | (refine b9 fun K1 q6 => ?_; simp only [S1, simprocAttr, X6]; refine q6 _ ?_; clear q6 K1) | (apply b5; try simp only [NB, simprocAttr]; (try ((repeat ((fail_if_success (refine hK _ ?_)); clear hK K)); refine hK _ ?_; clear hK K))))
  refine b6 fun K hK => ?_
  repeat' (first | (apply b8; (try simp only [NB]); ((repeat ((fail_if_success (refine hK _ ?_)); clear hK K)); refine hK _ ?_; clear hK K)) | (refine b9 fun K1 q6 => ?_; simp only [S1, simprocAttr, X6]; refine q6 _ ?_; clear q6 K1) | (apply b5; try simp only [NB, simprocAttr]; (try ((repeat ((fail_if_success (refine hK _ ?_)); clear hK K)); refine hK _ ?_; clear hK K))))
  refine b6 fun K hK => ?_
  repeat' (first | ((repeat ((fail_if_success (refine hK _ ?_)); clear hK K)); refine hK _ ?_; clear hK K) | (refine b9 fun K1 q6 => ?_; simp only [S1, simprocAttr, X6, List.length_map]; refine q6 _ ?_; clear q6 K1) | refine b6 fun K hK => ?_ | ((first | apply b8 | apply b5 | apply c7); try simp only [NB, simprocAttr]))
  have hcap2 := E0 (Nat.le_add_right h.length 2) caps hcap
  have hcap0 := E0 (Nat.le_add_right h.length 1) caps hcap
  refine F0 fl.length 25 (fun j => [(11, .i j), (10, .i fl.length), (9, .p (.sl (fl.map eF))), (1, .fn f caps), (5, .ref (h.length + 1) (r7 q fl j).length 0 1 (r7 q fl j).length)])
    (fun j => [some ⟨0, [.p (.sl nodes), .p (.sl (fl.map eF))]⟩, some ⟨(r7 q fl j).length, (r7 q fl j).map AV.i⟩]) (fun j => True) ?_ trivial fun j hj hp K hK => ?_
  · refine (o8.adopt 5 1 rfl).trans (Sub.ghost ⟨rfl, ⟨[], by simp [r7]⟩, ?_, ?_⟩)
    · simp only [K4, s7, r7, G5, frL, List.length_cons, List.length_nil]
      simp
      exact hcap2
    · simp [B9, o4, s7, r7]
  rcases Nat.lt_or_ge j fl.length with hlt | hge
  · obtain ⟨k, hx⟩ : ∃ k, fl[j]? = some k := ⟨_, List.getElem?_eq_getElem hlt⟩
    have hm := List.mem_of_getElem? hx
    have hle := R8 q fl j
    have hmax : (r7 q fl j).length + 1 ≤ j7 := by unfold j7; omega
    have hck := fun L => hc L k hm
    cases hq : q k with
    | false =>
      rw [hq] at hck
      have e1 : r7 q fl (j + 1) = r7 q fl j := by simp only [r7, hx, hq]; rfl
      repeat' (first | ((repeat ((fail_if_success (refine hK _ ?_)); clear hK K)); refine hK _ ?_; clear hK K) | ((first | refine b9 fun K1 q6 => ?_ | refine b7 fun A B hA hB => ?_); simp only [S1, simprocAttr, X6, U6 hx, cN hlt, T5 hl hlt, eF, List.length_map]; first | refine q6 _ ?_; clear q6 K1 | ((first | refine hA ?_ | refine hB ?_); clear hA hB A B) | (apply d4 hE; exact (hck _); refine q6 _ ?_; clear q6 K1)) | refine b6 fun K hK => ?_ | ((first | apply b8 | apply b5 | apply c7 | apply c9); try simp only [NB, simprocAttr]))
      all_goals refine ⟨hlt, trivial, ?_⟩
      all_goals simp only [e1]
      all_goals refine ⟨rfl, ⟨_, rfl⟩, ?_, ?_⟩
      · simp only [S1, simprocAttr, KNB] <;> (try and_intros) <;> (try assumption) <;> (try trivial) <;> (try omega)
      · simp only [B9, o4, s7]; exact ⟨⟨trivial, trivial, trivial⟩, I9 _ _, trivial⟩
    | true =>
      rw [hq] at hck
      have e1 : r7 q fl (j + 1) = r7 q fl j ++ [(j : Int)] := by simp only [r7, hx, hq]; rfl
      repeat' (first | ((repeat ((fail_if_success (refine hK _ ?_)); clear hK K)); refine hK _ ?_; clear hK K) | ((first | refine b9 fun K1 q6 => ?_ | refine b7 fun A B hA hB => ?_); simp only [S1, simprocAttr, X6, U6 hx, cN hlt, T5 hl hlt, eF, List.length_map, hmax, Nat.mul_one]; first | refine q6 _ ?_; clear q6 K1 | (refine hA ?_; clear hA hB A B) | (apply d4 hE; exact (hck _); refine q6 _ ?_; clear q6 K1)) | refine b6 fun K hK => ?_ | ((first | apply b8 | apply b5 | apply c7 | apply c9); try simp only [NB, simprocAttr]))
      all_goals refine ⟨hlt, trivial, ?_⟩
      all_goals simp only [e1, List.length_append, List.map_append, List.length_cons, List.length_nil, List.map_cons, List.map_nil, Nat.zero_add]
      all_goals refine ⟨rfl, ⟨_, rfl⟩, ?_, ?_⟩
      · simp only [S1, simprocAttr, KNB] <;> (try and_intros) <;> (try assumption) <;> (try trivial) <;> (try omega)
      · simp only [B9, o4, s7]; exact ⟨⟨trivial, trivial, trivial⟩, (by have := I9 (h.length + 2) (r7 q fl j ++ [(j : Int)]); simpa using this), trivial⟩
  · obtain rfl : j = fl.length := by omega
    repeat' (first | ((repeat ((fail_if_success (refine hK _ ?_)); clear hK K)); refine hK _ ?_; clear hK K) | ((first | refine b9 fun K1 q6 => ?_ | refine b7 fun A B hA hB => ?_); simp only [S1, simprocAttr, X6, rz]; first | refine q6 _ ?_; clear q6 K1 | (refine hB ?_; clear hA hB A B)) | refine b6 fun K hK => ?_ | ((first | apply b8 | apply b5 | apply f9 | apply d3); try simp only [NB, simprocAttr]))
    exact fU (.inr rfl) rfl (by simp only [s8, n8, List.getElem?_cons_succ, List.getElem?_cons_zero, if_true]) (by omega) (by simp) (by simp) rfl
theorem B5 (nodes : List (List PV)) (fl : List Fl) (hl : fl.length ≤ 100) (i : Int) (h : Heap) : d5 Tryz.prog G 109 [.agg [.p (.sl nodes), .p (.sl (fl.map eF))], .i i] h (fun r h' => r = aI (o5 fl i) ∧ h' = h) := by
  have hf := gY (G := G) (f := 138) Bs (caps := [.ptr (h.length + 1) 0 0]) (q := fun f => f.dst == i) nodes fl hl (h ++ [some ⟨0, [.p (.sl nodes), .p (.sl (fl.map eF))]⟩, some ⟨0, [.i i]⟩]) (by simp [o4, s7])
    (fun L k hk => rA k i _ (J8 (by simp [n8]) L))
  refine c8 (rl := []) e9 Tryz.func109 rfl (rs := [.tmp 4]) rfl Tryz.ntmps109 (by simp) ?_
  repeat' (first | ((repeat ((fail_if_success (refine hK _ ?_)); clear hK K)); refine hK _ ?_; clear hK K) | (refine b9 fun K1 q6 => ?_; simp only [S1, simprocAttr, X6]; first | refine q6 _ ?_; clear q6 K1 | (apply d4 E76; exact hf; refine q6 _ ?_; clear q6 K1)) | refine b6 fun K hK => ?_ | ((first | apply b8 | apply b5 | apply d3); try simp only [NB, simprocAttr]))
  simp only [S1, simprocAttr, ENB, X6]
  rfl
theorem t8 (nodes : List (List PV)) (fl : List Fl) (hl : fl.length ≤ 100) (i : Int) (h : Heap) : d5 Tryz.prog G 57 [.agg [.p (.sl nodes), .p (.sl (fl.map eF))], .i i] h (fun r h' => r = aI (i7 fl i) ∧ h' = h) := by
  have hf := gY (G := G) (f := 77) E77 (caps := [.ptr (h.length + 1) 0 0]) (q := fun f => f.src == i) nodes fl hl (h ++ [some ⟨0, [.p (.sl nodes), .p (.sl (fl.map eF))]⟩, some ⟨0, [.i i]⟩]) (by simp [o4, s7])
    (fun L k hk => pD k i _ (J8 (by simp [n8]) L))
  refine c8 (rl := []) e9 Tryz.func57 rfl (rs := [.tmp 4]) rfl Tryz.ntmps57 (by simp) ?_
  repeat' (first | ((repeat ((fail_if_success (refine hK _ ?_)); clear hK K)); refine hK _ ?_; clear hK K) | (refine b9 fun K1 q6 => ?_; simp only [S1, simprocAttr, X6]; first | refine q6 _ ?_; clear q6 K1 | (apply d4 E76; exact hf; refine q6 _ ?_; clear q6 K1)) | refine b6 fun K hK => ?_ | ((first | apply b8 | apply b5 | apply d3); try simp only [NB, simprocAttr]))
  simp only [S1, simprocAttr, ENB, X6]
  rfl
end
section
def N0 := And.intro T2 (And.intro T3 (And.intro T4 (And.intro T22 (And.intro T23 (And.intro T25 (And.intro T41 (And.intro T73 (And.intro T75 (And.intro T77 (And.intro T80 T96))))))))))
attribute [local irreducible] awp n9 k3 l8 o6
variable {G : Nat → Option (List PV)}
structure Nd where
  kind : Int
  a : Int
  term : Tm
def eN (k : Nd) : List PV := [.int .i64 k.kind, .int .i64 k.a, .int .i64 k.term.op, .int .i64 k.term.n, .sl (k.term.kids.map eT)]
abbrev aNd (k : Nd) : AV := .agg [.i k.kind, .i k.a, .i k.term.op, .i k.term.n, .p (.sl (k.term.kids.map eT))]
abbrev G7 (ns : List Nd) (fl : List Fl) : AV := .agg [.p (.sl (ns.map eN)), .p (.sl (fl.map eF))]
theorem I2 {l : List Nd} {i : Nat} {k : Nd} (h : l[i]? = some k) : (l.map eN)[i]? = some (eN k) := by simp [h]
theorem W9 {l : List Nd} {i : Nat} (h : i < l.length) : decide ((i : Int) < (l.length : Int)) = true := by simp; omega
theorem dG {l : List Nd} : decide ((l.length : Int) < (l.length : Int)) = false := by simp
theorem K5 {l : List Nd} {i : Nat} (hk : l.length ≤ 100) (h : i < l.length) : IntKind.i64.wrap ((i : Int) + 1) = ((i + 1 : Nat) : Int) := by rw [IntWalk.i64_in _ (by omega)]; omega
def I6 {α : Type} (p : α → Bool) : List α → Nat → Int
  | [], _ => -1
  | k :: r, i => if p k then (i : Int) else I6 p r (i + 1)
theorem jM {α : Type} {p : α → Bool} {l : List α} {i : Nat} {k : α} (hk : l[i]? = some k) : I6 p (l.drop i) i = if p k then (i : Int) else I6 p (l.drop (i + 1)) (i + 1) := by
  obtain ⟨h, e⟩ := List.getElem?_eq_some_iff.mp hk
  rw [List.drop_eq_getElem_cons h, e]; rfl
def m9 (ns : List Nd) (kind : Int) : Int := I6 (fun x => x.kind == kind) ns 0
theorem nD (k : Nd) (H : Heap) : d5 Tryz.prog G 79 [aNd k] H (fun r h' => r = .b (k.kind == 1) ∧ h' = H) := by
  refine c8 (rl := []) e9 Tryz.func79 rfl (rs := [.tmp 2]) rfl Tryz.ntmps79 (by simp) ?_
  repeat' (first | ((repeat ((fail_if_success (refine hK _ ?_)); clear hK K)); refine hK _ ?_; clear hK K) | (refine b9 fun K1 q6 => ?_; simp only [S1, simprocAttr, N0]; refine q6 _ ?_; clear q6 K1) | refine b6 fun K hK => ?_ | ((first | apply b8 | apply b5 | apply d3); try simp only [NB, simprocAttr]))
  simp only [S1, simprocAttr, ENB, N0]
theorem rC (k : Nd) (H : Heap) : d5 Tryz.prog G 137 [aNd k] H (fun r h' => r = .b (k.kind == 2) ∧ h' = H) := by
  refine c8 (rl := []) e9 Tryz.func137 rfl (rs := [.tmp 2]) rfl Tryz.ntmps137 (by simp) ?_
  repeat' (first | ((repeat ((fail_if_success (refine hK _ ?_)); clear hK K)); refine hK _ ?_; clear hK K) | (refine b9 fun K1 q6 => ?_; simp only [S1, simprocAttr, N0]; refine q6 _ ?_; clear q6 K1) | refine b6 fun K hK => ?_ | ((first | apply b8 | apply b5 | apply d3); try simp only [NB, simprocAttr]))
  simp only [S1, simprocAttr, ENB, N0]
theorem aA {f : FuncId} (hE : g8 Tryz.prog f) {caps : List AV} {p : Nd → Bool} (ks : List Nd) (hl : ks.length ≤ 100) (h : Heap) (hcap : o4 h.length caps)
    (hc0 : ∀ k ∈ ks, d5 Tryz.prog G f (aNd k :: caps) h (fun r h' => r = .b (p k) ∧ h' = h)) :
    d5 Tryz.prog G 78 [.p (.sl (ks.map eN)), .fn f caps] h (fun r h' => r = .i (I6 p ks 0) ∧ h' = h) := by
  refine c8 (rl := []) e9 Tryz.func78 rfl (rs := [.tmp 4]) rfl Tryz.ntmps78 (by simp) ?_
  repeat' (first | ((repeat ((fail_if_success (refine hK _ ?_)); clear hK K)); refine hK _ ?_; clear hK K) | (refine b9 fun K1 q6 => ?_; simp only [S1, simprocAttr, N0, List.length_map]; refine q6 _ ?_; clear q6 K1) | refine b6 fun K hK => ?_ | ((first | apply b8 | apply b5 | apply c7); try simp only [NB, simprocAttr]))
  refine p8 ks.length 19 (fun i => [(8, .i i), (7, .i ks.length), (0, .p (.sl (ks.map eN))), (1, .fn f caps)]) (fun i => []) (fun i => I6 p ks 0 = I6 p (ks.drop i) i) ?_ rfl fun i hi hp K hK => ?_
  · (refine ⟨rfl, (by first | exact ⟨_, rfl⟩ | exact ⟨[], by simp⟩), ?_, ?_⟩ <;> simp only [S1, simprocAttr, KNB] <;> (try and_intros) <;> (try assumption) <;> (try trivial) <;> (try omega))
  rcases Nat.lt_or_ge i ks.length with hlt | hge
  · obtain ⟨k, hx⟩ : ∃ k, ks[i]? = some k := ⟨_, List.getElem?_eq_getElem hlt⟩
    have hm := List.mem_of_getElem? hx
    rw [jM hx] at hp
    repeat' (first | ((repeat ((fail_if_success (refine hK _ ?_)); clear hK K)); refine hK _ ?_; clear hK K) | ((first | refine b9 fun K1 q6 => ?_ | refine b7 fun A B hA hB => ?_); simp only [S1, simprocAttr, N0, I2 hx, W9 hlt, K5 hl hlt, eN]; first | refine q6 _ ?_; clear q6 K1 | (refine hA ?_; clear hA hB A B) | (apply d4 hE; exact (hc0 k hm); refine q6 _ ?_; clear q6 K1) | ((((refine ⟨fun hg => hA ?_, fun hg => hB ?_⟩ <;> clear hA hB A B)) <;> (try simp only [BN2] at hg) <;> (try simp only [hg, cndB])) <;> (try (refine q6 _ ?_; clear q6 K1)) <;> (try simp only [BN3] at hg))) | refine b6 fun K hK => ?_ | ((first | apply b8 | apply b5 | apply c7 | apply c9 | apply d3); try simp only [NB, simprocAttr]))
    · simp only [S1, simprocAttr, ENB, N0]
      simp [hp, hg]
    · exact ⟨hlt, by simpa [hg] using hp, by (refine ⟨rfl, (by first | exact ⟨_, rfl⟩ | exact ⟨[], by simp⟩), ?_, ?_⟩ <;> simp only [S1, simprocAttr, KNB] <;> (try and_intros) <;> (try assumption) <;> (try trivial) <;> (try omega))⟩
  · obtain rfl : i = ks.length := by omega
    repeat' (first | ((repeat ((fail_if_success (refine hK _ ?_)); clear hK K)); refine hK _ ?_; clear hK K) | ((first | refine b9 fun K1 q6 => ?_ | refine b7 fun A B hA hB => ?_); simp only [S1, simprocAttr, N0, dG]; first | refine q6 _ ?_; clear q6 K1 | (refine hB ?_; clear hA hB A B)) | refine b6 fun K hK => ?_ | ((first | apply b8 | apply b5 | apply f9 | apply d3); try simp only [NB, simprocAttr]))
    simp only [S1, simprocAttr, ENB, N0]
    rw [List.drop_length] at hp
    simp [hp, I6]
theorem X7 (ns : List Nd) (hl : ns.length ≤ 100) (fs : List (List PV)) (h : Heap) : d5 Tryz.prog G 58 [.agg [.p (.sl (ns.map eN)), .p (.sl fs)]] h (fun r h' => r = .i (m9 ns 1) ∧ h' = h) := by
  refine c8 (rl := []) e9 Tryz.func58 rfl (rs := [.tmp 2]) rfl Tryz.ntmps58 (by simp) ?_
  repeat' (first | ((repeat ((fail_if_success (refine hK _ ?_)); clear hK K)); refine hK _ ?_; clear hK K) | (refine b9 fun K1 q6 => ?_; simp only [S1, simprocAttr, N0]; first | refine q6 _ ?_; clear q6 K1 | (apply d4 E78; exact (aA E79 (p := fun x => x.kind == 1) ns hl _ (by simp [o4]) (fun k hk => nD k _)); refine q6 _ ?_; clear q6 K1)) | refine b6 fun K hK => ?_ | ((first | apply b8 | apply b5 | apply d3); try simp only [NB, simprocAttr]))
  simp only [S1, simprocAttr, ENB, N0]
  all_goals rfl
theorem fV (ns : List Nd) (hl : ns.length ≤ 100) (fs : List (List PV)) (h : Heap) : d5 Tryz.prog G 107 [.agg [.p (.sl (ns.map eN)), .p (.sl fs)]] h (fun r h' => r = .i (m9 ns 2) ∧ h' = h) := by
  refine c8 (rl := []) e9 Tryz.func107 rfl (rs := [.tmp 2]) rfl Tryz.ntmps107 (by simp) ?_
  repeat' (first | ((repeat ((fail_if_success (refine hK _ ?_)); clear hK K)); refine hK _ ?_; clear hK K) | (refine b9 fun K1 q6 => ?_; simp only [S1, simprocAttr, N0]; first | refine q6 _ ?_; clear q6 K1 | (apply d4 E78; exact (aA Br (p := fun x => x.kind == 2) ns hl _ (by simp [o4]) (fun k hk => rC k _)); refine q6 _ ?_; clear q6 K1)) | refine b6 fun K hK => ?_ | ((first | apply b8 | apply b5 | apply d3); try simp only [NB, simprocAttr]))
  simp only [S1, simprocAttr, ENB, N0]
  all_goals rfl
theorem gZ (ns : List Nd) (hl : ns.length ≤ 100) (fs : List (List PV)) (kind : Int) (h : Heap) : d5 Tryz.prog G 44 [.agg [.p (.sl (ns.map eN)), .p (.sl fs)], .i kind] h (fun r h' => r = .i (m9 ns kind) ∧ h' = h) := by
  refine c8 (rl := []) e9 Tryz.func44 rfl (rs := [.tmp 4]) rfl Tryz.ntmps44 (by simp) ?_
  refine b6 fun K hK => ?_
  repeat' (first | (apply b8; (try simp only [NB]); ((repeat ((fail_if_success (refine hK _ ?_)); clear hK K)); refine hK _ ?_; clear hK K)) | (refine b9 fun K1 q6 => ?_; simp only [S1, simprocAttr, N0]; refine q6 _ ?_; clear q6 K1) | (apply b5; try simp only [NB, simprocAttr]; (try ((repeat ((fail_if_success (refine hK _ ?_)); clear hK K)); refine hK _ ?_; clear hK K))))
  refine b6 fun K hK => ?_
  repeat' (first | ((repeat ((fail_if_success (refine hK _ ?_)); clear hK K)); refine hK _ ?_; clear hK K) | (refine b9 fun K1 q6 => ?_; simp only [S1, simprocAttr, N0, List.length_map]; refine q6 _ ?_; clear q6 K1) | refine b6 fun K hK => ?_ | ((first | apply b8 | apply b5 | apply c7); try simp only [NB, simprocAttr]))
  refine p8 ns.length 21 (fun i => [(10, .i i), (9, .i ns.length), (8, .p (.sl (ns.map eN))), (1, .i kind)]) (fun i => []) (fun i => m9 ns kind = I6 (fun x => x.kind == kind) (ns.drop i) i) ?_ rfl fun i hi hp K hK => ?_
  · (refine ⟨rfl, (by first | exact ⟨_, rfl⟩ | exact ⟨[], by simp⟩), ?_, ?_⟩ <;> simp only [S1, simprocAttr, KNB] <;> (try and_intros) <;> (try assumption) <;> (try trivial) <;> (try omega))
  rcases Nat.lt_or_ge i ns.length with hlt | hge
  · obtain ⟨k, hx⟩ : ∃ k, ns[i]? = some k := ⟨_, List.getElem?_eq_getElem hlt⟩
    rw [jM hx] at hp
    cases hq : (k.kind == kind) with
    | true =>
      repeat' (first | ((repeat ((fail_if_success (refine hK _ ?_)); clear hK K)); refine hK _ ?_; clear hK K) | ((first | refine b9 fun K1 q6 => ?_ | refine b7 fun A B hA hB => ?_); simp only [S1, simprocAttr, N0, I2 hx, W9 hlt, K5 hl hlt, eN, hq]; first | refine q6 _ ?_; clear q6 K1 | (refine hA ?_; clear hA hB A B)) | refine b6 fun K hK => ?_ | ((first | apply b8 | apply b5 | apply c7 | apply c9 | apply d3); try simp only [NB, simprocAttr]))
      all_goals simp only [S1, simprocAttr, ENB, N0]
      all_goals simp [hp, hq]
    | false =>
      repeat' (first | ((repeat ((fail_if_success (refine hK _ ?_)); clear hK K)); refine hK _ ?_; clear hK K) | ((first | refine b9 fun K1 q6 => ?_ | refine b7 fun A B hA hB => ?_); simp only [S1, simprocAttr, N0, I2 hx, W9 hlt, K5 hl hlt, eN, hq]; first | refine q6 _ ?_; clear q6 K1 | ((first | refine hA ?_ | refine hB ?_); clear hA hB A B)) | refine b6 fun K hK => ?_ | ((first | apply b8 | apply b5 | apply c7 | apply c9); try simp only [NB, simprocAttr]))
      all_goals exact ⟨hlt, by simpa [hq] using hp, by (refine ⟨rfl, (by first | exact ⟨_, rfl⟩ | exact ⟨[], by simp⟩), ?_, ?_⟩ <;> simp only [S1, simprocAttr, KNB] <;> (try and_intros) <;> (try assumption) <;> (try trivial) <;> (try omega))⟩
  · obtain rfl : i = ns.length := by omega
    repeat' (first | ((repeat ((fail_if_success (refine hK _ ?_)); clear hK K)); refine hK _ ?_; clear hK K) | ((first | refine b9 fun K1 q6 => ?_ | refine b7 fun A B hA hB => ?_); simp only [S1, simprocAttr, N0, dG]; first | refine q6 _ ?_; clear q6 K1 | (refine hB ?_; clear hA hB A B)) | refine b6 fun K hK => ?_ | ((first | apply b8 | apply b5 | apply f9 | apply d3); try simp only [NB, simprocAttr]))
    simp only [S1, simprocAttr, ENB, N0]
    rw [List.drop_length] at hp
    simp [hp, I6]
end
section
inductive Rch (es : List (Nat × Nat)) (a : Nat) : Nat → Prop
  | refl : Rch es a a
  | step {b c : Nat} : Rch es a b → (b, c) ∈ es → Rch es a c
theorem Rch.trans {es : List (Nat × Nat)} {a b c : Nat} (h1 : Rch es a b) (h2 : Rch es b c) : Rch es a c := by
  induction h2 with
  | refl => exact h1
  | step _ he ih => exact .step ih he
theorem Rch.back {es : List (Nat × Nat)} {a b : Nat} (h : Rch es a b) : Rch (es.map Prod.swap) b a := by
  induction h with
  | refl => exact .refl
  | step _ he ih => exact .trans (.step .refl (List.mem_map.mpr ⟨_, he, rfl⟩)) ih
theorem ui (es : List (Nat × Nat)) : (es.map Prod.swap).map Prod.swap = es := by
  rw [List.map_map]; simp [Function.comp_def]
theorem Rch.rev {es : List (Nat × Nat)} {a b : Nat} : Rch (es.map Prod.swap) b a ↔ Rch es a b :=
  ⟨fun h => by have := h.back; rwa [ui] at this, Rch.back⟩
theorem Rch.closed {es : List (Nat × Nat)} {a b : Nat} {p : Nat → Prop} (h : Rch es a b) (ha : p a) (hc : ∀ e ∈ es, p e.1 → p e.2) : p b := by
  induction h with
  | refl => exact ha
  | step _ he ih => exact hc _ he ih
open Classical in
noncomputable def P0 (es : List (Nat × Nat)) (n a : Nat) : List Bool := (List.range n).map fun i => decide (Rch es a i)
theorem V8 (es : List (Nat × Nat)) (n a : Nat) : (P0 es n a).length = n := by simp [P0]
theorem sY {es : List (Nat × Nat)} {n a : Nat} {l : List Bool} (hl : l.length = n) (h1 : ∀ i : Nat, l[i]? = some true → Rch es a i) (h2 : ∀ i, i < n → Rch es a i → l[i]? = some true) : l = P0 es n a := by
  apply List.ext_getElem?
  intro i
  by_cases hi : i < n
  · have e : (P0 es n a)[i]? = some (@decide (Rch es a i) (Classical.propDecidable _)) := by simp [P0, hi]
    rw [e, List.getElem?_eq_getElem (by omega)]
    by_cases hr : Rch es a i
    · have := h2 i hi hr
      rw [List.getElem?_eq_getElem (by omega)] at this
      rw [this]; simp [hr]
    · cases hx : l[i] with
      | true => exact (hr (h1 i (by rw [List.getElem?_eq_getElem (by omega), hx]))).elim
      | false => simp [hr]
  · rw [List.getElem?_eq_none (by omega), List.getElem?_eq_none (by rw [V8]; omega)]
theorem pE {es : List (Nat × Nat)} {n a i : Nat} (hi : i < n) : (P0 es n a)[i]? = some true ↔ Rch es a i := by
  simp [P0, hi]
def C8 (out : List Bool) (e : Nat × Nat) : List Bool := if out[e.1]? = some true then out.set e.2 true else out
def V9 (es : List (Nat × Nat)) (out : List Bool) : List Bool := es.foldl C8 out
def C0 (es : List (Nat × Nat)) : Nat → List Bool → List Bool
  | 0, out => out
  | k + 1, out => V9 es (C0 es k out)
theorem lU (out : List Bool) (e : Nat × Nat) : (C8 out e).length = out.length := by
  unfold C8; split <;> simp
theorem jN (es : List (Nat × Nat)) : ∀ out : List Bool, (V9 es out).length = out.length := by
  induction es with
  | nil => intro out; rfl
  | cons e r ih => intro out; show (V9 r (C8 out e)).length = _; rw [ih, lU]
theorem W0 (es : List (Nat × Nat)) (out : List Bool) : ∀ k, (C0 es k out).length = out.length
  | 0 => rfl
  | k + 1 => by rw [C0, jN, W0 es out k]
theorem pF {out : List Bool} {i : Nat} (h : out[i]? = some true) : out.set i true = out := by
  apply List.ext_getElem?
  intro j
  rw [List.getElem?_set]
  split
  · rename_i e; subst e
    split
    · exact h.symm
    · rename_i hh; rw [List.getElem?_eq_none (by omega)] at h; cases h
  · rfl
theorem fW : ∀ {out : List Bool} {i : Nat}, out[i]? = some false → (out.set i true).count true = out.count true + 1
  | [], i, h => by simp at h
  | x :: r, 0, h => by simp at h; subst h; simp
  | x :: r, i + 1, h => by
    have := fW (out := r) (i := i) (by simpa using h)
    simp only [List.set_cons_succ, List.count_cons, this]; omega
theorem pG (out : List Bool) (e : Nat × Nat) (h : e.2 < out.length) : C8 out e = out ∨ (C8 out e).count true = out.count true + 1 := by
  unfold C8
  split
  · rcases hx : out[e.2]? with _ | x
    · rw [List.getElem?_eq_getElem h] at hx; cases hx
    · cases x with
      | true => exact .inl (pF hx)
      | false => exact .inr (fW hx)
  · exact .inl rfl
theorem nF (es : List (Nat × Nat)) : ∀ out : List Bool, (∀ e ∈ es, e.2 < out.length) → (V9 es out = out ∧ ∀ e ∈ es, out[e.1]? = some true → out[e.2]? = some true) ∨ out.count true + 1 ≤ (V9 es out).count true := by
  induction es with
  | nil => intro out _; exact .inl ⟨rfl, fun e he => by cases he⟩
  | cons e r ih =>
    intro out h
    have h0 := h e (by simp)
    have hr : ∀ e' ∈ r, e'.2 < (C8 out e).length := fun e' he' => by rw [lU]; exact h e' (by simp [he'])
    have hi := ih (C8 out e) hr
    show (V9 r (C8 out e) = out ∧ _) ∨ _ ≤ (V9 r (C8 out e)).count true
    rcases pG out e h0 with e1 | e1
    · rw [e1] at hi ⊢
      rcases hi with ⟨a, b⟩ | hi
      · refine .inl ⟨a, fun e' he' => ?_⟩
        rcases List.mem_cons.mp he' with rfl | he'
        · intro hs
          unfold C8 at e1
          rw [if_pos hs] at e1
          rw [← e1, List.getElem?_set]
          simp [h0]
        · exact b e' he'
      · exact .inr hi
    · right
      rcases hi with ⟨a, b⟩ | hi
      · rw [a, e1]; exact Nat.le_refl _
      · omega
theorem wi : ∀ l : List Bool, l.count true ≤ l.length := fun l => List.count_le_length
def nG (es : List (Nat × Nat)) (out : List Bool) : Prop := ∀ e ∈ es, out[e.1]? = some true → out[e.2]? = some true
theorem lh (es : List (Nat × Nat)) : ∀ out : List Bool, nG es out → V9 es out = out := by
  induction es with
  | nil => intro out _; rfl
  | cons e r ih =>
    intro out h
    have e1 : C8 out e = out := by
      unfold C8
      split
      · rename_i hs; exact pF (h e (by simp) hs)
      · rfl
    show V9 r (C8 out e) = out
    rw [e1]
    exact ih out fun e' he' => h e' (by simp [he'])
theorem eH (es : List (Nat × Nat)) (out : List Bool) (h : ∀ e ∈ es, e.2 < out.length) (h1 : 1 ≤ out.count true) : ∀ k, nG es (C0 es k out) ∨ k + 1 ≤ (C0 es k out).count true
  | 0 => .inr (by simpa [C0] using h1)
  | k + 1 => by
    have hl := W0 es out k
    rcases eH es out h h1 k with hc | hc
    · left; rw [C0, lh es _ hc]; exact hc
    · rcases nF es (C0 es k out) (by rw [hl]; exact h) with ⟨a, b⟩ | a
      · left; rw [C0, a]; exact b
      · right; rw [C0]; omega
theorem rD {out : List Bool} {e : Nat × Nat} {i : Nat} (h : out[i]? = some true) : (C8 out e)[i]? = some true := by
  unfold C8
  split
  · rw [List.getElem?_set]
    split
    · rename_i e; subst e
      have : e.2 < out.length := by
        rcases Nat.lt_or_ge e.2 out.length with hh | hh
        · exact hh
        · rw [List.getElem?_eq_none hh] at h; cases h
      simp [this]
    · exact h
  · exact h
theorem pH (es : List (Nat × Nat)) : ∀ {out : List Bool} {i : Nat}, out[i]? = some true → (V9 es out)[i]? = some true := by
  induction es with
  | nil => intro out i h; exact h
  | cons e r ih => intro out i h; exact ih (rD h)
theorem hM (es : List (Nat × Nat)) {out : List Bool} {i : Nat} (h : out[i]? = some true) : ∀ k, (C0 es k out)[i]? = some true
  | 0 => h
  | k + 1 => pH es (hM es h k)
theorem pJ {p : Nat → Prop} {out : List Bool} {e : Nat × Nat} (h : ∀ i : Nat, out[i]? = some true → p i) (he : p e.1 → p e.2) : ∀ i : Nat, (C8 out e)[i]? = some true → p i := by
  intro i hi
  unfold C8 at hi
  split at hi
  · rename_i hs
    rw [List.getElem?_set] at hi
    split at hi
    · rename_i e1; subst e1; exact he (h _ hs)
    · exact h i hi
  · exact h i hi
theorem nH {p : Nat → Prop} (es : List (Nat × Nat)) : ∀ {out : List Bool}, (∀ i : Nat, out[i]? = some true → p i) → (∀ e ∈ es, p e.1 → p e.2) → ∀ i : Nat, (V9 es out)[i]? = some true → p i := by
  induction es with
  | nil => intro out h _; exact h
  | cons e r ih => intro out h he; exact ih (pJ h (he e (by simp))) fun e' he' => he e' (by simp [he'])
theorem eJ {p : Nat → Prop} (es : List (Nat × Nat)) {out : List Bool} (h : ∀ i : Nat, out[i]? = some true → p i) (he : ∀ e ∈ es, p e.1 → p e.2) : ∀ (k : Nat) (i : Nat), (C0 es k out)[i]? = some true → p i
  | 0 => h
  | k + 1 => nH es (eJ es h he k) he
theorem dH {es : List (Nat × Nat)} {n a : Nat} (ha : a < n) (h : ∀ e ∈ es, e.2 < n) : C0 es n ((List.replicate n false).set a true) = P0 es n a := by
  have hl0 : ((List.replicate n false).set a true).length = n := by simp
  have ha0 : ((List.replicate n false).set a true)[a]? = some true := by rw [List.getElem?_set]; simp [ha]
  have hc1 : 1 ≤ ((List.replicate n false).set a true).count true := List.one_le_count_iff.mpr (List.mem_of_getElem? ha0)
  refine sY (by rw [W0, hl0]) ?_ ?_
  · refine eJ es (fun i hi => ?_) (fun e he hr => .step hr (by simpa using he)) n
    rw [List.getElem?_set] at hi
    split at hi
    · rename_i e; subst e; exact .refl
    · rw [List.getElem?_replicate] at hi
      split at hi <;> simp at hi
  · intro i hi hr
    have hcl : nG es (C0 es n ((List.replicate n false).set a true)) := by
      rcases eH es _ (by rw [hl0]; exact h) hc1 n with hc | hc
      · exact hc
      · have := wi (C0 es n ((List.replicate n false).set a true))
        rw [W0, hl0] at this; omega
    exact hr.closed (p := fun i => (C0 es n ((List.replicate n false).set a true))[i]? = some true) (hM es ha0 n) hcl
structure Bfs (es : List (Nat × Nat)) (n a : Nat) (seen : List Bool) (todo : List Nat) : Prop where
  len : seen.length = n
  start : a ∈ todo ∨ seen[a]? = some true
  sound : ∀ i : Nat, seen[i]? = some true → Rch es a i
  soundT : ∀ i ∈ todo, Rch es a i
  closed : ∀ e ∈ es, seen[e.1]? = some true → e.2 ∈ todo ∨ seen[e.2]? = some true
theorem Bfs.init {es : List (Nat × Nat)} {n a : Nat} : Bfs es n a (List.replicate n false) [a] where
  len := by simp
  start := .inl (by simp)
  sound := fun i hi => by rw [List.getElem?_replicate] at hi; split at hi <;> simp at hi
  soundT := fun i hi => by simp at hi; subst hi; exact .refl
  closed := fun e _ hi => by rw [List.getElem?_replicate] at hi; split at hi <;> simp at hi
theorem Bfs.skip {es : List (Nat × Nat)} {n a x : Nat} {seen : List Bool} {todo : List Nat} (h : Bfs es n a seen (x :: todo)) (hx : seen[x]? = some true) : Bfs es n a seen todo where
  len := h.len
  start := by
    rcases h.start with h1 | h1
    · rcases List.mem_cons.mp h1 with rfl | h1
      · exact .inr hx
      · exact .inl h1
    · exact .inr h1
  sound := h.sound
  soundT := fun i hi => h.soundT i (by simp [hi])
  closed := fun e he hs => by
    rcases h.closed e he hs with h1 | h1
    · rcases List.mem_cons.mp h1 with h2 | h1
      · exact .inr (h2 ▸ hx)
      · exact .inl h1
    · exact .inr h1
def bQ (es : List (Nat × Nat)) (x : Nat) : List Nat := (es.filter fun e => e.1 == x).map (·.2)
theorem Bfs.visit {es : List (Nat × Nat)} {n a x : Nat} {seen : List Bool} {todo : List Nat} (h : Bfs es n a seen (x :: todo)) (hx : x < n) : Bfs es n a (seen.set x true) (todo ++ bQ es x) where
  len := by simp [h.len]
  start := by
    have hxx : (seen.set x true)[x]? = some true := by rw [List.getElem?_set]; simp [h.len, hx]
    rcases h.start with h1 | h1
    · rcases List.mem_cons.mp h1 with rfl | h1
      · exact .inr hxx
      · exact .inl (by simp [h1])
    · right
      rw [List.getElem?_set]
      split
      · simp [h.len, hx]
      · exact h1
  sound := fun i hi => by
    rw [List.getElem?_set] at hi
    split at hi
    · rename_i e; subst e; exact h.soundT _ (by simp)
    · exact h.sound i hi
  soundT := fun i hi => by
    rcases List.mem_append.mp hi with hi | hi
    · exact h.soundT i (by simp [hi])
    · simp only [bQ, List.mem_map, List.mem_filter] at hi
      obtain ⟨⟨b, c⟩, ⟨h1, h2⟩, rfl⟩ := hi
      simp at h2; subst h2
      exact .step (h.soundT _ (by simp)) h1
  closed := fun e he hs => by
    have hxx : (seen.set x true)[x]? = some true := by rw [List.getElem?_set]; simp [h.len, hx]
    by_cases hex : e.1 = x
    · left
      rw [List.mem_append]; right
      simp only [bQ, List.mem_map, List.mem_filter]
      exact ⟨e, ⟨he, by simp [hex]⟩, rfl⟩
    · rw [List.getElem?_set, if_neg (fun h => hex h.symm)] at hs
      rcases h.closed e he hs with h1 | h1
      · rcases List.mem_cons.mp h1 with h2 | h1
        · right; rw [h2]; exact hxx
        · left; simp [h1]
      · right
        rw [List.getElem?_set]
        split
        · simp [h.len, hx]
        · exact h1
theorem Bfs.done {es : List (Nat × Nat)} {n a : Nat} {seen : List Bool} (h : Bfs es n a seen []) : seen = P0 es n a := by
  refine sY h.len h.sound fun i _ hr => ?_
  refine hr.closed (p := fun i => seen[i]? = some true) ?_ fun e he hs => ?_
  · rcases h.start with h1 | h1
    · cases h1
    · exact h1
  · rcases h.closed e he hs with h1 | h1
    · cases h1
    · exact h1
def li (es : List (Nat × Nat)) (seen : List Bool) (todo : List Nat) : Nat := (seen.length - seen.count true) * (es.length + 1) + todo.length
theorem lV (es : List (Nat × Nat)) (seen : List Bool) (x : Nat) (todo : List Nat) : li es seen todo < li es seen (x :: todo) := by simp [li]
theorem lW (es : List (Nat × Nat)) (x : Nat) : (bQ es x).length ≤ es.length := by simp [bQ, List.length_filter_le]
theorem rE {es : List (Nat × Nat)} {seen : List Bool} {x : Nat} {todo : List Nat} (hx : seen[x]? = some false) : li es (seen.set x true) (todo ++ bQ es x) < li es seen (x :: todo) := by
  have h1 := fW hx
  have h2 := lW es x
  have h3 : (seen.set x true).count true ≤ (seen.set x true).length := List.count_le_length
  unfold li
  rw [h1, List.length_set, List.length_append, List.length_cons]
  rw [h1, List.length_set] at h3
  have : seen.length - seen.count true = (seen.length - (seen.count true + 1)) + 1 := by omega
  rw [this, Nat.succ_mul]
  omega
end
section
def bR := And.intro T2 (And.intro T3 (And.intro T4 (And.intro T22 (And.intro T23 (And.intro T25 (And.intro T41 (And.intro T73 (And.intro T75 (And.intro T77 (And.intro T80 uc))))))))))
attribute [local irreducible] awp n9 k3 l8 o6
variable {G : Nat → Option (List PV)}
def inB (m : Nat) (i : Int) : Bool := decide (0 ≤ i) && decide (i < (m : Int))
def w4 (ns : List Nd) (i : Int) : Int := match ns[i.toNat]? with | some k => k.kind | none => 0
def eK (ns : List Nd) (fl : List Fl) (i : Int) : Bool := w4 ns i == 5 && decide (2 ≤ ((i7 fl i).length : Int))
def aD (ns : List Nd) (fl : List Fl) (f : Fl) : Bool :=
  ((inB ns.length f.src && inB ns.length f.dst) && !(f.src == f.dst)) && (if eK ns fl f.src = true then (if f.els = true then bj f.cond else ofB f.cond 2) else (!f.els && bj f.cond))
theorem cv {m : Nat} {i : Int} : inB m i = true ↔ 0 ≤ i ∧ i < m := by simp [inB]
theorem uj (ns : List Nd) (hn : ns.length ≤ 100) (fl : List Fl) (hl : fl.length ≤ 100) (f : Fl) {n : Nat} (ht : Tm.Ok n f.cond) (hn2 : n ≤ 200) (h : Heap) : d5 Tryz.prog G 43 [G7 ns fl, aF f] h (fun r h' => r = .b (aD ns fl f) ∧ h' = h) := by
  cases hin : ((inB ns.length f.src && inB ns.length f.dst) && !(f.src == f.dst)) with
  | false =>
    have f1 : ((((decide (f.src < 0) || decide ((ns.length : Int) ≤ f.src)) || decide (f.dst < 0)) || decide ((ns.length : Int) ≤ f.dst)) || (f.src == f.dst)) = true := by
      rw [Bool.eq_false_iff] at hin
      rcases Bool.eq_false_or_eq_true ((((decide (f.src < 0) || decide ((ns.length : Int) ≤ f.src)) || decide (f.dst < 0)) || decide ((ns.length : Int) ≤ f.dst)) || (f.src == f.dst)) with e | e
      · exact e
      · exfalso; apply hin
        simp only [Bool.or_eq_false_iff, decide_eq_false_iff_not] at e
        obtain ⟨⟨⟨⟨e1, e2⟩, e3⟩, e4⟩, e5⟩ := e
        simp only [Bool.and_eq_true, cv, e5, Bool.not_false, and_true]
        omega
    have e : aD ns fl f = false := by unfold aD; rw [hin]; rfl
    rw [e]
    refine c8 (rl := []) e9 Tryz.func43 rfl (rs := [.tmp 4]) rfl Tryz.ntmps43 (by simp) ?_
    repeat' (first | ((repeat ((fail_if_success (refine hK _ ?_)); clear hK K)); refine hK _ ?_; clear hK K) | ((first | refine b9 fun K1 q6 => ?_ | refine b7 fun A B hA hB => ?_); simp only [S1, simprocAttr, bR, List.length_map, f1]; first | refine q6 _ ?_; clear q6 K1 | (refine hA ?_; clear hA hB A B) | (refine l6 (v := ?_) (fun hg q8 => ?_) ?_; rotate_left; (focus (try ((try simp only [BN] at hg); simp only [S1, simprocAttr, bR, List.length_map, f1, hg] at q8 ⊢)); exact q8); refine q6 _ ?_; clear q6 K1)) | refine b6 fun K hK => ?_ | ((first | apply b8 | apply b5 | apply d3); try simp only [NB, simprocAttr]))
    all_goals simp only [S1, simprocAttr, ENB, bR]
  | true =>
    simp only [Bool.and_eq_true, cv, Bool.not_eq_true'] at hin
    obtain ⟨⟨⟨a1, a2⟩, b1, b2⟩, c1⟩ := hin
    have g1 : decide (f.src < 0) = false := by simp; omega
    have g2 : decide ((ns.length : Int) ≤ f.src) = false := by simp; omega
    have g3 : decide (f.dst < 0) = false := by simp; omega
    have g4 : decide ((ns.length : Int) ≤ f.dst) = false := by simp; omega
    obtain ⟨k, hx⟩ : ∃ k, ns[f.src.toNat]? = some k := ⟨_, List.getElem?_eq_getElem (by omega)⟩
    have ek : w4 ns f.src = k.kind := by unfold w4; rw [hx]
    have e0 : aD ns fl f = (if eK ns fl f.src = true then (if f.els = true then bj f.cond else ofB f.cond 2) else (!f.els && bj f.cond)) := by
      unfold aD
      rw [cv.mpr ⟨a1, a2⟩, cv.mpr ⟨b1, b2⟩, c1]; simp
    rw [e0]; unfold eK; rw [ek]
    cases hk : (k.kind == 5) with
    | false =>
      have hk' : (k.kind != 5) = true := by unfold bne; rw [hk]; rfl
      refine c8 (rl := []) e9 Tryz.func43 rfl (rs := [.tmp 4]) rfl Tryz.ntmps43 (by simp) ?_
      repeat' (first | ((repeat ((fail_if_success (refine hK _ ?_)); clear hK K)); refine hK _ ?_; clear hK K) | ((first | refine b9 fun K1 q6 => ?_ | refine b7 fun A B hA hB => ?_); simp only [S1, simprocAttr, bR, List.length_map, g1, g2, g3, g4, c1, a1, b1, hx, eN, hk, hk']; first | refine q6 _ ?_; clear q6 K1 | (refine hB ?_; clear hA hB A B) | (apply d4 E65; exact (M9 f.cond _); refine q6 _ ?_; clear q6 K1) | (refine l6 (v := ?_) (fun hg q8 => ?_) ?_; rotate_left; (focus (try ((try simp only [BN] at hg); simp only [S1, simprocAttr, bR, List.length_map, g1, g2, g3, g4, c1, a1, b1, hx, eN, hk, hk', hg] at q8 ⊢)); exact q8); refine q6 _ ?_; clear q6 K1) | ((((refine ⟨fun hg => hA ?_, fun hg => hB ?_⟩ <;> clear hA hB A B)) <;> (try simp only [BN2] at hg) <;> (try simp only [hg, cndB])) <;> (try (refine q6 _ ?_; clear q6 K1)) <;> (try simp only [BN3] at hg))) | refine b6 fun K hK => ?_ | ((first | apply b8 | apply b5 | apply c9 | apply d3); try simp only [NB, simprocAttr]))
      all_goals simp only [S1, simprocAttr, ENB, bR]
      all_goals simp_all
    | true =>
      have hk' : (k.kind != 5) = false := by unfold bne; rw [hk]; rfl
      cases ho : decide (2 ≤ ((i7 fl f.src).length : Int)) with
      | false =>
        have ho' : decide (((i7 fl f.src).length : Int) < 2) = true := by simp at ho ⊢; omega
        refine c8 (rl := []) e9 Tryz.func43 rfl (rs := [.tmp 4]) rfl Tryz.ntmps43 (by simp) ?_
        repeat' (first | ((repeat ((fail_if_success (refine hK _ ?_)); clear hK K)); refine hK _ ?_; clear hK K) | ((first | refine b9 fun K1 q6 => ?_ | refine b7 fun A B hA hB => ?_); simp only [S1, simprocAttr, bR, List.length_map, g1, g2, g3, g4, c1, a1, b1, hx, eN, hk, hk', ho, ho']; first | refine q6 _ ?_; clear q6 K1 | (refine hB ?_; clear hA hB A B) | (apply d4 E47; exact (t7 _ fl hl _ _); refine q6 _ ?_; clear q6 K1) | (apply d4 E65; exact (M9 f.cond _); refine q6 _ ?_; clear q6 K1) | (refine l6 (v := ?_) (fun hg q8 => ?_) ?_; rotate_left; (focus (try ((try simp only [BN] at hg); simp only [S1, simprocAttr, bR, List.length_map, g1, g2, g3, g4, c1, a1, b1, hx, eN, hk, hk', ho, ho', hg] at q8 ⊢)); first | exact q8 | (apply d4 E47; exact (t7 _ fl hl _ _); exact q8)); refine q6 _ ?_; clear q6 K1) | ((((refine ⟨fun hg => hA ?_, fun hg => hB ?_⟩ <;> clear hA hB A B)) <;> (try simp only [BN2] at hg) <;> (try simp only [hg, cndB])) <;> (try (refine q6 _ ?_; clear q6 K1)) <;> (try simp only [BN3] at hg))) | refine b6 fun K hK => ?_ | ((first | apply b8 | apply b5 | apply c9 | apply d3); try simp only [NB, simprocAttr]))
        all_goals simp only [S1, simprocAttr, ENB, bR]
        all_goals simp_all
      | true =>
        have ho' : decide (((i7 fl f.src).length : Int) < 2) = false := by simp at ho ⊢; omega
        refine c8 (rl := []) e9 Tryz.func43 rfl (rs := [.tmp 4]) rfl Tryz.ntmps43 (by simp) ?_
        repeat' (first | ((repeat ((fail_if_success (refine hK _ ?_)); clear hK K)); refine hK _ ?_; clear hK K) | ((first | refine b9 fun K1 q6 => ?_ | refine b7 fun A B hA hB => ?_); simp only [S1, simprocAttr, bR, List.length_map, g1, g2, g3, g4, c1, a1, b1, hx, eN, hk, hk', ho, ho']; first | refine q6 _ ?_; clear q6 K1 | (refine hB ?_; clear hA hB A B) | (apply d4 E47; exact (t7 _ fl hl _ _); refine q6 _ ?_; clear q6 K1) | (apply d4 E64; exact (pA ht hn2 _ _); refine q6 _ ?_; clear q6 K1) | (apply d4 E65; exact (M9 f.cond _); refine q6 _ ?_; clear q6 K1) | ((((refine ⟨fun hg => hA ?_, fun hg => hB ?_⟩ <;> clear hA hB A B)) <;> (try simp only [BN2] at hg) <;> (try simp only [hg, cndB])) <;> (try (refine q6 _ ?_; clear q6 K1)) <;> (try simp only [BN3] at hg))) | refine b6 fun K hK => ?_ | ((first | apply b8 | apply b5 | apply c9 | apply d3); try simp only [NB, simprocAttr]))
        all_goals simp only [S1, simprocAttr, ENB, bR]
        all_goals simp_all
end
section
def F9 := And.intro T2 (And.intro T3 (And.intro T4 (And.intro T22 (And.intro T23 (And.intro T25 (And.intro T41 (And.intro T73 (And.intro T75 (And.intro T77 T80)))))))))
attribute [local irreducible] awp n9 k3 l8 o6
variable {G : Nat → Option (List PV)}
theorem F1 {q : Fl → Bool} {l : List Fl} : ∀ {j : Nat} {x : Int}, x ∈ r7 q l j → ∃ i f, i < j ∧ x = (i : Int) ∧ l[i]? = some f ∧ q f = true
  | 0, x, h => by simp [r7] at h
  | j + 1, x, h => by
    unfold r7 at h
    split at h
    · rename_i f hf
      split at h
      · rename_i hq
        rcases List.mem_append.mp h with h | h
        · obtain ⟨i, f', a, b⟩ := F1 h; exact ⟨i, f', by omega, b⟩
        · exact ⟨j, f, by omega, by simpa using h, hf, hq⟩
      · obtain ⟨i, f', a, b⟩ := F1 h; exact ⟨i, f', by omega, b⟩
    · obtain ⟨i, f', a, b⟩ := F1 h; exact ⟨i, f', by omega, b⟩
def B1 (fl : List Fl) (x : Int) : Bool := match fl[x.toNat]? with | some f => f.els | none => false
def X8 (ns : List Nd) (fl : List Fl) (x : Int) : Bool := match fl[x.toNat]? with | some f => w4 ns f.dst != 8 | none => false
def aG (p : Int → Bool) (l : List Int) (j : Nat) : Nat := (l.take j).countP p
theorem cw {p : Int → Bool} {l : List Int} {j : Nat} {x : Int} (h : l[j]? = some x) : aG p l (j + 1) = aG p l j + (if p x = true then 1 else 0) := by
  unfold aG
  rw [List.take_add_one, h]
  simp only [Option.toList_some, List.countP_append, List.countP_cons, List.countP_nil, Nat.zero_add]
theorem nJ (p : Int → Bool) (l : List Int) (j : Nat) : aG p l j ≤ l.length := by
  unfold aG
  exact Nat.le_trans List.countP_le_length (by rw [List.length_take]; omega)
def E1 (ns : List Nd) (fl : List Fl) (i : Int) : Bool :=
  let a := (o5 fl i).length
  let outs := i7 fl i
  let b := outs.length
  let elses := aG (B1 fl) outs b
  let others := aG (X8 ns fl) outs b
  let k := w4 ns i
  if k = 1 then a == 0 && b == 1
  else if k = 2 then a == 1 && b == 0
  else if k = 5 then (a == 1 && decide (2 ≤ b) && elses == 1) || (decide (2 ≤ a) && b == 1)
  else if k = 6 then (a == 1 && decide (2 ≤ b)) || (decide (2 ≤ a) && b == 1)
  else if k = 7 then a == 1 && decide (2 ≤ b) && others == 0
  else a == 1 && b == 1
theorem pK (ns : List Nd) (hn : ns.length ≤ 100) (fl : List Fl) (hl : fl.length ≤ 100) (hd : ∀ f ∈ fl, 0 ≤ f.dst ∧ f.dst < (ns.length : Int)) (i : Int) (hi0 : 0 ≤ i) (hi1 : i < (ns.length : Int)) (h : Heap) :
    d5 Tryz.prog G 45 [G7 ns fl, .i i] h (fun r h' => r = .b (E1 ns fl i) ∧ h' = h) := by
  have hle : (i7 fl i).length ≤ 100 := Nat.le_trans (R8 _ _ _) hl
  obtain ⟨kd, hkd⟩ : ∃ k, ns[i.toNat]? = some k := ⟨_, List.getElem?_eq_getElem (by omega)⟩
  have hkd' := I2 hkd
  have ekd : w4 ns i = kd.kind := by unfold w4; rw [hkd]
  refine c8 (rl := []) e9 Tryz.func45 rfl (rs := [.tmp 4]) rfl Tryz.ntmps45 (by simp) ?_
  refine b6 fun K hK => ?_
  repeat' (first | (apply b8; (try simp only [NB]); ((repeat ((fail_if_success (refine hK _ ?_)); clear hK K)); refine hK _ ?_; clear hK K)) | (refine b9 fun K1 q6 => ?_; simp only [S1, simprocAttr, F9]; refine q6 _ ?_; clear q6 K1) | (apply b5; try simp only [NB, simprocAttr]; (try ((repeat ((fail_if_success (refine hK _ ?_)); clear hK K)); refine hK _ ?_; clear hK K))))
  refine b6 fun K hK => ?_
  repeat' (first | (apply b8; (try simp only [NB]); ((repeat ((fail_if_success (refine hK _ ?_)); clear hK K)); refine hK _ ?_; clear hK K)) | (refine b9 fun K1 q6 => ?_; simp only [S1, simprocAttr, F9]; first | refine q6 _ ?_; clear q6 K1 | (apply d4 E66; exact (D9 _ fl hl _ _); refine q6 _ ?_; clear q6 K1)) | (apply b5; try simp only [NB, simprocAttr]; (try ((repeat ((fail_if_success (refine hK _ ?_)); clear hK K)); refine hK _ ?_; clear hK K))))
  refine b6 fun K hK => ?_
  repeat' (first | (apply b8; (try simp only [NB]); ((repeat ((fail_if_success (refine hK _ ?_)); clear hK K)); refine hK _ ?_; clear hK K)) | (refine b9 fun K1 q6 => ?_; simp only [S1, simprocAttr, F9]; first | refine q6 _ ?_; clear q6 K1 | (apply d4 E47; exact (t7 _ fl hl _ _); refine q6 _ ?_; clear q6 K1)) | (apply b5; try simp only [NB, simprocAttr]; (try ((repeat ((fail_if_success (refine hK _ ?_)); clear hK K)); refine hK _ ?_; clear hK K))))
  refine b6 fun K hK => ?_
  repeat' (first | (apply b8; (try simp only [NB]); ((repeat ((fail_if_success (refine hK _ ?_)); clear hK K)); refine hK _ ?_; clear hK K)) | (refine b9 fun K1 q6 => ?_; simp only [S1, simprocAttr, F9, List.length_map]; refine q6 _ ?_; clear q6 K1) | (apply b5; try simp only [NB, simprocAttr]; (try ((repeat ((fail_if_success (refine hK _ ?_)); clear hK K)); refine hK _ ?_; clear hK K))))
  refine b6 fun K hK => ?_
  repeat' (first | (apply b8; (try simp only [NB]); ((repeat ((fail_if_success (refine hK _ ?_)); clear hK K)); refine hK _ ?_; clear hK K)) | (refine b9 fun K1 q6 => ?_; simp only [S1, simprocAttr, F9]; refine q6 _ ?_; clear q6 K1) | (apply b5; try simp only [NB, simprocAttr]; (try ((repeat ((fail_if_success (refine hK _ ?_)); clear hK K)); refine hK _ ?_; clear hK K))))
  refine b6 fun K hK => ?_
  repeat' (first | (apply b8; (try simp only [NB]); ((repeat ((fail_if_success (refine hK _ ?_)); clear hK K)); refine hK _ ?_; clear hK K)) | (refine b9 fun K1 q6 => ?_; simp only [S1, simprocAttr, F9]; refine q6 _ ?_; clear q6 K1) | (apply b5; try simp only [NB, simprocAttr]; (try ((repeat ((fail_if_success (refine hK _ ?_)); clear hK K)); refine hK _ ?_; clear hK K))))
  refine b6 fun K hK => ?_
  repeat' (first | ((repeat ((fail_if_success (refine hK _ ?_)); clear hK K)); refine hK _ ?_; clear hK K) | (refine b9 fun K1 q6 => ?_; simp only [S1, simprocAttr, F9, List.length_map]; refine q6 _ ?_; clear q6 K1) | refine b6 fun K hK => ?_ | ((first | apply b8 | apply b5 | apply c7); try simp only [NB, simprocAttr]))
  refine p8 (i7 fl i).length 126 (fun j => [(23, .i j), (22, .i (i7 fl i).length), (21, aI (i7 fl i)), (9, .i (aG (X8 ns fl) (i7 fl i) j)), (8, .i (aG (B1 fl) (i7 fl i) j)), (7, .i (i7 fl i).length), (6, aI (i7 fl i)), (5, .i (o5 fl i).length), (2, .ptr h.length 0 0), (1, .i i)])
    (fun j => [some ⟨0, [.p (.sl (ns.map eN)), .p (.sl (fl.map eF))]⟩]) (fun j => True) ?_ trivial fun j hj hp K hK => ?_
  · (refine ⟨rfl, (by first | exact ⟨_, rfl⟩ | exact ⟨[], by simp⟩), ?_, ?_⟩ <;> simp only [S1, simprocAttr, KNB] <;> (try and_intros) <;> (try assumption) <;> (try trivial) <;> (try omega))
  rcases Nat.lt_or_ge j (i7 fl i).length with hlt | hge
  · obtain ⟨x, hx⟩ : ∃ k, (i7 fl i)[j]? = some k := ⟨_, List.getElem?_eq_getElem hlt⟩
    obtain ⟨xi, f, hxi, rfl, hf, _⟩ := F1 (List.mem_of_getElem? hx)
    obtain ⟨d1, d2⟩ := hd f (List.mem_of_getElem? hf)
    obtain ⟨kx, hkx⟩ : ∃ k, ns[f.dst.toNat]? = some k := ⟨_, List.getElem?_eq_getElem (by omega)⟩
    have hkx' := I2 hkx
    have hf' := U6 hf
    have x0 : (0 : Int) ≤ (xi : Int) := Int.natCast_nonneg _
    have s1 := cw (p := B1 fl) hx
    have s2 := cw (p := X8 ns fl) hx
    have b1 := nJ (B1 fl) (i7 fl i) j
    have b2 := nJ (X8 ns fl) (i7 fl i) j
    have e1 : B1 fl (xi : Int) = f.els := by unfold B1; rw [Int.toNat_natCast, hf]
    have e2 : X8 ns fl (xi : Int) = (kx.kind != 8) := by unfold X8; rw [Int.toNat_natCast, hf]; simp only [w4, hkx]
    rw [e1] at s1
    rw [e2] at s2
    have w1 := IntWalk.i64_in ((aG (B1 fl) (i7 fl i) j : Int) + 1) (by omega)
    have w2 := IntWalk.i64_in ((aG (X8 ns fl) (i7 fl i) j : Int) + 1) (by omega)
    have n1 := H3 (l := i7 fl i) (i := j) (by omega) hlt
    cases h1 : f.els <;> cases h2 : (kx.kind != 8) <;> simp only [h1, h2, if_true, Bool.false_eq_true, if_false, Nat.add_zero] at s1 s2
    all_goals (repeat' (first | ((repeat ((fail_if_success (refine hK _ ?_)); clear hK K)); refine hK _ ?_; clear hK K) | ((first | refine b9 fun K1 q6 => ?_ | refine k4 fun K1 q6 => ?_ | refine b7 fun A B hA hB => ?_); simp only [S1, simprocAttr, F9, F5 hx, O1 hlt, n1, eF, eN, hf', hkx', h1, h2, d1, d2, x0, w1, w2, List.length_map]; first | refine q6 _ ?_; clear q6 K1 | ((first | refine hA ?_ | refine hB ?_); clear hA hB A B)) | refine b6 fun K hK => ?_ | ((first | apply b8 | apply i8 | apply b5 | refine i9 ?_ | apply c7 | apply c9); try simp only [NB, simprocAttr])))
    all_goals refine ⟨hlt, trivial, ?_⟩
    all_goals simp only [s1, s2]
    all_goals (refine ⟨rfl, (by first | exact ⟨_, rfl⟩ | exact ⟨[], by simp⟩), ?_, ?_⟩ <;> simp only [S1, simprocAttr, KNB] <;> (try and_intros) <;> (try assumption) <;> (try trivial) <;> (try omega))
  · obtain rfl : j = (i7 fl i).length := by omega
    have e0 : E1 ns fl i = E1 ns fl i := rfl
    conv at e0 => rhs; unfold E1
    rw [ekd] at e0
    by_cases k1 : kd.kind = 1
    · repeat' (first | ((repeat ((fail_if_success (refine hK _ ?_)); clear hK K)); refine hK _ ?_; clear hK K) | ((first | refine b9 fun K1 q6 => ?_ | refine b7 fun A B hA hB => ?_); simp only [S1, simprocAttr, F9, I1, hi0, hkd', eN, k1]; first | refine q6 _ ?_; clear q6 K1 | ((first | refine hA ?_ | refine hB ?_); clear hA hB A B) | (refine l6 (v := ?_) (fun hg q8 => ?_) ?_; rotate_left; (focus (try ((try simp only [BN] at hg); simp only [S1, simprocAttr, F9, I1, hi0, hkd', eN, k1, hg] at q8 ⊢)); exact q8); refine q6 _ ?_; clear q6 K1)) | refine b6 fun K hK => ?_ | ((first | apply b8 | apply b5 | apply c7 | apply f9 | apply d3); try simp only [NB, simprocAttr]))
      all_goals simp only [S1, simprocAttr, ENB, F9]
      all_goals simp [e0, k1]
      all_goals (rw [Bool.eq_iff_iff]; simp only [Bool.or_eq_true, Bool.and_eq_true, beq_iff_eq, decide_eq_true_eq]; omega)
    by_cases k2 : kd.kind = 2
    · repeat' (first | ((repeat ((fail_if_success (refine hK _ ?_)); clear hK K)); refine hK _ ?_; clear hK K) | ((first | refine b9 fun K1 q6 => ?_ | refine b7 fun A B hA hB => ?_); simp only [S1, simprocAttr, F9, I1, hi0, hkd', eN, k2]; first | refine q6 _ ?_; clear q6 K1 | ((first | refine hA ?_ | refine hB ?_); clear hA hB A B) | (refine l6 (v := ?_) (fun hg q8 => ?_) ?_; rotate_left; (focus (try ((try simp only [BN] at hg); simp only [S1, simprocAttr, F9, I1, hi0, hkd', eN, k2, hg] at q8 ⊢)); exact q8); refine q6 _ ?_; clear q6 K1)) | refine b6 fun K hK => ?_ | ((first | apply b8 | apply b5 | apply c7 | apply f9 | apply d3); try simp only [NB, simprocAttr]))
      all_goals simp only [S1, simprocAttr, ENB, F9]
      all_goals simp [e0, k2]
      all_goals (rw [Bool.eq_iff_iff]; simp only [Bool.or_eq_true, Bool.and_eq_true, beq_iff_eq, decide_eq_true_eq]; omega)
    by_cases k5 : kd.kind = 5
    · repeat' (first | ((repeat ((fail_if_success (refine hK _ ?_)); clear hK K)); refine hK _ ?_; clear hK K) | ((first | refine b9 fun K1 q6 => ?_ | refine b7 fun A B hA hB => ?_); simp only [S1, simprocAttr, F9, I1, hi0, hkd', eN, k5]; first | refine q6 _ ?_; clear q6 K1 | ((first | refine hA ?_ | refine hB ?_); clear hA hB A B) | (refine l6 (v := ?_) (fun hg q8 => ?_) ?_; rotate_left; (focus (try ((try simp only [BN] at hg); simp only [S1, simprocAttr, F9, I1, hi0, hkd', eN, k5, hg] at q8 ⊢)); exact q8); refine q6 _ ?_; clear q6 K1)) | refine b6 fun K hK => ?_ | ((first | apply b8 | apply b5 | apply c7 | apply f9 | apply d3); try simp only [NB, simprocAttr]))
      all_goals simp only [S1, simprocAttr, ENB, F9]
      all_goals simp [e0, k5]
      all_goals (rw [Bool.eq_iff_iff]; simp only [Bool.or_eq_true, Bool.and_eq_true, beq_iff_eq, decide_eq_true_eq]; omega)
    by_cases k6 : kd.kind = 6
    · repeat' (first | ((repeat ((fail_if_success (refine hK _ ?_)); clear hK K)); refine hK _ ?_; clear hK K) | ((first | refine b9 fun K1 q6 => ?_ | refine b7 fun A B hA hB => ?_); simp only [S1, simprocAttr, F9, I1, hi0, hkd', eN, k6]; first | refine q6 _ ?_; clear q6 K1 | ((first | refine hA ?_ | refine hB ?_); clear hA hB A B) | (refine l6 (v := ?_) (fun hg q8 => ?_) ?_; rotate_left; (focus (try ((try simp only [BN] at hg); simp only [S1, simprocAttr, F9, I1, hi0, hkd', eN, k6, hg] at q8 ⊢)); exact q8); refine q6 _ ?_; clear q6 K1)) | refine b6 fun K hK => ?_ | ((first | apply b8 | apply b5 | apply c7 | apply f9 | apply d3); try simp only [NB, simprocAttr]))
      all_goals simp only [S1, simprocAttr, ENB, F9]
      all_goals simp [e0, k6]
      all_goals (rw [Bool.eq_iff_iff]; simp only [Bool.or_eq_true, Bool.and_eq_true, beq_iff_eq, decide_eq_true_eq]; omega)
    by_cases k7 : kd.kind = 7
    · repeat' (first | ((repeat ((fail_if_success (refine hK _ ?_)); clear hK K)); refine hK _ ?_; clear hK K) | ((first | refine b9 fun K1 q6 => ?_ | refine b7 fun A B hA hB => ?_); simp only [S1, simprocAttr, F9, I1, hi0, hkd', eN, k7]; first | refine q6 _ ?_; clear q6 K1 | ((first | refine hA ?_ | refine hB ?_); clear hA hB A B) | (refine l6 (v := ?_) (fun hg q8 => ?_) ?_; rotate_left; (focus (try ((try simp only [BN] at hg); simp only [S1, simprocAttr, F9, I1, hi0, hkd', eN, k7, hg] at q8 ⊢)); exact q8); refine q6 _ ?_; clear q6 K1)) | refine b6 fun K hK => ?_ | ((first | apply b8 | apply b5 | apply c7 | apply f9 | apply d3); try simp only [NB, simprocAttr]))
      all_goals simp only [S1, simprocAttr, ENB, F9]
      all_goals simp [e0, k7]
      all_goals (rw [Bool.eq_iff_iff]; simp only [Bool.or_eq_true, Bool.and_eq_true, beq_iff_eq, decide_eq_true_eq]; omega)
    · have f1 : (kd.kind == 1) = false := by simp [k1]
      have f2 : (kd.kind == 2) = false := by simp [k2]
      have f5 : (kd.kind == 5) = false := by simp [k5]
      have f6 : (kd.kind == 6) = false := by simp [k6]
      have f7 : (kd.kind == 7) = false := by simp [k7]
      repeat' (first | ((repeat ((fail_if_success (refine hK _ ?_)); clear hK K)); refine hK _ ?_; clear hK K) | ((first | refine b9 fun K1 q6 => ?_ | refine b7 fun A B hA hB => ?_); simp only [S1, simprocAttr, F9, I1, hi0, hkd', eN, f1, f2, f5, f6, f7]; first | refine q6 _ ?_; clear q6 K1 | (refine hB ?_; clear hA hB A B) | (refine l6 (v := ?_) (fun hg q8 => ?_) ?_; rotate_left; (focus (try ((try simp only [BN] at hg); simp only [S1, simprocAttr, F9, I1, hi0, hkd', eN, f1, f2, f5, f6, f7, hg] at q8 ⊢)); exact q8); refine q6 _ ?_; clear q6 K1)) | refine b6 fun K hK => ?_ | ((first | apply b8 | apply b5 | apply c7 | apply f9 | apply c9 | apply d3); try simp only [NB, simprocAttr]))
      all_goals simp only [S1, simprocAttr, ENB, F9]
      all_goals simp [e0, k1, k2, k5, k6, k7]
      all_goals (rw [Bool.eq_iff_iff]; simp only [Bool.or_eq_true, Bool.and_eq_true, beq_iff_eq, decide_eq_true_eq]; omega)
end
section
def eM := And.intro T2 (And.intro T3 (And.intro T4 (And.intro T22 (And.intro T23 (And.intro T25 (And.intro T41 (And.intro T73 (And.intro T75 (And.intro T77 (And.intro T80 po))))))))))
attribute [local irreducible] awp n9 k3 l8 o6
variable {G : Nat → Option (List PV)}
def eB (x : Bool) : List PV := [.bool x]
abbrev aBl (l : List Bool) : AV := .p (.sl (l.map eB))
theorem y8 (m : Nat) (l : List Bool) : o4 m (l.map AV.b) := by
  induction l with
  | nil => trivial
  | cons x r ih => exact ⟨trivial, ih⟩
theorem hN : ∀ l : List Bool, B7 1 l.length (l.map PV.bool) = l.map eB
  | [] => rfl
  | x :: r => by simp only [List.length_cons, List.map_cons, B7, List.take_succ_cons, List.take_zero, List.drop_succ_cons, List.drop_zero, hN r, eB]
theorem jO (h : Heap) (n fuel : Nat) : ∀ l : List Bool, L4 h n fuel (l.map AV.b) = some (l.map PV.bool)
  | [] => by unfold L4; rfl
  | x :: r => by
    simp only [List.map_cons]
    unfold L4 pur
    rw [jO h n fuel r]
theorem uk {h : Heap} {n fuel b g : Nat} {l : List Bool} {m : Nat} (hm : m = l.length) (hb : s8 h b g = some (l.map AV.b)) (hn : n ≤ b) : pur h n (fuel + 1) (.ref b g 0 1 m) = some (.sl (l.map eB)) := by
  subst hm
  unfold pur
  by_cases h0 : l.length = 0
  · rw [if_pos h0]; have := List.eq_nil_of_length_eq_zero h0; subst this; rfl
  · rw [if_neg h0, hb]
    simp only [hn, true_and, Nat.zero_add, Nat.mul_one, List.length_map, Nat.le_refl, if_true, List.drop_zero]
    rw [List.take_of_length_le (by simp), jO]
    simp only [Option.map_some, hN]
theorem jP {P : Program} {h : Heap} {K : AV → Prop} {e : Exit} {s : St} (he : e = .normal ∨ e = .ret) {t b g m : Nat} {l : List Bool} (hm : m = l.length) (hf : s.fr t = some (.ref b g 0 1 m)) (hb : s8 s.heap b g = some (l.map AV.b)) (hn : h.length ≤ b)
    (ht : s.heap.take h.length = h) (hle : h.length ≤ s.heap.length) (hk : K (aBl l)) : iL P [.tmp t] h K e s := by
  have key : W8 P [.tmp t] h K s := by
    unfold W8
    simp only [Q3, Q2, I4, hf, F8, E6, uk hm hb hn, Option.map_some]
    exact ⟨ht, hle, hk⟩
  rcases he with rfl | rfl <;> exact key
theorem zd {l : List Bool} {k : Nat} {x : Bool} (h : l[k]? = some x) : (l.map AV.b).drop k = .p (.bool x) :: (l.drop (k + 1)).map AV.b := by
  obtain ⟨hk, e⟩ := List.getElem?_eq_some_iff.mp h
  rw [← List.map_drop, List.drop_eq_getElem_cons hk, e]; rfl
theorem rF (l : List Bool) (k : Nat) : (l.map AV.b).set k (AV.p (.bool true)) = (l.set k true).map AV.b := by
  rw [List.map_set]
theorem pL {α : Type} (n : Nat) (x : α) : (List.replicate n [x]).flatMap id = List.replicate n x := by
  induction n with
  | zero => rfl
  | succ n ih => rw [List.replicate_succ, List.flatMap_cons, ih, List.replicate_succ]; rfl
theorem lX (n : Nat) : List.replicate n (AV.p (.bool false)) = (List.replicate n false).map AV.b := by simp
def esF (fl : List Fl) : List (Nat × Nat) := fl.map fun f => (f.src.toNat, f.dst.toNat)
def InN (n : Nat) (fl : List Fl) : Prop := ∀ f ∈ fl, (0 ≤ f.src ∧ f.src < (n : Int)) ∧ 0 ≤ f.dst ∧ f.dst < (n : Int)
theorem wj {fl : List Fl} {j : Nat} {f : Fl} (h : fl[j]? = some f) : (esF fl).take (j + 1) = (esF fl).take j ++ [(f.src.toNat, f.dst.toNat)] := by
  have : (esF fl)[j]? = some (f.src.toNat, f.dst.toNat) := by simp [esF, h]
  rw [List.take_add_one, this]; rfl
theorem ul (es : List (Nat × Nat)) : ∀ out : List Bool, (es.foldl C8 out).length = out.length := jN es
theorem hP (ns : List Nd) (hn : ns.length ≤ 100) (fl : List Fl) (hl : fl.length ≤ 100) (hd : InN ns.length fl) (i : Int) (hi0 : 0 ≤ i) (hi1 : i < (ns.length : Int)) (h : Heap) :
    d5 Tryz.prog G 46 [G7 ns fl, .i i] h (fun r h' => r = aBl (P0 (esF fl) ns.length i.toNat) ∧ h' = h) := by
  have hes : ∀ e ∈ esF fl, e.2 < ns.length := by
    intro e he
    simp only [esF, List.mem_map] at he
    obtain ⟨f, hf, rfl⟩ := he
    have := hd f hf
    simp only; omega
  have hrr := dH (es := esF fl) (n := ns.length) (a := i.toNat) (by omega) hes
  let o0 := (List.replicate ns.length false).set i.toNat true
  have l0 : ∀ k, (C0 (esF fl) k o0).length = ns.length := fun k => by rw [W0]; simp [o0]
  have g1 : (0 : Int) ≤ (ns.length : Int) := by omega
  have g2 : (ns.length : Int) ≤ 16777216 := by omega
  have g3 : ((ns.length : Int) = 0) = False := eq_false (by omega)
  have g4 : i.toNat + 1 ≤ ns.length := by have := Int.toNat_of_nonneg hi0; omega
  refine c8 (rl := []) e9 Tryz.func46 rfl (rs := [.tmp 4]) rfl Tryz.ntmps46 (by simp) ?_
  refine b6 fun K hK => ?_
  repeat' (first | (apply b8; (try simp only [NB]); ((repeat ((fail_if_success (refine hK _ ?_)); clear hK K)); refine hK _ ?_; clear hK K)) | (refine b9 fun K1 q6 => ?_; simp only [S1, simprocAttr, eM]; refine q6 _ ?_; clear q6 K1) | (apply b5; try simp only [NB, simprocAttr]; (try ((repeat ((fail_if_success (refine hK _ ?_)); clear hK K)); refine hK _ ?_; clear hK K))))
  refine b6 fun K hK => ?_
  repeat' (first | (apply b8; (try simp only [NB]); ((repeat ((fail_if_success (refine hK _ ?_)); clear hK K)); refine hK _ ?_; clear hK K)) | (refine b9 fun K1 q6 => ?_; simp only [S1, simprocAttr, eM, List.length_map, g1, g2, g3, pL, lX]; refine q6 _ ?_; clear q6 K1) | (apply b5; try simp only [NB, simprocAttr]; (try ((repeat ((fail_if_success (refine hK _ ?_)); clear hK K)); refine hK _ ?_; clear hK K))))
  refine b6 fun K hK => ?_
  repeat' (first | (apply b8; (try simp only [NB]); ((repeat ((fail_if_success (refine hK _ ?_)); clear hK K)); refine hK _ ?_; clear hK K)) | (refine b9 fun K1 q6 => ?_; simp only [S1, simprocAttr, eM, List.length_map, List.length_replicate, hi0, hi1, g4, Nat.mul_one, rF]; refine q6 _ ?_; clear q6 K1) | (apply b5; try simp only [NB, simprocAttr]; (try ((repeat ((fail_if_success (refine hK _ ?_)); clear hK K)); refine hK _ ?_; clear hK K))))
  refine b6 fun K hK => ?_
  repeat' (first | ((repeat ((fail_if_success (refine hK _ ?_)); clear hK K)); refine hK _ ?_; clear hK K) | (refine b9 fun K1 q6 => ?_; simp only [S1, simprocAttr, eM, List.length_map]; refine q6 _ ?_; clear q6 K1) | refine b6 fun K hK => ?_ | ((first | apply b8 | apply b5 | apply c7); try simp only [NB, simprocAttr]))
  refine p8 ns.length 39 (fun k => [(18, .i k), (17, .i ns.length), (5, .ref (h.length + 1) 0 0 1 ns.length), (2, .ptr h.length 0 0)])
    (fun k => [some ⟨0, [.p (.sl (ns.map eN)), .p (.sl (fl.map eF))]⟩, some ⟨0, (C0 (esF fl) k o0).map AV.b⟩]) (fun k => True) ?_ trivial fun k hk hp K hK => ?_
  · refine ⟨rfl, ⟨[], by simp only [List.append_nil]; rfl⟩, ?_, ⟨trivial, trivial, trivial⟩, y8 _ _, trivial⟩
    simp only [S1, simprocAttr, KNB] <;> (try and_intros) <;> (try assumption) <;> (try trivial) <;> (try omega)
  rcases Nat.lt_or_ge k ns.length with hlt | hge
  · repeat' (first | ((repeat ((fail_if_success (refine hK _ ?_)); clear hK K)); refine hK _ ?_; clear hK K) | ((first | refine b9 fun K1 q6 => ?_ | refine b7 fun A B hA hB => ?_); simp only [S1, simprocAttr, eM, W9 hlt, List.length_map]; first | refine q6 _ ?_; clear q6 K1 | (refine hA ?_; clear hA hB A B)) | refine b6 fun K hK => ?_ | ((first | apply b8 | apply b5 | apply c7 | apply c9); try simp only [NB, simprocAttr]))
    refine p8 fl.length 39 (fun j => [(23, .i j), (22, .i fl.length), (21, .p (.sl (fl.map eF))), (18, .i k), (17, .i ns.length), (5, .ref (h.length + 1) 0 0 1 ns.length), (2, .ptr h.length 0 0)])
      (fun j => [some ⟨0, [.p (.sl (ns.map eN)), .p (.sl (fl.map eF))]⟩, some ⟨0, (((esF fl).take j).foldl C8 (C0 (esF fl) k o0)).map AV.b⟩]) (fun j => True) ?_ trivial fun j hj hp K hK => ?_
    · refine ⟨rfl, ⟨[], by simp only [List.append_nil, List.take_zero, List.foldl_nil]⟩, ?_, ⟨trivial, trivial, trivial⟩, y8 _ _, trivial⟩
      simp only [S1, simprocAttr, KNB] <;> (try and_intros) <;> (try assumption) <;> (try trivial) <;> (try omega)
    rcases Nat.lt_or_ge j fl.length with hjl | hjg
    · obtain ⟨f, hx⟩ : ∃ k, fl[j]? = some k := ⟨_, List.getElem?_eq_getElem hjl⟩
      obtain ⟨⟨a1, a2⟩, b1, b2⟩ := hd f (List.mem_of_getElem? hx)
      have ht := wj hx
      have hcl : (((esF fl).take j).foldl C8 (C0 (esF fl) k o0)).length = ns.length := by rw [ul, l0]
      generalize hcur : ((esF fl).take j).foldl C8 (C0 (esF fl) k o0) = cur at hcl
      have hnx : ((esF fl).take (j + 1)).foldl C8 (C0 (esF fl) k o0) = C8 cur (f.src.toNat, f.dst.toNat) := by rw [ht, List.foldl_append, hcur]; rfl
      have s1 : f.src.toNat < cur.length := by have := Int.toNat_of_nonneg a1; omega
      have s2 : f.dst.toNat + 1 ≤ cur.length := by have := Int.toNat_of_nonneg b1; omega
      obtain ⟨x, hcx⟩ : ∃ x, cur[f.src.toNat]? = some x := ⟨_, List.getElem?_eq_getElem s1⟩
      have hdr := zd hcx
      cases x with
      | false =>
        have hre : C8 cur (f.src.toNat, f.dst.toNat) = cur := by unfold C8; simp [hcx]
        repeat' (first | ((repeat ((fail_if_success (refine hK _ ?_)); clear hK K)); refine hK _ ?_; clear hK K) | ((first | refine b9 fun K1 q6 => ?_ | refine b7 fun A B hA hB => ?_); simp only [S1, simprocAttr, eM, U6 hx, cN hjl, T5 hl hjl, eF, hdr, a1, a2, List.length_map, Nat.mul_one]; first | refine q6 _ ?_; clear q6 K1 | ((first | refine hA ?_ | refine hB ?_); clear hA hB A B)) | refine b6 fun K hK => ?_ | ((first | apply b8 | apply b5 | apply c7 | apply c9); try simp only [NB, simprocAttr]))
        all_goals refine ⟨hjl, trivial, ?_⟩
        all_goals simp only [hnx, hre]
        all_goals refine ⟨rfl, ⟨_, rfl⟩, ?_, ⟨trivial, trivial, trivial⟩, y8 _ _, trivial⟩
        all_goals simp only [S1, simprocAttr, KNB] <;> (try and_intros) <;> (try assumption) <;> (try trivial) <;> (try omega)
      | true =>
        have hre : C8 cur (f.src.toNat, f.dst.toNat) = cur.set f.dst.toNat true := by unfold C8; simp [hcx]
        repeat' (first | ((repeat ((fail_if_success (refine hK _ ?_)); clear hK K)); refine hK _ ?_; clear hK K) | ((first | refine b9 fun K1 q6 => ?_ | refine b7 fun A B hA hB => ?_); simp only [S1, simprocAttr, eM, U6 hx, cN hjl, T5 hl hjl, eF, hdr, a1, a2, b1, b2, s2, rF, List.length_map, Nat.mul_one]; first | refine q6 _ ?_; clear q6 K1 | (refine hA ?_; clear hA hB A B)) | refine b6 fun K hK => ?_ | ((first | apply b8 | apply b5 | apply c7 | apply c9); try simp only [NB, simprocAttr]))
        all_goals refine ⟨hjl, trivial, ?_⟩
        all_goals simp only [hnx, hre]
        all_goals refine ⟨rfl, ⟨_, rfl⟩, ?_, ⟨trivial, trivial, trivial⟩, y8 _ _, trivial⟩
        all_goals simp only [S1, simprocAttr, KNB] <;> (try and_intros) <;> (try assumption) <;> (try trivial) <;> (try omega)
    · obtain rfl : j = fl.length := by omega
      have hfull : (esF fl).take fl.length = esF fl := List.take_of_length_le (by simp [esF])
      have hnx : C0 (esF fl) (k + 1) o0 = ((esF fl).take fl.length).foldl C8 (C0 (esF fl) k o0) := by rw [hfull]; rfl
      repeat' (first | ((repeat ((fail_if_success (refine hK _ ?_)); clear hK K)); refine hK _ ?_; clear hK K) | ((first | refine b9 fun K1 q6 => ?_ | refine b7 fun A B hA hB => ?_); simp only [S1, simprocAttr, eM, rz, K5 hn hlt]; first | refine q6 _ ?_; clear q6 K1 | (refine hB ?_; clear hA hB A B)) | refine b6 fun K hK => ?_ | ((first | apply b8 | apply b5 | apply f9); try simp only [NB, simprocAttr]))
      all_goals refine ⟨hlt, trivial, ?_⟩
      all_goals simp only [hnx]
      all_goals refine ⟨rfl, ⟨_, rfl⟩, ?_, ⟨trivial, trivial, trivial⟩, y8 _ _, trivial⟩
      all_goals simp only [S1, simprocAttr, KNB] <;> (try and_intros) <;> (try assumption) <;> (try trivial) <;> (try omega)
  · obtain rfl : k = ns.length := by omega
    repeat' (first | ((repeat ((fail_if_success (refine hK _ ?_)); clear hK K)); refine hK _ ?_; clear hK K) | ((first | refine b9 fun K1 q6 => ?_ | refine b7 fun A B hA hB => ?_); simp only [S1, simprocAttr, eM, dG]; first | refine q6 _ ?_; clear q6 K1 | (refine hB ?_; clear hA hB A B)) | refine b6 fun K hK => ?_ | ((first | apply b8 | apply b5 | apply f9 | apply d3); try simp only [NB, simprocAttr]))
    have hrl := l0 ns.length
    exact jP (.inr rfl) hrl.symm rfl (by simp only [s8, n8, List.getElem?_cons_succ, List.getElem?_cons_zero, if_true]) (by omega) (by simp) (by simp) (by rw [hrr])
end
section
def R9 := And.intro T2 (And.intro T3 (And.intro T4 (And.intro T22 (And.intro T23 (And.intro T25 (And.intro T41 (And.intro T73 (And.intro T75 (And.intro T77 (And.intro T80 uc))))))))))
attribute [local irreducible] awp n9 k3 l8 o6
variable {G : Nat → Option (List PV)}
abbrev x8 (ns : List Nd) (fl : List Fl) : List AV := [.p (.sl (ns.map eN)), .p (.sl (fl.map eF))]
theorem J9 (ns : List Nd) (fl : List Fl) (i : Int) (H : Heap) {b g : Nat} (hb : H[b]? = some (some ⟨g, x8 ns fl⟩)) : d5 Tryz.prog G 134 [.i i, .ptr b g 0] H (fun r h' => r = .b (inB ns.length i) ∧ h' = H) := by
  refine c8 (rl := []) e9 Tryz.func134 rfl (rs := [.tmp 3]) rfl Tryz.ntmps134 (by simp) ?_
  repeat' (first | ((repeat ((fail_if_success (refine hK _ ?_)); clear hK K)); refine hK _ ?_; clear hK K) | (refine b9 fun K1 q6 => ?_; simp only [S1, simprocAttr, R9, hb, List.length_map]; first | refine q6 _ ?_; clear q6 K1 | (refine l6 (v := ?_) (fun hg q8 => ?_) ?_; rotate_left; (focus (try ((try simp only [BN] at hg); simp only [S1, simprocAttr, R9, hb, List.length_map, hg] at q8 ⊢)); exact q8); refine q6 _ ?_; clear q6 K1)) | refine b6 fun K hK => ?_ | ((first | apply b8 | apply b5 | apply d3); try simp only [NB, simprocAttr]))
  all_goals simp only [S1, simprocAttr, ENB, R9]
  all_goals rfl
theorem pM (ns : List Nd) (hn : ns.length ≤ 100) (fl : List Fl) (hl : fl.length ≤ 100) (f : Fl) {n : Nat} (ht : Tm.Ok n f.cond) (h : Heap) : d5 Tryz.prog gW 104 [G7 ns fl, aF f] h (fun r h' => r = .b (aD ns fl f) ∧ h' = h) := by
  cases h1 : inB ns.length f.src with
  | false =>
    have e : aD ns fl f = false := by unfold aD; rw [h1]; rfl
    rw [e]
    refine c8 (rl := []) e9 Tryz.func104 rfl (rs := [.tmp 4]) rfl Tryz.ntmps104 (by simp) ?_
    repeat' (first | ((repeat ((fail_if_success (refine hK _ ?_)); clear hK K)); refine hK _ ?_; clear hK K) | ((first | refine b9 fun K1 q6 => ?_ | refine b7 fun A B hA hB => ?_); simp only [S1, simprocAttr, R9, h1]; first | refine q6 _ ?_; clear q6 K1 | (refine hA ?_; clear hA hB A B) | (apply d4 ud; exact (J9 ns fl _ _ (by simp [n8])); refine q6 _ ?_; clear q6 K1)) | refine b6 fun K hK => ?_ | ((first | apply b8 | apply b5 | apply c7 | apply d3); try simp only [NB, simprocAttr]))
    all_goals simp only [S1, simprocAttr, ENB, R9]
  | true =>
    cases h2 : inB ns.length f.dst with
    | false =>
      have e : aD ns fl f = false := by unfold aD; rw [h1, h2]; rfl
      rw [e]
      refine c8 (rl := []) e9 Tryz.func104 rfl (rs := [.tmp 4]) rfl Tryz.ntmps104 (by simp) ?_
      repeat' (first | ((repeat ((fail_if_success (refine hK _ ?_)); clear hK K)); refine hK _ ?_; clear hK K) | ((first | refine b9 fun K1 q6 => ?_ | refine b7 fun A B hA hB => ?_); simp only [S1, simprocAttr, R9, h1, h2]; first | refine q6 _ ?_; clear q6 K1 | (refine hA ?_; clear hA hB A B) | (apply d4 ud; exact (J9 ns fl _ _ (by simp [n8])); refine q6 _ ?_; clear q6 K1)) | refine b6 fun K hK => ?_ | ((first | apply b8 | apply b5 | apply c7 | apply d3); try simp only [NB, simprocAttr]))
      all_goals simp only [S1, simprocAttr, ENB, R9]
    | true =>
      cases h3 : (f.src == f.dst) with
      | true =>
        have e : aD ns fl f = false := by unfold aD; rw [h1, h2, h3]; rfl
        rw [e]
        refine c8 (rl := []) e9 Tryz.func104 rfl (rs := [.tmp 4]) rfl Tryz.ntmps104 (by simp) ?_
        repeat' (first | ((repeat ((fail_if_success (refine hK _ ?_)); clear hK K)); refine hK _ ?_; clear hK K) | ((first | refine b9 fun K1 q6 => ?_ | refine b7 fun A B hA hB => ?_); simp only [S1, simprocAttr, R9, h1, h2, h3]; first | refine q6 _ ?_; clear q6 K1 | (refine hA ?_; clear hA hB A B) | (apply d4 ud; exact (J9 ns fl _ _ (by simp [n8])); refine q6 _ ?_; clear q6 K1)) | refine b6 fun K hK => ?_ | ((first | apply b8 | apply b5 | apply c7 | apply d3); try simp only [NB, simprocAttr]))
        all_goals simp only [S1, simprocAttr, ENB, R9]
      | false =>
        obtain ⟨a1, a2⟩ := cv.mp h1
        obtain ⟨k, hx⟩ : ∃ k, ns[f.src.toNat]? = some k := ⟨_, List.getElem?_eq_getElem (by omega)⟩
        have ek : w4 ns f.src = k.kind := by unfold w4; rw [hx]
        have e0 : aD ns fl f = (if eK ns fl f.src = true then (if f.els = true then bj f.cond else ofB f.cond 2) else (!f.els && bj f.cond)) := by
          unfold aD
          rw [h1, h2, h3]; simp
        rw [e0]; unfold eK; rw [ek]
        have hx' := I2 hx
        cases hk : (k.kind == 5) with
        | false =>
          have hk' : (k.kind != 5) = true := by unfold bne; rw [hk]; rfl
          refine c8 (rl := []) e9 Tryz.func104 rfl (rs := [.tmp 4]) rfl Tryz.ntmps104 (by simp) ?_
          repeat' (first | ((repeat ((fail_if_success (refine hK _ ?_)); clear hK K)); refine hK _ ?_; clear hK K) | ((first | refine b9 fun K1 q6 => ?_ | refine b7 fun A B hA hB => ?_); simp only [S1, simprocAttr, R9, h1, h2, h3, a1, hx', eN, hk, hk', List.length_map]; first | refine q6 _ ?_; clear q6 K1 | ((first | refine hA ?_ | refine hB ?_); clear hA hB A B) | (apply d4 ud; exact (J9 ns fl _ _ (by simp [n8])); refine q6 _ ?_; clear q6 K1) | (refine l6 (v := ?_) (fun hg q8 => ?_) ?_; rotate_left; (focus (try ((try simp only [BN] at hg); simp only [S1, simprocAttr, R9, h1, h2, h3, a1, hx', eN, hk, hk', List.length_map, hg] at q8 ⊢)); first | exact q8 | (apply d4 rp; exact (M2 f.cond _); exact q8)); refine q6 _ ?_; clear q6 K1)) | refine b6 fun K hK => ?_ | ((first | apply b8 | apply b5 | apply c7 | apply d3); try simp only [NB, simprocAttr]))
          all_goals simp only [S1, simprocAttr, ENB, R9]
          all_goals simp_all
        | true =>
          have hk' : (k.kind != 5) = false := by unfold bne; rw [hk]; rfl
          cases ho : decide (2 ≤ ((i7 fl f.src).length : Int)) with
          | false =>
            have ho' : decide (((i7 fl f.src).length : Int) < 2) = true := by simp at ho ⊢; omega
            refine c8 (rl := []) e9 Tryz.func104 rfl (rs := [.tmp 4]) rfl Tryz.ntmps104 (by simp) ?_
            repeat' (first | ((repeat ((fail_if_success (refine hK _ ?_)); clear hK K)); refine hK _ ?_; clear hK K) | ((first | refine b9 fun K1 q6 => ?_ | refine b7 fun A B hA hB => ?_); simp only [S1, simprocAttr, R9, h1, h2, h3, a1, hx', eN, hk, hk', ho, ho', List.length_map]; first | refine q6 _ ?_; clear q6 K1 | ((first | refine hA ?_ | refine hB ?_); clear hA hB A B) | (apply d4 ud; exact (J9 ns fl _ _ (by simp [n8])); refine q6 _ ?_; clear q6 K1) | (apply d4 E57; exact (t8 _ fl hl _ _); refine q6 _ ?_; clear q6 K1) | (refine l6 (v := ?_) (fun hg q8 => ?_) ?_; rotate_left; (focus (try ((try simp only [BN] at hg); simp only [S1, simprocAttr, R9, h1, h2, h3, a1, hx', eN, hk, hk', ho, ho', List.length_map, hg] at q8 ⊢)); first | exact q8 | (apply d4 rp; exact (M2 f.cond _); exact q8)); refine q6 _ ?_; clear q6 K1)) | refine b6 fun K hK => ?_ | ((first | apply b8 | apply b5 | apply c7 | apply d3); try simp only [NB, simprocAttr]))
            all_goals simp only [S1, simprocAttr, ENB, R9]
            all_goals simp_all
          | true =>
            have ho' : decide (((i7 fl f.src).length : Int) < 2) = false := by simp at ho ⊢; omega
            refine c8 (rl := []) e9 Tryz.func104 rfl (rs := [.tmp 4]) rfl Tryz.ntmps104 (by simp) ?_
            repeat' (first | ((repeat ((fail_if_success (refine hK _ ?_)); clear hK K)); refine hK _ ?_; clear hK K) | ((first | refine b9 fun K1 q6 => ?_ | refine b7 fun A B hA hB => ?_); simp only [S1, simprocAttr, R9, h1, h2, h3, a1, hx', eN, hk, hk', ho, ho', List.length_map]; first | refine q6 _ ?_; clear q6 K1 | (refine hB ?_; clear hA hB A B) | (apply d4 ud; exact (J9 ns fl _ _ (by simp [n8])); refine q6 _ ?_; clear q6 K1) | (apply d4 E57; exact (t8 _ fl hl _ _); refine q6 _ ?_; clear q6 K1) | (apply d4 zx; exact (nB ht _ _); refine q6 _ ?_; clear q6 K1) | (apply d4 rp; exact (M2 f.cond _); refine q6 _ ?_; clear q6 K1) | ((((refine ⟨fun hg => hA ?_, fun hg => hB ?_⟩ <;> clear hA hB A B)) <;> (try simp only [BN2] at hg) <;> (try simp only [hg, cndB])) <;> (try (refine q6 _ ?_; clear q6 K1)) <;> (try simp only [BN3] at hg))) | refine b6 fun K hK => ?_ | ((first | apply b8 | apply b5 | apply c7 | apply c9 | apply d3); try simp only [NB, simprocAttr]))
            all_goals simp only [S1, simprocAttr, ENB, R9]
            all_goals simp_all
end
section
def bS := And.intro T2 (And.intro T3 (And.intro T4 (And.intro T22 (And.intro T23 (And.intro T25 (And.intro T41 (And.intro T73 (And.intro T75 (And.intro T77 (And.intro T80 po))))))))))
attribute [local irreducible] awp n9 k3 l8 o6
variable {G : Nat → Option (List PV)}
section
variable {P : Program} {rl : List String} {h : Heap}
theorem dI {σ : Type} {c : Code} {Q : Exit → St → Prop} {s : St} (m : σ → Nat) (nt : Nat) (l : σ → List (Nat × AV)) (L : σ → List (Option Blk)) (p : σ → Prop) (x0 : σ) (hi : o8 P G h s ⟨frL (l x0), nt, h ++ L x0⟩) (hp : p x0)
    (hb : ∀ x, p x → ∀ K : St → Prop, (∀ s', (∃ y, m y < m x ∧ p y ∧ Sub h s' (l y) (L y) nt) → K s') → awp P G rl h c (M7 K Q) ⟨frL (l x), nt, h ++ L x⟩) : awp P G rl h (.loop c) Q s := by
  refine bN (fun n s => ∃ x, p x ∧ n = m x ∧ s = ⟨frL (l x), nt, h ++ L x⟩) (m x0) _ hi ⟨x0, hp, rfl, rfl⟩ fun n s hI => ?_
  obtain ⟨x, h1, rfl, rfl⟩ := hI
  refine hb x h1 _ fun s' hs => ?_
  obtain ⟨y, h2, h3, h4⟩ := hs
  exact ⟨m y, _, h2, h4.ghost, y, h3, rfl, rfl⟩
theorem H9 {σ : Type} {c : Code} {Q : Exit → St → Prop} {s : St} (m : σ → Nat) (nt : Nat) (l : σ → List (Nat × AV)) (L : σ → List (Option Blk)) (p : σ → Prop) (x0 : σ) (hi : Sub h s (l x0) (L x0) nt) (hp : p x0)
    (hb : ∀ x, p x → ∀ K : St → Prop, (∀ s', (∃ y, m y < m x ∧ p y ∧ Sub h s' (l y) (L y) nt) → K s') → awp P G rl h c (M7 K Q) ⟨frL (l x), nt, h ++ L x⟩) : awp P G rl h (.loop c) Q s :=
  dI m nt l L p x0 hi.ghost hp hb
end
def C5 (back : Bool) (fl : List Fl) : List (Nat × Nat) := if back = true then (esF fl).map Prod.swap else esF fl
abbrev nI (n : Nat) : AV := .p (.int .i64 (n : Int))
theorem J0 (m : Nat) (l : List Nat) : o4 m (l.map nI) := by
  induction l with
  | nil => trivial
  | cons x r ih => exact ⟨trivial, ih⟩
theorem AO (pre : List Nat) (x : Nat) (rest : List Nat) : ((pre ++ x :: rest).map nI).drop pre.length = .p (.int .i64 (x : Int)) :: rest.map nI := by
  rw [List.map_append, List.drop_left' (by simp)]; rfl
theorem zE (pre todo : List Nat) : ((pre ++ todo).map nI).drop pre.length = todo.map nI := by
  rw [List.map_append, List.drop_left' (by simp)]
theorem jQ {es : List (Nat × Nat)} {j u v : Nat} (h : es[j]? = some (u, v)) (x : Nat) : bQ (es.take (j + 1)) x = bQ (es.take j) x ++ (if u = x then [v] else []) := by
  unfold bQ
  rw [List.take_add_one, h]
  simp only [Option.toList_some, List.filter_append, List.map_append]
  by_cases e : u = x <;> simp [e]
theorem wk {n : Nat} {fl : List Fl} (hd : InN n fl) (back : Bool) : ∀ e ∈ C5 back fl, e.2 < n := by
  intro e he
  unfold C5 at he
  split at he
  · simp only [esF, List.map_map, List.mem_map, Function.comp] at he
    obtain ⟨f, hf, rfl⟩ := he
    have := hd f hf
    simp only [Prod.swap]; omega
  · simp only [esF, List.mem_map] at he
    obtain ⟨f, hf, rfl⟩ := he
    have := hd f hf
    simp only; omega
structure Qu where
  seen : List Bool
  pre : List Nat
  todo : List Nat
  g : Nat
structure Qi where
  j : Nat
  pre : List Nat
  todo : List Nat
  g : Nat
theorem lY (ns : List Nd) (hn : ns.length ≤ 100) (fl : List Fl) (hl : fl.length ≤ 100) (hd : InN ns.length fl) (i : Int) (hi0 : 0 ≤ i) (hi1 : i < (ns.length : Int)) (back : Bool) (h : Heap) :
    d5 Tryz.prog G 106 [G7 ns fl, .i i, .b back] h (fun r h' => r = aBl (P0 (C5 back fl) ns.length i.toNat) ∧ h' = h) := by
  obtain ⟨a, rfl⟩ := Int.eq_ofNat_of_zero_le hi0
  have hel : (C5 back fl).length = fl.length := by unfold C5; split <;> simp [esF]
  have g1 : (0 : Int) ≤ (ns.length : Int) := by omega
  have g2 : (ns.length : Int) ≤ 16777216 := by omega
  have g3 : ((ns.length : Int) = 0) = False := eq_false (by omega)
  have r1 : (["net.go:137"].contains "net.go:137") = true := by decide
  have r2 : (["net.go:137"].contains "net.go:148") = false := by decide
  have r3 : (["net.go:137"].contains "net.go:150") = false := by decide
  refine c8 (rl := ["net.go:137"]) e9 Tryz.func106 rfl (rs := [.tmp 6]) rfl Tryz.ntmps106 (by simp) ?_
  refine b6 fun K hK => ?_
  repeat' (first | (apply b8; (try simp only [NB]); ((repeat ((fail_if_success (refine hK _ ?_)); clear hK K)); refine hK _ ?_; clear hK K)) | (refine b9 fun K1 q6 => ?_; simp only [S1, simprocAttr, bS]; refine q6 _ ?_; clear q6 K1) | (apply b5; try simp only [NB, simprocAttr]; (try ((repeat ((fail_if_success (refine hK _ ?_)); clear hK K)); refine hK _ ?_; clear hK K))))
  refine b6 fun K hK => ?_
  repeat' (first | (apply b8; (try simp only [NB]); ((repeat ((fail_if_success (refine hK _ ?_)); clear hK K)); refine hK _ ?_; clear hK K)) | (refine b9 fun K1 q6 => ?_; simp only [S1, simprocAttr, bS, List.length_map, g1, g2, g3, pL, lX]; refine q6 _ ?_; clear q6 K1) | (apply b5; try simp only [NB, simprocAttr]; (try ((repeat ((fail_if_success (refine hK _ ?_)); clear hK K)); refine hK _ ?_; clear hK K))))
  refine b6 fun K hK => ?_
  repeat' (first | (apply b8; (try simp only [NB]); ((repeat ((fail_if_success (refine hK _ ?_)); clear hK K)); refine hK _ ?_; clear hK K)) | (refine b9 fun K1 q6 => ?_; simp only [S1, simprocAttr, bS, r1]; refine q6 _ ?_; clear q6 K1) | (apply b5; try simp only [NB, simprocAttr]; (try ((repeat ((fail_if_success (refine hK _ ?_)); clear hK K)); refine hK _ ?_; clear hK K))))
  refine b6 fun K hK => ?_
  repeat' ((apply c7; try simp only [NB, simprocAttr]; (try ((repeat ((fail_if_success (refine hK _ ?_)); clear hK K)); refine hK _ ?_; clear hK K))))
  refine H9 (σ := Qu) (fun q => li (C5 back fl) q.seen q.todo) 69 (fun q => [(8, .ref (h.length + 2) q.g q.pre.length 1 q.todo.length), (7, .ref (h.length + 1) 0 0 1 ns.length), (3, .ptr h.length 0 0), (2, .b back)])
    (fun q => [some ⟨0, x8 ns fl⟩, some ⟨0, q.seen.map AV.b⟩, some ⟨q.g, (q.pre ++ q.todo).map nI⟩]) (fun q => Bfs (C5 back fl) ns.length a q.seen q.todo ∧ li (C5 back fl) q.seen q.todo ≤ 20000) ⟨List.replicate ns.length false, [], [a], 0⟩ ?_ ?_ fun q hq K hK => ?_
  · refine ⟨rfl, ⟨[], by simp only [List.append_nil, List.nil_append, List.map_cons, List.map_nil]⟩, ?_, ⟨trivial, trivial, trivial⟩, y8 _ _, J0 _ _, trivial⟩
    simp only [S1, simprocAttr, KNB] <;> (try and_intros) <;> (try assumption) <;> (try trivial) <;> (try omega)
  · refine ⟨Bfs.init, ?_⟩
    unfold li
    rw [hel]
    simp only [List.length_replicate, List.length_singleton]
    have : (ns.length - (List.replicate ns.length false).count true) * (fl.length + 1) ≤ 100 * 101 := Nat.mul_le_mul (by omega) (by omega)
    omega
  obtain ⟨seen, pre, todo, g⟩ := q
  obtain ⟨hb, hm⟩ := hq
  simp only at hb hm
  cases todo with
  | nil =>
    have hz : decide ((0 : Int) < 0) = false := rfl
    repeat' (first | ((repeat ((fail_if_success (refine hK _ ?_)); clear hK K)); refine hK _ ?_; clear hK K) | ((first | refine b9 fun K1 q6 => ?_ | refine b7 fun A B hA hB => ?_); simp only [S1, simprocAttr, bS, hz]; first | refine q6 _ ?_; clear q6 K1 | (refine hB ?_; clear hA hB A B)) | refine b6 fun K hK => ?_ | ((first | apply b8 | apply b5 | apply f9 | apply d3); try simp only [NB, simprocAttr]))
    exact jP (.inr rfl) hb.len.symm rfl (by simp only [s8, n8, List.getElem?_cons_succ, List.getElem?_cons_zero, if_true]) (by omega) (by simp) (by simp) (by rw [hb.done, Int.toNat_natCast])
  | cons x rest =>
    have hxn : x < ns.length := (hb.soundT x (by simp)).closed (p := fun i => i < ns.length) (by omega) fun e he _ => wk hd back e he
    have hx1 : (x : Int) < (ns.length : Int) := by omega
    have hx0 : (0 : Int) ≤ (x : Int) := by omega
    have hp0 : decide ((0 : Int) < ((rest.length + 1 : Nat) : Int)) = true := decide_eq_true (by omega)
    have hp1 : (0 : Int) < ((rest.length + 1 : Nat) : Int) := by omega
    have hp2 : 1 ≤ rest.length + 1 := by omega
    have hrl : rest.length ≤ 20000 := by unfold li at hm; simp only [List.length_cons] at hm; omega
    obtain ⟨b, hsx⟩ : ∃ b, seen[x]? = some b := ⟨_, List.getElem?_eq_getElem (by rw [hb.len]; exact hxn)⟩
    have hdr := zd hsx
    have hdq := AO pre x rest
    have hxs : x + 1 ≤ seen.length := by rw [hb.len]; exact hxn
    cases b with
    | true =>
      repeat' (first | ((repeat ((fail_if_success (refine hK _ ?_)); clear hK K)); refine hK _ ?_; clear hK K) | ((first | refine b9 fun K1 q6 => ?_ | refine b7 fun A B hA hB => ?_); simp only [S1, simprocAttr, bS, hp0, hp1, hp2, hx0, hx1, hdr, hdq, Nat.mul_one, Nat.le_refl, Nat.add_sub_cancel, Int.toNat_zero]; first | refine q6 _ ?_; clear q6 K1 | (refine hA ?_; clear hA hB A B)) | refine b6 fun K hK => ?_ | ((first | apply b8 | apply b5 | apply c7 | apply f9 | apply c9); try simp only [NB, simprocAttr]))
      all_goals refine ⟨⟨seen, pre ++ [x], rest, g⟩, lV _ _ _ _, ⟨hb.skip hsx, Nat.le_trans (Nat.le_of_lt (lV _ _ _ _)) hm⟩, ?_⟩
      all_goals simp only [List.length_append, List.length_cons, List.length_nil, Nat.zero_add, List.append_assoc, List.cons_append, List.nil_append]
      all_goals refine ⟨rfl, ⟨[], by simp only [List.append_nil]⟩, ?_, ⟨trivial, trivial, trivial⟩, y8 _ _, J0 _ _, trivial⟩
      all_goals simp only [S1, simprocAttr, KNB] <;> (try and_intros) <;> (try assumption) <;> (try trivial) <;> (try omega)
    | false =>
      repeat' (first | ((repeat ((fail_if_success (refine hK _ ?_)); clear hK K)); refine hK _ ?_; clear hK K) | ((first | refine b9 fun K1 q6 => ?_ | refine b7 fun A B hA hB => ?_); simp only [S1, simprocAttr, bS, hp0, hp1, hp2, hx0, hx1, hxs, hdr, hdq, rF, List.length_map, Nat.mul_one, Nat.le_refl, Nat.add_sub_cancel, Int.toNat_zero]; first | refine q6 _ ?_; clear q6 K1 | ((first | refine hA ?_ | refine hB ?_); clear hA hB A B)) | refine b6 fun K hK => ?_ | ((first | apply b8 | apply b5 | apply c7 | apply c9); try simp only [NB, simprocAttr]))
      refine H9 (σ := Qi) (fun q => fl.length - q.j) 69 (fun q => [(36, .i q.j), (35, .i fl.length), (34, .p (.sl (fl.map eF))), (9, .i x), (8, .ref (h.length + 2) q.g q.pre.length 1 q.todo.length), (7, .ref (h.length + 1) 0 0 1 ns.length), (3, .ptr h.length 0 0), (2, .b back)])
        (fun q => [some ⟨0, x8 ns fl⟩, some ⟨0, (seen.set x true).map AV.b⟩, some ⟨q.g, (q.pre ++ q.todo).map nI⟩]) (fun q => q.j ≤ fl.length ∧ q.todo = rest ++ bQ ((C5 back fl).take q.j) x) ⟨0, pre ++ [x], rest, g⟩ ?_ ?_ fun q hq K hK => ?_
      · simp only [List.length_append, List.length_cons, List.length_nil, Nat.zero_add, List.append_assoc, List.cons_append, List.nil_append]
        refine ⟨rfl, ⟨[], by simp only [List.append_nil]⟩, ?_, ⟨trivial, trivial, trivial⟩, y8 _ _, J0 _ _, trivial⟩
        simp only [S1, simprocAttr, KNB] <;> (try and_intros) <;> (try assumption) <;> (try trivial) <;> (try omega)
      · exact ⟨Nat.zero_le _, by simp [bQ]⟩
      obtain ⟨j, qp, qt, qg⟩ := q
      obtain ⟨hj, hqt⟩ := hq
      simp only at hj hqt
      have hql : qt.length ≤ 20100 := by
        have := lW ((C5 back fl).take j) x
        rw [List.length_take] at this
        rw [hqt, List.length_append]; omega
      have hmax : qt.length + 1 ≤ j7 := by unfold j7; omega
      rcases Nat.lt_or_ge j fl.length with hjl | hjg
      · obtain ⟨f, hx⟩ : ∃ k, fl[j]? = some k := ⟨_, List.getElem?_eq_getElem hjl⟩
        obtain ⟨⟨a1, a2⟩, b1, b2⟩ := hd f (List.mem_of_getElem? hx)
        obtain ⟨u, hu⟩ := Int.eq_ofNat_of_zero_le a1
        obtain ⟨v, hv⟩ := Int.eq_ofNat_of_zero_le b1
        have hmj : fl.length - (j + 1) < fl.length - j := by omega
        have hdq2 := zE qp qt
        cases back with
        | true =>
          have he : (C5 true fl)[j]? = some (v, u) := by simp [C5, esF, hx, hu, hv]
          have hnt := jQ he x
          by_cases hvx : v = x
          · have hbe : (f.dst == (x : Int)) = true := by rw [hv, hvx]; simp
            rw [if_pos hvx] at hnt
            repeat' (first | ((repeat ((fail_if_success (refine hK _ ?_)); clear hK K)); refine hK _ ?_; clear hK K) | ((first | refine b9 fun K1 q6 => ?_ | refine b7 fun A B hA hB => ?_); simp only [S1, simprocAttr, bS, U6 hx, cN hjl, T5 hl hjl, eF, hbe, r2, r3, hdq2, hmax, List.length_map, Nat.mul_one]; first | refine q6 _ ?_; clear q6 K1 | (refine hA ?_; clear hA hB A B)) | refine b6 fun K hK => ?_ | ((first | apply b8 | apply b5 | apply c7 | apply c9); try simp only [NB, simprocAttr]))
            all_goals refine ⟨⟨j + 1, [], qt ++ [u], qg + 1⟩, hmj, ⟨hjl, by simp only [hnt, hqt, List.append_assoc]⟩, ?_⟩
            all_goals simp only [hu, List.length_append, List.length_cons, List.length_nil, Nat.zero_add, List.nil_append, List.map_append, List.map_cons, List.map_nil]
            all_goals refine ⟨rfl, ⟨_, rfl⟩, ?_, ⟨trivial, trivial, trivial⟩, y8 _ _, (by have := J0 (h.length + 3) (qt ++ [u]); simpa using this), trivial⟩
            all_goals simp only [S1, simprocAttr, KNB] <;> (try and_intros) <;> (try assumption) <;> (try trivial) <;> (try omega)
          · have hbe : (f.dst == (x : Int)) = false := by rw [hv]; simp; omega
            rw [if_neg hvx, List.append_nil] at hnt
            repeat' (first | ((repeat ((fail_if_success (refine hK _ ?_)); clear hK K)); refine hK _ ?_; clear hK K) | ((first | refine b9 fun K1 q6 => ?_ | refine b7 fun A B hA hB => ?_); simp only [S1, simprocAttr, bS, U6 hx, cN hjl, T5 hl hjl, eF, hbe, List.length_map, Nat.mul_one]; first | refine q6 _ ?_; clear q6 K1 | ((first | refine hA ?_ | refine hB ?_); clear hA hB A B)) | refine b6 fun K hK => ?_ | ((first | apply b8 | apply b5 | apply c7 | apply c9); try simp only [NB, simprocAttr]))
            all_goals refine ⟨⟨j + 1, qp, qt, qg⟩, hmj, ⟨hjl, by simp only [hnt, hqt]⟩, ?_⟩
            all_goals refine ⟨rfl, ⟨_, rfl⟩, ?_, ⟨trivial, trivial, trivial⟩, y8 _ _, J0 _ _, trivial⟩
            all_goals simp only [S1, simprocAttr, KNB] <;> (try and_intros) <;> (try assumption) <;> (try trivial) <;> (try omega)
        | false =>
          have he : (C5 false fl)[j]? = some (u, v) := by simp [C5, esF, hx, hu, hv]
          have hnt := jQ he x
          by_cases hvx : u = x
          · have hbe : (f.src == (x : Int)) = true := by rw [hu, hvx]; simp
            rw [if_pos hvx] at hnt
            repeat' (first | ((repeat ((fail_if_success (refine hK _ ?_)); clear hK K)); refine hK _ ?_; clear hK K) | ((first | refine b9 fun K1 q6 => ?_ | refine b7 fun A B hA hB => ?_); simp only [S1, simprocAttr, bS, U6 hx, cN hjl, T5 hl hjl, eF, hbe, r2, r3, hdq2, hmax, List.length_map, Nat.mul_one]; first | refine q6 _ ?_; clear q6 K1 | ((first | refine hA ?_ | refine hB ?_); clear hA hB A B)) | refine b6 fun K hK => ?_ | ((first | apply b8 | apply b5 | apply c7 | apply c9); try simp only [NB, simprocAttr]))
            all_goals refine ⟨⟨j + 1, [], qt ++ [v], qg + 1⟩, hmj, ⟨hjl, by simp only [hnt, hqt, List.append_assoc]⟩, ?_⟩
            all_goals simp only [hv, List.length_append, List.length_cons, List.length_nil, Nat.zero_add, List.nil_append, List.map_append, List.map_cons, List.map_nil]
            all_goals refine ⟨rfl, ⟨_, rfl⟩, ?_, ⟨trivial, trivial, trivial⟩, y8 _ _, (by have := J0 (h.length + 3) (qt ++ [v]); simpa using this), trivial⟩
            all_goals simp only [S1, simprocAttr, KNB] <;> (try and_intros) <;> (try assumption) <;> (try trivial) <;> (try omega)
          · have hbe : (f.src == (x : Int)) = false := by rw [hu]; simp; omega
            rw [if_neg hvx, List.append_nil] at hnt
            repeat' (first | ((repeat ((fail_if_success (refine hK _ ?_)); clear hK K)); refine hK _ ?_; clear hK K) | ((first | refine b9 fun K1 q6 => ?_ | refine b7 fun A B hA hB => ?_); simp only [S1, simprocAttr, bS, U6 hx, cN hjl, T5 hl hjl, eF, hbe, List.length_map, Nat.mul_one]; first | refine q6 _ ?_; clear q6 K1 | ((first | refine hA ?_ | refine hB ?_); clear hA hB A B)) | refine b6 fun K hK => ?_ | ((first | apply b8 | apply b5 | apply c7 | apply c9); try simp only [NB, simprocAttr]))
            all_goals refine ⟨⟨j + 1, qp, qt, qg⟩, hmj, ⟨hjl, by simp only [hnt, hqt]⟩, ?_⟩
            all_goals refine ⟨rfl, ⟨_, rfl⟩, ?_, ⟨trivial, trivial, trivial⟩, y8 _ _, J0 _ _, trivial⟩
            all_goals simp only [S1, simprocAttr, KNB] <;> (try and_intros) <;> (try assumption) <;> (try trivial) <;> (try omega)
      · obtain rfl : j = fl.length := by omega
        have hfull : (C5 back fl).take fl.length = C5 back fl := List.take_of_length_le (by rw [hel]; exact Nat.le_refl _)
        rw [hfull] at hqt
        have hlt := rE (es := C5 back fl) (todo := rest) hsx
        have hvi := hb.visit hxn
        rw [← hqt] at hlt hvi
        repeat' (first | ((repeat ((fail_if_success (refine hK _ ?_)); clear hK K)); refine hK _ ?_; clear hK K) | ((first | refine b9 fun K1 q6 => ?_ | refine b7 fun A B hA hB => ?_); simp only [S1, simprocAttr, bS, rz]; first | refine q6 _ ?_; clear q6 K1 | (refine hB ?_; clear hA hB A B)) | refine b6 fun K hK => ?_ | ((first | apply b8 | apply b5 | apply f9); try simp only [NB, simprocAttr]))
        all_goals refine ⟨⟨seen.set x true, qp, qt, qg⟩, hlt, ⟨hvi, Nat.le_trans (Nat.le_of_lt hlt) hm⟩, ?_⟩
        all_goals refine ⟨rfl, ⟨_, rfl⟩, ?_, ⟨trivial, trivial, trivial⟩, y8 _ _, J0 _ _, trivial⟩
        all_goals simp only [S1, simprocAttr, KNB] <;> (try and_intros) <;> (try assumption) <;> (try trivial) <;> (try omega)
end
section
def G0 := And.intro T2 (And.intro T3 (And.intro T4 (And.intro T22 (And.intro T23 (And.intro T25 (And.intro T41 (And.intro T73 (And.intro T75 (And.intro T77 T80)))))))))
attribute [local irreducible] awp n9 k3 l8 o6
variable {G : Nat → Option (List PV)}
theorem nK (ns : List Nd) (hn : ns.length ≤ 100) (fl : List Fl) (hl : fl.length ≤ 100) (hd : ∀ f ∈ fl, 0 ≤ f.dst ∧ f.dst < (ns.length : Int)) (i : Int) (hi0 : 0 ≤ i) (hi1 : i < (ns.length : Int)) (h : Heap) :
    d5 Tryz.prog G 136 [G7 ns fl, .i i] h (fun r h' => r = .b (E1 ns fl i) ∧ h' = h) := by
  have hle : (i7 fl i).length ≤ 100 := Nat.le_trans (R8 _ _ _) hl
  obtain ⟨kd, hkd⟩ : ∃ k, ns[i.toNat]? = some k := ⟨_, List.getElem?_eq_getElem (by omega)⟩
  have hkd' := I2 hkd
  have ekd : w4 ns i = kd.kind := by unfold w4; rw [hkd]
  refine c8 (rl := []) e9 Tryz.func136 rfl (rs := [.tmp 4]) rfl Tryz.ntmps136 (by simp) ?_
  refine b6 fun K hK => ?_
  repeat' (first | (apply b8; (try simp only [NB]); ((repeat ((fail_if_success (refine hK _ ?_)); clear hK K)); refine hK _ ?_; clear hK K)) | (refine b9 fun K1 q6 => ?_; simp only [S1, simprocAttr, G0]; refine q6 _ ?_; clear q6 K1) | (apply b5; try simp only [NB, simprocAttr]; (try ((repeat ((fail_if_success (refine hK _ ?_)); clear hK K)); refine hK _ ?_; clear hK K))))
  refine b6 fun K hK => ?_
  repeat' (first | (apply b8; (try simp only [NB]); ((repeat ((fail_if_success (refine hK _ ?_)); clear hK K)); refine hK _ ?_; clear hK K)) | (refine b9 fun K1 q6 => ?_; simp only [S1, simprocAttr, G0]; first | refine q6 _ ?_; clear q6 K1 | (apply d4 E57; exact (t8 _ fl hl _ _); refine q6 _ ?_; clear q6 K1)) | (apply b5; try simp only [NB, simprocAttr]; (try ((repeat ((fail_if_success (refine hK _ ?_)); clear hK K)); refine hK _ ?_; clear hK K))))
  refine b6 fun K hK => ?_
  repeat' (first | (apply i8; (try simp only [NB]); ((repeat ((fail_if_success (refine hK _ ?_)); clear hK K)); refine hK _ ?_; clear hK K)) | (refine k4 fun K1 q6 => ?_; simp only [S1, simprocAttr, G0, List.length_map, hi0, hkd', eN]; first | refine q6 _ ?_; clear q6 K1 | (apply j5 eu; exact (B5 _ fl hl _ _); refine q6 _ ?_; clear q6 K1)) | (refine i9 ?_; try simp only [NB, simprocAttr]; (try ((repeat ((fail_if_success (refine hK _ ?_)); clear hK K)); refine hK _ ?_; clear hK K))))
  refine b6 fun K hK => ?_
  repeat' (first | (apply b8; (try simp only [NB]); ((repeat ((fail_if_success (refine hK _ ?_)); clear hK K)); refine hK _ ?_; clear hK K)) | (refine b9 fun K1 q6 => ?_; simp only [S1, simprocAttr, G0]; refine q6 _ ?_; clear q6 K1) | (apply b5; try simp only [NB, simprocAttr]; (try ((repeat ((fail_if_success (refine hK _ ?_)); clear hK K)); refine hK _ ?_; clear hK K))))
  refine b6 fun K hK => ?_
  repeat' (first | (apply b8; (try simp only [NB]); ((repeat ((fail_if_success (refine hK _ ?_)); clear hK K)); refine hK _ ?_; clear hK K)) | (refine b9 fun K1 q6 => ?_; simp only [S1, simprocAttr, G0]; refine q6 _ ?_; clear q6 K1) | (apply b5; try simp only [NB, simprocAttr]; (try ((repeat ((fail_if_success (refine hK _ ?_)); clear hK K)); refine hK _ ?_; clear hK K))))
  refine b6 fun K hK => ?_
  repeat' (first | ((repeat ((fail_if_success (refine hK _ ?_)); clear hK K)); refine hK _ ?_; clear hK K) | (refine b9 fun K1 q6 => ?_; simp only [S1, simprocAttr, G0, List.length_map]; refine q6 _ ?_; clear q6 K1) | refine b6 fun K hK => ?_ | ((first | apply b8 | apply b5 | apply c7); try simp only [NB, simprocAttr]))
  refine p8 (i7 fl i).length 122 (fun j => [(28, .i j), (27, .i (i7 fl i).length), (26, aI (i7 fl i)), (9, .b (aG (X8 ns fl) (i7 fl i) j == 0)), (8, .i (aG (B1 fl) (i7 fl i) j)), (7, .i kd.kind), (6, .i (o5 fl i).length), (5, aI (i7 fl i)), (2, .ptr h.length 0 0), (1, .i i)])
    (fun j => [some ⟨0, [.p (.sl (ns.map eN)), .p (.sl (fl.map eF))]⟩]) (fun j => True) ?_ trivial fun j hj hp K hK => ?_
  · (refine ⟨rfl, (by first | exact ⟨_, rfl⟩ | exact ⟨[], by simp⟩), ?_, ?_⟩ <;> simp only [S1, simprocAttr, KNB] <;> (try and_intros) <;> (try assumption) <;> (try trivial) <;> (try omega))
  rcases Nat.lt_or_ge j (i7 fl i).length with hlt | hge
  · obtain ⟨x, hx⟩ : ∃ k, (i7 fl i)[j]? = some k := ⟨_, List.getElem?_eq_getElem hlt⟩
    obtain ⟨xi, f, hxi, rfl, hf, _⟩ := F1 (List.mem_of_getElem? hx)
    obtain ⟨d1, d2⟩ := hd f (List.mem_of_getElem? hf)
    obtain ⟨kx, hkx⟩ : ∃ k, ns[f.dst.toNat]? = some k := ⟨_, List.getElem?_eq_getElem (by omega)⟩
    have hkx' := I2 hkx
    have hf' := U6 hf
    have x0 : (0 : Int) ≤ (xi : Int) := Int.natCast_nonneg _
    have s1 := cw (p := B1 fl) hx
    have s2 := cw (p := X8 ns fl) hx
    have b1 := nJ (B1 fl) (i7 fl i) j
    have e1 : B1 fl (xi : Int) = f.els := by unfold B1; rw [Int.toNat_natCast, hf]
    have e2 : X8 ns fl (xi : Int) = (kx.kind != 8) := by unfold X8; rw [Int.toNat_natCast, hf]; simp only [w4, hkx]
    rw [e1] at s1
    rw [e2] at s2
    have w1 := IntWalk.i64_in ((aG (B1 fl) (i7 fl i) j : Int) + 1) (by omega)
    have n1 := H3 (l := i7 fl i) (i := j) (by omega) hlt
    have s3 : (aG (X8 ns fl) (i7 fl i) (j + 1) == 0) = ((aG (X8 ns fl) (i7 fl i) j == 0) && (kx.kind == 8)) := by
      rw [s2, Bool.eq_iff_iff]
      by_cases h8 : kx.kind = 8 <;> simp [h8]
    cases h1 : f.els <;> simp only [h1, if_true, Bool.false_eq_true, if_false, Nat.add_zero] at s1
    all_goals (repeat' (first | ((repeat ((fail_if_success (refine hK _ ?_)); clear hK K)); refine hK _ ?_; clear hK K) | ((first | refine b9 fun K1 q6 => ?_ | refine k4 fun K1 q6 => ?_ | refine b7 fun A B hA hB => ?_); simp only [S1, simprocAttr, G0, F5 hx, O1 hlt, n1, eF, eN, hf', hkx', h1, d1, d2, x0, w1, List.length_map]; first | refine q6 _ ?_; clear q6 K1 | ((first | refine hA ?_ | refine hB ?_); clear hA hB A B) | (refine l6 (v := ?_) (fun hg q8 => ?_) ?_; rotate_left; (focus (try ((try simp only [BN] at hg); simp only [S1, simprocAttr, G0, F5 hx, O1 hlt, n1, eF, eN, hf', hkx', h1, d1, d2, x0, w1, List.length_map, hg] at q8 ⊢)); exact q8); refine q6 _ ?_; clear q6 K1)) | refine b6 fun K hK => ?_ | ((first | apply b8 | apply i8 | apply b5 | refine i9 ?_ | apply c7 | apply c9); try simp only [NB, simprocAttr])))
    all_goals refine ⟨hlt, trivial, ?_⟩
    all_goals simp only [s1, s3]
    all_goals (refine ⟨rfl, (by first | exact ⟨_, rfl⟩ | exact ⟨[], by simp⟩), ?_, ?_⟩ <;> simp only [S1, simprocAttr, KNB] <;> (try and_intros) <;> (try assumption) <;> (try trivial) <;> (try omega))
  · obtain rfl : j = (i7 fl i).length := by omega
    have e0 : E1 ns fl i = E1 ns fl i := rfl
    conv at e0 => rhs; unfold E1
    rw [ekd] at e0
    by_cases k1 : kd.kind = 1
    · repeat' (first | ((repeat ((fail_if_success (refine hK _ ?_)); clear hK K)); refine hK _ ?_; clear hK K) | ((first | refine b9 fun K1 q6 => ?_ | refine b7 fun A B hA hB => ?_); simp only [S1, simprocAttr, G0, I1, k1, List.length_map]; first | refine q6 _ ?_; clear q6 K1 | ((first | refine hA ?_ | refine hB ?_); clear hA hB A B) | (refine l6 (v := ?_) (fun hg q8 => ?_) ?_; rotate_left; (focus (try ((try simp only [BN] at hg); simp only [S1, simprocAttr, G0, I1, k1, List.length_map, hg] at q8 ⊢)); exact q8); refine q6 _ ?_; clear q6 K1)) | refine b6 fun K hK => ?_ | ((first | apply b8 | apply b5 | apply c7 | apply f9 | apply d3); try simp only [NB, simprocAttr]))
      all_goals simp only [S1, simprocAttr, ENB, G0]
      all_goals simp [e0, k1]
      all_goals (rw [Bool.eq_iff_iff]; simp only [Bool.or_eq_true, Bool.and_eq_true, beq_iff_eq, decide_eq_true_eq]; omega)
    by_cases k2 : kd.kind = 2
    · repeat' (first | ((repeat ((fail_if_success (refine hK _ ?_)); clear hK K)); refine hK _ ?_; clear hK K) | ((first | refine b9 fun K1 q6 => ?_ | refine b7 fun A B hA hB => ?_); simp only [S1, simprocAttr, G0, I1, k2, List.length_map]; first | refine q6 _ ?_; clear q6 K1 | ((first | refine hA ?_ | refine hB ?_); clear hA hB A B) | (refine l6 (v := ?_) (fun hg q8 => ?_) ?_; rotate_left; (focus (try ((try simp only [BN] at hg); simp only [S1, simprocAttr, G0, I1, k2, List.length_map, hg] at q8 ⊢)); exact q8); refine q6 _ ?_; clear q6 K1)) | refine b6 fun K hK => ?_ | ((first | apply b8 | apply b5 | apply c7 | apply f9 | apply d3); try simp only [NB, simprocAttr]))
      all_goals simp only [S1, simprocAttr, ENB, G0]
      all_goals simp [e0, k2]
      all_goals (rw [Bool.eq_iff_iff]; simp only [Bool.or_eq_true, Bool.and_eq_true, beq_iff_eq, decide_eq_true_eq]; omega)
    by_cases k5 : kd.kind = 5
    · repeat' (first | ((repeat ((fail_if_success (refine hK _ ?_)); clear hK K)); refine hK _ ?_; clear hK K) | ((first | refine b9 fun K1 q6 => ?_ | refine b7 fun A B hA hB => ?_); simp only [S1, simprocAttr, G0, I1, k5, List.length_map]; first | refine q6 _ ?_; clear q6 K1 | ((first | refine hA ?_ | refine hB ?_); clear hA hB A B) | (refine l6 (v := ?_) (fun hg q8 => ?_) ?_; rotate_left; (focus (try ((try simp only [BN] at hg); simp only [S1, simprocAttr, G0, I1, k5, List.length_map, hg] at q8 ⊢)); exact q8); refine q6 _ ?_; clear q6 K1)) | refine b6 fun K hK => ?_ | ((first | apply b8 | apply b5 | apply c7 | apply f9 | apply c9 | apply d3); try simp only [NB, simprocAttr]))
      all_goals simp only [S1, simprocAttr, ENB, G0]
      all_goals simp [e0, k5]
      all_goals (rw [Bool.eq_iff_iff]; simp only [Bool.or_eq_true, Bool.and_eq_true, beq_iff_eq, decide_eq_true_eq]; omega)
    by_cases k6 : kd.kind = 6
    · repeat' (first | ((repeat ((fail_if_success (refine hK _ ?_)); clear hK K)); refine hK _ ?_; clear hK K) | ((first | refine b9 fun K1 q6 => ?_ | refine b7 fun A B hA hB => ?_); simp only [S1, simprocAttr, G0, I1, k6, List.length_map]; first | refine q6 _ ?_; clear q6 K1 | ((first | refine hA ?_ | refine hB ?_); clear hA hB A B) | (refine l6 (v := ?_) (fun hg q8 => ?_) ?_; rotate_left; (focus (try ((try simp only [BN] at hg); simp only [S1, simprocAttr, G0, I1, k6, List.length_map, hg] at q8 ⊢)); exact q8); refine q6 _ ?_; clear q6 K1)) | refine b6 fun K hK => ?_ | ((first | apply b8 | apply b5 | apply c7 | apply f9 | apply d3); try simp only [NB, simprocAttr]))
      all_goals simp only [S1, simprocAttr, ENB, G0]
      all_goals simp [e0, k6]
      all_goals (rw [Bool.eq_iff_iff]; simp only [Bool.or_eq_true, Bool.and_eq_true, beq_iff_eq, decide_eq_true_eq]; omega)
    by_cases k7 : kd.kind = 7
    · repeat' (first | ((repeat ((fail_if_success (refine hK _ ?_)); clear hK K)); refine hK _ ?_; clear hK K) | ((first | refine b9 fun K1 q6 => ?_ | refine b7 fun A B hA hB => ?_); simp only [S1, simprocAttr, G0, I1, k7, List.length_map]; first | refine q6 _ ?_; clear q6 K1 | ((first | refine hA ?_ | refine hB ?_); clear hA hB A B) | (refine l6 (v := ?_) (fun hg q8 => ?_) ?_; rotate_left; (focus (try ((try simp only [BN] at hg); simp only [S1, simprocAttr, G0, I1, k7, List.length_map, hg] at q8 ⊢)); exact q8); refine q6 _ ?_; clear q6 K1)) | refine b6 fun K hK => ?_ | ((first | apply b8 | apply b5 | apply c7 | apply f9 | apply d3); try simp only [NB, simprocAttr]))
      all_goals simp only [S1, simprocAttr, ENB, G0]
      all_goals simp [e0, k7]
      all_goals (rw [Bool.eq_iff_iff]; simp only [Bool.or_eq_true, Bool.and_eq_true, beq_iff_eq, decide_eq_true_eq]; omega)
    · have f1 : (kd.kind == 1) = false := by simp [k1]
      have f2 : (kd.kind == 2) = false := by simp [k2]
      have f5 : (kd.kind == 5) = false := by simp [k5]
      have f6 : (kd.kind == 6) = false := by simp [k6]
      have f7 : (kd.kind == 7) = false := by simp [k7]
      repeat' (first | ((repeat ((fail_if_success (refine hK _ ?_)); clear hK K)); refine hK _ ?_; clear hK K) | ((first | refine b9 fun K1 q6 => ?_ | refine b7 fun A B hA hB => ?_); simp only [S1, simprocAttr, G0, I1, f1, f2, f5, f6, f7, List.length_map]; first | refine q6 _ ?_; clear q6 K1 | (refine hB ?_; clear hA hB A B) | (refine l6 (v := ?_) (fun hg q8 => ?_) ?_; rotate_left; (focus (try ((try simp only [BN] at hg); simp only [S1, simprocAttr, G0, I1, f1, f2, f5, f6, f7, List.length_map, hg] at q8 ⊢)); exact q8); refine q6 _ ?_; clear q6 K1)) | refine b6 fun K hK => ?_ | ((first | apply b8 | apply b5 | apply c7 | apply f9 | apply c9 | apply d3); try simp only [NB, simprocAttr]))
      all_goals simp only [S1, simprocAttr, ENB, G0]
      all_goals simp [e0, k1, k2, k5, k6, k7]
      all_goals (rw [Bool.eq_iff_iff]; simp only [Bool.or_eq_true, Bool.and_eq_true, beq_iff_eq, decide_eq_true_eq]; omega)
end
section
def wl (h h' : Heap) : Prop := h'.length = h.length ∧ ∀ (b : Nat) (bk' : Blk), h'[b]? = some (some bk') → ∃ bk : Blk, h[b]? = some (some bk) ∧ bk.g = bk'.g ∧ (bk.cells = [] ↔ bk'.cells = [])
theorem fX {ι : Nat → Nat × Nat} {h h' : Heap} (ha : wl h h') {k : Nat} (ho : own ι h' k) : own ι h k := by
  obtain ⟨b, bk', q1, q2, q3⟩ := ho
  obtain ⟨bk, p1, p2, p3⟩ := ha.2 b bk' q1
  exact ⟨b, bk, p1, fun e => q2 (p3.mp e), q3⟩
theorem VRel.alike {ι : Nat → Nat × Nat} {h h' : Heap} {w : World} {x : AV} {v : Value} (ha : wl h h') (hx : VRel ι h w x v) : VRel ι h' w x v := by
  have lv : ∀ b g : Nat, A7 h' b g → A7 h b g := by
    rintro b g ⟨bk', q1, q2⟩
    obtain ⟨bk, p1, p2, p3⟩ := ha.2 b bk' q1
    exact ⟨bk, p1, by omega⟩
  have gg : ∀ b g : Nat, (∀ bk : Blk, h[b]? = some (some bk) → g ≤ bk.g) → ∀ bk : Blk, h'[b]? = some (some bk) → g ≤ bk.g := by
    intro b g hg bk' q1
    obtain ⟨bk, p1, p2, p3⟩ := ha.2 b bk' q1
    have := hg bk p1; omega
  have oo : ∀ k, k < w.heap.size → ¬ own ι h k → w.heap[k]? = w.heap[k]? ∧ ¬ own ι h' k := fun k _ ho => ⟨rfl, fun e => ho (fX ha e)⟩
  induction hx with
  | p x v hx => exact .p _ _ (hx.mono (Nat.le_refl _) oo)
  | agg cells vs hl hv ih => exact .agg _ _ hl ih
  | tup cells vs hl hv ih => exact .tup _ _ hl ih
  | fn f cells vs hl hv ih => exact .fn _ _ _ hl ih
  | ref b g off sz len A c hn hb hg hv =>
    refine .ref _ _ _ _ _ _ _ hn (by rw [ha.1]; exact hb) (gg b g hg) fun hl => ?_
    rcases hv (lv b g hl) with hz | ⟨hA, hle, ⟨bk0, q0, hne⟩, hcs⟩
    · exact .inl hz
    · obtain ⟨bk', q1, q2⟩ := hl
      obtain ⟨bk, p1, p2, p3⟩ := ha.2 b bk' q1
      rw [p1] at q0
      obtain rfl := Option.some.inj (Option.some.inj q0)
      exact .inr ⟨hA, hle, ⟨bk', q1, fun e => hne (p3.mpr e)⟩, hcs⟩
  | ptr b g off A hb hg hv => exact .ptr _ _ _ _ (by rw [ha.1]; exact hb) (gg b g hg) fun hl => hv (lv b g hl)
  | pin cells blk off hv => exact .pin _ _ _ (hv.mono (Nat.le_refl _) oo)
  | mref b g r hb hg hv => exact .mref _ _ _ (by rw [ha.1]; exact hb) (gg b g hg) fun hl => hv (lv b g hl)
section
variable {P : Program} {G : Nat → Option (List PV)} {h0 : Heap} {s : St}
theorem um {h : Heap} {b j : Nat} {bk : Blk} {x' : AV} (hb : h[b]? = some (some bk)) : wl h (h.set b (some ⟨bk.g, bk.cells.set j x'⟩)) := by
  refine ⟨by simp, fun c bk' hc => ?_⟩
  rw [List.getElem?_set] at hc
  split at hc
  · rename_i e; subst e
    split at hc
    · obtain rfl := Option.some.inj (Option.some.inj hc)
      exact ⟨bk, hb, rfl, by simp only [← List.length_eq_zero_iff, List.length_set]⟩
    · cases hc
  · exact ⟨bk', hc, rfl, Iff.rfl⟩
theorem o8.cell {b j : Nat} {bk : Blk} {x x' : AV} (hb : s.heap[b]? = some (some bk)) (hx : bk.cells[j]? = some x) (hnm : ∀ es, x ≠ .mp es) (hv : ∀ ι w v, VRel ι s.heap w x v → VRel ι s.heap w x' v) (hbl : h0.length ≤ b) :
    o8 P G h0 s ⟨s.fr, s.nt, s.heap.set b (some ⟨bk.g, bk.cells.set j x'⟩)⟩ := by
  intro ι a w ι0 w0 hS hs he
  have ha := um (j := j) (x' := x') hb
  have hlo : ∀ (c : Nat) (bk' : Blk), (s.heap.set b (some ⟨bk.g, bk.cells.set j x'⟩))[c]? = some (some bk') → (c = b ∧ bk' = ⟨bk.g, bk.cells.set j x'⟩) ∨ s.heap[c]? = some (some bk') := by
    intro c bk' hc
    rw [List.getElem?_set] at hc
    split at hc
    · rename_i e
      split at hc
      · exact .inl ⟨e.symm, (Option.some.inj (Option.some.inj hc)).symm⟩
      · cases hc
    · exact .inr hc
  have oo : ∀ k, k < w.heap.size → ¬ own ι s.heap k → w.heap[k]? = w.heap[k]? ∧ ¬ own ι (s.heap.set b (some ⟨bk.g, bk.cells.set j x'⟩)) k := fun k _ ho => ⟨rfl, fun e => ho (fX ha e)⟩
  refine ⟨ι, ⟨⟨⟨fun c bk' hc hne => ?_, fun c c' k k' q1 q2 n1 n2 e => ?_⟩, fun g cells hg => (hs.hS.gr g cells hg).mono (Nat.le_refl _) oo⟩, fun k y hy => ?_, hs.nt, hs.df⟩, ?_⟩
  · rcases hlo c bk' hc with ⟨rfl, rfl⟩ | hc
    · have hne' : bk.cells ≠ [] := by
        intro e
        rw [e] at hx; simp at hx
      have hB := hs.hS.hr.blk c bk hb hne'
      rcases hB with ⟨cs, ty, p1, p2, p3⟩ | ⟨es, e1, _⟩
      case inr =>
        rw [e1] at hx
        cases j with
        | zero => simp at hx; exact absurd hx.symm (hnm es)
        | succ j => simp at hx
      refine .inl ⟨cs, ty, p1, by simpa using p2, fun i y hy => ?_⟩
      simp only [List.getElem?_set] at hy
      split at hy
      · rename_i e; subst e
        split at hy
        · cases hy
          obtain ⟨v, r1, r2⟩ := p3 j x hx
          exact ⟨v, r1, (hv ι w v r2).alike ha⟩
        · cases hy
      · obtain ⟨v, r1, r2⟩ := p3 i y hy
        exact ⟨v, r1, r2.alike ha⟩
    · exact (hs.hS.hr.blk c bk' hc hne).keep rfl rfl (fun y _ v hv => hv.alike ha) (Nat.le_refl _) oo
  · obtain ⟨k0, p1, p2, p3⟩ := ha.2 c k q1
    obtain ⟨k1, r1, r2, r3⟩ := ha.2 c' k' q2
    exact hs.hS.hr.inj c c' k0 k1 p1 r1 (fun e => n1 (p3.mp e)) (fun e => n2 (r3.mp e)) e
  · obtain ⟨v, p1, p2⟩ := hs.fr k y hy
    exact ⟨v, p1, p2.alike ha⟩
  · refine ⟨he.size, fun k hk ho => ⟨(he.keep k hk ho).1, fun e => (he.keep k hk ho).2 (fX ha e)⟩, by rw [ha.1]; exact he.len, fun c bk' hc hq => ?_, he.os, he.output, he.tape, he.drawn⟩
    rcases hlo c bk' hq with ⟨rfl, _⟩ | hq
    · omega
    · exact he.gens c bk' hc hq
theorem o8.adoptCell {b j : Nat} {bk : Blk} (sz : Nat) (hb : s.heap[b]? = some (some bk)) (hx : bk.cells[j]? = some (.p .nils)) (hbl : h0.length ≤ b) :
    o8 P G h0 s ⟨s.fr, s.nt, (s.heap ++ [some ⟨0, []⟩] : Heap).set b (some ⟨bk.g, bk.cells.set j (.ref s.heap.length 0 0 sz 0)⟩)⟩ := by
  have hlt : b < s.heap.length := j4 hb
  refine (o8.lay (s := s)).trans (o8.cell (s := (⟨s.fr, s.nt, s.heap ++ [some ⟨0, []⟩]⟩ : St)) (b := b) (j := j) (bk := bk) (by rw [List.getElem?_append_left hlt]; exact hb) hx (fun es e => by cases e) (fun ι w v hv => ?_) hbl)
  have := hv.nils_inv; subst this
  exact VRel.ref _ _ _ _ _ none 0 (by omega) (by simp) (fun bk hq => Nat.zero_le _) fun _ => Or.inl ⟨rfl, rfl⟩
end
def X9 {α : Type} (e : α → List PV) (l : List α) : List PV := l.flatMap e
theorem fY {α : Type} {e : α → List PV} {sz : Nat} (he : ∀ a, (e a).length = sz) : ∀ l : List α, (X9 e l).length = l.length * sz
  | [] => by simp [X9]
  | x :: r => by
    have := fY he r
    unfold X9 at this ⊢
    rw [List.flatMap_cons, List.length_append, this, he, List.length_cons, Nat.add_mul]; omega
theorem hQ {α : Type} {e : α → List PV} {sz : Nat} (he : ∀ a, (e a).length = sz) : ∀ l : List α, B7 sz l.length (X9 e l) = l.map e
  | [] => rfl
  | x :: r => by
    have := hQ he r
    have e1 : X9 e (x :: r) = e x ++ X9 e r := rfl
    rw [List.length_cons, B7, e1, List.take_left' (he x), List.drop_left' (he x), this]; rfl
theorem rG (h : Heap) (n fuel : Nat) : ∀ l : List PV, (∀ x ∈ l, x ≠ .nils) → L4 h n fuel (l.map AV.p) = some l
  | [], _ => by unfold L4; rfl
  | x :: r, hx => by
    have ih := rG h n fuel r fun y hy => hx y (by simp [hy])
    have h0 := hx x (by simp)
    simp only [List.map_cons]
    unfold L4
    rw [ih]
    have : pur h n fuel (AV.p x) = some x := by
      cases x with
      | nils => exact absurd rfl h0
      | _ => unfold pur; rfl
    rw [this]
theorem wm {α : Type} {e : α → List PV} {sz : Nat} (he : ∀ a, (e a).length = sz) (hz : ∀ a, ∀ x ∈ e a, x ≠ .nils) {h : Heap} {n fuel b g m : Nat} {l : List α} (hm : m = l.length) (hb : s8 h b g = some ((X9 e l).map AV.p)) (hn : n ≤ b) :
    pur h n (fuel + 1) (.ref b g 0 sz m) = some (.sl (l.map e)) := by
  subst hm
  unfold pur
  by_cases h0 : l.length = 0
  · rw [if_pos h0]; have := List.eq_nil_of_length_eq_zero h0; subst this; rfl
  · rw [if_neg h0, hb]
    simp only [hn, true_and, Nat.zero_add, List.length_map, fY he, Nat.le_refl, if_true, List.drop_zero]
    rw [List.take_of_length_le (by rw [List.length_map, fY he]; exact Nat.le_refl _), rG _ _ _ _ (fun x hx => by
      unfold X9 at hx
      obtain ⟨a, _, ha⟩ := List.mem_flatMap.mp hx
      exact hz a x ha)]
    simp only [Option.map_some, hQ he]
theorem fZ {α : Type} {e : α → List PV} {sz : Nat} (he : ∀ a, (e a).length = sz) (hz : ∀ a, ∀ x ∈ e a, x ≠ .nils) {P : Program} {h : Heap} {K : AV → Prop} {x : Exit} {s : St} (hx : x = .normal ∨ x = .ret) {t b g m : Nat} {l : List α} (hm : m = l.length) (hf : s.fr t = some (.ref b g 0 sz m))
    (hb : s8 s.heap b g = some ((X9 e l).map AV.p)) (hn : h.length ≤ b) (ht : s.heap.take h.length = h) (hle : h.length ≤ s.heap.length) (hk : K (.p (.sl (l.map e)))) : iL P [.tmp t] h K x s := by
  have key : W8 P [.tmp t] h K s := by
    unfold W8
    simp only [Q3, Q2, I4, hf, F8, E6, wm he hz hm hb hn, Option.map_some]
    exact ⟨ht, hle, hk⟩
  rcases hx with rfl | rfl <;> exact key
theorem eO {P : Program} {h : Heap} {K : AV → Heap → Prop} {s : St} {t : Nat} {v : AV} (hf : s.fr t = some v) (hl : h.length ≤ s.heap.length) (hk : K v s.heap) : zn P [.tmp t] h K s := by
  unfold zn
  refine ⟨hl, ?_⟩
  simp only [Q3, Q2, I4, hf]
  exact hk
end
section
def lZ := And.intro T2 (And.intro T3 (And.intro T4 (And.intro T22 (And.intro T23 (And.intro T25 (And.intro T41 (And.intro T73 (And.intro T75 (And.intro T77 (And.intro T80 (And.intro po (And.intro vV (And.intro vW uc)))))))))))))
attribute [local irreducible] awp n9 k3 l8 o6
variable {G : Nat → Option (List PV)}
def eQ (q : Int × Int) : List PV := [.int .i64 q.1, .int .i64 q.2]
abbrev aQ (l : List (Int × Int)) : AV := .p (.sl (l.map eQ))
def T6 (l : List (Int × Int)) : List Int := l.flatMap fun q => [q.1, q.2]
theorem N1 : ∀ l : List (Int × Int), (T6 l).length = l.length * 2
  | [] => rfl
  | x :: r => by
    have := N1 r
    unfold T6 at this ⊢
    rw [List.flatMap_cons, List.length_append, this, List.length_cons]; simp only [List.length_cons, List.length_nil]; omega
theorem ma (l : List (Int × Int)) (a b : Int) : T6 (l ++ [(a, b)]) = T6 l ++ [a, b] := by
  unfold T6; rw [List.flatMap_append]; rfl
theorem hY : ∀ l : List (Int × Int), B7 2 l.length ((T6 l).map (PV.int .i64)) = l.map eQ
  | [] => rfl
  | x :: r => by
    have := hY r
    show B7 2 (r.length + 1) ((T6 (x :: r)).map (PV.int .i64)) = eQ x :: r.map eQ
    have e : T6 (x :: r) = x.1 :: x.2 :: T6 r := rfl
    rw [e, ← this]
    rfl
theorem un {h : Heap} {n fuel b g m : Nat} {l : List (Int × Int)} (hm : m = l.length) (hb : s8 h b g = some ((T6 l).map AV.i)) (hn : n ≤ b) : pur h n (fuel + 1) (.ref b g 0 2 m) = some (.sl (l.map eQ)) := by
  subst hm
  unfold pur
  by_cases h0 : l.length = 0
  · rw [if_pos h0]; have := List.eq_nil_of_length_eq_zero h0; subst this; rfl
  · rw [if_neg h0, hb]
    simp only [hn, true_and, Nat.zero_add, List.length_map, N1, Nat.le_refl, if_true, List.drop_zero]
    rw [List.take_of_length_le (by rw [List.length_map, N1]; exact Nat.le_refl _), fT]
    simp only [Option.map_some, hY]
def plF (rule : Int) (p : Nat → Bool) (n : Nat) : List (Int × Int) := ((List.range n).filter p).map fun (i : Nat) => (rule, (i : Int))
theorem wn (rule : Int) (p : Nat → Bool) (n : Nat) : plF rule p (n + 1) = plF rule p n ++ (if p n = true then [(rule, (n : Int))] else []) := by
  unfold plF
  rw [List.range_succ, List.filter_append, List.map_append]
  congr 1
  cases h : p n <;> simp [h]
theorem wo (rule : Int) (p : Nat → Bool) (n : Nat) : (plF rule p n).length ≤ n := by
  unfold plF
  rw [List.length_map]
  exact Nat.le_trans (List.length_filter_le _ _) (by simp)
theorem wq (rule : Int) (p : Nat → Bool) (n : Nat) : (plF rule p n).head? = ((List.range n).find? p).map fun (i : Nat) => (rule, (i : Int)) := by
  unfold plF
  rw [List.head?_map, List.head?_filter]
theorem ze {n i : Nat} (hk : n ≤ 1000) (h : i < n) : IntKind.i64.wrap ((i : Int) + 1) = ((i + 1 : Nat) : Int) := by rw [IntWalk.i64_in _ (by omega)]; omega
theorem AP {n i : Nat} (h : i < n) : decide ((i : Int) < (n : Int)) = true := by simp; omega
theorem BF {n : Nat} : decide ((n : Int) < (n : Int)) = false := by simp
theorem U7 {f : FuncId} (hE : g8 Tryz.prog f) {caps : List AV} {p : Nat → Bool} (rule : Int) (n : Nat) (hn : n ≤ 100) (h : Heap) (hcap : o4 h.length caps)
    (hc : ∀ L, ∀ i : Nat, i < n → d5 Tryz.prog G f (.i i :: caps) (h ++ L) (fun r h' => r = .b (p i) ∧ h' = h ++ L)) :
    d5 Tryz.prog G 100 [.i rule, .i n, .fn f caps] h (fun r h' => r = .ref h.length (plF rule p n).length 0 2 (plF rule p n).length ∧ h' = h ++ [some ⟨(plF rule p n).length, (T6 (plF rule p n)).map AV.i⟩]) := by
  refine Sim.evoKeep (rl := []) e9 Tryz.func100 rfl (by rw [Tryz.ntmps100]; simp) ?_
  rw [Tryz.ntmps100]
  refine b6 fun K hK => ?_
  repeat' (first | (apply b8; (try simp only [NB]); ((repeat ((fail_if_success (refine hK _ ?_)); clear hK K)); refine hK _ ?_; clear hK K)) | (refine b9 fun K1 q6 => ?_; simp only [S1, simprocAttr, lZ]; refine q6 _ ?_; clear q6 K1) | (apply b5; try simp only [NB, simprocAttr]; (try ((repeat ((fail_if_success (refine hK _ ?_)); clear hK K)); refine hK _ ?_; clear hK K))))
  refine b6 fun K hK => ?_
  repeat' (first | (apply b8; (try simp only [NB]); ((repeat ((fail_if_success (refine hK _ ?_)); clear hK K)); refine hK _ ?_; clear hK K)) | (refine b9 fun K1 q6 => ?_; simp only [S1, simprocAttr, lZ]; refine q6 _ ?_; clear q6 K1) | (apply b5; try simp only [NB, simprocAttr]; (try ((repeat ((fail_if_success (refine hK _ ?_)); clear hK K)); refine hK _ ?_; clear hK K))))
  refine b6 fun K hK => ?_
  repeat' (first | ((repeat ((fail_if_success (refine hK _ ?_)); clear hK K)); refine hK _ ?_; clear hK K) | (refine b9 fun K1 q6 => ?_; simp only [S1, simprocAttr, lZ]; refine q6 _ ?_; clear q6 K1) | refine b6 fun K hK => ?_ | ((first | apply b8 | apply b5 | apply c7); try simp only [NB, simprocAttr]))
  have hcap1 := E0 (Nat.le_add_right h.length 1) caps hcap
  refine F0 n 24 (fun j => [(10, .i j), (9, .i n), (7, .ref h.length (plF rule p j).length 0 2 (plF rule p j).length), (2, .fn f caps), (0, .i rule)])
    (fun j => [some ⟨(plF rule p j).length, (T6 (plF rule p j)).map AV.i⟩]) (fun j => True) ?_ trivial fun j hj hp K hK => ?_
  · refine (o8.adopt 7 2 rfl).trans (Sub.ghost ⟨rfl, ⟨[], by simp [plF, T6]⟩, ?_, ?_⟩)
    · simp only [K4, s7, plF, G5, frL, List.length_cons, List.length_nil]
      simp
      exact hcap1
    · simp [B9, o4, s7, plF, T6]
  rcases Nat.lt_or_ge j n with hlt | hge
  · have hck := fun L => hc L j hlt
    have hle := wo rule p j
    have hmax : (plF rule p j).length + 1 ≤ j7 := by unfold j7; omega
    have e1 := wn rule p j
    cases hq : p j with
    | false =>
      rw [hq] at hck
      rw [hq, if_neg (by decide), List.append_nil] at e1
      repeat' (first | ((repeat ((fail_if_success (refine hK _ ?_)); clear hK K)); refine hK _ ?_; clear hK K) | ((first | refine b9 fun K1 q6 => ?_ | refine b7 fun A B hA hB => ?_); simp only [S1, simprocAttr, lZ, AP hlt, ze (by omega : n ≤ 1000) hlt]; first | refine q6 _ ?_; clear q6 K1 | ((first | refine hA ?_ | refine hB ?_); clear hA hB A B) | (apply d4 hE; exact (hck _); refine q6 _ ?_; clear q6 K1)) | refine b6 fun K hK => ?_ | ((first | apply b8 | apply b5 | apply c7 | apply c9); try simp only [NB, simprocAttr]))
      all_goals refine ⟨hlt, trivial, ?_⟩
      all_goals simp only [e1]
      all_goals refine ⟨rfl, ⟨_, rfl⟩, ?_, I9 _ _, trivial⟩
      all_goals simp only [S1, simprocAttr, KNB] <;> (try and_intros) <;> (try assumption) <;> (try trivial) <;> (try omega)
    | true =>
      rw [hq] at hck
      rw [hq, if_pos rfl] at e1
      repeat' (first | ((repeat ((fail_if_success (refine hK _ ?_)); clear hK K)); refine hK _ ?_; clear hK K) | ((first | refine b9 fun K1 q6 => ?_ | refine b7 fun A B hA hB => ?_); simp only [S1, simprocAttr, lZ, AP hlt, ze (by omega : n ≤ 1000) hlt, N1, hmax, List.length_map, Nat.mul_one]; first | refine q6 _ ?_; clear q6 K1 | (refine hA ?_; clear hA hB A B) | (apply d4 hE; exact (hck _); refine q6 _ ?_; clear q6 K1)) | refine b6 fun K hK => ?_ | ((first | apply b8 | apply b5 | apply c7 | apply c9); try simp only [NB, simprocAttr]))
      all_goals refine ⟨hlt, trivial, ?_⟩
      all_goals simp only [e1, ma, List.length_append, List.map_append, List.length_cons, List.length_nil, List.map_cons, List.map_nil, Nat.zero_add]
      all_goals refine ⟨rfl, ⟨_, rfl⟩, ?_, ?_⟩
      · simp only [S1, simprocAttr, KNB] <;> (try and_intros) <;> (try assumption) <;> (try trivial) <;> (try omega)
      · simp only [B9]; exact ⟨(by have := I9 (h.length + 1) (T6 (plF rule p j) ++ [rule, (j : Int)]); simpa using this), trivial⟩
  · obtain rfl : j = n := by omega
    repeat' (first | ((repeat ((fail_if_success (refine hK _ ?_)); clear hK K)); refine hK _ ?_; clear hK K) | ((first | refine b9 fun K1 q6 => ?_ | refine b7 fun A B hA hB => ?_); simp only [S1, simprocAttr, lZ, BF]; first | refine q6 _ ?_; clear q6 K1 | (refine hB ?_; clear hA hB A B)) | refine b6 fun K hK => ?_ | ((first | apply b8 | apply b5 | apply f9 | apply d3); try simp only [NB, simprocAttr]))
    exact ⟨.inr trivial, eO (t := 6) rfl (by simp) ⟨rfl, rfl⟩⟩
end
section
def cW := And.intro T2 (And.intro T3 (And.intro T4 (And.intro T22 (And.intro T23 (And.intro T25 (And.intro T41 (And.intro T73 (And.intro T75 (And.intro T77 (And.intro T80 (And.intro po (And.intro vV (And.intro vW uc)))))))))))))
attribute [local irreducible] awp n9 k3 l8 o6
variable {G : Nat → Option (List PV)}
structure NetOk (ns : List Nd) (fl : List Fl) : Prop where
  n : ns.length ≤ 100
  f : fl.length ≤ 100
  tn : ∃ m, m ≤ 200 ∧ ∀ k ∈ ns, Tm.Ok m k.term
  tf : ∃ m, m ≤ 200 ∧ ∀ k ∈ fl, Tm.Ok m k.cond
def Z3 (ns : List Nd) (i : Nat) : Bool := match ns[i]? with | some k => !(bw k.kind k.a k.term) | none => false
def Z4 (ns : List Nd) (fl : List Fl) (i : Nat) : Bool := match fl[i]? with | some f => !(aD ns fl f) | none => false
def X0 (ns : List Nd) (fl : List Fl) (i : Nat) : Bool := (!(E1 ns fl i) || (w4 ns i == 1 && ((i : Int) != m9 ns 1))) || (w4 ns i == 2 && ((i : Int) != m9 ns 2))
noncomputable def eP (ns : List Nd) (fl : List Fl) (i : Nat) : Bool :=
  !((P0 (C5 false fl) ns.length (m9 ns 1).toNat)[i]?.getD false) || !((P0 (C5 true fl) ns.length (m9 ns 2).toNat)[i]?.getD false)
theorem rH (ns : List Nd) (fl : List Fl) (ok : NetOk ns fl) (i : Nat) (hi : i < ns.length) (H : Heap) {b g : Nat} (hb : H[b]? = some (some ⟨g, x8 ns fl⟩)) : d5 Tryz.prog gW 101 [.i i, .ptr b g 0] H (fun r h' => r = .b (Z3 ns i) ∧ h' = H) := by
  obtain ⟨k, hk⟩ : ∃ k, ns[i]? = some k := ⟨_, List.getElem?_eq_getElem hi⟩
  obtain ⟨m, hm, ht⟩ := ok.tn
  have hk' := I2 hk
  have i0 : (0 : Int) ≤ (i : Int) := by omega
  have e : Z3 ns i = !(bw k.kind k.a k.term) := by unfold Z3; rw [hk]
  rw [e]
  refine c8 (rl := []) e9 Tryz.func101 rfl (rs := [.tmp 3]) rfl Tryz.ntmps101 (by simp) ?_
  repeat' (first | ((repeat ((fail_if_success (refine hK _ ?_)); clear hK K)); refine hK _ ?_; clear hK K) | (refine b9 fun K1 q6 => ?_; simp only [S1, simprocAttr, cW, hb, J8 hb, i0, hk', eN]; first | refine q6 _ ?_; clear q6 K1 | (apply d4 Bf; exact (pC (ht k (List.mem_of_getElem? hk)) _ _ _); refine q6 _ ?_; clear q6 K1)) | refine b6 fun K hK => ?_ | ((first | apply b8 | apply b5 | apply d3); try simp only [NB, simprocAttr]))
  all_goals simp only [S1, simprocAttr, ENB, cW]
theorem rI (ns : List Nd) (fl : List Fl) (ok : NetOk ns fl) (i : Nat) (hi : i < fl.length) (H : Heap) {b g : Nat} (hb : H[b]? = some (some ⟨g, x8 ns fl⟩)) : d5 Tryz.prog gW 103 [.i i, .ptr b g 0] H (fun r h' => r = .b (Z4 ns fl i) ∧ h' = H) := by
  obtain ⟨k, hk⟩ : ∃ k, fl[i]? = some k := ⟨_, List.getElem?_eq_getElem hi⟩
  obtain ⟨m, hm, ht⟩ := ok.tf
  have hk' := U6 hk
  have i0 : (0 : Int) ≤ (i : Int) := by omega
  have e : Z4 ns fl i = !(aD ns fl k) := by unfold Z4; rw [hk]
  rw [e]
  refine c8 (rl := []) e9 Tryz.func103 rfl (rs := [.tmp 3]) rfl Tryz.ntmps103 (by simp) ?_
  repeat' (first | ((repeat ((fail_if_success (refine hK _ ?_)); clear hK K)); refine hK _ ?_; clear hK K) | ((first | refine b9 fun K1 q6 => ?_ | refine k4 fun K1 q6 => ?_); simp only [S1, simprocAttr, cW, hb, J8 hb, i0, hk', eF]; first | refine q6 _ ?_; clear q6 K1 | (apply j5 Bh; exact (pM ns ok.n fl ok.f k (ht k (List.mem_of_getElem? hk)) _); refine q6 _ ?_; clear q6 K1)) | refine b6 fun K hK => ?_ | ((first | apply b8 | apply i8 | apply b5 | refine i9 ?_ | apply d3); try simp only [NB, simprocAttr]))
  all_goals simp only [S1, simprocAttr, ENB, cW]
theorem nL (ns : List Nd) (fl : List Fl) (ok : NetOk ns fl) (hd : InN ns.length fl) (i : Nat) (hi : i < ns.length) (H : Heap) {b g b1 g1 b2 g2 : Nat} (hb : H[b]? = some (some ⟨g, x8 ns fl⟩)) (hb1 : H[b1]? = some (some ⟨g1, [.i (m9 ns 1)]⟩)) (hb2 : H[b2]? = some (some ⟨g2, [.i (m9 ns 2)]⟩)) :
    d5 Tryz.prog G 135 [.i i, .ptr b g 0, .ptr b1 g1 0, .ptr b2 g2 0] H (fun r h' => r = .b (X0 ns fl i) ∧ h' = H) := by
  obtain ⟨k, hk⟩ : ∃ k, ns[i]? = some k := ⟨_, List.getElem?_eq_getElem hi⟩
  have hk' := I2 hk
  have i0 : (0 : Int) ≤ (i : Int) := by omega
  have e : w4 ns i = k.kind := by unfold w4; rw [Int.toNat_natCast, hk]
  unfold X0
  rw [e]
  refine c8 (rl := []) e9 Tryz.func135 rfl (rs := [.tmp 5]) rfl Tryz.ntmps135 (by simp) ?_
  repeat' (first | ((repeat ((fail_if_success (refine hK _ ?_)); clear hK K)); refine hK _ ?_; clear hK K) | (refine b9 fun K1 q6 => ?_; simp only [S1, simprocAttr, cW, hb, hb1, hb2, i0, hk', eN]; first | refine q6 _ ?_; clear q6 K1 | (apply d4 Bq; exact (nK ns ok.n fl ok.f (fun f hf => (hd f hf).2) i i0 (by omega) _); refine q6 _ ?_; clear q6 K1) | (refine l6 (v := ?_) (fun hg q8 => ?_) ?_; rotate_left; (focus (try ((try simp only [BN] at hg); simp only [S1, simprocAttr, cW, hb, hb1, hb2, i0, hk', eN, hg] at q8 ⊢)); exact q8); refine q6 _ ?_; clear q6 K1)) | refine b6 fun K hK => ?_ | ((first | apply b8 | apply b5 | apply d3); try simp only [NB, simprocAttr]))
  all_goals simp only [S1, simprocAttr, ENB, cW]
theorem rJ (ns : List Nd) (fl : List Fl) (i : Nat) (hi : i < ns.length) (H : Heap) {b1 g1 b2 g2 : Nat} (hb1 : H[b1]? = some (some ⟨g1, [aBl (P0 (C5 false fl) ns.length (m9 ns 1).toNat)]⟩)) (hb2 : H[b2]? = some (some ⟨g2, [aBl (P0 (C5 true fl) ns.length (m9 ns 2).toNat)]⟩)) :
    d5 Tryz.prog G 108 [.i i, .ptr b1 g1 0, .ptr b2 g2 0] H (fun r h' => r = .b (eP ns fl i) ∧ h' = H) := by
  have l1 := V8 (C5 false fl) ns.length (m9 ns 1).toNat
  have l2 := V8 (C5 true fl) ns.length (m9 ns 2).toNat
  have i0 : (0 : Int) ≤ (i : Int) := by omega
  unfold eP
  generalize P0 (C5 false fl) ns.length (m9 ns 1).toNat = a at *
  generalize P0 (C5 true fl) ns.length (m9 ns 2).toNat = c at *
  obtain ⟨x, hx⟩ : ∃ x, a[i]? = some x := ⟨_, List.getElem?_eq_getElem (by omega)⟩
  obtain ⟨y, hy⟩ : ∃ x, c[i]? = some x := ⟨_, List.getElem?_eq_getElem (by omega)⟩
  have hx' : (a.map eB)[i]? = some [.bool x] := by simp [hx, eB]
  have hy' : (c.map eB)[i]? = some [.bool y] := by simp [hy, eB]
  rw [hx, hy]
  simp only [Option.getD_some]
  refine c8 (rl := []) e9 Tryz.func108 rfl (rs := [.tmp 4]) rfl Tryz.ntmps108 (by simp) ?_
  repeat' (first | ((repeat ((fail_if_success (refine hK _ ?_)); clear hK K)); refine hK _ ?_; clear hK K) | (refine b9 fun K1 q6 => ?_; simp only [S1, simprocAttr, cW, hb1, hb2, i0, hx', hy']; first | refine q6 _ ?_; clear q6 K1 | (refine l6 (v := ?_) (fun hg q8 => ?_) ?_; rotate_left; (focus (try ((try simp only [BN] at hg); simp only [S1, simprocAttr, cW, hb1, hb2, i0, hx', hy', hg] at q8 ⊢)); exact q8); refine q6 _ ?_; clear q6 K1)) | refine b6 fun K hK => ?_ | ((first | apply b8 | apply b5 | apply d3); try simp only [NB, simprocAttr]))
  all_goals simp only [S1, simprocAttr, ENB, cW]
end
section
def ia := And.intro T2 (And.intro T3 (And.intro T4 (And.intro T22 (And.intro T23 (And.intro T25 (And.intro T41 (And.intro T73 (And.intro T75 (And.intro T77 (And.intro T80 (And.intro po (And.intro vV (And.intro vW uc)))))))))))))
attribute [local irreducible] awp n9 k3 l8 o6 n5
variable {G : Nat → Option (List PV)}
theorem W1 {P : Program} {h : Heap} {K : AV → Prop} {e : Exit} {s : St} (he : e = .normal ∨ e = .ret) {t b g m : Nat} {l : List (Int × Int)} (hm : m = l.length) (hf : s.fr t = some (.ref b g 0 2 m)) (hb : s8 s.heap b g = some ((T6 l).map AV.i)) (hn : h.length ≤ b)
    (ht : s.heap.take h.length = h) (hle : h.length ≤ s.heap.length) (hk : K (aQ l)) : iL P [.tmp t] h K e s := by
  have key : W8 P [.tmp t] h K s := by
    unfold W8
    simp only [Q3, Q2, I4, hf, F8, E6, un hm hb hn, Option.map_some]
    exact ⟨ht, hle, hk⟩
  rcases he with rfl | rfl <;> exact key
def K9 (ns : List Nd) : Bool := decide (m9 ns 1 < 0) || decide (m9 ns 2 < 0)
def G8 (ns : List Nd) (fl : List Fl) : List (Int × Int) := plF 3 (X0 ns fl) ns.length ++ (if K9 ns = true then [(3, (ns.length : Int))] else [])
theorem ib (ns : List Nd) (fl : List Fl) (ok : NetOk ns fl) (hd : InN ns.length fl) (h : Heap) : d5 Tryz.prog G 105 [G7 ns fl] h (fun r h' => r = aQ (G8 ns fl) ∧ h' = h) := by
  have hpl := U7 (G := G) (f := 135) Bp (caps := [.ptr h.length 0 0, .ptr (h.length + 1) 1 0, .ptr (h.length + 2) 1 0]) (p := X0 ns fl) 3 ns.length ok.n (h ++ [some ⟨0, x8 ns fl⟩, some ⟨1, [.i (m9 ns 1)]⟩, some ⟨1, [.i (m9 ns 2)]⟩]) (by simp [o4, s7])
    (fun L i hi => nL ns fl ok hd i hi _ (b := h.length) (J8 (by simp [bM]) L) (J8 (by simp [n8]) L) (J8 (by simp [n8]) L))
  simp only [List.length_append, List.length_cons, List.length_nil, Nat.zero_add, Nat.reduceAdd, List.append_assoc, List.cons_append, List.nil_append] at hpl
  have hle := wo 3 (X0 ns fl) ns.length
  have hn := ok.n
  have hmax : (plF 3 (X0 ns fl) ns.length).length + 1 ≤ j7 := by unfold j7; omega
  have a2 : h.length + 1 + 1 = h.length + 2 := rfl
  cases hne : K9 ns with
  | false =>
    have e : G8 ns fl = plF 3 (X0 ns fl) ns.length := by unfold G8; rw [hne]; simp
    unfold K9 at hne
    rw [e]
    refine c8 (rl := []) e9 Tryz.func105 rfl (rs := [.tmp 2]) rfl Tryz.ntmps105 (by simp) ?_
    repeat' (first | ((first | apply b8 | apply s4); (try simp only [NB])) | ((repeat ((fail_if_success (refine hK _ ?_)); clear hK K)); refine hK _ ?_; clear hK K) | ((first | refine b9 fun K1 q6 => ?_ | refine v8 rfl rfl rfl fun K1 q6 => ?_ | refine b7 fun A B hA hB => ?_); simp only [S1, simprocAttr, ia, List.length_map, hne, a2]; first | refine q6 _ ?_; clear q6 K1 | (refine hB ?_; clear hA hB A B) | (apply d4 lf; exact hpl; refine q6 _ ?_; clear q6 K1) | (refine l6 (v := ?_) (fun hg q8 => ?_) ?_; rotate_left; (focus (try ((try simp only [BN] at hg); simp only [S1, simprocAttr, ia, List.length_map, hne, a2, hg] at q8 ⊢)); exact q8); refine q6 _ ?_; clear q6 K1)) | ((refine u6 (v := ?_) rfl rfl rfl rfl (by decide) (fun R1 K1 q6 => ?_) ?_); rotate_left; (focus (simp only [S1, simprocAttr, ia, List.length_map, hne, a2]; first | (exact q6 _ _ _) | (apply j5 E58; exact (X7 ns hn _ _); exact q6 _ _ _) | (apply j5 zu; exact (fV ns hn _ _); exact q6 _ _ _)))) | (refine s5 rfl rfl rfl ?_) | ((first | refine C2 (z := ?_) 0 rfl rfl rfl rfl (by decide) rfl ?_ ?_ | refine C2 (z := ?_) 1 rfl rfl rfl rfl (by decide) rfl ?_ ?_); rotate_left; (focus (simp only [S1, simprocAttr, ia, List.length_map, hne, a2, T0]; rfl))) | refine b6 fun K hK => ?_ | (refine o9 (es := []) [0, 1, 2, 3, 4, 5, 6, 7] 2 (fs := []) rfl (by kernel_rfl) (by kernel_rfl) ?_) | ((first | apply b5 | apply c9 | apply d3); try simp only [NB, simprocAttr]))
    exact W1 (.inr rfl) rfl rfl (by simp only [s8, n8, List.getElem?_cons_succ, List.getElem?_cons_zero, if_true]) (by omega) (by simp) (by simp) rfl
  | true =>
    have e : G8 ns fl = plF 3 (X0 ns fl) ns.length ++ [(3, (ns.length : Int))] := by unfold G8; rw [hne]; simp
    unfold K9 at hne
    rw [e]
    refine c8 (rl := []) e9 Tryz.func105 rfl (rs := [.tmp 2]) rfl Tryz.ntmps105 (by simp) ?_
    repeat' (first | ((first | apply b8 | apply s4); (try simp only [NB])) | ((repeat ((fail_if_success (refine hK _ ?_)); clear hK K)); refine hK _ ?_; clear hK K) | ((first | refine b9 fun K1 q6 => ?_ | refine v8 rfl rfl rfl fun K1 q6 => ?_ | refine b7 fun A B hA hB => ?_); simp only [S1, simprocAttr, ia, List.length_map, hne, a2, N1, hmax, Nat.mul_one]; first | refine q6 _ ?_; clear q6 K1 | (refine hA ?_; clear hA hB A B) | (apply d4 lf; exact hpl; refine q6 _ ?_; clear q6 K1) | (refine l6 (v := ?_) (fun hg q8 => ?_) ?_; rotate_left; (focus (try ((try simp only [BN] at hg); simp only [S1, simprocAttr, ia, List.length_map, hne, a2, N1, hmax, Nat.mul_one, hg] at q8 ⊢)); exact q8); refine q6 _ ?_; clear q6 K1)) | ((refine u6 (v := ?_) rfl rfl rfl rfl (by decide) (fun R1 K1 q6 => ?_) ?_); rotate_left; (focus (simp only [S1, simprocAttr, ia, List.length_map, hne, a2, N1, hmax, Nat.mul_one]; first | (exact q6 _ _ _) | (apply j5 E58; exact (X7 ns hn _ _); exact q6 _ _ _) | (apply j5 zu; exact (fV ns hn _ _); exact q6 _ _ _)))) | (refine s5 rfl rfl rfl ?_) | ((first | refine C2 (z := ?_) 0 rfl rfl rfl rfl (by decide) rfl ?_ ?_ | refine C2 (z := ?_) 1 rfl rfl rfl rfl (by decide) rfl ?_ ?_); rotate_left; (focus (simp only [S1, simprocAttr, ia, List.length_map, hne, a2, N1, hmax, Nat.mul_one, T0]; rfl))) | refine b6 fun K hK => ?_ | (refine o9 (es := []) [0, 1, 2, 3, 4, 5, 6, 7] 2 (fs := []) rfl (by kernel_rfl) (by kernel_rfl) ?_) | ((first | apply b5 | apply d3); try simp only [NB, simprocAttr]))
    exact W1 (.inr rfl) (l := plF 3 (X0 ns fl) ns.length ++ [(3, (ns.length : Int))]) (by simp) rfl (by simp only [s8, n8, List.getElem?_cons_succ, List.getElem?_cons_zero, if_true, ma, List.map_append, List.map_cons, List.map_nil]) (by omega) (by simp) (by simp) rfl
theorem wr {n : Nat} {i : Int} (h : inB n i = true) : 0 ≤ i ∧ i < (n : Int) := cv.mp h
theorem eR {rule : Int} {p : Nat → Bool} {n : Nat} (h : plF rule p n = []) (i : Nat) (hi : i < n) : p i = false := by
  cases hp : p i with
  | false => rfl
  | true =>
    have : (rule, (i : Int)) ∈ plF rule p n := by
      unfold plF
      exact List.mem_map.mpr ⟨i, List.mem_filter.mpr ⟨List.mem_range.mpr hi, hp⟩, rfl⟩
    rw [h] at this; cases this
theorem nM {ns : List Nd} {fl : List Fl} (h : plF 2 (Z4 ns fl) fl.length = []) : InN ns.length fl := by
  intro f hf
  obtain ⟨i, hi, e⟩ := List.mem_iff_getElem.mp hf
  have := eR h i hi
  unfold Z4 at this
  rw [List.getElem?_eq_getElem hi, e] at this
  simp only [Bool.not_eq_false'] at this
  unfold aD at this
  simp only [Bool.and_eq_true] at this
  obtain ⟨⟨⟨a, b⟩, _⟩, _⟩ := this
  exact ⟨wr a, wr b⟩
theorem bT {α : Type} (p : α → Bool) : ∀ (l : List α) (i : Nat), I6 p l i = -1 ∨ ((i : Int) ≤ I6 p l i ∧ I6 p l i < (i : Int) + l.length)
  | [], i => .inl rfl
  | k :: r, i => by
    unfold I6
    split
    · right; simp only [List.length_cons]; omega
    · rcases bT p r (i + 1) with h | h
      · exact .inl h
      · right; simp only [List.length_cons]; omega
theorem nN {ns : List Nd} (h : K9 ns = false) : (0 ≤ m9 ns 1 ∧ m9 ns 1 < (ns.length : Int)) ∧ 0 ≤ m9 ns 2 ∧ m9 ns 2 < (ns.length : Int) := by
  unfold K9 at h
  simp only [Bool.or_eq_false_iff, decide_eq_false_iff_not] at h
  have a := bT (fun x : Nd => x.kind == 1) ns 0
  have b := bT (fun x : Nd => x.kind == 2) ns 0
  unfold m9 at *
  omega
noncomputable def Z5 (ns : List Nd) (fl : List Fl) : List (Int × Int) :=
  if (decide (24 < (ns.length : Int)) || decide (40 < (fl.length : Int))) = true then [(1, 0)]
  else if plF 1 (Z3 ns) ns.length ≠ [] then plF 1 (Z3 ns) ns.length
  else if plF 2 (Z4 ns fl) fl.length ≠ [] then plF 2 (Z4 ns fl) fl.length
  else if G8 ns fl ≠ [] then G8 ns fl
  else plF 4 (eP ns fl) ns.length
end
section
def Y0 := And.intro T2 (And.intro T3 (And.intro T4 (And.intro T22 (And.intro T23 (And.intro T25 (And.intro T41 (And.intro T73 (And.intro T75 (And.intro T77 (And.intro T80 (And.intro po (And.intro vV (And.intro vW uc)))))))))))))
attribute [local irreducible] awp n9 k3 l8 o6 n5
variable {G : Nat → Option (List PV)}
theorem iV {α : Type} {l : List α} (h : l ≠ []) : decide ((0 : Int) < (l.length : Int)) = true := by
  have : 0 < l.length := List.length_pos_iff.mpr h
  exact decide_eq_true (by omega)
theorem jR {α : Type} {l : List α} (h : l = []) : decide ((0 : Int) < (l.length : Int)) = false := by subst h; rfl
theorem uo (ns : List Nd) (fl : List Fl) (ok : NetOk ns fl) (h : Heap) : d5 Tryz.prog gW 75 [G7 ns fl] h (fun r h' => r = aQ (Z5 ns fl) ∧ h' = h) := by
  have a3 : h.length + 3 + 1 = h.length + 4 := rfl
  have hn := ok.n
  have hl := ok.f
  have p1 := U7 (G := gW) (f := 101) Bd (caps := [.ptr h.length 0 0]) (p := Z3 ns) 1 ns.length ok.n (h ++ [some ⟨0, x8 ns fl⟩]) (by simp [o4, s7])
    (fun L i hi => rH ns fl ok i hi _ (b := h.length) (J8 (by simp [bM]) L))
  have p2 := fun b1 : Option Blk => U7 (G := gW) (f := 103) Bg (caps := [.ptr h.length 0 0]) (p := Z4 ns fl) 2 fl.length ok.f (h ++ [some ⟨0, x8 ns fl⟩, b1]) (by simp [o4, s7])
    (fun L i hi => rI ns fl ok i hi _ (b := h.length) (J8 (by simp [bM]) L))
  have p4 := fun b1 b2 : Option Blk => U7 (G := gW) (f := 108) Bi (caps := [.ptr (h.length + 3) 1 0, .ptr (h.length + 4) 1 0]) (p := eP ns fl) 4 ns.length ok.n (h ++ [some ⟨0, x8 ns fl⟩, b1, b2, some ⟨1, [aBl (P0 (C5 false fl) ns.length (m9 ns 1).toNat)]⟩, some ⟨1, [aBl (P0 (C5 true fl) ns.length (m9 ns 2).toNat)]⟩]) (by simp [o4, s7])
    (fun L i hi => rJ ns fl i hi _ (J8 (by simp [n8]) L) (J8 (by simp [n8]) L))
  simp only [List.length_append, List.length_cons, List.length_nil, Nat.zero_add, Nat.reduceAdd, List.append_assoc, List.cons_append, List.nil_append] at p1 p2 p4
  by_cases hsz : (decide (24 < (ns.length : Int)) || decide (40 < (fl.length : Int))) = true
  · have e : Z5 ns fl = [(1, 0)] := by unfold Z5; rw [if_pos hsz]
    rw [e]
    refine c8 (rl := []) e9 Tryz.func75 rfl (rs := [.tmp 2]) rfl Tryz.ntmps75 (by simp) ?_
    repeat' (first | ((repeat ((fail_if_success (refine hK _ ?_)); clear hK K)); refine hK _ ?_; clear hK K) | ((first | refine b9 fun K1 q6 => ?_ | refine b7 fun A B hA hB => ?_); simp only [S1, simprocAttr, Y0, List.length_map, hsz]; first | refine q6 _ ?_; clear q6 K1 | (refine hA ?_; clear hA hB A B) | (refine l6 (v := ?_) (fun hg q8 => ?_) ?_; rotate_left; (focus (try ((try simp only [BN] at hg); simp only [S1, simprocAttr, Y0, List.length_map, hsz, hg] at q8 ⊢)); exact q8); refine q6 _ ?_; clear q6 K1)) | refine b6 fun K hK => ?_ | ((first | apply b8 | apply b5 | apply d3); try simp only [NB, simprocAttr]))
    all_goals simp only [S1, simprocAttr, ENB, Y0]
    all_goals rfl
  rw [Bool.not_eq_true] at hsz
  by_cases h1 : plF 1 (Z3 ns) ns.length = []
  case neg =>
    have e : Z5 ns fl = plF 1 (Z3 ns) ns.length := by unfold Z5; rw [if_neg (by rw [hsz]; decide), if_pos h1]
    rw [e]
    have c1 := iV h1
    refine c8 (rl := []) e9 Tryz.func75 rfl (rs := [.tmp 2]) rfl Tryz.ntmps75 (by simp) ?_
    repeat' (first | ((repeat ((fail_if_success (refine hK _ ?_)); clear hK K)); refine hK _ ?_; clear hK K) | ((first | refine b9 fun K1 q6 => ?_ | refine b7 fun A B hA hB => ?_); simp only [S1, simprocAttr, Y0, List.length_map, hsz, c1]; first | refine q6 _ ?_; clear q6 K1 | ((first | refine hA ?_ | refine hB ?_); clear hA hB A B) | (apply d4 lf; exact p1; refine q6 _ ?_; clear q6 K1) | (refine l6 (v := ?_) (fun hg q8 => ?_) ?_; rotate_left; (focus (try ((try simp only [BN] at hg); simp only [S1, simprocAttr, Y0, List.length_map, hsz, c1, hg] at q8 ⊢)); exact q8); refine q6 _ ?_; clear q6 K1)) | refine b6 fun K hK => ?_ | ((first | apply b8 | apply b5 | apply c9 | apply d3); try simp only [NB, simprocAttr]))
    exact W1 (.inr rfl) rfl rfl (by simp only [s8, n8, List.getElem?_cons_succ, List.getElem?_cons_zero, if_true]) (by omega) (by simp) (by simp) rfl
  have c1 := jR h1
  by_cases h2 : plF 2 (Z4 ns fl) fl.length = []
  case neg =>
    have e : Z5 ns fl = plF 2 (Z4 ns fl) fl.length := by unfold Z5; rw [if_neg (by rw [hsz]; decide), if_neg (by simpa using h1), if_pos h2]
    rw [e]
    have c2 := iV h2
    refine c8 (rl := []) e9 Tryz.func75 rfl (rs := [.tmp 2]) rfl Tryz.ntmps75 (by simp) ?_
    repeat' (first | ((repeat ((fail_if_success (refine hK _ ?_)); clear hK K)); refine hK _ ?_; clear hK K) | ((first | refine b9 fun K1 q6 => ?_ | refine b7 fun A B hA hB => ?_); simp only [S1, simprocAttr, Y0, List.length_map, hsz, c1, c2]; first | refine q6 _ ?_; clear q6 K1 | ((first | refine hA ?_ | refine hB ?_); clear hA hB A B) | (apply d4 lf; exact p1; refine q6 _ ?_; clear q6 K1) | (apply d4 lf; exact (p2 _); refine q6 _ ?_; clear q6 K1) | (refine l6 (v := ?_) (fun hg q8 => ?_) ?_; rotate_left; (focus (try ((try simp only [BN] at hg); simp only [S1, simprocAttr, Y0, List.length_map, hsz, c1, c2, hg] at q8 ⊢)); exact q8); refine q6 _ ?_; clear q6 K1)) | refine b6 fun K hK => ?_ | ((first | apply b8 | apply b5 | apply c9 | apply d3); try simp only [NB, simprocAttr]))
    exact W1 (.inr rfl) rfl rfl (by simp only [s8, n8, List.getElem?_cons_succ, List.getElem?_cons_zero, if_true]) (by omega) (by simp) (by simp) rfl
  have c2 := jR h2
  have hd := nM h2
  by_cases h3 : G8 ns fl = []
  case neg =>
    have e : Z5 ns fl = G8 ns fl := by unfold Z5; rw [if_neg (by rw [hsz]; decide), if_neg (by simpa using h1), if_neg (by simpa using h2), if_pos h3]
    rw [e]
    have c3 := iV h3
    refine c8 (rl := []) e9 Tryz.func75 rfl (rs := [.tmp 2]) rfl Tryz.ntmps75 (by simp) ?_
    repeat' (first | ((repeat ((fail_if_success (refine hK _ ?_)); clear hK K)); refine hK _ ?_; clear hK K) | ((first | refine b9 fun K1 q6 => ?_ | refine b7 fun A B hA hB => ?_); simp only [S1, simprocAttr, Y0, List.length_map, hsz, c1, c2, c3]; first | refine q6 _ ?_; clear q6 K1 | ((first | refine hA ?_ | refine hB ?_); clear hA hB A B) | (apply d4 lf; exact p1; refine q6 _ ?_; clear q6 K1) | (apply d4 lf; exact (p2 _); refine q6 _ ?_; clear q6 K1) | (apply d4 Av; exact (ib ns fl ok hd _); refine q6 _ ?_; clear q6 K1) | (refine l6 (v := ?_) (fun hg q8 => ?_) ?_; rotate_left; (focus (try ((try simp only [BN] at hg); simp only [S1, simprocAttr, Y0, List.length_map, hsz, c1, c2, c3, hg] at q8 ⊢)); exact q8); refine q6 _ ?_; clear q6 K1)) | refine b6 fun K hK => ?_ | ((first | apply b8 | apply b5 | apply c9 | apply d3); try simp only [NB, simprocAttr]))
    all_goals simp only [S1, simprocAttr, ENB, Y0]
  have c3 := jR h3
  have e : Z5 ns fl = plF 4 (eP ns fl) ns.length := by unfold Z5; rw [if_neg (by rw [hsz]; decide), if_neg (by simpa using h1), if_neg (by simpa using h2), if_neg (by simpa using h3)]
  rw [e]
  have hne : K9 ns = false := by
    unfold G8 at h3
    cases hx : K9 ns with
    | false => rfl
    | true => rw [hx] at h3; simp at h3
  obtain ⟨⟨s0, s1⟩, e0, e1⟩ := nN hne
  refine c8 (rl := []) e9 Tryz.func75 rfl (rs := [.tmp 2]) rfl Tryz.ntmps75 (by simp) ?_
  repeat' (first | ((first | apply b8 | apply s4); (try simp only [NB])) | ((repeat ((fail_if_success (refine hK _ ?_)); clear hK K)); refine hK _ ?_; clear hK K) | ((first | refine b9 fun K1 q6 => ?_ | refine v8 rfl rfl rfl fun K1 q6 => ?_ | refine b7 fun A B hA hB => ?_); simp only [S1, simprocAttr, Y0, List.length_map, hsz, c1, c2, c3, a3]; first | refine q6 _ ?_; clear q6 K1 | (refine hB ?_; clear hA hB A B) | (apply d4 lf; exact p1; refine q6 _ ?_; clear q6 K1) | (apply d4 lf; exact (p2 _); refine q6 _ ?_; clear q6 K1) | (apply d4 lf; exact (p4 _ _); refine q6 _ ?_; clear q6 K1) | (apply d4 Av; exact (ib ns fl ok hd _); refine q6 _ ?_; clear q6 K1) | (refine l6 (v := ?_) (fun hg q8 => ?_) ?_; rotate_left; (focus (try ((try simp only [BN] at hg); simp only [S1, simprocAttr, Y0, List.length_map, hsz, c1, c2, c3, a3, hg] at q8 ⊢)); exact q8); refine q6 _ ?_; clear q6 K1)) | ((refine u6 (v := ?_) rfl rfl rfl rfl (by decide) (fun R1 K1 q6 => ?_) ?_); rotate_left; (focus (simp only [S1, simprocAttr, Y0, List.length_map, hsz, c1, c2, c3, a3]; first | (exact q6 _ _ _) | (apply j5 E58; exact (X7 ns hn _ _); exact q6 _ _ _) | (apply j5 zu; exact (fV ns hn _ _); exact q6 _ _ _) | (apply j5 Aw; exact (lY ns hn fl hl hd _ s0 s1 false _); exact q6 _ _ _) | (apply j5 Aw; exact (lY ns hn fl hl hd _ e0 e1 true _); exact q6 _ _ _)))) | (refine s5 rfl rfl rfl ?_) | ((first | refine C2 (z := ?_) 0 rfl rfl rfl rfl (by decide) rfl ?_ ?_ | refine C2 (z := ?_) 1 rfl rfl rfl rfl (by decide) rfl ?_ ?_); rotate_left; (focus (simp only [S1, simprocAttr, Y0, List.length_map, hsz, c1, c2, c3, a3, T0]; rfl))) | refine b6 fun K hK => ?_ | (refine o9 (es := []) [0, 1, 2, 3, 4, 5, 6, 7, 8, 9, 10, 11] 2 (fs := []) rfl (by kernel_rfl) (by kernel_rfl) ?_) | ((first | apply b5 | apply c9 | apply d3); try simp only [NB, simprocAttr]))
  exact W1 (.inr rfl) rfl rfl (by simp only [s8, n8, List.getElem?_cons_succ, List.getElem?_cons_zero, if_true]) (by omega) (by simp) (by simp) rfl
end
section
def sZ := And.intro T2 (And.intro T3 (And.intro T4 (And.intro T22 (And.intro T23 (And.intro T25 (And.intro T41 (And.intro T73 (And.intro T75 (And.intro T77 (And.intro T80 (And.intro po (And.intro vV vW))))))))))))
attribute [local irreducible] awp n9 k3 l8 o6 n5
variable {G : Nat → Option (List PV)}
noncomputable def A9 (ns : List Nd) (fl : List Fl) : Int × Int := (Z5 ns fl).head?.getD (0, 0)
theorem aH {α : Type} {l : List α} {x : α} (h : l.head? = some x) : l ≠ [] := by rintro rfl; cases h
theorem ic (ns : List Nd) (fl : List Fl) (ok : NetOk ns fl) (h : Heap) : d5 Tryz.prog gW 56 [G7 ns fl] h (fun r h' => r = .tup [.i (A9 ns fl).1, .i (A9 ns fl).2] ∧ h' = h) := by
  have ha := fun h => uo ns fl ok h
  unfold A9
  generalize Z5 ns fl = l at *
  cases hx : l.head? with
  | none =>
    have e : l = [] := by cases l with
      | nil => rfl
      | cons => cases hx
    have c : decide ((0 : Int) < 0) = false := rfl
    subst e
    refine c8 (rl := []) e9 Tryz.func56 rfl (rs := [.tmp 2, .tmp 3]) rfl Tryz.ntmps56 (by simp) ?_
    repeat' (first | ((repeat ((fail_if_success (refine hK _ ?_)); clear hK K)); refine hK _ ?_; clear hK K) | ((first | refine b9 fun K1 q6 => ?_ | refine b7 fun A B hA hB => ?_); simp only [S1, simprocAttr, sZ, List.length_map, c]; first | refine q6 _ ?_; clear q6 K1 | (refine hB ?_; clear hA hB A B) | (apply d4 E75; exact (ha _); refine q6 _ ?_; clear q6 K1)) | refine b6 fun K hK => ?_ | ((first | apply b8 | apply b5 | apply c9 | apply d3); try simp only [NB, simprocAttr]))
    all_goals simp only [S1, simprocAttr, ENB, sZ]
    all_goals rfl
  | some x =>
    have c := iV (aH hx)
    have c0 : (0 : Int) ≤ 0 := Int.le_refl 0
    have hr : (l.map eQ)[0]? = some [.int .i64 x.1, .int .i64 x.2] := by rw [← List.head?_eq_getElem?, List.head?_map, hx]; rfl
    refine c8 (rl := []) e9 Tryz.func56 rfl (rs := [.tmp 2, .tmp 3]) rfl Tryz.ntmps56 (by simp) ?_
    repeat' (first | ((repeat ((fail_if_success (refine hK _ ?_)); clear hK K)); refine hK _ ?_; clear hK K) | ((first | refine b9 fun K1 q6 => ?_ | refine k4 fun K1 q6 => ?_ | refine b7 fun A B hA hB => ?_); simp only [S1, simprocAttr, sZ, List.length_map, c, c0, hr]; first | refine q6 _ ?_; clear q6 K1 | (refine hA ?_; clear hA hB A B) | (apply d4 E75; exact (ha _); refine q6 _ ?_; clear q6 K1)) | refine b6 fun K hK => ?_ | ((first | apply b8 | apply i8 | apply b5 | refine i9 ?_ | apply d3); try simp only [NB, simprocAttr]))
    all_goals simp only [S1, simprocAttr, ENB, sZ]
    all_goals rfl
theorem rK {p : Nat → Bool} {n j : Nat} (h1 : ∀ i, i < j → p i = false) (h2 : p j = true) (hj : j < n) : (List.range n).find? p = some j := by
  rw [List.find?_range_eq_some]
  exact ⟨h2, List.mem_range.mpr hj, fun i hi => by rw [h1 i hi]; rfl⟩
theorem cx {rule : Int} {p : Nat → Bool} {n j : Nat} (h1 : ∀ i, i < j → p i = false) (h2 : p j = true) (hj : j < n) : (plF rule p n).head? = some (rule, (j : Int)) := by
  rw [wq, rK h1 h2 hj]; rfl
theorem H4 {rule : Int} {p : Nat → Bool} {n : Nat} (h1 : ∀ i, i < n → p i = false) : plF rule p n = [] := by
  unfold plF
  rw [List.filter_eq_nil_iff.mpr (fun i hi => by rw [h1 i (List.mem_range.mp hi)]; decide)]
  rfl
end
section
def C6 := And.intro T2 (And.intro T3 (And.intro T4 (And.intro T22 (And.intro T23 (And.intro T25 (And.intro T41 (And.intro T55 (And.intro T73 (And.intro T75 (And.intro T77 (And.intro T80 po)))))))))))
attribute [local irreducible] awp n9 k3 l8 o6 n5
variable {G : Nat → Option (List PV)}
theorem pN {α : Type} {p : α → Bool} : ∀ {l : List α} {i j : Nat} {k : α}, l[j]? = some k → p k = true → I6 p l i ≤ ((i + j : Nat) : Int) ∧ (i : Int) ≤ I6 p l i
  | [], i, j, k, h, hp => by simp at h
  | x :: r, i, 0, k, h, hp => by
    simp at h; subst h
    unfold I6; rw [if_pos hp]; omega
  | x :: r, i, j + 1, k, h, hp => by
    unfold I6
    split
    · omega
    · have := pN (l := r) (i := i + 1) (j := j) (by simpa using h) hp
      omega
theorem ws {ns : List Nd} {i : Nat} {k : Nd} {kind : Int} (h : ns[i]? = some k) (hk : (k.kind == kind) = true) : m9 ns kind ≤ (i : Int) := by
  have := (pN (p := fun x : Nd => x.kind == kind) (i := 0) h hk).1
  unfold m9; omega
theorem xY {ns : List Nd} {fl : List Fl} {i : Nat} {k : Nd} (h : ns[i]? = some k) : X0 ns fl i = ((!(E1 ns fl i) || (k.kind == 1 && decide (m9 ns 1 < (i : Int)))) || (k.kind == 2 && decide (m9 ns 2 < (i : Int)))) := by
  have e : w4 ns i = k.kind := by unfold w4; rw [Int.toNat_natCast, h]
  have key : ∀ kind : Int, (k.kind == kind && ((i : Int) != m9 ns kind)) = (k.kind == kind && decide (m9 ns kind < (i : Int))) := by
    intro kind
    cases hk : (k.kind == kind) with
    | false => rfl
    | true =>
      have := ws h hk
      simp only [Bool.true_and]
      rw [Bool.eq_iff_iff]; simp only [bne_iff_ne, decide_eq_true_eq]; omega
  unfold X0
  rw [e, key, key]
theorem uq (fl : List Fl) : C5 true fl = (esF fl).map Prod.swap := rfl
theorem rL (fl : List Fl) : C5 false fl = esF fl := rfl
theorem xZ {ns : List Nd} {fl : List Fl} {i : Nat} (hi : i < ns.length) (h2 : (m9 ns 2).toNat < ns.length) :
    eP ns fl i = (!((P0 (esF fl) ns.length (m9 ns 1).toNat)[i]?.getD false) || !((P0 (esF fl) ns.length i)[(m9 ns 2).toNat]?.getD false)) := by
  unfold eP
  rw [uq, rL]
  congr 2
  have a := pE (es := (esF fl).map Prod.swap) (n := ns.length) (a := (m9 ns 2).toNat) hi
  have b := pE (es := esF fl) (n := ns.length) (a := i) h2
  rw [Rch.rev] at a
  have la := V8 ((esF fl).map Prod.swap) ns.length (m9 ns 2).toNat
  have lb := V8 (esF fl) ns.length i
  rw [List.getElem?_eq_getElem (by omega)] at a b ⊢
  rw [List.getElem?_eq_getElem (by omega)]
  simp only [Option.some.injEq, Option.getD_some] at a b ⊢
  rw [Bool.eq_iff_iff, a, b]
theorem zF {ns : List Nd} {fl : List Fl} (h : (decide (24 < (ns.length : Int)) || decide (40 < (fl.length : Int))) = true) : A9 ns fl = (1, 0) := by
  unfold A9 Z5; rw [if_pos h]; rfl
theorem zG {ns : List Nd} {fl : List Fl} (h : (decide (24 < (ns.length : Int)) || decide (40 < (fl.length : Int))) = false) {j : Nat} (h1 : ∀ i, i < j → Z3 ns i = false) (h2 : Z3 ns j = true) (hj : j < ns.length) : A9 ns fl = (1, (j : Int)) := by
  have e := cx (rule := 1) h1 h2 hj
  unfold A9 Z5
  rw [if_neg (by rw [h]; decide), if_pos (aH e), e]; rfl
theorem zH {ns : List Nd} {fl : List Fl} (h : (decide (24 < (ns.length : Int)) || decide (40 < (fl.length : Int))) = false) (n1 : ∀ i, i < ns.length → Z3 ns i = false) {j : Nat} (h1 : ∀ i, i < j → Z4 ns fl i = false) (h2 : Z4 ns fl j = true) (hj : j < fl.length) : A9 ns fl = (2, (j : Int)) := by
  have e := cx (rule := 2) h1 h2 hj
  unfold A9 Z5
  rw [if_neg (by rw [h]; decide), if_neg (by rw [H4 n1]; simp), if_pos (aH e), e]; rfl
theorem zI {ns : List Nd} {fl : List Fl} (h : (decide (24 < (ns.length : Int)) || decide (40 < (fl.length : Int))) = false) (n1 : ∀ i, i < ns.length → Z3 ns i = false) (n2 : ∀ i, i < fl.length → Z4 ns fl i = false) {j : Nat} (h1 : ∀ i, i < j → X0 ns fl i = false) (h2 : X0 ns fl j = true) (hj : j < ns.length) : A9 ns fl = (3, (j : Int)) := by
  have e := cx (rule := 3) h1 h2 hj
  have e2 : (G8 ns fl).head? = some (3, (j : Int)) := by
    unfold G8; rw [List.head?_append, e]; rfl
  unfold A9 Z5
  rw [if_neg (by rw [h]; decide), if_neg (by rw [H4 n1]; simp), if_neg (by rw [H4 n2]; simp), if_pos (aH e2), e2]; rfl
theorem zJ {ns : List Nd} {fl : List Fl} (h : (decide (24 < (ns.length : Int)) || decide (40 < (fl.length : Int))) = false) (n1 : ∀ i, i < ns.length → Z3 ns i = false) (n2 : ∀ i, i < fl.length → Z4 ns fl i = false) (n3 : ∀ i, i < ns.length → X0 ns fl i = false) (hE : K9 ns = true) : A9 ns fl = (3, (ns.length : Int)) := by
  have e2 : G8 ns fl = [(3, (ns.length : Int))] := by
    unfold G8; rw [H4 n3, if_pos hE]; rfl
  unfold A9 Z5
  rw [if_neg (by rw [h]; decide), if_neg (by rw [H4 n1]; simp), if_neg (by rw [H4 n2]; simp), e2]; rfl
theorem zK {ns : List Nd} {fl : List Fl} (h : (decide (24 < (ns.length : Int)) || decide (40 < (fl.length : Int))) = false) (n1 : ∀ i, i < ns.length → Z3 ns i = false) (n2 : ∀ i, i < fl.length → Z4 ns fl i = false) (n3 : ∀ i, i < ns.length → X0 ns fl i = false) (hE : K9 ns = false) : A9 ns fl = (plF 4 (eP ns fl) ns.length).head?.getD (0, 0) := by
  have e2 : G8 ns fl = [] := by
    unfold G8; rw [H4 n3, hE]; rfl
  unfold A9 Z5
  rw [if_neg (by rw [h]; decide), if_neg (by rw [H4 n1]; simp), if_neg (by rw [H4 n2]; simp), if_neg (by rw [e2]; simp)]
theorem ta {p : Nat → Bool} {j : Nat} (h : ∀ i, i < j → p i = false) (hj : p j = false) : ∀ i, i < j + 1 → p i = false := fun i hi => by
  rcases Nat.lt_or_ge i j with h1 | h1
  · exact h i h1
  · obtain rfl : i = j := by omega
    exact hj
theorem O2 (ns : List Nd) (fl : List Fl) (ok : NetOk ns fl) (h : Heap) : d5 Tryz.prog G 22 [G7 ns fl] h (fun r h' => r = .agg [.i (A9 ns fl).1, .i (A9 ns fl).2] ∧ h' = h) := by
  have hn := ok.n
  have hl := ok.f
  obtain ⟨m1, hm1, ht1⟩ := ok.tn
  obtain ⟨m2, hm2, ht2⟩ := ok.tf
  refine c8 (rl := []) e9 Tryz.func22 rfl (rs := [.cell 2 55]) rfl Tryz.ntmps22 (by simp) ?_
  refine b6 fun K hK => ?_
  repeat' (first | (apply b8; (try simp only [NB]); ((repeat ((fail_if_success (refine hK _ ?_)); clear hK K)); refine hK _ ?_; clear hK K)) | (refine b9 fun K1 q6 => ?_; simp only [S1, simprocAttr, C6]; refine q6 _ ?_; clear q6 K1) | (apply b5; try simp only [NB, simprocAttr]; (try ((repeat ((fail_if_success (refine hK _ ?_)); clear hK K)); refine hK _ ?_; clear hK K))))
  cases hsz : (decide (24 < (ns.length : Int)) || decide (40 < (fl.length : Int))) with
  | true =>
    rw [zF hsz]
    repeat' (first | ((repeat ((fail_if_success (refine hK _ ?_)); clear hK K)); refine hK _ ?_; clear hK K) | ((first | refine b9 fun K1 q6 => ?_ | refine b7 fun A B hA hB => ?_); simp only [S1, simprocAttr, C6, List.length_map, hsz]; first | refine q6 _ ?_; clear q6 K1 | (refine hA ?_; clear hA hB A B) | (refine l6 (v := ?_) (fun hg q8 => ?_) ?_; rotate_left; (focus (try ((try simp only [BN] at hg); simp only [S1, simprocAttr, C6, List.length_map, hsz, hg] at q8 ⊢)); exact q8); refine q6 _ ?_; clear q6 K1)) | refine b6 fun K hK => ?_ | ((first | apply b8 | apply b5 | apply d3); try simp only [NB, simprocAttr]))
    all_goals simp only [S1, simprocAttr, ENB, C6]
  | false =>
    repeat' (first | ((repeat ((fail_if_success (refine hK _ ?_)); clear hK K)); refine hK _ ?_; clear hK K) | ((first | refine b9 fun K1 q6 => ?_ | refine b7 fun A B hA hB => ?_); simp only [S1, simprocAttr, C6, List.length_map, hsz]; first | refine q6 _ ?_; clear q6 K1 | (refine hB ?_; clear hA hB A B) | (refine l6 (v := ?_) (fun hg q8 => ?_) ?_; rotate_left; (focus (try ((try simp only [BN] at hg); simp only [S1, simprocAttr, C6, List.length_map, hsz, hg] at q8 ⊢)); exact q8); refine q6 _ ?_; clear q6 K1)) | refine b6 fun K hK => ?_ | ((first | apply b8 | apply b5 | apply c7 | apply c9); try simp only [NB, simprocAttr]))
    refine p8 ns.length 131 (fun j => [(28, .i j), (27, .i ns.length), (26, .p (.sl (ns.map eN))), (2, .ptr (h.length + 1) 0 0), (1, .ptr h.length 0 0)])
      (fun j => [some ⟨0, x8 ns fl⟩, some ⟨0, [.i 0, .i 0]⟩]) (fun j => ∀ i, i < j → Z3 ns i = false) ?_ (fun i hi => by omega) fun j hj hp K hK => ?_
    · (refine ⟨rfl, (by first | exact ⟨_, rfl⟩ | exact ⟨[], by simp⟩), ?_, ?_⟩ <;> simp only [S1, simprocAttr, KNB] <;> (try and_intros) <;> (try assumption) <;> (try trivial) <;> (try omega))
    rcases Nat.lt_or_ge j ns.length with hlt | hge
    · obtain ⟨k, hx⟩ : ∃ k, ns[j]? = some k := ⟨_, List.getElem?_eq_getElem hlt⟩
      have e : Z3 ns j = !(bw k.kind k.a k.term) := by unfold Z3; rw [hx]
      have ho := fun h => ug (G := G) (ht1 k (List.mem_of_getElem? hx)) hm1 k.kind k.a h
      cases hq : bw k.kind k.a k.term with
      | true =>
        rw [hq] at ho e
        repeat' (first | ((repeat ((fail_if_success (refine hK _ ?_)); clear hK K)); refine hK _ ?_; clear hK K) | ((first | refine b9 fun K1 q6 => ?_ | refine b7 fun A B hA hB => ?_); simp only [S1, simprocAttr, C6, I2 hx, W9 hlt, K5 hn hlt, eN, List.length_map]; first | refine q6 _ ?_; clear q6 K1 | ((first | refine hA ?_ | refine hB ?_); clear hA hB A B) | (apply d4 E42; exact (ho _); refine q6 _ ?_; clear q6 K1)) | refine b6 fun K hK => ?_ | ((first | apply b8 | apply b5 | apply c7 | apply c9); try simp only [NB, simprocAttr]))
        all_goals exact ⟨hlt, ta hp e, by (refine ⟨rfl, (by first | exact ⟨_, rfl⟩ | exact ⟨[], by simp⟩), ?_, ?_⟩ <;> simp only [S1, simprocAttr, KNB] <;> (try and_intros) <;> (try assumption) <;> (try trivial) <;> (try omega))⟩
      | false =>
        rw [hq] at ho e
        rw [zG hsz hp e hlt]
        repeat' (first | ((repeat ((fail_if_success (refine hK _ ?_)); clear hK K)); refine hK _ ?_; clear hK K) | ((first | refine b9 fun K1 q6 => ?_ | refine b7 fun A B hA hB => ?_); simp only [S1, simprocAttr, C6, I2 hx, W9 hlt, K5 hn hlt, eN, List.length_map]; first | refine q6 _ ?_; clear q6 K1 | (refine hA ?_; clear hA hB A B) | (apply d4 E42; exact (ho _); refine q6 _ ?_; clear q6 K1)) | refine b6 fun K hK => ?_ | ((first | apply b8 | apply b5 | apply c7 | apply c9 | apply d3); try simp only [NB, simprocAttr]))
        all_goals simp only [S1, simprocAttr, ENB, C6]
    have n1 : ∀ i, i < ns.length → Z3 ns i = false := fun i hi => hp i (by omega)
    obtain rfl : j = ns.length := by omega
    repeat' (first | ((repeat ((fail_if_success (refine hK _ ?_)); clear hK K)); refine hK _ ?_; clear hK K) | ((first | refine b9 fun K1 q6 => ?_ | refine b7 fun A B hA hB => ?_); simp only [S1, simprocAttr, C6, dG, List.length_map]; first | refine q6 _ ?_; clear q6 K1 | (refine hB ?_; clear hA hB A B)) | refine b6 fun K hK => ?_ | ((first | apply b8 | apply b5 | apply c7 | apply f9); try simp only [NB, simprocAttr]))
    refine p8 fl.length 131 (fun j => [(42, .i j), (41, .i fl.length), (40, .p (.sl (fl.map eF))), (2, .ptr (h.length + 1) 0 0), (1, .ptr h.length 0 0)])
      (fun j => [some ⟨0, x8 ns fl⟩, some ⟨0, [.i 0, .i 0]⟩]) (fun j => ∀ i, i < j → Z4 ns fl i = false) ?_ (fun i hi => by omega) fun j hj hp K hK => ?_
    · (refine ⟨rfl, (by first | exact ⟨_, rfl⟩ | exact ⟨[], by simp⟩), ?_, ?_⟩ <;> simp only [S1, simprocAttr, KNB] <;> (try and_intros) <;> (try assumption) <;> (try trivial) <;> (try omega))
    rcases Nat.lt_or_ge j fl.length with hlt | hge
    · obtain ⟨k, hx⟩ : ∃ k, fl[j]? = some k := ⟨_, List.getElem?_eq_getElem hlt⟩
      have e : Z4 ns fl j = !(aD ns fl k) := by unfold Z4; rw [hx]
      have ho := fun h => uj (G := G) ns hn fl hl k (ht2 k (List.mem_of_getElem? hx)) hm2 h
      cases hq : aD ns fl k with
      | true =>
        rw [hq] at ho e
        repeat' (first | ((repeat ((fail_if_success (refine hK _ ?_)); clear hK K)); refine hK _ ?_; clear hK K) | ((first | refine b9 fun K1 q6 => ?_ | refine b7 fun A B hA hB => ?_); simp only [S1, simprocAttr, C6, U6 hx, cN hlt, T5 hl hlt, eF, List.length_map]; first | refine q6 _ ?_; clear q6 K1 | ((first | refine hA ?_ | refine hB ?_); clear hA hB A B) | (apply d4 E43; exact (ho _); refine q6 _ ?_; clear q6 K1)) | refine b6 fun K hK => ?_ | ((first | apply b8 | apply b5 | apply c7 | apply c9); try simp only [NB, simprocAttr]))
        all_goals exact ⟨hlt, ta hp e, by (refine ⟨rfl, (by first | exact ⟨_, rfl⟩ | exact ⟨[], by simp⟩), ?_, ?_⟩ <;> simp only [S1, simprocAttr, KNB] <;> (try and_intros) <;> (try assumption) <;> (try trivial) <;> (try omega))⟩
      | false =>
        rw [hq] at ho e
        rw [zH hsz n1 hp e hlt]
        repeat' (first | ((repeat ((fail_if_success (refine hK _ ?_)); clear hK K)); refine hK _ ?_; clear hK K) | ((first | refine b9 fun K1 q6 => ?_ | refine b7 fun A B hA hB => ?_); simp only [S1, simprocAttr, C6, U6 hx, cN hlt, T5 hl hlt, eF, List.length_map]; first | refine q6 _ ?_; clear q6 K1 | (refine hA ?_; clear hA hB A B) | (apply d4 E43; exact (ho _); refine q6 _ ?_; clear q6 K1)) | refine b6 fun K hK => ?_ | ((first | apply b8 | apply b5 | apply c7 | apply c9 | apply d3); try simp only [NB, simprocAttr]))
        all_goals simp only [S1, simprocAttr, ENB, C6]
    have n2 : ∀ i, i < fl.length → Z4 ns fl i = false := fun i hi => hp i (by omega)
    have hd := nM (H4 (rule := 2) n2)
    obtain rfl : j = fl.length := by omega
    repeat' (first | ((repeat ((fail_if_success (refine hK _ ?_)); clear hK K)); refine hK _ ?_; clear hK K) | ((first | refine b9 fun K1 q6 => ?_ | refine b7 fun A B hA hB => ?_); simp only [S1, simprocAttr, C6, rz, List.length_map]; first | refine q6 _ ?_; clear q6 K1 | (refine hB ?_; clear hA hB A B) | (apply d4 E44; exact (gZ ns hn _ _ _); refine q6 _ ?_; clear q6 K1)) | refine b6 fun K hK => ?_ | ((first | apply b8 | apply b5 | apply c7 | apply f9); try simp only [NB, simprocAttr]))
    refine p8 ns.length 131 (fun j => [(61, .i j), (60, .i ns.length), (59, .p (.sl (ns.map eN))), (8, .i (m9 ns 2)), (7, .i (m9 ns 1)), (2, .ptr (h.length + 1) 0 0), (1, .ptr h.length 0 0)])
      (fun j => [some ⟨0, x8 ns fl⟩, some ⟨0, [.i 0, .i 0]⟩]) (fun j => ∀ i, i < j → X0 ns fl i = false) ?_ (fun i hi => by omega) fun j hj hp K hK => ?_
    · (refine ⟨rfl, (by first | exact ⟨_, rfl⟩ | exact ⟨[], by simp⟩), ?_, ?_⟩ <;> simp only [S1, simprocAttr, KNB] <;> (try and_intros) <;> (try assumption) <;> (try trivial) <;> (try omega))
    rcases Nat.lt_or_ge j ns.length with hlt | hge
    · obtain ⟨k, hx⟩ : ∃ k, ns[j]? = some k := ⟨_, List.getElem?_eq_getElem hlt⟩
      have e := xY (fl := fl) hx
      have ho := fun h => pK (G := G) ns hn fl hl (fun f hf => (hd f hf).2) j (by omega) (by omega) h
      cases hq : X0 ns fl j with
      | false =>
        rw [hq] at e
        repeat' (first | ((repeat ((fail_if_success (refine hK _ ?_)); clear hK K)); refine hK _ ?_; clear hK K) | ((first | refine b9 fun K1 q6 => ?_ | refine b7 fun A B hA hB => ?_); simp only [S1, simprocAttr, C6, I2 hx, W9 hlt, K5 hn hlt, eN, List.length_map, e.symm]; first | refine q6 _ ?_; clear q6 K1 | ((first | refine hA ?_ | refine hB ?_); clear hA hB A B) | (apply d4 E45; exact (ho _); refine q6 _ ?_; clear q6 K1) | (refine l6 (v := ?_) (fun hg q8 => ?_) ?_; rotate_left; (focus (try ((try simp only [BN] at hg); simp only [S1, simprocAttr, C6, I2 hx, W9 hlt, K5 hn hlt, eN, List.length_map, e.symm, hg] at q8 ⊢)); exact q8); refine q6 _ ?_; clear q6 K1)) | refine b6 fun K hK => ?_ | ((first | apply b8 | apply b5 | apply c7 | apply c9); try simp only [NB, simprocAttr]))
        all_goals exact ⟨hlt, ta hp hq, by (refine ⟨rfl, (by first | exact ⟨_, rfl⟩ | exact ⟨[], by simp⟩), ?_, ?_⟩ <;> simp only [S1, simprocAttr, KNB] <;> (try and_intros) <;> (try assumption) <;> (try trivial) <;> (try omega))⟩
      | true =>
        rw [hq] at e
        rw [zI hsz n1 n2 hp hq hlt]
        repeat' (first | ((repeat ((fail_if_success (refine hK _ ?_)); clear hK K)); refine hK _ ?_; clear hK K) | ((first | refine b9 fun K1 q6 => ?_ | refine b7 fun A B hA hB => ?_); simp only [S1, simprocAttr, C6, I2 hx, W9 hlt, K5 hn hlt, eN, List.length_map, e.symm]; first | refine q6 _ ?_; clear q6 K1 | (refine hA ?_; clear hA hB A B) | (apply d4 E45; exact (ho _); refine q6 _ ?_; clear q6 K1) | (refine l6 (v := ?_) (fun hg q8 => ?_) ?_; rotate_left; (focus (try ((try simp only [BN] at hg); simp only [S1, simprocAttr, C6, I2 hx, W9 hlt, K5 hn hlt, eN, List.length_map, e.symm, hg] at q8 ⊢)); exact q8); refine q6 _ ?_; clear q6 K1)) | refine b6 fun K hK => ?_ | ((first | apply b8 | apply b5 | apply c7 | apply c9 | apply d3); try simp only [NB, simprocAttr]))
        all_goals simp only [S1, simprocAttr, ENB, C6]
    have n3 : ∀ i, i < ns.length → X0 ns fl i = false := fun i hi => hp i (by omega)
    obtain rfl : j = ns.length := by omega
    cases hE : K9 ns with
    | true =>
      have er := zJ hsz n1 n2 n3 hE
      unfold K9 at hE
      repeat' (first | ((repeat ((fail_if_success (refine hK _ ?_)); clear hK K)); refine hK _ ?_; clear hK K) | ((first | refine b9 fun K1 q6 => ?_ | refine b7 fun A B hA hB => ?_); simp only [S1, simprocAttr, C6, dG, hE, List.length_map]; first | refine q6 _ ?_; clear q6 K1 | ((first | refine hA ?_ | refine hB ?_); clear hA hB A B) | (refine l6 (v := ?_) (fun hg q8 => ?_) ?_; rotate_left; (focus (try ((try simp only [BN] at hg); simp only [S1, simprocAttr, C6, dG, hE, List.length_map, hg] at q8 ⊢)); exact q8); refine q6 _ ?_; clear q6 K1)) | refine b6 fun K hK => ?_ | ((first | apply b8 | apply b5 | apply f9 | apply d3); try simp only [NB, simprocAttr]))
      all_goals simp only [S1, simprocAttr, ENB, C6]
      all_goals rw [er]
    | false =>
      have hen := zK hsz n1 n2 n3 hE
      obtain ⟨⟨s0, s1⟩, e0, e1⟩ := nN hE
      unfold K9 at hE
      repeat' (first | ((repeat ((fail_if_success (refine hK _ ?_)); clear hK K)); refine hK _ ?_; clear hK K) | ((first | refine b9 fun K1 q6 => ?_ | refine b7 fun A B hA hB => ?_); simp only [S1, simprocAttr, C6, dG, hE, List.length_map]; first | refine q6 _ ?_; clear q6 K1 | (refine hB ?_; clear hA hB A B) | (apply d4 E46; exact (hP ns hn fl hl hd _ s0 s1 _); refine q6 _ ?_; clear q6 K1) | (refine l6 (v := ?_) (fun hg q8 => ?_) ?_; rotate_left; (focus (try ((try simp only [BN] at hg); simp only [S1, simprocAttr, C6, dG, hE, List.length_map, hg] at q8 ⊢)); exact q8); refine q6 _ ?_; clear q6 K1)) | refine b6 fun K hK => ?_ | ((first | apply b8 | apply b5 | apply c7 | apply f9 | apply c9); try simp only [NB, simprocAttr]))
      refine p8 ns.length 131 (fun j => [(109, .i j), (108, .i ns.length), (107, .p (.sl (ns.map eN))), (11, aBl (P0 (esF fl) ns.length (m9 ns 1).toNat)), (8, .i (m9 ns 2)), (7, .i (m9 ns 1)), (2, .ptr (h.length + 1) 0 0), (1, .ptr h.length 0 0)])
        (fun j => [some ⟨0, x8 ns fl⟩, some ⟨0, [.i 0, .i 0]⟩]) (fun j => ∀ i, i < j → eP ns fl i = false) ?_ (fun i hi => by omega) fun j hj hp K hK => ?_
      · (refine ⟨rfl, (by first | exact ⟨_, rfl⟩ | exact ⟨[], by simp⟩), ?_, ?_⟩ <;> simp only [S1, simprocAttr, KNB] <;> (try and_intros) <;> (try assumption) <;> (try trivial) <;> (try omega))
      rcases Nat.lt_or_ge j ns.length with hlt | hge
      · have e := xZ (fl := fl) hlt (by omega)
        have la := V8 (esF fl) ns.length (m9 ns 1).toNat
        have lb := V8 (esF fl) ns.length j
        have j0 : (0 : Int) ≤ (j : Int) := by omega
        have ho := fun h => hP (G := G) ns hn fl hl hd j j0 (by omega) h
        rw [Int.toNat_natCast] at ho
        obtain ⟨x, hx⟩ : ∃ x, (P0 (esF fl) ns.length (m9 ns 1).toNat)[j]? = some x := ⟨_, List.getElem?_eq_getElem (by omega)⟩
        obtain ⟨y, hy⟩ : ∃ x, (P0 (esF fl) ns.length j)[(m9 ns 2).toNat]? = some x := ⟨_, List.getElem?_eq_getElem (by omega)⟩
        rw [hx, hy] at e
        simp only [Option.getD_some] at e
        have hx' : ((P0 (esF fl) ns.length (m9 ns 1).toNat).map eB)[j]? = some [.bool x] := by simp [hx, eB]
        have hy' : ((P0 (esF fl) ns.length j).map eB)[(m9 ns 2).toNat]? = some [.bool y] := by simp [hy, eB]
        cases hq : eP ns fl j with
        | false =>
          rw [hq] at e
          repeat' (first | ((repeat ((fail_if_success (refine hK _ ?_)); clear hK K)); refine hK _ ?_; clear hK K) | ((first | refine b9 fun K1 q6 => ?_ | refine b7 fun A B hA hB => ?_); simp only [S1, simprocAttr, C6, W9 hlt, K5 hn hlt, hx', hy', j0, e0, List.length_map, e.symm]; first | refine q6 _ ?_; clear q6 K1 | ((first | refine hA ?_ | refine hB ?_); clear hA hB A B) | (apply d4 E46; exact (ho _); refine q6 _ ?_; clear q6 K1) | (refine l6 (v := ?_) (fun hg q8 => ?_) ?_; rotate_left; (focus (try ((try simp only [BN] at hg); simp only [S1, simprocAttr, C6, W9 hlt, K5 hn hlt, hx', hy', j0, e0, List.length_map, e.symm, hg] at q8 ⊢)); exact q8); refine q6 _ ?_; clear q6 K1)) | refine b6 fun K hK => ?_ | ((first | apply b8 | apply b5 | apply c7 | apply c9); try simp only [NB, simprocAttr]))
          all_goals exact ⟨hlt, ta hp hq, by (refine ⟨rfl, (by first | exact ⟨_, rfl⟩ | exact ⟨[], by simp⟩), ?_, ?_⟩ <;> simp only [S1, simprocAttr, KNB] <;> (try and_intros) <;> (try assumption) <;> (try trivial) <;> (try omega))⟩
        | true =>
          have er : A9 ns fl = (4, (j : Int)) := by rw [hen, cx hp hq hlt]; rfl
          rw [hq] at e
          rw [er]
          repeat' (first | ((repeat ((fail_if_success (refine hK _ ?_)); clear hK K)); refine hK _ ?_; clear hK K) | ((first | refine b9 fun K1 q6 => ?_ | refine b7 fun A B hA hB => ?_); simp only [S1, simprocAttr, C6, W9 hlt, K5 hn hlt, hx', hy', j0, e0, List.length_map, e.symm]; first | refine q6 _ ?_; clear q6 K1 | (refine hA ?_; clear hA hB A B) | (apply d4 E46; exact (ho _); refine q6 _ ?_; clear q6 K1) | (refine l6 (v := ?_) (fun hg q8 => ?_) ?_; rotate_left; (focus (try ((try simp only [BN] at hg); simp only [S1, simprocAttr, C6, W9 hlt, K5 hn hlt, hx', hy', j0, e0, List.length_map, e.symm, hg] at q8 ⊢)); exact q8); refine q6 _ ?_; clear q6 K1)) | refine b6 fun K hK => ?_ | ((first | apply b8 | apply b5 | apply c7 | apply c9 | apply d3); try simp only [NB, simprocAttr]))
          all_goals simp only [S1, simprocAttr, ENB, C6]
      obtain rfl : j = ns.length := by omega
      have er : A9 ns fl = (0, 0) := by rw [hen, H4 hp]; rfl
      repeat' (first | ((repeat ((fail_if_success (refine hK _ ?_)); clear hK K)); refine hK _ ?_; clear hK K) | ((first | refine b9 fun K1 q6 => ?_ | refine b7 fun A B hA hB => ?_); simp only [S1, simprocAttr, C6, dG]; first | refine q6 _ ?_; clear q6 K1 | (refine hB ?_; clear hA hB A B)) | refine b6 fun K hK => ?_ | ((first | apply b8 | apply b5 | apply f9 | apply d3); try simp only [NB, simprocAttr]))
      all_goals simp only [S1, simprocAttr, ENB, C6]
      all_goals rw [er]
end
section
theorem N2 {S : List Int} {k : Nat} {x : Int} (h : S[k]? = some x) : (S.map AV.i).drop k = .p (.int .i64 x) :: (S.drop (k + 1)).map AV.i := by
  obtain ⟨hk, e⟩ := List.getElem?_eq_some_iff.mp h
  rw [← List.map_drop, List.drop_eq_getElem_cons hk, e]; rfl
theorem d7 (n e sz by' : Nat) (z : Option (List PV)) (cells : List AV) : P3 ⟨.array n e, sz, by', z⟩ cells = if sz ≤ cells.length then some (.agg (cells.take sz)) else none := by unfold P3; rfl
theorem d9 (fs : List (Nat × Nat × Nat)) (sz by' : Nat) (z : Option (List PV)) (cells : List AV) : P3 ⟨.struct fs, sz, by', z⟩ cells = if sz ≤ cells.length then some (.agg (cells.take sz)) else none := by unfold P3; rfl
theorem I3 (S : List Int) (k : Nat) (v : Int) : (S.map AV.i).set k (.p (.int .i64 v)) = (S.set k v).map AV.i := by
  rw [List.map_set]
theorem g9 (m : Nat) (S : List Int) : o4 m (S.map AV.i) := by
  induction S with
  | nil => trivial
  | cons x r ih => exact ⟨trivial, ih⟩
theorem d8 (S : List Int) : (S.map AV.i).all AV.scalar = true := by
  induction S with
  | nil => rfl
  | cons x r ih => simp only [List.map_cons, List.all_cons, ih]; rfl
theorem K6 {S : List Int} {n : Nat} (h : S.length = n + 1) : (S.map AV.i).isEmpty = false := by
  cases S with
  | nil => cases h
  | cons => rfl
theorem tb : ∀ (T S : List Int) (k : Nat), k + T.length ≤ S.length → w9 (S.map AV.i) k (T.map AV.i) = (S.take k ++ T ++ S.drop (k + T.length)).map AV.i
  | [], S, k, h => by simp [w9]
  | x :: r, S, k, h => by
    simp only [List.length_cons] at h
    simp only [List.map_cons, w9]
    rw [show (S.map AV.i).set k (AV.i x) = (S.set k x).map AV.i by rw [List.map_set], tb r (S.set k x) (k + 1) (by simp; omega)]
    congr 1
    rw [List.take_add_one, List.getElem?_set_self (by omega), List.take_set_of_le (Nat.le_refl k), List.drop_set_of_lt (by omega)]
    simp only [Option.toList_some, List.length_cons, List.append_assoc, List.cons_append, List.nil_append]
    congr 4
    omega
structure Sp where
  node : Int
  arg : Int
  lk : Int
  ln : Int
  la : Int
  to : List Int
abbrev aS (S : List Int) : AV := .agg (S.map AV.i)
def cSp (x : Sp) : List Int := [x.node, x.arg, x.lk, x.ln, x.la] ++ x.to
abbrev aSp (x : Sp) : AV := .agg ((cSp x).map AV.i)
def eSp (x : Sp) : List PV := (cSp x).map (PV.int .i64)
def ga (l : List Sp) : List AV := (l.flatMap cSp).map AV.i
theorem E4 {x : Sp} (h : x.to.length = 49) : (cSp x).length = 54 := by simp [cSp, h]
theorem ah : ∀ {l : List Sp}, (∀ x ∈ l, x.to.length = 49) → (ga l).length = l.length * 54
  | [], _ => rfl
  | x :: r, h => by
    have := ah (l := r) fun y hy => h y (by simp [hy])
    unfold ga at this ⊢
    rw [List.length_map] at this ⊢
    rw [List.flatMap_cons, List.length_append, this, E4 (h x (by simp)), List.length_cons]; omega
theorem bU (l : List Sp) (x : Sp) : ga (l ++ [x]) = ga l ++ (cSp x).map AV.i := by
  unfold ga; rw [List.flatMap_append, List.map_append]; simp
def gmC (ns : List Nd) (fl : List Fl) (S : List Int) (lb n : Nat) : List AV := .p (.sl (ns.map eN)) :: .p (.sl (fl.map eF)) :: (S.map AV.i ++ [.ref lb n 0 54 n])
def gmB (ns : List Nd) (fl : List Fl) (S : List Int) (lb : Nat) (l : List Sp) : Option Blk := some ⟨0, gmC ns fl S lb l.length⟩
section
variable {ns : List Nd} {fl : List Fl} {S : List Int} {lb n m : Nat}
theorem w8 (hS : S.length = 49) : (gmC ns fl S lb n).length = 52 := by simp [gmC, hS]
theorem mb : (gmC ns fl S lb n).drop 1 = .p (.sl (fl.map eF)) :: (S.map AV.i ++ [.ref lb n 0 54 n]) := rfl
theorem m3 : (gmC ns fl S lb n).take 2 = [.p (.sl (ns.map eN)), .p (.sl (fl.map eF))] := rfl
theorem wt (k : Nat) (hk : k ≤ S.length) : (gmC ns fl S lb n).drop (2 + k) = (S.drop k).map AV.i ++ [.ref lb n 0 54 n] := by
  unfold gmC
  rw [show 2 + k = k + 1 + 1 by omega, List.drop_succ_cons, List.drop_succ_cons, List.drop_append_of_le_length (by simpa using hk), List.map_drop]
theorem W2 {k : Nat} {x : Int} (h : S[k]? = some x) : (gmC ns fl S lb n).drop (2 + k) = .p (.int .i64 x) :: ((S.drop (k + 1)).map AV.i ++ [.ref lb n 0 54 n]) := by
  have hk := (List.getElem?_eq_some_iff.mp h).1
  rw [wt k (by omega), List.map_drop, N2 h]; rfl
theorem aJ (hS : S.length = 49) : (gmC ns fl S lb n).drop 51 = [.ref lb n 0 54 n] := by
  rw [show 51 = 2 + 49 by rfl, wt 49 (by omega), List.drop_of_length_le (by omega)]; rfl
theorem jS (k c : Nat) (hk : k + c ≤ S.length) : ((gmC ns fl S lb n).drop (2 + k)).take c = ((S.drop k).take c).map AV.i := by
  rw [wt k (by omega), List.take_append_of_le_length (by rw [List.length_map, List.length_drop]; omega), List.map_take]
theorem eS (hS : S.length = 49) : (gmC ns fl S lb n).set 51 (.ref lb m 0 54 m) = gmC ns fl S lb m := by
  unfold gmC
  rw [show (51 : Nat) = 49 + 1 + 1 by rfl, List.set_cons_succ, List.set_cons_succ, List.set_append_right _ _ (by simp [hS])]
  simp [hS]
end
def spB (l : List Sp) : Option Blk := some ⟨l.length, ga l⟩
def l5 (h : Heap) (b lb : Nat) (ns : List Nd) (fl : List Fl) (S : List Int) (l : List Sp) : Heap := (h.set b (gmB ns fl S lb l)).set lb (spB l)
section
variable {h : Heap} {b lb : Nat} {ns : List Nd} {fl : List Fl} {S : List Int} {l l' : List Sp}
theorem i5 : (l5 h b lb ns fl S l).length = h.length := by simp [l5]
theorem r4 (hb : b < h.length) (hne : b ≠ lb) (L : Heap) : (l5 h b lb ns fl S l ++ L)[b]? = some (gmB ns fl S lb l) := by
  rw [List.getElem?_append_left (by rw [i5]; exact hb)]
  unfold l5
  rw [List.getElem?_set_ne (fun e => hne e.symm), List.getElem?_set]; simp [hb]
theorem l9 (hl : lb < h.length) (L : Heap) : (l5 h b lb ns fl S l ++ L)[lb]? = some (spB l) := by
  rw [List.getElem?_append_left (by rw [i5]; exact hl)]
  unfold l5
  rw [List.getElem?_set]; simp [hl]
theorem m6 (hb : b < h.length) (hne : b ≠ lb) : (l5 h b lb ns fl S l)[b]? = some (gmB ns fl S lb l) := by have := r4 (ns := ns) (fl := fl) (S := S) (l := l) hb hne []; rwa [List.append_nil] at this
theorem j8 (hl : lb < h.length) : (l5 h b lb ns fl S l)[lb]? = some (spB l) := by have := l9 (b := b) (ns := ns) (fl := fl) (S := S) (l := l) hl []; rwa [List.append_nil] at this
theorem M3 (hb : b < h.length) (hl : lb < h.length) (L : Heap) : l5 (h ++ L) b lb ns fl S l = l5 h b lb ns fl S l ++ L := by
  unfold l5
  rw [List.set_append_left _ _ hb, List.set_append_left _ _ (by simpa using hl)]
theorem A3 (L : Heap) : (l5 h b lb ns fl S l ++ L)[h.length]? = L[0]? := by rw [List.getElem?_append_right (by rw [i5]; omega), i5]; congr 1; omega
theorem v6 (L : Heap) (i : Nat) : (l5 h b lb ns fl S l ++ L)[h.length + i]? = L[i]? := by rw [List.getElem?_append_right (by rw [i5]; omega), i5]; congr 1; omega
theorem C1 (L : Heap) (x : Option Blk) : (l5 h b lb ns fl S l ++ L).set h.length x = l5 h b lb ns fl S l ++ L.set 0 x := by rw [List.set_append_right _ _ (by rw [i5]; omega), i5]; congr 2; omega
theorem z6 (L : Heap) (i : Nat) (x : Option Blk) : (l5 h b lb ns fl S l ++ L).set (h.length + i) x = l5 h b lb ns fl S l ++ L.set i x := by rw [List.set_append_right _ _ (by rw [i5]; omega), i5]; congr 2; omega
theorem m5 (L : Heap) : (l5 h b lb ns fl S l ++ L).take h.length = l5 h b lb ns fl S l := by
  have := i5 (h := h) (b := b) (lb := lb) (ns := ns) (fl := fl) (S := S) (l := l)
  rw [← this, List.take_left']; rfl
theorem k8 : (l5 h b lb ns fl S l).take h.length = l5 h b lb ns fl S l := by
  have := i5 (h := h) (b := b) (lb := lb) (ns := ns) (fl := fl) (S := S) (l := l)
  rw [← this, List.take_length]
theorem ur (hl : lb < h.length) (L : Heap) (x : Option Blk) : (l5 h b lb ns fl S l ++ L).set lb x = (h.set b (gmB ns fl S lb l)).set lb x ++ L := by
  rw [List.set_append_left _ _ (by rw [i5]; exact hl)]
  unfold l5; rw [List.set_set]
theorem zL (hl : lb < h.length) : o4 h.length (gmC ns fl S lb l.length) := by
  have : ∀ (m : Nat) (a c : List AV), o4 m a → o4 m c → o4 m (a ++ c) := by
    intro m a c ha hc
    induction a with
    | nil => exact hc
    | cons x r ih => exact ⟨ha.1, ih ha.2⟩
  exact ⟨trivial, trivial, this _ _ _ (g9 _ S) ⟨hl, trivial⟩⟩
theorem aK {l0 : List Sp} (hl : lb < h.length) : ∀ (i : Nat) (bk : Blk), (l5 h b lb ns fl S l)[i]? = some (some bk) → (l5 h b lb ns fl S l0)[i]? = some (some bk) ∨ o4 (l5 h b lb ns fl S l0).length bk.cells := by
  intro i bk hi
  rw [i5]
  unfold l5 at hi ⊢
  rw [List.getElem?_set] at hi
  split at hi
  · split at hi
    · cases hi; exact .inr (g9 _ _)
    · cases hi
  · rename_i e
    rw [List.getElem?_set] at hi
    split at hi
    · split at hi
      · cases hi; exact .inr (zL hl)
      · cases hi
    · rename_i e2
      left
      rw [List.getElem?_set_ne e, List.getElem?_set_ne e2]; exact hi
theorem d6 {l0 : List Sp} (hl : lb < h.length) (i : Nat) (bk : Blk) (hi : (l5 h b lb ns fl S l)[i]? = some (some bk)) : (l5 h b lb ns fl S l0)[i]? = some (some bk) ∨ ∀ x, x ∈ bk.cells → AVlt h.length x :=
  (aK hl i bk hi).imp id fun hx => by rw [i5] at hx; exact L5 _ hx
end
def LNB := And.intro @List.length_map.{0, 0} (And.intro @List.length_take.{0} (And.intro @List.length_drop.{0} @Nat.mul_one))
def PGB := And.intro @d7 (And.intro @d9 (And.intro @d8 (And.intro @List.length_map.{0, 0} (And.intro @List.length_take.{0} (And.intro @List.length_drop.{0} (And.intro @Nat.mul_one (And.intro @i5 (And.intro @A3 (And.intro @v6 (And.intro @C1 @z6))))))))))
end
section
def tc := And.intro T2 (And.intro T3 (And.intro T4 (And.intro T22 (And.intro T23 (And.intro T25 (And.intro T55 (And.intro T57 (And.intro T58 (And.intro T60 (And.intro T73 (And.intro T75 (And.intro T77 T80))))))))))))
attribute [local irreducible] awp n9 k3 l8 o6 n5
variable {G : Nat → Option (List PV)}
def bx (l : List Int) : Int := l.foldl (fun n x => IntKind.i64.wrap (n + x)) 0
theorem mc {l : List Int} {i : Nat} {x : Int} (h : l[i]? = some x) : bx (l.take (i + 1)) = IntKind.i64.wrap (bx (l.take i) + x) := by
  unfold bx; rw [List.take_add_one, h]; simp
theorem cX {i n : Nat} {m : Int} (h : i < n) (hm : m = n) : decide ((i : Int) < m) = true := by subst hm; simp; omega
theorem Q4 {i n : Nat} (hn : n ≤ 1000) (h : i < n) : IntKind.i64.wrap ((i : Int) + 1) = ((i + 1 : Nat) : Int) := by rw [IntWalk.i64_in _ (by omega)]; omega
theorem cY (S : List Int) (hS : S.length = 49) (h : Heap) : d5 Tryz.prog G 68 [aS S] h (fun r h' => r = .i (bx (S.take 40)) ∧ h' = h) := by
  have hne := K6 hS
  refine c8 (rl := []) e9 Tryz.func68 rfl (rs := [.tmp 2]) rfl Tryz.ntmps68 (by simp) ?_
  repeat' (first | ((repeat ((fail_if_success (refine hK _ ?_)); clear hK K)); refine hK _ ?_; clear hK K) | (refine b9 fun K1 q6 => ?_; simp only [S1, simprocAttr, tc, List.length_map, hS, hne, d8]; refine q6 _ ?_; clear q6 K1) | refine b6 fun K hK => ?_ | ((first | apply b8 | apply b5 | apply c7); try simp only [NB, simprocAttr]))
  refine p8 40 16 (fun i => [(4, .i i), (3, .i (bx (S.take i))), (1, .ptr h.length 0 0)]) (fun i => [some ⟨0, S.map AV.i⟩]) (fun i => True) ?_ trivial fun i hi hp K hK => ?_
  · refine ⟨rfl, ⟨[], by simp only [List.append_nil]⟩, ?_, g9 _ _, trivial⟩
    simp only [List.take_zero, bx, List.foldl_nil]
    simp only [S1, simprocAttr, KNB] <;> (try and_intros) <;> (try assumption) <;> (try trivial) <;> (try omega)
  rcases Nat.lt_or_ge i 40 with hlt | hge
  · obtain ⟨x, hx⟩ : ∃ x, S[i]? = some x := ⟨_, List.getElem?_eq_getElem (by omega)⟩
    have i0 : (0 : Int) ≤ (i : Int) := by omega
    have i40 : (i : Int) < 40 := by omega
    have hst := mc hx
    repeat' (first | ((repeat ((fail_if_success (refine hK _ ?_)); clear hK K)); refine hK _ ?_; clear hK K) | ((first | refine b9 fun K1 q6 => ?_ | refine b7 fun A B hA hB => ?_); simp only [S1, simprocAttr, tc, cX hlt rfl, Q4 (n := 40) (by omega) hlt, i0, i40, N2 hx, Nat.mul_one]; first | refine q6 _ ?_; clear q6 K1 | (refine hA ?_; clear hA hB A B)) | refine b6 fun K hK => ?_ | ((first | apply b8 | apply b5 | apply c7 | apply c9); try simp only [NB, simprocAttr]))
    all_goals refine ⟨hlt, trivial, ?_⟩
    all_goals simp only [hst]
    all_goals refine ⟨rfl, ⟨_, rfl⟩, ?_, g9 _ _, trivial⟩
    all_goals simp only [S1, simprocAttr, KNB] <;> (try and_intros) <;> (try assumption) <;> (try trivial) <;> (try omega)
  · obtain rfl : i = 40 := by omega
    repeat' (first | ((repeat ((fail_if_success (refine hK _ ?_)); clear hK K)); refine hK _ ?_; clear hK K) | ((first | refine b9 fun K1 q6 => ?_ | refine b7 fun A B hA hB => ?_); simp only [S1, simprocAttr, tc]; first | refine q6 _ ?_; clear q6 K1 | (refine hB ?_; clear hA hB A B)) | refine b6 fun K hK => ?_ | ((first | apply b8 | apply b5 | apply f9 | apply d3); try simp only [NB, simprocAttr]))
    all_goals simp only [S1, simprocAttr, ENB, tc]
end
section
def bW := And.intro T2 (And.intro T3 (And.intro T4 (And.intro T25 (And.intro T28 (And.intro T41 (And.intro T57 (And.intro T58 (And.intro T60 (And.intro T62 (And.intro T65 (And.intro rm rn)))))))))))
attribute [local irreducible] awp n9 k3 l8 o6 n5
variable {G : Nat → Option (List PV)}
def tk (S : List Int) (f : Int) : Int := S.getD f.toNat 0
def T7 (S : List Int) (f : Int) : Option (List Int) := if tk S f < 1 then none else some (S.set f.toNat (tk S f - 1))
def W3 (S : List Int) (f : Int) : Option (List Int) := if 2 < tk S f then none else some (S.set f.toNat (tk S f + 1))
def S7 (step : List Int → Int → Option (List Int)) (l : List Int) (S : List Int) : Option (List Int) := l.foldlM step S
theorem jT {step : List Int → Int → Option (List Int)} {l S T : List Int} {i : Nat} {f : Int} (h : l[i]? = some f) (hr : S7 step (l.take i) S = some T) : S7 step (l.take (i + 1)) S = step T f := by
  unfold S7 at *
  rw [List.take_add_one, h, List.foldlM_append, hr]
  simp
theorem pO {step : List Int → Int → Option (List Int)} {l S T : List Int} {i : Nat} {f : Int} (h : l[i]? = some f) (hr : S7 step (l.take i) S = some T) (hs : step T f = none) : S7 step l S = none := by
  have h1 := jT h hr
  rw [hs] at h1
  have e : l = l.take (i + 1) ++ l.drop (i + 1) := (List.take_append_drop _ _).symm
  unfold S7 at *
  rw [e, List.foldlM_append, h1]; rfl
def eU (S : List Int) : Prop := S.length = 49 ∧ ∀ i x, i < 40 → S[i]? = some x → 0 ≤ x ∧ x ≤ 3
theorem eU.at {S : List Int} (h : eU S) {k : Nat} (hk : k < 40) : S[k]? = some (tk S k) ∧ 0 ≤ tk S k ∧ tk S k ≤ 3 := by
  have hl := h.1
  have e : S[k]? = some (tk S k) := by
    unfold tk
    rw [Int.toNat_natCast, List.getD_eq_getElem?_getD, List.getElem?_eq_getElem (by omega)]; rfl
  exact ⟨e, h.2 k _ hk e⟩
theorem eU.set {S : List Int} (h : eU S) {k : Nat} (hk : k < 40) {v : Int} (h0 : 0 ≤ v) (h3 : v ≤ 3) : eU (S.set k v) := by
  refine ⟨by rw [List.length_set]; exact h.1, fun i x hi hx => ?_⟩
  rw [List.getElem?_set] at hx
  split at hx
  · split at hx
    · cases hx; exact ⟨h0, h3⟩
    · cases hx
  · exact h.2 i x hi hx
def B2 (S T : List Int) : List Int := S.take 40 ++ T.drop 40
theorem rM {S T : List Int} (hS : eU S) (hT : T.length = 49) : eU (B2 S T) := by
  have hl := hS.1
  refine ⟨by simp [B2]; omega, fun i x hi hx => ?_⟩
  unfold B2 at hx
  rw [List.getElem?_append_left (by rw [List.length_take]; omega), List.getElem?_take_of_lt hi] at hx
  exact hS.2 i x hi hx
def m8 (S : List Int) (x : Sp) (fr to : List Int) : List Sp :=
  match S7 T7 fr (B2 S x.to) with
  | none => []
  | some T => match S7 W3 to T with
    | none => []
    | some U => [{ x with to := U }]
def InF (l : List Int) : Prop := l.length ≤ 100 ∧ ∀ f ∈ l, 0 ≤ f ∧ f < 40
theorem zM {x : Sp} {k : Nat} {v : Int} (h : x.to[k]? = some v) : (cSp x)[5 + k]? = some v := by
  unfold cSp; rw [List.getElem?_append_right (by simp)]; simpa using h
theorem pP {x : Sp} {k : Nat} {v : Int} (h : x.to[k]? = some v) : ((cSp x).map AV.i).drop (5 + k) = .p (.int .i64 v) :: ((cSp x).drop (5 + k + 1)).map AV.i := N2 (zM h)
theorem td (x : Sp) (k : Nat) (v : Int) : ((cSp x).map AV.i).set (5 + k) (.p (.int .i64 v)) = (cSp { x with to := x.to.set k v }).map AV.i := by
  rw [I3]
  congr 1
  unfold cSp
  rw [List.set_append_right _ _ (by simp)]
  simp
theorem wu {x : Sp} {S : List Int} (hS : S.length = 49) (hx : x.to.length = 49) : w9 ((cSp x).map AV.i) 5 ((S.take 40).map AV.i) = (cSp { x with to := B2 S x.to }).map AV.i := by
  rw [tb (S.take 40) (cSp x) 5 (by rw [E4 hx, List.length_take]; omega)]
  congr 1
  have e : (S.take 40).length = 40 := by rw [List.length_take]; omega
  rw [e]
  unfold cSp B2
  simp
theorem wv {x : Sp} (hx : x.to.length = 49) : ((cSp x).map AV.i).take 54 = (cSp x).map AV.i := List.take_of_length_le (by rw [List.length_map, E4 hx]; exact Nat.le_refl _)
theorem rN (x : Sp) : ((cSp x).map AV.i).isEmpty = false := rfl
structure Qt where
  i : Nat
  T : List Int
theorem Q5 : ∀ S : List Int, pvs (S.map AV.i) = some (S.map (PV.int .i64))
  | [] => rfl
  | x :: r => by simp only [List.map_cons, pvs, Q5 r, Option.map_some]
theorem N3 {α : Type} (n : Nat) (l : List α) (h : l.length = n) : B7 n 1 l = [l] := by
  simp only [B7]; rw [List.take_of_length_le (by omega)]
structure GmOk (h : Heap) (b lb : Nat) (S : List Int) (l : List Sp) : Prop where
  hb : b < h.length
  hl : lb < h.length
  ne : b ≠ lb
  held : eU S
  len : ∀ x ∈ l, x.to.length = 49
  few : l.length ≤ 1000000
theorem x9 (S : List Int) : (S.map (PV.int .i64)).map AV.p = S.map AV.i := by rw [List.map_map]; rfl
theorem jU {h : Heap} {b lb : Nat} {ns : List Nd} {fl : List Fl} {S : List Int} {l l' : List Sp} (hb : b < h.length) (hl : lb < h.length) (hne : b ≠ lb) (L : Heap) : ((l5 h b lb ns fl S l ++ L).set lb (spB l')).set b (gmB ns fl S lb l') = l5 h b lb ns fl S l' ++ L := by
  rw [ur hl, List.set_append_left _ _ (by simpa using hb)]
  unfold l5
  rw [List.set_comm _ _ hne.symm, List.set_set]
theorem pQ {h : Heap} {b lb : Nat} {ns : List Nd} {fl : List Fl} {S : List Int} {l : List Sp} (hb : b < h.length) (hne : b ≠ lb) (X : Option Blk) (L : Heap) : ((l5 h b lb ns fl S l ++ L).set lb X)[b]? = some (gmB ns fl S lb l) := by
  rw [List.getElem?_set_ne hne.symm, r4 hb hne]
theorem l7 {cs : List AV} {n : Nat} (hc : cs.length = n) (c : List AV) (h : c.length = n) : w9 c 0 cs = cs := by
  rw [nC cs c 0 (by omega)]; rfl
theorem gb {h : Heap} {b lb : Nat} {ns : List Nd} {fl : List Fl} {S : List Int} {l : List Sp} (ok : GmOk h b lb S l) (x : Sp) (hx : x.to.length = 49) (fr to : List Int) (hfr : InF fr) (hto : InF to) :
    d5 Tryz.prog G 50 [.ptr b 0 0, aSp x, aI fr, aI to] (l5 h b lb ns fl S l) (fun r h' => r = .undef ∧ h' = l5 h b lb ns fl S (l ++ m8 S x fr to)) := by
  have hb := ok.hb
  have hl := ok.hl
  have hne := ok.ne
  have hS := ok.held.1
  have hmax : l.length + 1 ≤ j7 := by have := ok.few; unfold j7; omega
  have e0 : (cSp x).length = 54 := E4 hx
  have t40 := jS (ns := ns) (fl := fl) (lb := lb) (n := l.length) (S := S) 0 40 (by omega)
  have gl := w8 (ns := ns) (fl := fl) (lb := lb) (n := l.length) hS
  have ov := wu (x := x) hS hx
  have ne := rN x
  simp only [Nat.add_zero, List.drop_zero] at t40
  refine i3 (rl := []) e9 Tryz.func50 rfl (rs := []) rfl Tryz.ntmps50 (by simp) ?_
  repeat' (first | ((repeat ((fail_if_success (refine hK _ ?_)); clear hK K)); refine hK _ ?_; clear hK K) | (refine b9 fun K1 q6 => ?_; simp only [S1, simprocAttr, bW, d7, d9, List.length_map, List.length_take, List.length_drop, e0, hS, ne, d8, i5, r4 hb hne, l9 hl, A3, v6, C1, z6, gmB, gl, t40, ov, Nat.mul_one]; refine q6 _ ?_; clear q6 K1) | refine b6 fun K hK => ?_ | ((first | apply b8 | apply b5 | apply c7); try simp only [NB, simprocAttr]))
  have hmG0 : m8 S x fr to = (match S7 T7 fr (B2 S x.to) with
      | none => []
      | some T => match S7 W3 to T with
        | none => []
        | some U => [{ x with to := U }]) := rfl
  refine H9 (σ := Qt) (fun q => fr.length - q.i) 75 (fun q => [(21, .i q.i), (20, .i fr.length), (19, aI fr), (5, .ptr h.length 0 0), (3, aI to), (0, .ptr b 0 0)]) (fun q => [some ⟨0, (cSp { x with to := q.T }).map AV.i⟩])
    (fun q => q.i ≤ fr.length ∧ eU q.T ∧ S7 T7 (fr.take q.i) (B2 S x.to) = some q.T) ⟨0, B2 S x.to⟩ ?_ ⟨Nat.zero_le _, rM ok.held hx, rfl⟩ fun q hq K hK => ?_
  · refine ⟨rfl, ⟨[], by simp only [List.append_nil]⟩, ?_, g9 _ _, trivial⟩
    simp only [S1, simprocAttr, KNB, i5] <;> (try and_intros) <;> (try assumption) <;> (try trivial) <;> (try omega)
  obtain ⟨i, T⟩ := q
  obtain ⟨hi, hT, hrun⟩ := hq
  simp only at hi hT hrun
  rcases Nat.lt_or_ge i fr.length with hlt | hge
  · obtain ⟨f, hf⟩ : ∃ f, fr[i]? = some f := ⟨_, List.getElem?_eq_getElem hlt⟩
    obtain ⟨f0, f40⟩ := hfr.2 f (List.mem_of_getElem? hf)
    obtain ⟨k, rfl⟩ := Int.eq_ofNat_of_zero_le f0
    have k40 : k < 40 := by omega
    obtain ⟨hv, v0, v3⟩ := hT.at k40
    have hst := jT hf hrun
    have hdr := pP (x := { x with to := T }) hv
    have hse := fun v => td { x with to := T } k v
    have hln : (cSp { x with to := T }).length = 54 := E4 hT.1
    have hk54 : 5 + k + 1 ≤ 54 := by omega
    simp only at hdr hse
    generalize hvv : tk T (k : Int) = v at *
    by_cases h1 : v < 1
    · have hno : T7 T (k : Int) = none := by unfold T7; rw [hvv, if_pos h1]
      have hmv : m8 S x fr to = [] := by rw [hmG0, pO hf hrun hno]
      have h1' : decide (v < 1) = true := decide_eq_true h1
      rw [hmv, List.append_nil]
      repeat' (first | ((repeat ((fail_if_success (refine hK _ ?_)); clear hK K)); refine hK _ ?_; clear hK K) | ((first | refine b9 fun K1 q6 => ?_ | refine b7 fun A B hA hB => ?_); simp only [S1, simprocAttr, bW, F5 hf, O1 hlt, H3 (by have := hfr.1; omega) hlt, f0, f40, hdr, h1', d7, d9, List.length_map, List.length_take, List.length_drop, i5, A3, v6, C1, z6, Nat.mul_one]; first | refine q6 _ ?_; clear q6 K1 | (refine hA ?_; clear hA hB A B)) | refine b6 fun K hK => ?_ | ((first | apply b8 | apply b5 | apply c7 | apply c9 | apply d3); try simp only [NB, simprocAttr]))
      all_goals simp only [A0, y7, Q3, Q2, I4, F8, E6, G4, pur, L4, i5, m5, k8, List.length_append, S1, simprocAttr, bW, Nat.le_add_right, Nat.le_refl]
      all_goals first | exact d6 hl | exact ⟨d6 hl, rfl⟩ | exact ⟨d6 hl, rfl, rfl⟩
    · have h1' : decide (v < 1) = false := decide_eq_false h1
      have hyes : T7 T (k : Int) = some (T.set k (v - 1)) := by unfold T7; rw [hvv, if_neg h1, Int.toNat_natCast]
      have hw : IntKind.i64.wrap (v - 1) = v - 1 := IntWalk.i64_in _ (by omega)
      rw [hyes] at hst
      repeat' (first | ((repeat ((fail_if_success (refine hK _ ?_)); clear hK K)); refine hK _ ?_; clear hK K) | ((first | refine b9 fun K1 q6 => ?_ | refine b7 fun A B hA hB => ?_); simp only [S1, simprocAttr, bW, F5 hf, O1 hlt, H3 (by have := hfr.1; omega) hlt, f0, f40, hdr, hse, h1', hw, hln, hk54, d7, d9, List.length_map, List.length_take, List.length_drop, i5, A3, v6, C1, z6, Nat.mul_one]; first | refine q6 _ ?_; clear q6 K1 | ((first | refine hA ?_ | refine hB ?_); clear hA hB A B)) | refine b6 fun K hK => ?_ | ((first | apply b8 | apply b5 | apply c7 | apply c9); try simp only [NB, simprocAttr]))
      all_goals refine ⟨⟨i + 1, T.set k (v - 1)⟩, by simp only; omega, ⟨hlt, hT.set k40 (by omega) (by omega), hst⟩, ?_⟩
      all_goals refine ⟨rfl, ⟨_, rfl⟩, ?_, g9 _ _, trivial⟩
      all_goals simp only [S1, simprocAttr, KNB, i5] <;> (try and_intros) <;> (try assumption) <;> (try trivial) <;> (try omega)
  · obtain rfl : i = fr.length := by omega
    rw [List.take_length] at hrun
    repeat' (first | ((repeat ((fail_if_success (refine hK _ ?_)); clear hK K)); refine hK _ ?_; clear hK K) | ((first | refine b9 fun K1 q6 => ?_ | refine b7 fun A B hA hB => ?_); simp only [S1, simprocAttr, bW, I1, d7, d9, List.length_map, List.length_take, List.length_drop, i5, A3, v6, C1, z6, Nat.mul_one]; first | refine q6 _ ?_; clear q6 K1 | (refine hB ?_; clear hA hB A B)) | refine b6 fun K hK => ?_ | ((first | apply b8 | apply b5 | apply c7 | apply f9); try simp only [NB, simprocAttr]))
    have hmG1 : m8 S x fr to = (match S7 W3 to T with
        | none => []
        | some U => [{ x with to := U }]) := by rw [hmG0, hrun]
    refine H9 (σ := Qt) (fun q => to.length - q.i) 75 (fun q => [(44, .i q.i), (43, .i to.length), (42, aI to), (5, .ptr h.length 0 0), (0, .ptr b 0 0)]) (fun q => [some ⟨0, (cSp { x with to := q.T }).map AV.i⟩])
      (fun q => q.i ≤ to.length ∧ eU q.T ∧ S7 W3 (to.take q.i) T = some q.T) ⟨0, T⟩ ?_ ⟨Nat.zero_le _, hT, rfl⟩ fun q hq K hK => ?_
    · refine ⟨rfl, ⟨[], by simp only [List.append_nil]⟩, ?_, g9 _ _, trivial⟩
      simp only [S1, simprocAttr, KNB, i5] <;> (try and_intros) <;> (try assumption) <;> (try trivial) <;> (try omega)
    obtain ⟨j, U⟩ := q
    obtain ⟨hj, hU, hrun2⟩ := hq
    simp only at hj hU hrun2
    rcases Nat.lt_or_ge j to.length with hlt | hge
    · obtain ⟨f, hf⟩ : ∃ f, to[j]? = some f := ⟨_, List.getElem?_eq_getElem hlt⟩
      obtain ⟨f0, f40⟩ := hto.2 f (List.mem_of_getElem? hf)
      obtain ⟨k, rfl⟩ := Int.eq_ofNat_of_zero_le f0
      have k40 : k < 40 := by omega
      obtain ⟨hv, v0, v3⟩ := hU.at k40
      have hst := jT hf hrun2
      have hdr := pP (x := { x with to := U }) hv
      have hse := fun v => td { x with to := U } k v
      have hln : (cSp { x with to := U }).length = 54 := E4 hU.1
      have hk54 : 5 + k + 1 ≤ 54 := by omega
      simp only at hdr hse
      generalize hvv : tk U (k : Int) = v at *
      by_cases h1 : 2 < v
      · have hno : W3 U (k : Int) = none := by unfold W3; rw [hvv, if_pos h1]
        have hmv : m8 S x fr to = [] := by rw [hmG1, pO hf hrun2 hno]
        have h1' : decide (2 < v) = true := decide_eq_true h1
        rw [hmv, List.append_nil]
        repeat' (first | ((repeat ((fail_if_success (refine hK _ ?_)); clear hK K)); refine hK _ ?_; clear hK K) | ((first | refine b9 fun K1 q6 => ?_ | refine b7 fun A B hA hB => ?_); simp only [S1, simprocAttr, bW, F5 hf, O1 hlt, H3 (by have := hto.1; omega) hlt, f0, f40, hdr, h1', d7, d9, List.length_map, List.length_take, List.length_drop, i5, A3, v6, C1, z6, Nat.mul_one]; first | refine q6 _ ?_; clear q6 K1 | (refine hA ?_; clear hA hB A B)) | refine b6 fun K hK => ?_ | ((first | apply b8 | apply b5 | apply c7 | apply c9 | apply d3); try simp only [NB, simprocAttr]))
        all_goals simp only [A0, y7, Q3, Q2, I4, F8, E6, G4, pur, L4, i5, m5, k8, List.length_append, S1, simprocAttr, bW, Nat.le_add_right, Nat.le_refl]
        all_goals first | exact d6 hl | exact ⟨d6 hl, rfl⟩ | exact ⟨d6 hl, rfl, rfl⟩
      · have h1' : decide (2 < v) = false := decide_eq_false h1
        have hyes : W3 U (k : Int) = some (U.set k (v + 1)) := by unfold W3; rw [hvv, if_neg h1, Int.toNat_natCast]
        have hw : IntKind.i64.wrap (v + 1) = v + 1 := IntWalk.i64_in _ (by omega)
        rw [hyes] at hst
        repeat' (first | ((repeat ((fail_if_success (refine hK _ ?_)); clear hK K)); refine hK _ ?_; clear hK K) | ((first | refine b9 fun K1 q6 => ?_ | refine b7 fun A B hA hB => ?_); simp only [S1, simprocAttr, bW, F5 hf, O1 hlt, H3 (by have := hto.1; omega) hlt, f0, f40, hdr, hse, h1', hw, hln, hk54, d7, d9, List.length_map, List.length_take, List.length_drop, i5, A3, v6, C1, z6, Nat.mul_one]; first | refine q6 _ ?_; clear q6 K1 | ((first | refine hA ?_ | refine hB ?_); clear hA hB A B)) | refine b6 fun K hK => ?_ | ((first | apply b8 | apply b5 | apply c7 | apply c9); try simp only [NB, simprocAttr]))
        all_goals refine ⟨⟨j + 1, U.set k (v + 1)⟩, by simp only; omega, ⟨hlt, hU.set k40 (by omega) (by omega), hst⟩, ?_⟩
        all_goals refine ⟨rfl, ⟨_, rfl⟩, ?_, g9 _ _, trivial⟩
        all_goals simp only [S1, simprocAttr, KNB, i5] <;> (try and_intros) <;> (try assumption) <;> (try trivial) <;> (try omega)
    · obtain rfl : j = to.length := by omega
      rw [List.take_length] at hrun2
      have hmv : m8 S x fr to = [{ x with to := U }] := by rw [hmG1, hrun2]
      have hln : (cSp { x with to := U }).length = 54 := E4 hU.1
      have htk := wv (x := { x with to := U }) hU.1
      have hov := l7 (cs := (cSp { x with to := U }).map AV.i) (n := 54) (by rw [List.length_map, hln])
      have hpv := Q5 (cSp { x with to := U })
      have hch := N3 54 ((cSp { x with to := U }).map (PV.int .i64)) (by rw [List.length_map, hln])
      have hmm := x9 (cSp { x with to := U })
      have hti : ((cSp { x with to := U }).map (PV.int .i64)).take 54 = (cSp { x with to := U }).map (PV.int .i64) := List.take_of_length_le (by rw [List.length_map, hln]; exact Nat.le_refl _)
      have hsl := ah ok.len
      have hrf := aJ (ns := ns) (fl := fl) (lb := lb) (n := l.length) hS
      have hgs := eS (ns := ns) (fl := fl) (lb := lb) (n := l.length) (m := l.length + 1) hS
      have hgb := pQ (ns := ns) (fl := fl) (S := S) (l := l) hb hne
      have hfn : ∀ L : Heap, ((l5 h b lb ns fl S l ++ L).set lb (some ⟨l.length + 1, ga l ++ (cSp { x with to := U }).map AV.i⟩)).set b (some ⟨0, gmC ns fl S lb (l.length + 1)⟩) = l5 h b lb ns fl S (l ++ [{ x with to := U }]) ++ L := fun L => by
        have := jU (ns := ns) (fl := fl) (S := S) (l := l) (l' := l ++ [{ x with to := U }]) hb hl hne L
        simpa only [spB, gmB, List.length_append, List.length_cons, List.length_nil, Nat.zero_add, bU] using this
      rw [hmv]
      repeat' (first | ((first | apply b8 | apply s4); (try simp only [NB])) | ((repeat ((fail_if_success (refine hK _ ?_)); clear hK K)); refine hK _ ?_; clear hK K) | ((first | refine b9 fun K1 q6 => ?_ | refine v8 rfl rfl rfl fun K1 q6 => ?_ | refine b7 fun A B hA hB => ?_); simp only [S1, simprocAttr, bW, I1, hln, htk, hov, hpv, hch, hti, hmm, hsl, hrf, hgs, hgb, hfn, hmax, d8, r4 hb hne, l9 hl, gmB, spB, gl, rN, d7, d9, List.length_map, List.length_take, List.length_drop, i5, A3, v6, C1, z6, Nat.mul_one]; first | refine q6 _ ?_; clear q6 K1 | (refine hB ?_; clear hA hB A B)) | ((first | refine u6 (v := ?_) rfl rfl rfl rfl (by decide) (fun R1 K1 q6 => ?_) ?_ | refine y5 (v := ?_) rfl rfl rfl (by decide) (fun K1 q6 => ?_) ?_ | refine X4 (v := ?_) rfl rfl rfl (by decide) (fun K1 q6 => ?_) ?_); rotate_left; (focus (simp only [S1, simprocAttr, bW, I1, hln, htk, hov, hpv, hch, hti, hmm, hsl, hrf, hgs, hgb, hfn, hmax, d8, r4 hb hne, l9 hl, gmB, spB, gl, rN, d7, d9, List.length_map, List.length_take, List.length_drop, i5, A3, v6, C1, z6, Nat.mul_one]; (exact q6 _ _ _)))) | (refine s5 rfl rfl rfl ?_) | refine b6 fun K hK => ?_ | (refine o9 (es := []) [0, 1, 2, 3, 4, 5, 6, 7, 8, 9, 10] 0 (fs := []) rfl (by kernel_rfl) (by kernel_rfl) ?_) | ((first | apply b5 | apply f9); try simp only [NB, simprocAttr]))
      all_goals simp only [A0, y7, Q3, Q2, I4, F8, E6, G4, pur, L4, i5, m5, k8, List.length_append, S1, simprocAttr, bW, Nat.le_add_right, Nat.le_refl]
      all_goals exact ⟨d6 hl, by rw [hmv]⟩
end
section
def zf := And.intro T2 (And.intro T3 (And.intro T4 (And.intro T25 (And.intro T28 (And.intro T41 (And.intro T57 (And.intro T58 (And.intro T60 (And.intro T62 (And.intro T65 (And.intro rm rn)))))))))))
attribute [local irreducible] awp n9 k3 l8 o6 n5
variable {G : Nat → Option (List PV)}
theorem GmOk.ext {h : Heap} {b lb : Nat} {S : List Int} {l : List Sp} (ok : GmOk h b lb S l) (L : Heap) : GmOk (h ++ L) b lb S l :=
  ⟨by have := ok.hb; simp; omega, by have := ok.hl; simp; omega, ok.ne, ok.held, ok.len, ok.few⟩
theorem B6 (S : List Int) (x : Sp) (fr to : List Int) : (m8 S x fr to).length ≤ 1 := by
  unfold m8
  split
  · simp
  · split <;> simp
theorem dJ {h : Heap} {b lb : Nat} {ns : List Nd} {fl : List Fl} {S : List Int} {l : List Sp} (ok : GmOk h b lb S l) (x : Sp) (hx : x.to.length = 49) (fr to : List Int) (hfr : InF fr) (hto : InF to) (L : Heap) :
    d5 Tryz.prog G 50 [.ptr b 0 0, aSp x, aI fr, aI to] (l5 h b lb ns fl S l ++ L) (fun r h' => r = .undef ∧ h' = l5 h b lb ns fl S (l ++ m8 S x fr to) ++ L) := by
  have := gb (G := G) (ns := ns) (fl := fl) (ok.ext L) x hx fr to hfr hto
  rwa [M3 ok.hb ok.hl, M3 ok.hb ok.hl] at this
theorem D3 {S : List Int} {n : Nat} (hS : S.length = n) (a b c d e : AV) (t : List AV) (ht : t.length = n) : w9 (a :: b :: c :: d :: e :: t) 5 (S.map AV.i) = a :: b :: c :: d :: e :: S.map AV.i := by
  rw [nC (S.map AV.i) _ 5 (by simp [hS, ht]; omega)]; rfl
theorem x6 {ns : List Nd} {fl : List Fl} {S : List Int} {lb n : Nat} (hS : S.length = 49) : ((gmC ns fl S lb n).drop 2).take 49 = S.map AV.i := by
  have := jS (ns := ns) (fl := fl) (lb := lb) (n := n) (S := S) 0 49 (by omega)
  simp only [Nat.add_zero, List.drop_zero] at this
  rw [this, List.take_of_length_le (by omega)]
def v7 (S : List Int) (i e : Int) : Sp := ⟨i, 0, 6, i, e, S.set 48 2⟩
theorem nP (x : Sp) : (cSp x).map AV.i = .p (.int .i64 x.node) :: .p (.int .i64 x.arg) :: .p (.int .i64 x.lk) :: .p (.int .i64 x.ln) :: .p (.int .i64 x.la) :: x.to.map AV.i := rfl
theorem pR {h : Heap} {b lb : Nat} {ns : List Nd} {fl : List Fl} {S : List Int} {l : List Sp} (ok : GmOk h b lb S l) (i e : Int) :
    d5 Tryz.prog G 97 [.ptr b 0 0, .i i, .i e] (l5 h b lb ns fl S l) (fun r h' => r = .undef ∧ h' = l5 h b lb ns fl S (l ++ [v7 S i e])) := by
  have hb := ok.hb
  have hl := ok.hl
  have hne := ok.ne
  have hS := ok.held.1
  have hmax : l.length + 1 ≤ j7 := by have := ok.few; unfold j7; omega
  have gl := w8 (ns := ns) (fl := fl) (lb := lb) (n := l.length) hS
  have t49 := x6 (ns := ns) (fl := fl) (lb := lb) (n := l.length) hS
  have hov := l7 (cs := S.map AV.i) (n := 49) (by rw [List.length_map, hS])
  have hset := fun v => I3 S 48 v
  have hS2 : (S.set 48 2).length = 49 := by rw [List.length_set, hS]
  have htl := D3 hS2
  have htk : ((S.set 48 2).map AV.i).take 49 = (S.set 48 2).map AV.i := List.take_of_length_le (by rw [List.length_map, hS2]; exact Nat.le_refl _)
  have hx : (v7 S i e).to.length = 49 := hS2
  have hln : (cSp (v7 S i e)).length = 54 := E4 hx
  have heq : (AV.p (.int .i64 i) :: .p (.int .i64 0) :: .p (.int .i64 6) :: .p (.int .i64 i) :: .p (.int .i64 e) :: (S.set 48 2).map AV.i) = (cSp (v7 S i e)).map AV.i := rfl
  have hov2 := l7 (cs := (cSp (v7 S i e)).map AV.i) (n := 54) (by rw [List.length_map, hln])
  have hpv := Q5 (cSp (v7 S i e))
  have hti : ((cSp (v7 S i e)).map (PV.int .i64)).take 54 = (cSp (v7 S i e)).map (PV.int .i64) := List.take_of_length_le (by rw [List.length_map, hln]; exact Nat.le_refl _)
  have hmm := x9 (cSp (v7 S i e))
  have hsl := ah ok.len
  have hrf := aJ (ns := ns) (fl := fl) (lb := lb) (n := l.length) hS
  have hgs := eS (ns := ns) (fl := fl) (lb := lb) (n := l.length) (m := l.length + 1) hS
  have hgb := pQ (ns := ns) (fl := fl) (S := S) (l := l) hb hne
  have hfn : ∀ L : Heap, ((l5 h b lb ns fl S l ++ L).set lb (some ⟨l.length + 1, ga l ++ (cSp (v7 S i e)).map AV.i⟩)).set b (some ⟨0, gmC ns fl S lb (l.length + 1)⟩) = l5 h b lb ns fl S (l ++ [v7 S i e]) ++ L := fun L => by
    have := jU (ns := ns) (fl := fl) (S := S) (l := l) (l' := l ++ [v7 S i e]) hb hl hne L
    simpa only [spB, gmB, List.length_append, List.length_cons, List.length_nil, Nat.zero_add, bU] using this
  refine i3 (rl := []) e9 Tryz.func97 rfl (rs := []) rfl Tryz.ntmps97 (by simp) ?_
  repeat' (first | ((first | apply b8 | apply s4); (try simp only [NB])) | ((repeat ((fail_if_success (refine hK _ ?_)); clear hK K)); refine hK _ ?_; clear hK K) | ((first | refine b9 fun K1 q6 => ?_ | refine v8 rfl rfl rfl fun K1 q6 => ?_); simp only [S1, simprocAttr, zf, t49, hov, hset, hS, hS2, htl, htk, heq, hln, hov2, hpv, hti, hmm, hsl, hrf, hgs, hgb, hfn, hmax, d8, r4 hb hne, l9 hl, m6 hb hne, j8 hl, gmB, spB, gl, d7, d9, List.length_map, List.length_take, List.length_drop, i5, A3, v6, C1, z6, Nat.mul_one]; refine q6 _ ?_; clear q6 K1) | ((first | refine u6 (v := ?_) rfl rfl rfl rfl (by decide) (fun R1 K1 q6 => ?_) ?_ | refine y5 (v := ?_) rfl rfl rfl (by decide) (fun K1 q6 => ?_) ?_ | refine X4 (v := ?_) rfl rfl rfl (by decide) (fun K1 q6 => ?_) ?_); rotate_left; (focus (simp only [S1, simprocAttr, zf, t49, hov, hset, hS, hS2, htl, htk, heq, hln, hov2, hpv, hti, hmm, hsl, hrf, hgs, hgb, hfn, hmax, d8, r4 hb hne, l9 hl, m6 hb hne, j8 hl, gmB, spB, gl, d7, d9, List.length_map, List.length_take, List.length_drop, i5, A3, v6, C1, z6, Nat.mul_one]; (exact q6 _ _ _)))) | (refine s5 rfl rfl rfl ?_) | refine b6 fun K hK => ?_ | (refine o9 (es := []) [0, 1, 2, 3, 4, 5, 6, 7, 8, 9, 10, 11, 12, 13, 14, 15] 0 (fs := []) rfl (by kernel_rfl) (by kernel_rfl) ?_) | (apply b5; try simp only [NB, simprocAttr]))
  all_goals simp only [S1, simprocAttr, ENB, A0, y7, i5, m5, k8] <;> first | exact d6 hl | exact ⟨d6 hl, rfl⟩ | exact ⟨d6 hl, rfl, rfl⟩
theorem pS {h : Heap} {b lb : Nat} {ns : List Nd} {fl : List Fl} {S : List Int} {l : List Sp} (ok : GmOk h b lb S l) (i e : Int) (L : Heap) :
    d5 Tryz.prog G 97 [.ptr b 0 0, .i i, .i e] (l5 h b lb ns fl S l ++ L) (fun r h' => r = .undef ∧ h' = l5 h b lb ns fl S (l ++ [v7 S i e]) ++ L) := by
  have := pR (G := G) (ns := ns) (fl := fl) (ok.ext L) i e
  rwa [M3 ok.hb ok.hl, M3 ok.hb ok.hl] at this
end
section
attribute [local irreducible] awp n9 k3 l8 o6 n5
variable {G : Nat → Option (List PV)}
structure Ru where
  kind : Int
  node : Int
  needs : List Int
  gives : List Int
def eRu (r : Ru) : List PV := [.int .i64 r.kind, .int .i64 r.node, .sl (r.needs.map eI), .sl (r.gives.map eI)]
def cRu (l : List Ru) : List AV := (X9 eRu l).map AV.p
def mkB (lb : Nat) (l : List Ru) : Option Blk := some ⟨0, [.ref lb l.length 0 4 l.length]⟩
def ruB (l : List Ru) : Option Blk := some ⟨l.length, cRu l⟩
end
section
structure Right (ns : List Nd) (fl : List Fl) : Prop where
  n : ns.length ≤ 24
  f : fl.length ≤ 40
  b1 : ∀ i, i < ns.length → Z3 ns i = false
  b2 : ∀ i, i < fl.length → Z4 ns fl i = false
  b3 : ∀ i, i < ns.length → X0 ns fl i = false
  ends : K9 ns = false
  b4 : ∀ i, i < ns.length → eP ns fl i = false
theorem iW {rule : Int} {p : Nat → Bool} {n : Nat} {x : Int × Int} (h : (plF rule p n).head? = some x) : x.1 = rule := by
  have hm := List.mem_of_head? h
  unfold plF at hm
  obtain ⟨i, _, rfl⟩ := List.mem_map.mp hm
  rfl
theorem ut {α : Type} {l : List α} (h : l.head? = none) : l = [] := by
  cases l with
  | nil => rfl
  | cons => cases h
theorem Right.of {ns : List Nd} {fl : List Fl} (h : (A9 ns fl).1 = 0) : Right ns fl := by
  have key : ∀ (rule : Int) (l : List (Int × Int)), rule ≠ 0 → (∀ x, l.head? = some x → x.1 = rule) → (l.head?.getD (0, 0)).1 = 0 → l = [] := by
    intro rule l hr hl h0
    cases hx : l.head? with
    | none => exact ut hx
    | some x =>
      rw [hx] at h0
      have := hl x hx
      simp only [Option.getD_some] at h0
      omega
  unfold A9 Z5 at h
  split at h
  · simp at h
  rename_i hs
  split at h
  · rename_i h1; exact absurd (key 1 _ (by decide) (fun x hx => iW hx) h) h1
  rename_i h1
  split at h
  · rename_i h2; exact absurd (key 2 _ (by decide) (fun x hx => iW hx) h) h2
  rename_i h2
  split at h
  · rename_i h3
    refine absurd (key 3 _ (by decide) (fun x hx => ?_) h) h3
    unfold G8 at hx
    rw [List.head?_append] at hx
    cases hq : (plF 3 (X0 ns fl) ns.length).head? with
    | some y => rw [hq] at hx; cases hx; exact iW hq
    | none =>
      rw [hq] at hx
      split at hx
      · cases hx; rfl
      · cases hx
  rename_i h3
  have h4 := key 4 _ (by decide) (fun x hx => iW hx) h
  rw [Decidable.not_not] at h1 h2 h3
  have h3' : plF 3 (X0 ns fl) ns.length = [] ∧ K9 ns = false := by
    unfold G8 at h3
    rw [List.append_eq_nil_iff] at h3
    refine ⟨h3.1, ?_⟩
    cases hq : K9 ns with
    | false => rfl
    | true => rw [hq] at h3; simp at h3
  simp only [Bool.or_eq_true, decide_eq_true_eq, not_or] at hs
  exact ⟨by omega, by omega, eR h1, eR h2, eR h3'.1, h3'.2, eR h4⟩
theorem Right.isIn {ns : List Nd} {fl : List Fl} (h : Right ns fl) : InN ns.length fl := nM (H4 (rule := 2) h.b2)
theorem Right.three {ns : List Nd} {fl : List Fl} (h : Right ns fl) {i : Nat} (hi : i < ns.length) : E1 ns fl i = true := by
  have := h.b3 i hi
  unfold X0 at this
  simp only [Bool.or_eq_false_iff, Bool.not_eq_false'] at this
  exact this.1.1
def Y1 (fl : List Fl) (x : Int) : Int := match fl[x.toNat]? with | some f => f.dst | none => 0
def rO (fl : List Fl) (i : Nat) (kind : Int) : List Ru :=
  if kind = 1 then []
  else if kind = 7 then (i7 fl i).map fun f => ⟨3, i, o5 fl i, i7 fl (Y1 fl f)⟩
  else if kind = 8 then [⟨3, i, o5 fl i, i7 fl i⟩]
  else if kind = 5 then (if 1 < (i7 fl i).length then (i7 fl i).map fun f => ⟨2, i, o5 fl i, [f]⟩ else (o5 fl i).map fun f => ⟨1, i, [f], [(i7 fl i).headD 0]⟩)
  else [⟨1, i, o5 fl i, i7 fl i⟩]
theorem te (fl : List Fl) (i : Int) : (o5 fl i).length ≤ fl.length := R8 _ _ _
theorem pT (fl : List Fl) (i : Int) : (i7 fl i).length ≤ fl.length := R8 _ _ _
theorem O3 {ns : List Nd} {i : Nat} {k : Nd} (h : ns[i]? = some k) : w4 ns i = k.kind := by unfold w4; rw [Int.toNat_natCast, h]
theorem Right.xor {ns : List Nd} {fl : List Fl} (h : Right ns fl) {i : Nat} (hi : i < ns.length) (hk : w4 ns i = 5) : ((o5 fl i).length = 1 ∧ 2 ≤ (i7 fl i).length) ∨ (2 ≤ (o5 fl i).length ∧ (i7 fl i).length = 1) := by
  have := h.three hi
  unfold E1 at this
  simp only [hk] at this
  simp only [Int.reduceEq, reduceIte, Bool.or_eq_true, Bool.and_eq_true, beq_iff_eq, decide_eq_true_eq] at this
  omega
end
section
attribute [local irreducible] awp n9 k3 l8 o6 n5
variable {G : Nat → Option (List PV)}
theorem o8.maker {P : Program} {h : Heap} {s : St} {A : Option Blk} (hh : s.heap = h ++ [A, some ⟨0, [.p .nils]⟩]) : o8 P G h s ⟨s.fr, s.nt, h ++ [A, mkB (h.length + 2) [], ruB []]⟩ := by
  have := o8.adoptCell (P := P) (G := G) (h0 := h) (s := s) (b := h.length + 1) (j := 0) (bk := ⟨0, [.p .nils]⟩) 4 (by rw [hh]; simp [n8]) rfl (by omega)
  rw [hh] at this
  simp only [List.length_append, List.length_cons, List.length_nil, List.append_assoc, List.cons_append, List.nil_append, Q9, List.set_cons_succ, List.set_cons_zero, Nat.zero_add, Nat.reduceAdd] at this
  exact this
structure Qg where
  j : Nat
  g : Nat
end
section
attribute [local irreducible] awp n9 k3
variable {G : Nat → Option (List PV)}
mutual
def lgT : Tm → Int → Int → Bool × Int
  | .mk _ _ ks, d, n => if n - 1 < 0 ∨ 40 < d ∨ 50 < (ks.length : Int) then (true, n - 1) else lgS ks (d + 1) (n - 1)
def lgS : List Tm → Int → Int → Bool × Int
  | [], _, n => (false, n)
  | k :: r, d, n => if (lgT k d n).1 = true then lgT k d n else lgS r d (lgT k d n).2
end
def y3 (h : Heap) (b : Nat) (c : Option Blk) : Heap := h.set b c
section
variable {h : Heap} {b : Nat} {c c' : Option Blk}
theorem ya (hb : h[b]? = some c) : y3 h b c = h := by
  apply List.ext_getElem?
  intro i
  unfold y3
  rw [List.getElem?_set]
  split
  · rename_i e; subst e; split
    · exact hb.symm
    · rename_i hn; rw [List.getElem?_eq_none (by omega)] at hb; cases hb
  · rfl
theorem B3 : (y3 h b c).length = h.length := by unfold y3; rw [List.length_set]
theorem jV (hb : b < h.length) : (y3 h b c)[b]? = some c := by unfold y3; rw [List.getElem?_set]; simp [hb]
theorem dK (hb : b < h.length) (L : Heap) : (y3 h b c ++ L)[b]? = some c := by rw [List.getElem?_append_left (by rw [B3]; exact hb), jV hb]
theorem bX : (y3 h b c).set b c' = y3 h b c' := by unfold y3; rw [List.set_set]
theorem dL (hb : b < h.length) (L : Heap) : (y3 h b c ++ L).set b c' = y3 h b c' ++ L := by rw [List.set_append_left _ _ (by rw [B3]; exact hb), bX]
theorem cA (L : Heap) : (y3 h b c ++ L)[h.length]? = L[0]? := by rw [List.getElem?_append_right (by rw [B3]; omega), B3]; congr 1; omega
theorem cB (L : Heap) (i : Nat) : (y3 h b c ++ L)[h.length + i]? = L[i]? := by rw [List.getElem?_append_right (by rw [B3]; omega), B3]; congr 1; omega
theorem tg (L : Heap) (x : Option Blk) : (y3 h b c ++ L).set h.length x = y3 h b c ++ L.set 0 x := by rw [List.set_append_right _ _ (by rw [B3]; omega), B3]; congr 2; omega
theorem th (L : Heap) (i : Nat) (x : Option Blk) : (y3 h b c ++ L).set (h.length + i) x = y3 h b c ++ L.set i x := by rw [List.set_append_right _ _ (by rw [B3]; omega), B3]; congr 2; omega
theorem nQ (L : Heap) : (y3 h b c ++ L).take h.length = y3 h b c := by
  have := B3 (h := h) (b := b) (c := c)
  rw [← this, List.take_left']; rfl
theorem zN (L : Heap) (hb : b < h.length) : y3 (y3 h b c ++ L) b c' = y3 h b c' ++ L := by
  show (y3 h b c ++ L).set b c' = _
  exact dL hb L
theorem ti {c0 : Option Blk} {g : Nat} {n : Int} : ∀ (i : Nat) (bk : Blk), (y3 h b (some ⟨g, [.i n]⟩))[i]? = some (some bk) → (y3 h b c0)[i]? = some (some bk) ∨ o4 (y3 h b c0).length bk.cells := by
  intro i bk hi
  unfold y3 at hi ⊢
  rw [List.getElem?_set] at hi ⊢
  split at hi
  · rename_i e
    split at hi
    · cases hi; exact .inr (by simp [o4, s7])
    · cases hi
  · rename_i e; rw [if_neg e]; exact .inl hi
theorem O4 {c0 : Option Blk} {g : Nat} {n : Int} (i : Nat) (bk : Blk) (hi : (y3 h b (some ⟨g, [.i n]⟩))[i]? = some (some bk)) : (y3 h b c0)[i]? = some (some bk) ∨ ∀ x, x ∈ bk.cells → AVlt h.length x :=
  (ti i bk hi).imp id fun hx => by rw [B3] at hx; exact L5 _ hx
theorem ww : y3 (y3 h b c) b c' = y3 h b c' := bX
theorem jW : (y3 h b c).take h.length = y3 h b c := by
  rw [← B3 (h := h) (b := b) (c := c), List.take_length]
end
abbrev rB (g : Nat) (n : Int) : Option Blk := some ⟨g, [.i n]⟩
end
section
attribute [local irreducible] awp n9 k3 l8 o6 n5
variable {G : Nat → Option (List PV)}
def O5 (ns : List Nd) (fl : List Fl) : List Tm := ns.map (·.term) ++ fl.map (·.cond)
end
end Go.Proofs.YtbbmfemplmelhaaGreatDoor.AM
