/- Proved here, in parts, for one law: contracts of the functions that the laws call, and the plain facts behind them. Conditions: none. -/
import Derived.Test.YtbbmfemplmelhaaGreatDoorZTrailSeesD
import Derived.Shelf.GgSortFunc.RowK
set_option linter.unusedVariables false
set_option linter.unusedSimpArgs false
set_option linter.defProp false
set_option maxRecDepth 4000
set_option maxHeartbeats 4000000
namespace Go.Proofs.YtbbmfemplmelhaaGreatDoor.AM
open Go Go.Proofs
section
def T8 := And.intro T2 (And.intro T3 (And.intro T4 (And.intro T22 (And.intro T23 (And.intro T25 (And.intro T28 (And.intro T41 (And.intro T57 (And.intro T58 (And.intro T60 (And.intro T62 (And.intro T65 (And.intro T75 (And.intro T77 (And.intro T80 (And.intro rm rn))))))))))))))))
attribute [local irreducible] awp n9 k3 l8 o6 n5
abbrev uG (l : List Sp) : AV := .p (.sl (l.map eSp))
theorem kq : ∀ (l c : List AV) (k : Nat), k + l.length ≤ c.length → w9 c k l = c.take k ++ l ++ c.drop (k + l.length)
  | [], c, k, h => by simp [w9]
  | x :: r, c, k, h => by
    simp only [List.length_cons] at h
    simp only [w9]
    rw [kq r (c.set k x) (k + 1) (by simp; omega)]
    rw [List.take_add_one, List.getElem?_set_self (by omega), List.take_set_of_le (Nat.le_refl k), List.drop_set_of_lt (by omega)]
    simp only [Option.toList_some, List.length_cons, List.append_assoc, List.cons_append, List.nil_append]
    congr 4
    omega
theorem qi {S : List Int} (hS : S.length = 49) (a b : AV) (t : List AV) (ht : t.length = 50) : w9 (a :: b :: t) 2 (S.map AV.i) = a :: b :: (S.map AV.i ++ t.drop 49) := by
  have h51 : 2 + (S.map AV.i).length ≤ (a :: b :: t).length := by rw [List.length_map, hS, List.length_cons, List.length_cons, ht]; decide
  rw [kq (S.map AV.i) (a :: b :: t) 2 h51]
  rw [List.length_map, hS]; rfl
def ob (x : Sp) : List PV := if x.to.length = 49 then eSp x else List.replicate 54 (.int .i64 0)
theorem qj (x : Sp) : (ob x).length = 54 := by
  unfold ob
  split
  · rename_i h; unfold eSp; rw [List.length_map, E4 h]
  · rw [List.length_replicate]
theorem tr (r : Sp) : ∀ x ∈ ob r, x ≠ .nils := by
  intro x hx
  unfold ob at hx
  split at hx
  · exact zZ r x hx
  · rw [(List.mem_replicate.mp hx).2]; exact fun e => by cases e
theorem kr {l : List Sp} (h : ∀ y ∈ l, y.to.length = 49) : l.map ob = l.map eSp := by
  apply List.map_congr_left
  intro x hx
  unfold ob; rw [if_pos (h x hx)]
theorem wJ {l : List Sp} (h : ∀ y ∈ l, y.to.length = 49) : ga l = (X9 ob l).map AV.p := by
  unfold X9
  rw [List.flatMap_def, kr h, ← List.flatMap_def]
  unfold ga eSp
  rw [List.map_flatMap, List.map_flatMap]
  congr 1; funext x
  rw [List.map_map]; rfl
theorem wK {α : Type} {p : α → Bool} {l : List α} {j : Nat} {x : α} (h : l[j]? = some x) : (l.take (j + 1)).any p = ((l.take j).any p || p x) := by
  rw [List.take_add_one, h, List.any_append]; simp
theorem o8.game {P : Program} {G : Nat → Option (List PV)} {h : Heap} {s : St} {A B : Option Blk} {ns : List Nd} {fl : List Fl} {S : List Int} (hS : S.length = 49) (hh : s.heap = h ++ [A, B, some ⟨0, .p (.sl (ns.map eN)) :: .p (.sl (fl.map eF)) :: (S.map AV.i ++ [.p .nils])⟩]) : o8 P G h s ⟨s.fr, s.nt, h ++ [A, B, gmB ns fl S (h.length + 3) [], spB []]⟩ := by
  have := o8.adoptCell (P := P) (G := G) (h0 := h) (s := s) (b := h.length + 2) (j := 51) (bk := ⟨0, .p (.sl (ns.map eN)) :: .p (.sl (fl.map eF)) :: (S.map AV.i ++ [.p .nils])⟩) 54 (by rw [hh]; simp [n8]) (by simp [hS]) (by omega)
  rw [hh] at this
  have e : (AV.p (.sl (ns.map eN)) :: .p (.sl (fl.map eF)) :: (S.map AV.i ++ [.p .nils])).set 51 (.ref (h.length + 3) 0 0 54 0) = gmC ns fl S (h.length + 3) 0 := by
    unfold gmC
    rw [show (51 : Nat) = 49 + 1 + 1 by rfl, List.set_cons_succ, List.set_cons_succ, List.set_append_right _ _ (by simp [hS])]
    simp [hS]
  simp only [List.length_append, List.length_cons, List.length_nil, List.append_assoc, List.cons_append, List.nil_append, Q9, List.set_cons_succ, List.set_cons_zero, Nat.zero_add, Nat.reduceAdd, e] at this
  exact this
theorem D8 {ns : List Nd} {fl : List Fl} {S : List Int} {m lb n : Nat} (hl : lb < m) : o4 m (gmC ns fl S lb n) := by
  have : ∀ (m : Nat) (a c : List AV), o4 m a → o4 m c → o4 m (a ++ c) := by
    intro m a c ha hc
    induction a with
    | nil => exact hc
    | cons x r ih => exact ⟨ha.1, ih ha.2⟩
  exact ⟨trivial, trivial, this _ _ _ (g9 _ S) ⟨hl, trivial⟩⟩
theorem fb {ns : List Nd} {fl : List Fl} (nk : NetOk ns fl) {S : List Int} (hS : S.length = 49) (h : Heap) :
    d5 Tryz.prog gW 24 [G7 ns fl, aS S] h (fun r h' => r = uG (n7 ns fl S) ∧ h' = h) := by
  have hne := K6 hS
  have hck := fun h => kp nk hS h
  have dm := N2 (L1 hS (k := 48) (by omega))
  have emd : S.getD 48 0 = mdS S := rfl
  rw [emd] at dm
  have t49 : ((S.map AV.i).drop 0).take 49 = S.map AV.i := by rw [List.drop_zero]; exact List.take_of_length_le (by rw [List.length_map, hS]; exact Nat.le_refl _)
  have t49' : (S.map AV.i).take 49 = S.map AV.i := by rwa [List.drop_zero] at t49
  by_cases h0 : stC ns fl S = 0
  case neg =>
    have e : n7 ns fl S = [] := by unfold n7; rw [if_pos (.inl h0)]
    have f0 : (stC ns fl S != 0) = true := by simp [h0]
    rw [e]
    refine c8 (rl := []) e9 Tryz.func24 rfl (rs := [.tmp 4]) rfl Tryz.ntmps24 (by simp) ?_
    repeat' (first | ((repeat ((fail_if_success (refine hK _ ?_)); clear hK K)); refine hK _ ?_; clear hK K) | ((first | refine b9 fun K1 q6 => ?_ | refine b7 fun A B hA hB => ?_); simp only [S1, simprocAttr, T8, f0, hne, hS, d8, t49', dm, d7, d9, List.length_map]; first | refine q6 _ ?_; clear q6 K1 | (refine hA ?_; clear hA hB A B) | (apply d4 E48; exact (hck _); refine q6 _ ?_; clear q6 K1)) | refine b6 fun K hK => ?_ | ((first | apply b8 | apply b5 | apply d3); try simp only [NB, simprocAttr]))
    all_goals simp only [S1, simprocAttr, ENB, T8]
    all_goals rfl
  have f0 : (stC ns fl S != 0) = false := by simp [h0]
  by_cases h1 : mdS S = 0
  case neg =>
    have e : n7 ns fl S = [] := by unfold n7; rw [if_pos (.inr h1)]
    have f1 : (mdS S != 0) = true := by simp [h1]
    rw [e]
    refine c8 (rl := []) e9 Tryz.func24 rfl (rs := [.tmp 4]) rfl Tryz.ntmps24 (by simp) ?_
    repeat' (first | ((repeat ((fail_if_success (refine hK _ ?_)); clear hK K)); refine hK _ ?_; clear hK K) | ((first | refine b9 fun K1 q6 => ?_ | refine b7 fun A B hA hB => ?_); simp only [S1, simprocAttr, T8, f0, f1, hne, hS, d8, t49', dm, d7, d9, List.length_map]; first | refine q6 _ ?_; clear q6 K1 | (refine hA ?_; clear hA hB A B) | (apply d4 E48; exact (hck _); refine q6 _ ?_; clear q6 K1)) | refine b6 fun K hK => ?_ | ((first | apply b8 | apply b5 | apply d3); try simp only [NB, simprocAttr]))
    all_goals simp only [S1, simprocAttr, ENB, T8]
    all_goals rfl
  have f1 : (mdS S != 0) = false := by simp [h1]
  have e : n7 ns fl S = u0 ns fl S ns.length ++ o7 ns S 4 := by unfold n7; rw [if_neg (by simp [h0, h1])]
  rw [e]
  refine c8 (rl := []) e9 Tryz.func24 rfl (rs := [.tmp 4]) rfl Tryz.ntmps24 (by simp) ?_
  have ov2 := qi hS
  repeat' (first | ((repeat ((fail_if_success (refine hK _ ?_)); clear hK K)); refine hK _ ?_; clear hK K) | ((first | refine b9 fun K1 q6 => ?_ | refine b7 fun A B hA hB => ?_); simp only [S1, simprocAttr, T8, f0, f1, hne, hS, ov2, d8, t49', dm, d7, d9, List.length_map, List.drop_succ_cons, List.drop_zero, List.all_append]; first | refine q6 _ ?_; clear q6 K1 | (refine hB ?_; clear hA hB A B) | (apply d4 E48; exact (hck _); refine q6 _ ?_; clear q6 K1)) | refine b6 fun K hK => ?_ | ((first | apply b8 | apply b5 | apply c7 | apply c9); try simp only [NB, simprocAttr]))
  obtain ⟨hn0, hok⟩ := W5 h0
  have rt := Right.of hn0
  have st := wI hS hok
  have hn := rt.n
  have hf := rt.f
  have hnl : ∀ j, j ≤ ns.length → (u0 ns fl S j).length ≤ 2400 := fun j hj => Nat.le_trans (aR ns fl S hf j) (by omega)
  have gok : ∀ l : List Sp, (∀ y ∈ l, y.to.length = 49) → l.length ≤ 3000 → GmOk (h ++ [some ⟨0, x8 ns fl⟩, some ⟨0, S.map AV.i⟩, none, none]) (h.length + 2) (h.length + 3) S l :=
    fun l h1 h2 => ⟨by simp, by simp, by omega, st.held, h1, by omega⟩
  have hnode : ∀ (l : List Sp), (∀ y ∈ l, y.to.length = 49) → l.length ≤ 3000 → ∀ (c : Nat) (k : Nd), ns[c]? = some k → d5 Tryz.prog gW 49 [.ptr (h.length + 2) 0 0, .i c] (h ++ [some ⟨0, x8 ns fl⟩, some ⟨0, S.map AV.i⟩, gmB ns fl S (h.length + 3) l, spB l])
      (fun r h' => r = .undef ∧ h' = h ++ [some ⟨0, x8 ns fl⟩, some ⟨0, S.map AV.i⟩, gmB ns fl S (h.length + 3) (l ++ m7 ns fl S c k), spB (l ++ m7 ns fl S c k)]) := by
    intro l h1 h2 c k hc
    have := qf nk rt (gok l h1 h2) st (by omega) c hc
    have e1 := Y4 h (some ⟨0, x8 ns fl⟩) (some ⟨0, S.map AV.i⟩) none none [] ns fl S l
    have e2 := Y4 h (some ⟨0, x8 ns fl⟩) (some ⟨0, S.map AV.i⟩) none none [] ns fl S (l ++ m7 ns fl S c k)
    rw [List.append_nil] at e1 e2
    rwa [e1, e2] at this
  refine F0 ns.length 87 (fun j => [(28, .i j), (27, .i ns.length), (5, .ptr (h.length + 2) 0 0), (3, .ptr (h.length + 1) 0 0), (2, .ptr h.length 0 0)])
    (fun j => [some ⟨0, x8 ns fl⟩, some ⟨0, S.map AV.i⟩, gmB ns fl S (h.length + 3) (u0 ns fl S j), spB (u0 ns fl S j)]) (fun j => True) ?_ trivial fun j hj hp K hK => ?_
  · refine (o8.game hS rfl).trans (Sub.ghost ⟨rfl, ⟨[], by simp only [List.append_nil]; rfl⟩, ?_, ⟨trivial, trivial, trivial⟩, g9 _ _, D8 (by simp), g9 _ _, trivial⟩)
    simp only [S1, simprocAttr, KNB] <;> (try and_intros) <;> (try assumption) <;> (try trivial) <;> (try omega)
  rcases Nat.lt_or_ge j ns.length with hlt | hge
  · obtain ⟨k, hx⟩ : ∃ k, ns[j]? = some k := ⟨_, List.getElem?_eq_getElem hlt⟩
    have ej : u0 ns fl S (j + 1) = u0 ns fl S j ++ m7 ns fl S j k := by rw [u0, hx]
    have hnd := hnode (u0 ns fl S j) (V1 hS j) (by have := hnl j hj; omega) j k hx
    repeat' (first | ((repeat ((fail_if_success (refine hK _ ?_)); clear hK K)); refine hK _ ?_; clear hK K) | ((first | refine b9 fun K1 q6 => ?_ | refine b7 fun A B hA hB => ?_); simp only [S1, simprocAttr, T8, W9 hlt, K5 nk.n hlt]; first | refine q6 _ ?_; clear q6 K1 | (refine hA ?_; clear hA hB A B) | (apply d4 E49; exact hnd; refine q6 _ ?_; clear q6 K1)) | refine b6 fun K hK => ?_ | ((first | apply b8 | apply b5 | apply c7 | apply c9); try simp only [NB, simprocAttr]))
    all_goals refine ⟨hlt, trivial, ?_⟩
    all_goals simp only [ej]
    all_goals refine ⟨rfl, ⟨_, rfl⟩, ?_, ⟨trivial, trivial, trivial⟩, g9 _ _, D8 (by simp), g9 _ _, trivial⟩
    all_goals simp only [S1, simprocAttr, KNB] <;> (try and_intros) <;> (try assumption) <;> (try trivial) <;> (try omega)
  obtain rfl : j = ns.length := by omega
  repeat' (first | ((repeat ((fail_if_success (refine hK _ ?_)); clear hK K)); refine hK _ ?_; clear hK K) | ((first | refine b9 fun K1 q6 => ?_ | refine b7 fun A B hA hB => ?_); simp only [S1, simprocAttr, T8, dG]; first | refine q6 _ ?_; clear q6 K1 | (refine hB ?_; clear hA hB A B)) | refine b6 fun K hK => ?_ | ((first | apply b8 | apply b5 | apply c7 | apply f9); try simp only [NB, simprocAttr]))
  have hl0 : ∀ y ∈ u0 ns fl S ns.length, y.to.length = 49 := V1 hS ns.length
  have hl1 : (u0 ns fl S ns.length).length ≤ 2400 := hnl _ (Nat.le_refl _)
  generalize u0 ns fl S ns.length = l0 at *
  have hlm : ∀ m, m ≤ 4 → (l0 ++ o7 ns S m).length ≤ 2500 := fun m hm => by
    rw [List.length_append]; have := aU ns S m; omega
  have htm : ∀ m, ∀ y ∈ l0 ++ o7 ns S m, y.to.length = 49 := fun m y hy => (List.mem_append.mp hy).elim (hl0 y) (cF hS m y)
  refine p8 4 87 (fun m => [(7, .i m), (5, .ptr (h.length + 2) 0 0), (3, .ptr (h.length + 1) 0 0), (2, .ptr h.length 0 0)])
    (fun m => [some ⟨0, x8 ns fl⟩, some ⟨0, S.map AV.i⟩, gmB ns fl S (h.length + 3) (l0 ++ o7 ns S m), spB (l0 ++ o7 ns S m)]) (fun m => True) ?_ trivial fun m hm hp K hK => ?_
  · have s0 : o7 ns S 0 = [] := rfl
    simp only [s0, List.append_nil]
    refine ⟨rfl, ⟨[], by simp only [List.append_nil]⟩, ?_, ⟨trivial, trivial, trivial⟩, g9 _ _, D8 (by simp), g9 _ _, trivial⟩
    simp only [S1, simprocAttr, KNB] <;> (try and_intros) <;> (try assumption) <;> (try trivial) <;> (try omega)
  rcases Nat.lt_or_ge m 4 with hlt | hge
  · have m0 : (0 : Int) ≤ (m : Int) := by omega
    have m4 : (m : Int) < 4 := by omega
    repeat' (first | ((repeat ((fail_if_success (refine hK _ ?_)); clear hK K)); refine hK _ ?_; clear hK K) | ((first | refine b9 fun K1 q6 => ?_ | refine b7 fun A B hA hB => ?_); simp only [S1, simprocAttr, T8, m4, List.length_map]; first | refine q6 _ ?_; clear q6 K1 | (refine hA ?_; clear hA hB A B)) | refine b6 fun K hK => ?_ | ((first | apply b8 | apply b5 | apply c7 | apply c9); try simp only [NB, simprocAttr]))
    refine p8 ns.length 87 (fun j => [(42, .i j), (41, .i ns.length), (40, .p (.sl (ns.map eN))), (8, .b ((ns.take j).any fun k => k.kind == 8 && k.a == m)), (7, .i m), (5, .ptr (h.length + 2) 0 0), (3, .ptr (h.length + 1) 0 0), (2, .ptr h.length 0 0)])
      (fun j => [some ⟨0, x8 ns fl⟩, some ⟨0, S.map AV.i⟩, gmB ns fl S (h.length + 3) (l0 ++ o7 ns S m), spB (l0 ++ o7 ns S m)]) (fun j => True) ?_ trivial fun j hj hp K hK => ?_
    · refine ⟨rfl, ⟨[], by simp only [List.append_nil]⟩, ?_, ⟨trivial, trivial, trivial⟩, g9 _ _, D8 (by simp), g9 _ _, trivial⟩
      simp only [List.take_zero, List.any_nil]
      simp only [S1, simprocAttr, KNB] <;> (try and_intros) <;> (try assumption) <;> (try trivial) <;> (try omega)
    rcases Nat.lt_or_ge j ns.length with hltj | hgej
    · obtain ⟨k, hx⟩ : ∃ k, ns[j]? = some k := ⟨_, List.getElem?_eq_getElem hltj⟩
      have hat := wK (p := fun k : Nd => k.kind == 8 && k.a == (m : Int)) hx
      generalize (ns.take j).any (fun k : Nd => k.kind == 8 && k.a == (m : Int)) = u at *
      have kh : ∀ v : Bool, (ns.take (j + 1)).any (fun k : Nd => k.kind == 8 && k.a == (m : Int)) = v → (u || (k.kind == 8 && k.a == (m : Int))) = v := fun v e => by rw [← hat]; exact e
      cases u with
      | true =>
        have hat' : (ns.take (j + 1)).any (fun k : Nd => k.kind == 8 && k.a == (m : Int)) = true := by rw [hat]; rfl
        repeat' (first | ((repeat ((fail_if_success (refine hK _ ?_)); clear hK K)); refine hK _ ?_; clear hK K) | ((first | refine b9 fun K1 q6 => ?_ | refine b7 fun A B hA hB => ?_); simp only [S1, simprocAttr, T8, I2 hx, W9 hltj, K5 nk.n hltj, eN]; first | refine q6 _ ?_; clear q6 K1 | (refine hA ?_; clear hA hB A B)) | refine b6 fun K hK => ?_ | ((first | apply b8 | apply b5 | apply c7 | apply c9); try simp only [NB, simprocAttr]))
        all_goals refine ⟨hltj, trivial, ?_⟩
        all_goals simp only [hat']
        all_goals refine ⟨rfl, ⟨_, rfl⟩, ?_, ⟨trivial, trivial, trivial⟩, g9 _ _, D8 (by simp), g9 _ _, trivial⟩
        all_goals simp only [S1, simprocAttr, KNB] <;> (try and_intros) <;> (try assumption) <;> (try trivial) <;> (try omega)
      | false =>
      cases e8 : (k.kind == 8) with
      | false =>
        have hat' : (ns.take (j + 1)).any (fun k : Nd => k.kind == 8 && k.a == (m : Int)) = false := by rw [hat, e8]; rfl
        repeat' (first | ((repeat ((fail_if_success (refine hK _ ?_)); clear hK K)); refine hK _ ?_; clear hK K) | ((first | refine b9 fun K1 q6 => ?_ | refine b7 fun A B hA hB => ?_); simp only [S1, simprocAttr, T8, I2 hx, W9 hltj, K5 nk.n hltj, eN, e8]; first | refine q6 _ ?_; clear q6 K1 | (refine hA ?_; clear hA hB A B)) | refine b6 fun K hK => ?_ | ((first | apply b8 | apply b5 | apply c7 | apply c9); try simp only [NB, simprocAttr]))
        all_goals refine ⟨hltj, trivial, ?_⟩
        all_goals simp only [hat']
        all_goals refine ⟨rfl, ⟨_, rfl⟩, ?_, ⟨trivial, trivial, trivial⟩, g9 _ _, D8 (by simp), g9 _ _, trivial⟩
        all_goals simp only [S1, simprocAttr, KNB] <;> (try and_intros) <;> (try assumption) <;> (try trivial) <;> (try omega)
      | true =>
      cases em : (k.a == (m : Int)) with
      | false =>
        have hat' : (ns.take (j + 1)).any (fun k : Nd => k.kind == 8 && k.a == (m : Int)) = false := by rw [hat, e8, em]; rfl
        repeat' (first | ((repeat ((fail_if_success (refine hK _ ?_)); clear hK K)); refine hK _ ?_; clear hK K) | ((first | refine b9 fun K1 q6 => ?_ | refine b7 fun A B hA hB => ?_); simp only [S1, simprocAttr, T8, I2 hx, W9 hltj, K5 nk.n hltj, eN, e8, em]; first | refine q6 _ ?_; clear q6 K1 | (refine hA ?_; clear hA hB A B)) | refine b6 fun K hK => ?_ | ((first | apply b8 | apply b5 | apply c7 | apply c9); try simp only [NB, simprocAttr]))
        all_goals refine ⟨hltj, trivial, ?_⟩
        all_goals simp only [hat']
        all_goals refine ⟨rfl, ⟨_, rfl⟩, ?_, ⟨trivial, trivial, trivial⟩, g9 _ _, D8 (by simp), g9 _ _, trivial⟩
        all_goals simp only [S1, simprocAttr, KNB] <;> (try and_intros) <;> (try assumption) <;> (try trivial) <;> (try omega)
      | true =>
        have hat' : (ns.take (j + 1)).any (fun k : Nd => k.kind == 8 && k.a == (m : Int)) = true := by rw [hat, e8, em]; rfl
        repeat' (first | ((repeat ((fail_if_success (refine hK _ ?_)); clear hK K)); refine hK _ ?_; clear hK K) | ((first | refine b9 fun K1 q6 => ?_ | refine b7 fun A B hA hB => ?_); simp only [S1, simprocAttr, T8, I2 hx, W9 hltj, K5 nk.n hltj, eN, e8, em]; first | refine q6 _ ?_; clear q6 K1 | (refine hA ?_; clear hA hB A B)) | refine b6 fun K hK => ?_ | ((first | apply b8 | apply b5 | apply c7 | apply c9); try simp only [NB, simprocAttr]))
        all_goals refine ⟨hltj, trivial, ?_⟩
        all_goals simp only [hat']
        all_goals refine ⟨rfl, ⟨_, rfl⟩, ?_, ⟨trivial, trivial, trivial⟩, g9 _ _, D8 (by simp), g9 _ _, trivial⟩
        all_goals simp only [S1, simprocAttr, KNB] <;> (try and_intros) <;> (try assumption) <;> (try trivial) <;> (try omega)
    obtain rfl : j = ns.length := by omega
    have eaw : ((ns.take ns.length).any fun k : Nd => k.kind == 8 && k.a == (m : Int)) = cE ns m := by rw [List.take_length]; rfl
    simp only [eaw]
    obtain ⟨hq, q0, q3⟩ := st.q hlt
    have es : o7 ns S (m + 1) = o7 ns S m ++ G1 ns S m := rfl
    cases ew : cE ns m with
    | false =>
      have hs : G1 ns S m = [] := by unfold G1; rw [if_neg (by simp [ew])]
      repeat' (first | ((repeat ((fail_if_success (refine hK _ ?_)); clear hK K)); refine hK _ ?_; clear hK K) | ((first | refine b9 fun K1 q6 => ?_ | refine b7 fun A B hA hB => ?_); simp only [S1, simprocAttr, T8, dG, Q4 (n := 4) (by omega) hlt]; first | refine q6 _ ?_; clear q6 K1 | (refine hB ?_; clear hA hB A B)) | refine b6 fun K hK => ?_ | ((first | apply b8 | apply b5 | apply f9 | apply c9); try simp only [NB, simprocAttr]))
      all_goals refine ⟨hlt, trivial, ?_⟩
      all_goals simp only [es, hs, List.append_nil]
      all_goals refine ⟨rfl, ⟨_, rfl⟩, ?_, ⟨trivial, trivial, trivial⟩, g9 _ _, D8 (by simp), g9 _ _, trivial⟩
      all_goals simp only [S1, simprocAttr, KNB] <;> (try and_intros) <;> (try assumption) <;> (try trivial) <;> (try omega)
    | true =>
      have dr := N2 hq
      by_cases h3 : qAt S (m : Int) < 3
      · have h3' : decide (qAt S (m : Int) < 3) = true := decide_eq_true h3
        have hs : G1 ns S m = m8 S ⟨-1, m, 5, 0, m, S.set (44 + m) (qAt S m + 1)⟩ [] [] := by unfold G1; rw [if_pos ⟨ew, h3⟩]
        generalize qAt S (m : Int) = q at *
        have hw : IntKind.i64.wrap (q + 1) = q + 1 := IntWalk.i64_in _ (by omega)
        have hov := l7 (cs := S.map AV.i) (n := 49) (by rw [List.length_map, hS])
        have hS2 : (S.set (44 + m) (q + 1)).length = 49 := by rw [List.length_set, hS]
        have htk : ((S.set (44 + m) (q + 1)).map AV.i).take 49 = (S.set (44 + m) (q + 1)).map AV.i := List.take_of_length_le (by rw [List.length_map, hS2]; exact Nat.le_refl _)
        have htl := D3 hS2
        have hset := I3 S (44 + m) (q + 1)
        have h49 : 44 + m + 1 ≤ 49 := by omega
        have hadd : ∀ L : Heap, d5 Tryz.prog gW 50 [.ptr (h.length + 2) 0 0, aSp ⟨-1, m, 5, 0, m, S.set (44 + m) (q + 1)⟩, .p .nils, .p .nils] (h ++ (some ⟨0, x8 ns fl⟩ :: some ⟨0, S.map AV.i⟩ :: gmB ns fl S (h.length + 3) (l0 ++ o7 ns S m) :: spB (l0 ++ o7 ns S m) :: L))
            (fun r h' => r = .undef ∧ h' = h ++ (some ⟨0, x8 ns fl⟩ :: some ⟨0, S.map AV.i⟩ :: gmB ns fl S (h.length + 3) (l0 ++ o7 ns S m ++ G1 ns S m) :: spB (l0 ++ o7 ns S m ++ G1 ns S m) :: L)) := by
          intro L
          have := wF (ns := ns) (fl := fl) (gok _ (htm m) (by have := hlm m (by omega); omega)) ⟨-1, m, 5, 0, m, S.set (44 + m) (q + 1)⟩ hS2 L
          rw [hs]
          rwa [Y4, Y4] at this
        repeat' (first | ((repeat ((fail_if_success (refine hK _ ?_)); clear hK K)); refine hK _ ?_; clear hK K) | ((first | refine b9 fun K1 q6 => ?_ | refine b7 fun A B hA hB => ?_); simp only [S1, simprocAttr, T8, dG, Q4 (n := 4) (by omega) hlt, m0, m4, dr, h3', hw, hov, hS, hS2, htk, htl, hset, h49, t49', d7, d9, List.length_map, d8, Nat.mul_one]; first | refine q6 _ ?_; clear q6 K1 | ((first | refine hA ?_ | refine hB ?_); clear hA hB A B) | (apply d4 E50; exact (hadd _); refine q6 _ ?_; clear q6 K1)) | refine b6 fun K hK => ?_ | ((first | apply b8 | apply b5 | apply f9); try simp only [NB, simprocAttr]))
        all_goals refine ⟨hlt, trivial, ?_⟩
        all_goals simp only [es, ← List.append_assoc]
        all_goals refine ⟨rfl, ⟨_, by simp only [List.append_assoc, List.cons_append, List.nil_append]; rfl⟩, ?_, ⟨trivial, trivial, trivial⟩, g9 _ _, D8 (by simp), g9 _ _, trivial⟩
        all_goals simp only [S1, simprocAttr, KNB] <;> (try and_intros) <;> (try assumption) <;> (try trivial) <;> (try omega)
      · have h3' : decide (qAt S (m : Int) < 3) = false := decide_eq_false h3
        have hs : G1 ns S m = [] := by unfold G1; rw [if_neg (by simp [h3])]
        repeat' (first | ((repeat ((fail_if_success (refine hK _ ?_)); clear hK K)); refine hK _ ?_; clear hK K) | ((first | refine b9 fun K1 q6 => ?_ | refine b7 fun A B hA hB => ?_); simp only [S1, simprocAttr, T8, dG, Q4 (n := 4) (by omega) hlt, m0, m4, dr, h3', d7, d9, List.length_map, Nat.mul_one]; first | refine q6 _ ?_; clear q6 K1 | (refine hB ?_; clear hA hB A B)) | refine b6 fun K hK => ?_ | ((first | apply b8 | apply b5 | apply f9 | apply c9); try simp only [NB, simprocAttr]))
        all_goals refine ⟨hlt, trivial, ?_⟩
        all_goals simp only [es, hs, List.append_nil]
        all_goals refine ⟨rfl, ⟨_, rfl⟩, ?_, ⟨trivial, trivial, trivial⟩, g9 _ _, D8 (by simp), g9 _ _, trivial⟩
        all_goals simp only [S1, simprocAttr, KNB] <;> (try and_intros) <;> (try assumption) <;> (try trivial) <;> (try omega)
  obtain rfl : m = 4 := by omega
  have hz := htm 4
  have hrf := aJ (ns := ns) (fl := fl) (lb := h.length + 3) (n := (l0 ++ o7 ns S 4).length) hS
  rw [List.length_append] at hrf
  repeat' (first | ((repeat ((fail_if_success (refine hK _ ?_)); clear hK K)); refine hK _ ?_; clear hK K) | ((first | refine b9 fun K1 q6 => ?_ | refine b7 fun A B hA hB => ?_); simp only [S1, simprocAttr, T8, gmB, hrf]; first | refine q6 _ ?_; clear q6 K1 | (refine hB ?_; clear hA hB A B)) | refine b6 fun K hK => ?_ | ((first | apply b8 | apply b5 | apply f9 | apply d3); try simp only [NB, simprocAttr]))
  rw [show uG (l0 ++ o7 ns S 4) = .p (.sl ((l0 ++ o7 ns S 4).map ob)) from congrArg (fun x => AV.p (.sl x)) (kr hz).symm]
  exact fZ qj tr (.inr rfl) (l := l0 ++ o7 ns S 4) (List.length_append).symm rfl (by simp only [spB, wJ hz, s8, n8, List.getElem?_cons_succ, List.getElem?_cons_zero, List.length_append, if_true]) (by omega) (by simp) (by simp) rfl
end
section
def im := And.intro T2 (And.intro T3 (And.intro T4 (And.intro T22 (And.intro T23 (And.intro T25 (And.intro T31 (And.intro T41 (And.intro T57 (And.intro T58 (And.intro T77 (And.intro T80 T82)))))))))))
attribute [local irreducible] awp n9 k3 l8 o6 n5
variable {G : Nat → Option (List PV)}
def okH (l : List Int) : Bool := l.all fun x => !(decide (x < 0) || decide (3 < x))
theorem wL {l : List Int} {i : Nat} {x : Int} (h : l[i]? = some x) : okH (l.take (i + 1)) = (okH (l.take i) && !(decide (x < 0) || decide (3 < x))) := by
  unfold okH
  rw [List.take_add_one, h, List.all_append]; simp
theorem wM {l : List Int} {i : Nat} {x : Int} (h : l[i]? = some x) (hx : (decide (x < 0) || decide (3 < x)) = true) : okH l = false := by
  unfold okH
  rw [List.all_eq_false]
  exact ⟨x, List.mem_of_getElem? h, by rw [hx]; decide⟩
theorem ku {h : Heap} {b g off n : Nat} {S : List Int} (hb : h[b]? = some (some ⟨g, S.map AV.i⟩)) (hn : off + n ≤ S.length) (h1 : n ≤ 100) :
    d5 Tryz.prog G 72 [.ref b g off 1 n] h (fun r h' => r = .b (okH ((S.drop off).take n)) ∧ h' = h) := by
  have hlt : b < h.length := (List.getElem?_eq_some_iff.mp hb).1
  refine c8 (rl := []) e9 Tryz.func72 rfl (rs := [.tmp 2]) rfl Tryz.ntmps72 (by simp) ?_
  repeat' (first | ((repeat ((fail_if_success (refine hK _ ?_)); clear hK K)); refine hK _ ?_; clear hK K) | (refine b9 fun K1 q6 => ?_; simp only [S1, simprocAttr, im]; refine q6 _ ?_; clear q6 K1) | refine b6 fun K hK => ?_ | ((first | apply b8 | apply b5 | apply c7); try simp only [NB, simprocAttr]))
  refine p8 n 18 (fun i => [(7, .i i), (6, .i n), (5, .ref b g off 1 n)]) (fun i => []) (fun i => okH (((S.drop off).take n).take i) = true) ?_ rfl fun i hi hp K hK => ?_
  · refine ⟨rfl, ⟨[], by simp only [List.append_nil]⟩, ?_, trivial⟩
    simp only [S1, simprocAttr, KNB] <;> (try and_intros) <;> (try assumption) <;> (try trivial) <;> (try omega)
  rcases Nat.lt_or_ge i n with hlti | hge
  · have hx0 : S[off + i]? = some (S.getD (off + i) 0) := by rw [List.getD_eq_getElem?_getD, List.getElem?_eq_getElem (by omega)]; rfl
    generalize S.getD (off + i) 0 = x at *
    have hx : ((S.drop off).take n)[i]? = some x := by rw [List.getElem?_take_of_lt hlti, List.getElem?_drop]; exact hx0
    have dr := N2 hx0
    have hst := wL hx
    have i0 : (0 : Int) ≤ (i : Int) := by omega
    have hlt' : (i : Int) < (n : Int) := by omega
    cases f1 : decide (x < 0) with
    | true =>
      have ho := wM hx (by rw [f1]; rfl)
      rw [ho]
      repeat' (first | ((repeat ((fail_if_success (refine hK _ ?_)); clear hK K)); refine hK _ ?_; clear hK K) | ((first | refine b9 fun K1 q6 => ?_ | refine b7 fun A B hA hB => ?_); simp only [S1, simprocAttr, im, hb, hlt', i0, dr, f1, Nat.mul_one]; first | refine q6 _ ?_; clear q6 K1 | (refine hA ?_; clear hA hB A B)) | refine b6 fun K hK => ?_ | ((first | apply b8 | apply b5 | apply c7 | apply c9 | apply d3); try simp only [NB, simprocAttr]))
      all_goals simp only [S1, simprocAttr, ENB, im]
    | false =>
    cases f2 : decide (3 < x) with
    | true =>
      have ho := wM hx (by rw [f1, f2]; rfl)
      rw [ho]
      repeat' (first | ((repeat ((fail_if_success (refine hK _ ?_)); clear hK K)); refine hK _ ?_; clear hK K) | ((first | refine b9 fun K1 q6 => ?_ | refine b7 fun A B hA hB => ?_); simp only [S1, simprocAttr, im, hb, hlt', i0, dr, f1, f2, Nat.mul_one]; first | refine q6 _ ?_; clear q6 K1 | (refine hA ?_; clear hA hB A B)) | refine b6 fun K hK => ?_ | ((first | apply b8 | apply b5 | apply c7 | apply c9 | apply d3); try simp only [NB, simprocAttr]))
      all_goals simp only [S1, simprocAttr, ENB, im]
    | false =>
      rw [hp, f1, f2] at hst
      repeat' (first | ((repeat ((fail_if_success (refine hK _ ?_)); clear hK K)); refine hK _ ?_; clear hK K) | ((first | refine b9 fun K1 q6 => ?_ | refine b7 fun A B hA hB => ?_); simp only [S1, simprocAttr, im, hb, hlt', Q4 (n := n) (by omega) hlti, i0, dr, f1, f2, Nat.mul_one]; first | refine q6 _ ?_; clear q6 K1 | ((first | refine hA ?_ | refine hB ?_); clear hA hB A B)) | refine b6 fun K hK => ?_ | ((first | apply b8 | apply b5 | apply c7 | apply c9); try simp only [NB, simprocAttr]))
      all_goals refine ⟨hlti, hst, ?_⟩
      all_goals refine ⟨rfl, ⟨[], by simp only [List.append_nil]⟩, ?_, trivial⟩
      all_goals simp only [S1, simprocAttr, KNB] <;> (try and_intros) <;> (try assumption) <;> (try trivial) <;> (try omega)
  · obtain rfl : i = n := by omega
    rw [List.take_take, Nat.min_self] at hp
    repeat' (first | ((repeat ((fail_if_success (refine hK _ ?_)); clear hK K)); refine hK _ ?_; clear hK K) | ((first | refine b9 fun K1 q6 => ?_ | refine b7 fun A B hA hB => ?_); simp only [S1, simprocAttr, im, Int.lt_irrefl]; first | refine q6 _ ?_; clear q6 K1 | (refine hB ?_; clear hA hB A B)) | refine b6 fun K hK => ?_ | ((first | apply b8 | apply b5 | apply f9 | apply d3); try simp only [NB, simprocAttr]))
    all_goals simp only [S1, simprocAttr, ENB, im]
    all_goals rw [hp]
end
section
attribute [local irreducible] awp n9 k3 l8 o6 n5
def N6 (S : List Int) (j : Nat) : List Int := List.replicate j 0 ++ (S.take 40).drop j
theorem cG {S : List Int} (hS : S.length = 49) {j : Nat} (hj : j ≤ 40) : (N6 S j).length = 40 := by simp [N6, hS]; omega
theorem uH {S : List Int} (hS : S.length = 49) {j : Nat} (hj : j < 40) : (N6 S j).set j 0 = N6 S (j + 1) := by
  have hl : j < (S.take 40).length := by rw [List.length_take]; omega
  unfold N6
  rw [List.set_append_right _ _ (by simp), List.length_replicate, Nat.sub_self, List.drop_eq_getElem_cons hl, List.set_cons_zero, List.replicate_succ', List.append_assoc]; rfl
theorem eqI : ∀ {S T : List Int}, S.length = T.length → A2 true (S.map AV.i) (T.map AV.i) = some (S == T)
  | [], [], _ => rfl
  | x :: r, [], h => by cases h
  | [], y :: q, h => by cases h
  | x :: r, y :: q, h => by
    have := eqI (S := r) (T := q) (by simpa using h)
    simp only [List.map_cons, A2, this]
    rfl
theorem wN {S : List Int} {n : Nat} (hS : S.length = 49) (hn : n ≤ 40) : (N6 S n == List.replicate 40 0) = (List.range 40).all fun i => !(decide ((n : Int) ≤ (i : Int)) && (tk S i != 0)) := by
  rw [Bool.eq_iff_iff, beq_iff_eq, List.all_eq_true]
  constructor
  · intro e i hi
    have hi := List.mem_range.mp hi
    by_cases h : n ≤ i
    · have e1 : (N6 S n)[i]? = some 0 := by rw [e, List.getElem?_replicate, if_pos hi]
      unfold N6 at e1
      rw [List.getElem?_append_right (by simpa using h), List.length_replicate, List.getElem?_drop, show n + (i - n) = i by omega, List.getElem?_take_of_lt hi, L1 hS (by omega)] at e1
      have e2 : tk S (i : Int) = 0 := Option.some.inj e1
      simp [e2]
    · have : decide ((n : Int) ≤ (i : Int)) = false := decide_eq_false (by omega)
      rw [this]; rfl
  · intro h
    apply List.ext_getElem?
    intro i
    rw [List.getElem?_replicate]
    split
    · rename_i hi
      unfold N6
      by_cases hni : n ≤ i
      · have h1 := h i (List.mem_range.mpr hi)
        have : decide ((n : Int) ≤ (i : Int)) = true := decide_eq_true (by omega)
        rw [this] at h1
        simp at h1
        rw [List.getElem?_append_right (by simpa using hni), List.length_replicate, List.getElem?_drop, show n + (i - n) = i by omega, List.getElem?_take_of_lt hi, L1 hS (by omega)]
        exact congrArg some h1
      · rw [List.getElem?_append_left (by simp; omega), List.getElem?_replicate, if_pos (by omega)]
    · exact List.getElem?_eq_none (by rw [cG hS hn]; omega)
theorem Aa {n : Nat} {S : List Int} (hS : S.length = 49) (hn : n ≤ 40) : okS n S = ((N6 S n == List.replicate 40 0) && (okH (S.take 40) && (okH ((S.drop 44).take 4) && (inV (vS S) && (decide (0 ≤ mdS S) && decide (mdS S ≤ 2)))))) := by
  have a : (List.range 40).all (fun i => !cO n S i) = ((N6 S n == List.replicate 40 0) && okH (S.take 40)) := by
    rw [wN hS hn, Bool.eq_iff_iff]
    unfold okH cO
    simp only [Bool.and_eq_true, List.all_eq_true, List.mem_range, Bool.not_eq_true', Bool.or_eq_false_iff]
    constructor
    · refine fun h => ⟨fun i hi => (h i hi).2, fun x hx => ?_⟩
      obtain ⟨i, hi, e⟩ := List.mem_iff_getElem.mp hx
      rw [List.length_take] at hi
      have h1 := (h i (by omega)).1
      have e2 : tk S (i : Int) = x := by
        have := L1 hS (k := i) (by omega)
        rw [← e, List.getElem_take]
        rw [List.getElem?_eq_getElem (by omega)] at this
        exact (Option.some.inj this).symm
      rw [e2] at h1; exact h1
    · refine fun h i hi => ⟨?_, h.1 i hi⟩
      have := h.2 (tk S i) (List.mem_of_getElem? (i := i) (by rw [List.getElem?_take_of_lt hi]; exact L1 hS (by omega)))
      exact this
  have b : (List.range 4).all (fun i => !gm S i) = okH ((S.drop 44).take 4) := by
    rw [Bool.eq_iff_iff]
    unfold okH gm
    simp only [List.all_eq_true, List.mem_range, Bool.not_eq_true', Bool.or_eq_false_iff]
    constructor
    · intro h x hx
      obtain ⟨i, hi, e⟩ := List.mem_iff_getElem.mp hx
      rw [List.length_take, List.length_drop] at hi
      have h1 := h i (by omega)
      have e2 : qAt S (i : Int) = x := by
        have := L1 hS (k := 44 + i) (by omega)
        rw [← e, List.getElem_take, List.getElem_drop]
        rw [List.getElem?_eq_getElem (by omega)] at this
        exact (Option.some.inj this).symm
      rw [e2] at h1; exact h1
    · intro h i hi
      exact h (qAt S i) (List.mem_of_getElem? (i := i) (by rw [List.getElem?_take_of_lt hi, List.getElem?_drop]; exact L1 hS (by omega)))
  unfold okS
  rw [a, b]
  simp only [Bool.and_assoc]
end
section
def P4 := And.intro T2 (And.intro T3 (And.intro T4 (And.intro T22 (And.intro T23 (And.intro T25 (And.intro T31 (And.intro T41 (And.intro T57 (And.intro T58 (And.intro T77 (And.intro T80 T82)))))))))))
attribute [local irreducible] awp n9 k3 l8 o6 n5
theorem dN {ns : List Nd} {fl : List Fl} (nk : NetOk ns fl) {S : List Int} (hS : S.length = 49) (h : Heap) :
    d5 Tryz.prog gW 51 [G7 ns fl, aS S] h (fun r h' => r = .i (stC ns fl S) ∧ h' = h) := by
  have hne := K6 hS
  have hc := fun h => ic ns fl nk h
  by_cases h0 : (A9 ns fl).1 = 0
  case neg =>
    have h0' : ((A9 ns fl).1 != 0) = true := by simp [h0]
    have hst : stC ns fl S = 4 := by unfold stC; rw [if_pos h0]
    rw [hst]
    refine c8 (rl := []) e9 Tryz.func51 rfl (rs := [.tmp 4]) rfl Tryz.ntmps51 (by simp) ?_
    repeat' (first | ((repeat ((fail_if_success (refine hK _ ?_)); clear hK K)); refine hK _ ?_; clear hK K) | ((first | refine b9 fun K1 q6 => ?_ | refine b7 fun A B hA hB => ?_); simp only [S1, simprocAttr, P4, List.length_map, hS, hne, d8, h0']; first | refine q6 _ ?_; clear q6 K1 | (refine hA ?_; clear hA hB A B) | (apply d4 E56; exact (hc _); refine q6 _ ?_; clear q6 K1)) | refine b6 fun K hK => ?_ | ((first | apply b8 | apply b5 | apply d3); try simp only [NB, simprocAttr]))
    all_goals simp only [S1, simprocAttr, ENB, P4]
  have h0' : ((A9 ns fl).1 != 0) = false := by simp [h0]
  have rt := Right.of h0
  have hf := rt.f
  have t40 : (S.map AV.i).take 40 = (S.take 40).map AV.i := by rw [List.map_take]
  have l40 : (S.take 40).length = 40 := by rw [List.length_take, hS]; rfl
  have hov := l7 (cs := (S.take 40).map AV.i) (n := 40) (by rw [List.length_map, l40])
  refine c8 (rl := []) e9 Tryz.func51 rfl (rs := [.tmp 4]) rfl Tryz.ntmps51 (by simp) ?_
  repeat' (first | ((repeat ((fail_if_success (refine hK _ ?_)); clear hK K)); refine hK _ ?_; clear hK K) | ((first | refine b9 fun K1 q6 => ?_ | refine b7 fun A B hA hB => ?_); simp only [S1, simprocAttr, P4, h0', t40, l40, hov, hne, hS, d8, d7, d9, eqA, Q57, LNB]; first | refine q6 _ ?_; clear q6 K1 | (refine hB ?_; clear hA hB A B) | (apply d4 E56; exact (hc _); refine q6 _ ?_; clear q6 K1)) | refine b6 fun K hK => ?_ | ((first | apply b8 | apply b5 | apply c7 | apply c9); try simp only [NB, simprocAttr]))
  refine p8 fl.length 58 (fun j => [(21, .i j), (20, .i fl.length), (7, .ptr (h.length + 2) 0 0), (3, .ptr (h.length + 1) 0 0), (2, .ptr h.length 0 0)])
    (fun j => [some ⟨0, x8 ns fl⟩, some ⟨0, S.map AV.i⟩, some ⟨0, (N6 S j).map AV.i⟩]) (fun j => True) ?_ trivial fun j hj hp K hK => ?_
  · have r0 : N6 S 0 = S.take 40 := rfl
    simp only [r0]
    refine ⟨rfl, ⟨[], by simp only [List.append_nil]⟩, ?_, ⟨trivial, trivial, trivial⟩, g9 _ _, g9 _ _, trivial⟩
    simp only [S1, simprocAttr, KNB] <;> (try and_intros) <;> (try assumption) <;> (try trivial) <;> (try omega)
  rcases Nat.lt_or_ge j fl.length with hlt | hge
  · have j0 : (0 : Int) ≤ (j : Int) := by omega
    have j40 : (j : Int) < 40 := by omega
    have jl : (j : Int) < (fl.length : Int) := by omega
    have hj41 : j + 1 ≤ 40 := by omega
    have rl := cG hS (j := j) (by omega)
    have rs : ((N6 S j).map AV.i).set j (.p (.int .i64 0)) = (N6 S (j + 1)).map AV.i := by rw [I3, uH hS (by omega)]
    repeat' (first | ((repeat ((fail_if_success (refine hK _ ?_)); clear hK K)); refine hK _ ?_; clear hK K) | ((first | refine b9 fun K1 q6 => ?_ | refine b7 fun A B hA hB => ?_); simp only [S1, simprocAttr, P4, jl, Q4 (n := fl.length) (by omega) hlt, j0, j40, hj41, rl, rs, hne, hS, d8, d7, d9, eqA, Q57, LNB]; first | refine q6 _ ?_; clear q6 K1 | (refine hA ?_; clear hA hB A B)) | refine b6 fun K hK => ?_ | ((first | apply b8 | apply b5 | apply c7 | apply c9); try simp only [NB, simprocAttr]))
    all_goals refine ⟨hlt, trivial, ?_⟩
    all_goals refine ⟨rfl, ⟨[], by simp only [List.append_nil]⟩, ?_, ⟨trivial, trivial, trivial⟩, g9 _ _, g9 _ _, trivial⟩
    all_goals simp only [S1, simprocAttr, KNB] <;> (try and_intros) <;> (try assumption) <;> (try trivial) <;> (try omega)
  obtain rfl : j = fl.length := by omega
  have hok := Aa hS hf
  have hst : stC ns fl S = if okS fl.length S = true then 0 else 1 := by unfold stC; rw [if_neg (by simpa using h0)]
  rw [hok] at hst
  have hH : ∀ j, (h ++ [some ⟨0, x8 ns fl⟩, some ⟨0, S.map AV.i⟩, some ⟨0, (N6 S j).map AV.i⟩])[h.length + 1]? = some (some ⟨0, S.map AV.i⟩) := fun j => by simp [n8]
  have hh1 := ku (G := gW) (off := 0) (n := 40) (hH fl.length) (by omega) (by omega)
  have hh2 := ku (G := gW) (off := 44) (n := 4) (hH fl.length) (by omega) (by omega)
  rw [List.drop_zero] at hh1
  have hf4 := fun h => ik (G := gW) (vS S) h
  have eq0 := eqI (S := N6 S fl.length) (T := List.replicate 40 0) (by rw [cG hS hf, List.length_replicate])
  generalize (N6 S fl.length == List.replicate 40 0) = z0 at eq0 hst
  simp only [List.replicate_succ, List.replicate_zero, List.map_cons, List.map_nil] at eq0
  have rl := cG hS (j := fl.length) hf
  have ar := wG hS
  have dm := N2 (L1 hS (k := 48) (by omega))
  have emd : S.getD 48 0 = mdS S := rfl
  rw [emd] at dm
  have rtk : ((N6 S fl.length).map AV.i).take 40 = (N6 S fl.length).map AV.i := List.take_of_length_le (by rw [List.length_map, rl]; exact Nat.le_refl _)
  generalize mdS S = v at hst dm
  cases z0 with
  | false =>
    repeat' (first | ((repeat ((fail_if_success (refine hK _ ?_)); clear hK K)); refine hK _ ?_; clear hK K) | ((first | refine b9 fun K1 q6 => ?_ | refine b7 fun A B hA hB => ?_); simp only [S1, simprocAttr, P4, Int.lt_irrefl, eq0, rl, rtk, ar, dm, hne, hS, d8, d7, d9, eqA, Q57, LNB]; first | refine q6 _ ?_; clear q6 K1 | ((first | refine hA ?_ | refine hB ?_); clear hA hB A B)) | refine b6 fun K hK => ?_ | ((first | apply b8 | apply b5 | apply f9 | apply d3); try simp only [NB, simprocAttr]))
    all_goals simp only [S1, simprocAttr, ENB, P4]
    all_goals rw [hst]; rfl
  | true =>
  cases f1 : okH (S.take 40) with
  | false =>
    rw [f1] at hst hh1
    repeat' (first | ((repeat ((fail_if_success (refine hK _ ?_)); clear hK K)); refine hK _ ?_; clear hK K) | ((first | refine b9 fun K1 q6 => ?_ | refine b7 fun A B hA hB => ?_); simp only [S1, simprocAttr, P4, Int.lt_irrefl, eq0, rl, rtk, ar, dm, hne, hS, d8, d7, d9, eqA, Q57, LNB]; first | refine q6 _ ?_; clear q6 K1 | ((first | refine hA ?_ | refine hB ?_); clear hA hB A B) | (apply d4 E72; exact hh1; refine q6 _ ?_; clear q6 K1)) | refine b6 fun K hK => ?_ | ((first | apply b8 | apply b5 | apply f9 | apply d3); try simp only [NB, simprocAttr]))
    all_goals simp only [S1, simprocAttr, ENB, P4]
    all_goals rw [hst]; rfl
  | true =>
  rw [f1] at hst hh1
  cases f2 : okH ((S.drop 44).take 4) with
  | false =>
    rw [f2] at hst hh2
    repeat' (first | ((repeat ((fail_if_success (refine hK _ ?_)); clear hK K)); refine hK _ ?_; clear hK K) | ((first | refine b9 fun K1 q6 => ?_ | refine b7 fun A B hA hB => ?_); simp only [S1, simprocAttr, P4, Int.lt_irrefl, eq0, rl, rtk, ar, dm, hne, hS, d8, d7, d9, eqA, Q57, LNB]; first | refine q6 _ ?_; clear q6 K1 | ((first | refine hA ?_ | refine hB ?_); clear hA hB A B) | (apply d4 E72; exact hh1; refine q6 _ ?_; clear q6 K1) | (apply d4 E72; exact hh2; refine q6 _ ?_; clear q6 K1)) | refine b6 fun K hK => ?_ | ((first | apply b8 | apply b5 | apply f9 | apply d3); try simp only [NB, simprocAttr]))
    all_goals simp only [S1, simprocAttr, ENB, P4]
    all_goals rw [hst]; rfl
  | true =>
  rw [f2] at hst hh2
  cases f3 : inV (vS S) with
  | false =>
    rw [f3] at hst hf4
    repeat' (first | ((repeat ((fail_if_success (refine hK _ ?_)); clear hK K)); refine hK _ ?_; clear hK K) | ((first | refine b9 fun K1 q6 => ?_ | refine b7 fun A B hA hB => ?_); simp only [S1, simprocAttr, P4, Int.lt_irrefl, eq0, rl, rtk, ar, dm, hne, hS, d8, d7, d9, eqA, Q57, LNB]; first | refine q6 _ ?_; clear q6 K1 | ((first | refine hA ?_ | refine hB ?_); clear hA hB A B) | (apply d4 E72; exact hh1; refine q6 _ ?_; clear q6 K1) | (apply d4 E72; exact hh2; refine q6 _ ?_; clear q6 K1) | (apply d4 E73; exact (hf4 _); refine q6 _ ?_; clear q6 K1)) | refine b6 fun K hK => ?_ | ((first | apply b8 | apply b5 | apply f9 | apply d3); try simp only [NB, simprocAttr]))
    all_goals simp only [S1, simprocAttr, ENB, P4]
    all_goals rw [hst]; rfl
  | true =>
  rw [f3] at hst hf4
  by_cases h1 : v < 0
  · have f4 : decide (v < 0) = true := decide_eq_true h1
    have f5 : decide (0 ≤ v) = false := decide_eq_false (by omega)
    rw [f5] at hst
    repeat' (first | ((repeat ((fail_if_success (refine hK _ ?_)); clear hK K)); refine hK _ ?_; clear hK K) | ((first | refine b9 fun K1 q6 => ?_ | refine b7 fun A B hA hB => ?_); simp only [S1, simprocAttr, P4, Int.lt_irrefl, eq0, rl, rtk, ar, dm, f4, hne, hS, d8, d7, d9, eqA, Q57, LNB]; first | refine q6 _ ?_; clear q6 K1 | ((first | refine hA ?_ | refine hB ?_); clear hA hB A B) | (apply d4 E72; exact hh1; refine q6 _ ?_; clear q6 K1) | (apply d4 E72; exact hh2; refine q6 _ ?_; clear q6 K1) | (apply d4 E73; exact (hf4 _); refine q6 _ ?_; clear q6 K1)) | refine b6 fun K hK => ?_ | ((first | apply b8 | apply b5 | apply f9 | apply d3); try simp only [NB, simprocAttr]))
    all_goals simp only [S1, simprocAttr, ENB, P4]
    all_goals rw [hst]; rfl
  have f4 : decide (v < 0) = false := decide_eq_false h1
  have f5 : decide (0 ≤ v) = true := decide_eq_true (by omega)
  by_cases h2 : 2 < v
  · have f6 : decide (2 < v) = true := decide_eq_true h2
    have f7 : decide (v ≤ 2) = false := decide_eq_false (by omega)
    rw [f5, f7] at hst
    repeat' (first | ((repeat ((fail_if_success (refine hK _ ?_)); clear hK K)); refine hK _ ?_; clear hK K) | ((first | refine b9 fun K1 q6 => ?_ | refine b7 fun A B hA hB => ?_); simp only [S1, simprocAttr, P4, Int.lt_irrefl, eq0, rl, rtk, ar, dm, f4, f6, hne, hS, d8, d7, d9, eqA, Q57, LNB]; first | refine q6 _ ?_; clear q6 K1 | ((first | refine hA ?_ | refine hB ?_); clear hA hB A B) | (apply d4 E72; exact hh1; refine q6 _ ?_; clear q6 K1) | (apply d4 E72; exact hh2; refine q6 _ ?_; clear q6 K1) | (apply d4 E73; exact (hf4 _); refine q6 _ ?_; clear q6 K1)) | refine b6 fun K hK => ?_ | ((first | apply b8 | apply b5 | apply f9 | apply d3); try simp only [NB, simprocAttr]))
    all_goals simp only [S1, simprocAttr, ENB, P4]
    all_goals rw [hst]; rfl
  have f6 : decide (2 < v) = false := decide_eq_false h2
  have f7 : decide (v ≤ 2) = true := decide_eq_true (by omega)
  rw [f5, f7] at hst
  repeat' (first | ((repeat ((fail_if_success (refine hK _ ?_)); clear hK K)); refine hK _ ?_; clear hK K) | ((first | refine b9 fun K1 q6 => ?_ | refine b7 fun A B hA hB => ?_); simp only [S1, simprocAttr, P4, Int.lt_irrefl, eq0, rl, rtk, ar, dm, f4, f6, hne, hS, d8, d7, d9, eqA, Q57, LNB]; first | refine q6 _ ?_; clear q6 K1 | (refine hB ?_; clear hA hB A B) | (apply d4 E72; exact hh1; refine q6 _ ?_; clear q6 K1) | (apply d4 E72; exact hh2; refine q6 _ ?_; clear q6 K1) | (apply d4 E73; exact (hf4 _); refine q6 _ ?_; clear q6 K1)) | refine b6 fun K hK => ?_ | ((first | apply b8 | apply b5 | apply f9 | apply c9 | apply d3); try simp only [NB, simprocAttr]))
  all_goals simp only [S1, simprocAttr, ENB, P4]
  all_goals rw [hst]; rfl
end
section
def tokF (S : List Int) : Int → Int := fun i => if 0 ≤ i ∧ i < 40 then tk S i else 0
def tt (t : Int → Int) : List Int := (List.range 40).map fun (i : Nat) => t (i : Int)
theorem sb {S : List Int} (hS : S.length = 49) : tt (tokF S) = S.take 40 := by
  apply List.ext_getElem?
  intro i
  unfold tt
  rw [List.getElem?_map]
  rcases Nat.lt_or_ge i 40 with hi | hi
  · rw [List.getElem?_range hi, List.getElem?_take_of_lt hi, L1 hS (by omega)]
    unfold tokF
    rw [Option.map_some, if_pos ⟨by omega, by omega⟩]; rfl
  · rw [List.getElem?_eq_none (by simpa using hi), List.getElem?_eq_none (by rw [List.length_take]; omega)]; rfl
structure RelT (S : List Int) (t : Int → Int) : Prop where
  len : S.length = 49
  eq : ∀ i : Int, 0 ≤ i → i < 40 → tk S i = t i
theorem RelT.tokF {S : List Int} (hS : S.length = 49) : RelT S (tokF S) := ⟨hS, fun i h0 h1 => by unfold AM.tokF; rw [if_pos ⟨h0, h1⟩]⟩
theorem RelT.take {S : List Int} {t : Int → Int} (h : RelT S t) : S.take 40 = tt t := by
  rw [← sb h.len]
  unfold tt
  apply List.map_congr_left
  intro i hi
  have := List.mem_range.mp hi
  unfold AM.tokF
  rw [if_pos ⟨by omega, by omega⟩, h.eq _ (by omega) (by omega)]
theorem RelT.set {S : List Int} {t : Int → Int} (h : RelT S t) {f v : Int} (h0 : 0 ≤ f) (h1 : f < 40) : RelT (S.set f.toNat v) (AN t f v) := by
  have hl := h.len
  refine ⟨by rw [List.length_set, hl], fun i i0 i1 => ?_⟩
  unfold tk AN
  rw [List.getD_eq_getElem?_getD, List.getElem?_set]
  by_cases e : i = f
  · subst e; rw [if_pos rfl, if_pos rfl, if_pos (by omega)]; rfl
  · rw [if_neg (by omega), if_neg e, ← List.getD_eq_getElem?_getD]
    exact h.eq i i0 i1
end
section
open Go Go.Proofs Go.Sort
abbrev Rec (k : Nat) := {l : List Int // l.length = k ∧ ∀ n ∈ l, u4 .i64 n}
theorem zero_in : u4 .i64 0 := by constructor <;> decide
instance (k : Nat) : Inhabited (Rec k) := ⟨⟨List.replicate k 0, by simp, fun n hn => by rw [List.eq_of_mem_replicate hn]; exact zero_in⟩⟩
def Q6 {k : Nat} (x : Rec k) : List Value := x.1.map (.int .i64)
def C7 {k : Nat} (x : Rec k) : List AV := x.1.map AV.i
def cj (k : Nat) (w : World) (blk off m : Nat) (d : Array (Rec k)) (os : Array Obj) : World := grow (putRowK Q6 k (Sort.ahead w m) blk off d) os
def sc (P : Program) (f g : FuncId) (k : Nat) : Prop :=
  ∀ cf : Rec k → Rec k → Int, SWO (fun x y => decide (cf x y < 0)) → ∀ (blk off cap : Nat) (d : Array (Rec k)) (w : World),
    (∀ (m : Nat) (os : Array Obj) (dk : Array (Rec k)), dk.size = d.size → ∀ x y : Rec k,
      Calls P g #[.agg (Q6 x).toArray, .agg (Q6 y).toArray] (cj k w blk off m dk os) fun e w' => e = .returned (.int .i64 (cf x y)) ∧ ∃ q os', w' = grow ((cj k w blk off m dk os).drewN q) os') →
    HoldsK Q6 k w blk off d → blk < w.heap.size → d.size < 4611686018427387904 →
    Calls P f #[.slice (some ⟨blk, off, none⟩) d.size cap, .func (.func g) #[] #[]] w fun e w' =>
      e = .returned (.tuple #[]) ∧ ∃ d' n os, PermIn 0 d.size d d' ∧ SortedIn (fun x y => decide (cf x y < 0)) 0 d.size d' ∧ w' = cj k w blk off n d' os
theorem kv {k : Nat} : ∀ rows : List (Rec k), (rows.flatMap C7).length = rows.length * k
  | [] => by simp
  | r :: rs => by
    rw [List.flatMap_cons, List.length_append, kv rs, List.length_cons, Nat.add_mul, Nat.one_mul, Nat.add_comm]
    congr 1
    rw [C7, List.length_map, r.2.1]
theorem tu {k : Nat} (hk : 0 < k) : ∀ (rows : List (Rec k)) (j : Nat), j < rows.length * k → ∃ r n, rows[j / k]? = some r ∧ r.1[j % k]? = some n ∧ (rows.flatMap C7)[j]? = some (AV.i n)
  | [], j, h => by simp at h
  | r :: rs, j, h => by
    rw [List.flatMap_cons]
    have hl : (C7 r).length = k := by rw [C7, List.length_map, r.2.1]
    rcases Nat.lt_or_ge j k with hj | hj
    · have h1 : j < r.1.length := by rw [r.2.1]; exact hj
      refine ⟨r, r.1[j], ?_, ?_, ?_⟩
      · rw [Nat.div_eq_of_lt hj]; rfl
      · rw [Nat.mod_eq_of_lt hj]; exact List.getElem?_eq_getElem h1
      · rw [List.getElem?_append_left (by rw [hl]; exact hj), C7, List.getElem?_map, List.getElem?_eq_getElem h1]; rfl
    · have h2 : j - k < rs.length * k := by rw [List.length_cons, Nat.add_mul, Nat.one_mul] at h; omega
      obtain ⟨r', n, p1, p2, p3⟩ := tu hk rs (j - k) h2
      have e1 : j / k = (j - k) / k + 1 := by rw [Nat.div_eq j k, if_pos ⟨hk, hj⟩]
      have e2 : j % k = (j - k) % k := Nat.mod_eq_sub_mod hj
      refine ⟨r', n, ?_, ?_, ?_⟩
      · rw [e1, List.getElem?_cons_succ]; exact p1
      · rw [e2]; exact p2
      · rw [List.getElem?_append_right (by rw [hl]; exact hj), hl]; exact p3
theorem qk {k : Nat} (hk : 0 < k) (d : Array (Rec k)) (j : Nat) (h : j < d.size * k) : ∃ n, (flatK Q6 k d)[j]! = .int .i64 n ∧ u4 .i64 n ∧ (d.toList.flatMap C7)[j]? = some (AV.i n) := by
  obtain ⟨r, n, p1, p2, p3⟩ := tu hk d.toList j (by simpa using h)
  refine ⟨n, ?_, r.2.2 n (List.mem_of_getElem? p2), p3⟩
  rw [get_flatK _ _ _ _ h]
  have e1 : d[j / k]! = r := by
    rw [Array.getElem?_toList] at p1
    rw [getElem!_def, p1]
  rw [e1, Q6]
  have : (r.1.map (Value.int .i64))[j % k]? = some (.int .i64 n) := by rw [List.getElem?_map, p2]; rfl
  simp [List.getElem!_eq_getElem?_getD, this]
theorem ip {k : Nat} (w : World) (blk off m : Nat) (d : Array (Rec k)) (os : Array Obj) (q : Nat) (hq : q < w.heap.size) (hne : q ≠ blk) : (cj k w blk off m d os).heap[q]? = w.heap[q]? := by
  have hs : (putRowK Q6 k (Sort.ahead w m) blk off d).heap.size = w.heap.size := size_putRow ..
  show ((putRowK Q6 k (Sort.ahead w m) blk off d).heap ++ os)[q]? = _
  rw [Array.getElem?_append_left (by rw [hs]; exact hq)]
  show ((Sort.ahead w m).heap.modify blk _)[q]? = _
  rw [Array.getElem?_modify, if_neg (Ne.symm hne)]
  rfl
theorem kw {k : Nat} (w : World) (blk off m : Nat) (d : Array (Rec k)) (os : Array Obj) : w.heap.size ≤ (cj k w blk off m d os).heap.size := by
  have hs : (putRowK Q6 k (Sort.ahead w m) blk off d).heap.size = w.heap.size := size_putRow ..
  show _ ≤ ((putRowK Q6 k (Sort.ahead w m) blk off d).heap ++ os).size
  rw [Array.size_append, hs]
  exact Nat.le_add_right _ _
theorem uI {k : Nat} (w : World) (blk off m : Nat) (d : Array (Rec k)) (os : Array Obj) {c : Array Value} {ty : TypeId} {fr : Nat × Nat} (hc : w.heap[blk]? = some (.cells c ty fr)) :
    (cj k w blk off m d os).heap[blk]? = some (.cells (putCells id off (flatK Q6 k d) c) ty fr) := by
  have hs : (putRowK Q6 k (Sort.ahead w m) blk off d).heap.size = w.heap.size := size_putRow ..
  have hb : blk < w.heap.size := G3 hc
  show ((putRowK Q6 k (Sort.ahead w m) blk off d).heap ++ os)[blk]? = _
  rw [Array.getElem?_append_left (by rw [hs]; exact hb)]
  show ((Sort.ahead w m).heap.modify blk _)[blk]? = _
  rw [Array.getElem?_modify, if_pos rfl]
  show w.heap[blk]?.map _ = _
  rw [hc]
  rfl
section
variable {P : Program} {G : Nat → Option (List PV)}
theorem wO {w w' : World} (hs : w.heap.size ≤ w'.heap.size) (hk : ∀ q, q < w.heap.size → w'.heap[q]? = w.heap[q]?) (ho : w'.os = w.os) (hu : w'.output = w.output) (ht : w'.tape = w.tape) (hd : w.drawn ≤ w'.drawn) :
    ∃ q os', w' = grow (w.drewN q) os' := by
  refine ⟨w'.drawn - w.drawn, w'.heap.extract w.heap.size w'.heap.size, ?_⟩
  have hh : w'.heap = w.heap ++ w'.heap.extract w.heap.size w'.heap.size := by
    apply Array.ext_getElem?
    intro i
    rcases Nat.lt_or_ge i w.heap.size with hi | hi
    · rw [Array.getElem?_append_left hi, hk i hi]
    · rw [Array.getElem?_append_right hi, Array.getElem?_extract]
      split
      · congr 1; omega
      · rw [Array.getElem?_eq_none]; omega
  cases w' with
  | mk h t d o u =>
    simp only at hh ho hu ht hd
    subst ho hu ht
    unfold grow World.drewN
    simp only
    rw [← hh, Nat.add_sub_cancel' hd]
theorem sd {f g : FuncId} {k : Nat} (hk : 0 < k) (hs : sc P f g k) (cf : List Int → List Int → Int)
    (hswo : SWO (fun x y : Rec k => decide (cf x.1 y.1 < 0)))
    (hc : ∀ x y : Rec k, d5 P G g [.agg (C7 x), .agg (C7 y)] [] fun r h' => r = .i (cf x.1 y.1))
    {h : Heap} {b gg off : Nat} {pre post : List AV} {rows : List (Rec k)} (hb : h[b]? = some (some ⟨gg, pre ++ (rows.flatMap C7 ++ post)⟩)) (hoff : pre.length = off) (hne : rows ≠ []) (hn : rows.length < 4611686018427387904) :
    d5 P G f [.ref b gg off k rows.length, .fn g []] h fun r h' => r = .undef ∧ ∃ rows' : List (Rec k), rows'.Perm rows ∧ rows'.Pairwise (fun x y => ¬ cf y.1 x.1 < 0) ∧
      h' = h.set b (some ⟨gg, pre ++ (rows'.flatMap C7 ++ post)⟩) := by
  intro ι w vs hS hv
  obtain ⟨hl, hv⟩ := hv
  have hl2 : vs.size = 2 := by simpa using hl.symm
  obtain ⟨v0, v1, rfl⟩ : ∃ v0 v1, vs = #[v0, v1] := by
    obtain ⟨l⟩ := vs
    match l, hl2 with
    | [a, b], _ => exact ⟨a, b, rfl⟩
  have h0 := hv 0 _ v0 rfl rfl
  have h1 := hv 1 _ v1 rfl rfl
  have hpos : 0 < rows.length := List.length_pos_iff.mpr hne
  have hblt : b < h.length := by
    rcases Nat.lt_or_ge b h.length with hq | hq
    · exact hq
    · rw [List.getElem?_eq_none hq] at hb; simp at hb
  have hfl : (rows.flatMap C7).length = rows.length * k := kv rows
  have hcne : (pre ++ (rows.flatMap C7 ++ post)) ≠ [] := by
    intro e
    have := congrArg List.length e
    simp only [List.length_append, hfl, List.length_nil] at this
    have : 0 < rows.length * k := Nat.mul_pos hpos hk
    omega
  have hown : own ι h (ι b).1 := ⟨b, _, hb, hcne, rfl⟩
  have hd : rows.toArray.size = rows.length := by simp
  cases h1 with
  | fn _ _ vs1 hl1 hv1 =>
  have : vs1 = #[] := by
    have : vs1.size = 0 := by simpa using hl1.symm
    exact Array.eq_empty_of_size_eq_zero this
  subst this
  cases h0 with
  | ref _ _ _ _ _ A c hn0 hb0 hg0 hv0 =>
  rcases hv0 ⟨_, hb, rfl⟩ with ⟨hz, _⟩ | ⟨rfl, _, _, _, _, _, hcc, _⟩
  · omega
  obtain ⟨c0, ty, hc0, hlc, hcell⟩ := (hS.hr.blk b _ hb hcne).cells hcc
  simp only [List.length_append, hfl] at hlc
  have hold : HoldsK Q6 k w (ι b).1 ((ι b).2 + off) rows.toArray := by
    intro j hj
    rw [size_flatK, hd] at hj
    obtain ⟨n, p1, p2, p3⟩ := qk hk rows.toArray j (by rw [hd]; exact hj)
    obtain ⟨v, q1, q2⟩ := hcell (off + j) (AV.i n) (by
      rw [List.getElem?_append_right (by omega), hoff, Nat.add_sub_cancel_left, List.getElem?_append_left (by omega)]
      exact p3)
    obtain ⟨rfl, _⟩ := q2.int_inv
    refine ⟨?_, ?_⟩
    · unfold World.cell?
      simp only [hc0]
      rw [Nat.add_assoc, q1, id, p1]
      rfl
    · unfold World.frozen?
      simp only [hc0]
      simp
  have hblk : (ι b).1 < w.heap.size := G3 hc0
  have hcmp : ∀ (m : Nat) (os : Array Obj) (dk : Array (Rec k)), dk.size = rows.toArray.size → ∀ x y : Rec k,
      Calls P g #[.agg (Q6 x).toArray, .agg (Q6 y).toArray] (cj k w (ι b).1 ((ι b).2 + off) m dk os) fun e w' => e = .returned (.int .i64 (cf x.1 y.1)) ∧ ∃ q os', w' = grow ((cj k w (ι b).1 ((ι b).2 + off) m dk os).drewN q) os' := by
    intro m os dk hdk x y
    have hW0 : SimH P G ι [] (cj k w (ι b).1 ((ι b).2 + off) m dk os) := by
      refine ⟨⟨fun b bk hb => by simp at hb, fun b b' bk bk' hb => by simp at hb⟩, fun g' cells hg => (hS.gr g' cells hg).mono (kw ..) fun q hq ho => ⟨ip _ _ _ _ _ _ q hq (fun e => ho (e ▸ hown)), ?_⟩⟩
      rintro ⟨b', bk, hb', _⟩
      simp at hb'
    have hagg : ∀ x : Rec k, VRel ι [] (cj k w (ι b).1 ((ι b).2 + off) m dk os) (.agg (C7 x)) (.agg (Q6 x).toArray) := by
      intro x
      refine .agg _ _ (by simp [C7, Q6]) fun i u v hu hv => ?_
      simp only [C7, Q6, List.getElem?_map, List.getElem?_toArray] at hu hv
      cases hq : x.1[i]? with
      | none => rw [hq] at hu; simp at hu
      | some n =>
        rw [hq] at hu hv
        simp only [Option.map_some, Option.some.injEq] at hu hv
        subst hu hv
        exact .p _ _ (.int _ _ (x.2.2 n (List.mem_of_getElem? hq)))
    refine (hc x y ι _ _ hW0 ⟨rfl, fun i u v hu hv => ?_⟩).mono ?_
    · match i, hu, hv with
      | 0, hu, hv => simp at hu hv; subst hu hv; exact hagg x
      | 1, hu, hv => simp at hu hv; subst hu hv; exact hagg y
    · rintro e w' ⟨v, r, h', ι', rfl, rfl, hS', hvr, hev⟩
      obtain ⟨rfl, _⟩ := hvr.int_inv
      refine ⟨rfl, wO hev.size (fun q hq => (hev.keep q hq (by rintro ⟨b', bk, hb', _⟩; simp at hb')).1) hev.os hev.output hev.tape hev.drawn⟩
  have key := hs (fun x y => cf x.1 y.1) hswo (ι b).1 ((ι b).2 + off) c rows.toArray w hcmp hold hblk (by rw [hd]; exact hn)
  rw [hd] at key
  refine key.mono ?_
  rintro e w' ⟨rfl, d', n, os, ⟨hsz, _, hperm⟩, hsort, rfl⟩
  rw [hd] at hsz
  have hperm' : d'.toList.Perm rows := by
    have e1 : d'.extract 0 rows.length = d' := by rw [← hsz]; exact Array.extract_size
    have e2 : rows.toArray.extract 0 rows.length = rows.toArray := by rw [← hd]; exact Array.extract_size
    rw [e1, e2] at hperm
    exact hperm
  have hlen' : d'.toList.length = rows.length := by simpa using hsz
  have hfl' : (d'.toList.flatMap C7).length = rows.length * k := by rw [kv, hlen']
  have hcne' : (pre ++ (d'.toList.flatMap C7 ++ post)) ≠ [] := by
    intro e
    have := congrArg List.length e
    simp only [List.length_append, hfl', List.length_nil] at this
    have : 0 < rows.length * k := Nat.mul_pos hpos hk
    omega
  have hsF : (flatK Q6 k d').size = rows.length * k := by rw [size_flatK, hsz]
  obtain ⟨u1, u2⟩ := hS.upd (h' := h.set b (some ⟨gg, pre ++ (d'.toList.flatMap C7 ++ post)⟩)) (ι' := ι) (w' := cj k w (ι b).1 ((ι b).2 + off) n d' os) b
    ⟨gg, pre ++ (d'.toList.flatMap C7 ++ post)⟩ (ι b).1 (ι b).2 (putCells id ((ι b).2 + off) (flatK Q6 k d') c0) ty (.inr ⟨hblt, ⟨_, hb, Nat.le_refl _⟩, rfl⟩)
    (fun i => by split <;> rename_i q <;> first | (subst q; rfl) | rfl) (.inr ⟨_, hb, hcne, rfl, fun cs ty' fr hq => by rw [hc0] at hq; cases hq; simp [putCells]⟩) hcne'
    (uI _ _ _ _ _ _ hc0) (by simp only [putCells, Array.size_mapIdx, List.length_append, hfl']; exact hlc) (fun j x hx => by
      have hjl : j < pre.length + (rows.length * k + post.length) := by
        rcases Nat.lt_or_ge j (pre.length + (rows.length * k + post.length)) with hq | hq
        · exact hq
        · rw [List.getElem?_eq_none (by simp only [List.length_append, hfl']; exact hq)] at hx; simp at hx
      have hin : (ι b).2 + j < c0.size := by omega
      have hp : (putCells id ((ι b).2 + off) (flatK Q6 k d') c0)[(ι b).2 + j]? = some (if (ι b).2 + off ≤ (ι b).2 + j ∧ (ι b).2 + j < (ι b).2 + off + rows.length * k then (flatK Q6 k d')[(ι b).2 + j - ((ι b).2 + off)]! else c0[(ι b).2 + j]) := by
        simp only [putCells, Array.getElem?_mapIdx, Array.getElem?_eq_getElem hin, Option.map_some, hsF, id]
      rw [hp]
      rcases Nat.lt_or_ge j off with a | a
      · rw [if_neg (by omega)]
        rw [List.getElem?_append_left (by omega)] at hx
        obtain ⟨v, q1, q2⟩ := hcell j x (by rw [List.getElem?_append_left (by omega)]; exact hx)
        rw [Array.getElem?_eq_getElem hin] at q1
        exact ⟨_, rfl, by cases q1; exact q2⟩
      rcases Nat.lt_or_ge j (off + rows.length * k) with a2 | a2
      · rw [if_pos (by omega)]
        rw [List.getElem?_append_right (by omega), List.getElem?_append_left (by rw [hfl']; omega)] at hx
        obtain ⟨m, p1, p2, p3⟩ := qk hk d' (j - off) (by rw [hsz]; omega)
        rw [hoff] at hx
        rw [p3] at hx
        cases hx
        refine ⟨_, rfl, ?_⟩
        rw [show (ι b).2 + j - ((ι b).2 + off) = j - off by omega, p1]
        exact .p _ _ (.int _ _ p2)
      · rw [if_neg (by omega)]
        rw [List.getElem?_append_right (by omega), List.getElem?_append_right (by rw [hfl']; omega), hfl'] at hx
        obtain ⟨v, q1, q2⟩ := hcell j x (by rw [List.getElem?_append_right (by omega), List.getElem?_append_right (by rw [hfl]; omega), hfl]; exact hx)
        rw [Array.getElem?_eq_getElem hin] at q1
        exact ⟨_, rfl, by cases q1; exact q2⟩)
    (kw ..) (fun q hq hqn => ip _ _ _ _ _ _ q hq hqn) (fun bk hbk _ => rfl) rfl rfl rfl (show w.drawn ≤ w.drawn + n from Nat.le_add_right _ _)
  refine ⟨_, .undef, _, ι, rfl, ⟨rfl, d'.toList, hperm', ?_, rfl⟩, u1, .tup _ _ rfl (fun i x v hx => by simp at hx), u2⟩
  rw [List.pairwise_iff_getElem]
  intro i j hi hj hij
  have hj' : j < rows.length := by rw [hlen'] at hj; exact hj
  have := hsort i j (Nat.zero_le _) hij hj'
  simp only [Array.length_toList] at hi hj
  rw [getElem!_pos d' i hi, getElem!_pos d' j hj] at this
  simpa using of_decide_eq_false this
theorem yz {k : Nat} (rows : List (List Int)) (hr : ∀ r ∈ rows, r.length = k ∧ ∀ n ∈ r, u4 .i64 n) : ∃ R : List (Rec k), R.map (·.1) = rows ∧ R.flatMap C7 = rows.flatMap (·.map AV.i) := by
  have h1 : (rows.attachWith _ hr).map (·.1) = rows := by simp
  refine ⟨rows.attachWith _ hr, h1, ?_⟩
  have h2 : ∀ R : List (Rec k), R.flatMap C7 = (R.map (·.1)).flatMap (·.map AV.i) := fun R => by rw [List.flatMap_map]; rfl
  rw [h2, h1]
theorem se {f g : FuncId} {k : Nat} (hk : 0 < k) (hs : sc P f g k) (cf : List Int → List Int → Int)
    (hswo : SWO (fun x y : Rec k => decide (cf x.1 y.1 < 0)))
    (hc : ∀ x y : Rec k, d5 P G g [.agg (C7 x), .agg (C7 y)] [] fun r h' => r = .i (cf x.1 y.1))
    {h : Heap} {b gg off : Nat} {pre post : List AV} {rows : List (List Int)} (hb : h[b]? = some (some ⟨gg, pre ++ (rows.flatMap (·.map AV.i) ++ post)⟩)) (hoff : pre.length = off) (hne : rows ≠ []) (hn : rows.length < 4611686018427387904)
    (hr : ∀ r ∈ rows, r.length = k ∧ ∀ n ∈ r, u4 .i64 n)
    {out : List (List Int)} (ho : out.Perm rows) (hso : out.Pairwise fun x y => ¬ cf y x < 0) (hanti : ∀ x y, x ∈ rows → y ∈ rows → ¬ cf y x < 0 → ¬ cf x y < 0 → x = y) :
    d5 P G f [.ref b gg off k rows.length, .fn g []] h fun r h' => r = .undef ∧ h' = h.set b (some ⟨gg, pre ++ (out.flatMap (·.map AV.i) ++ post)⟩) := by
  obtain ⟨R, e1, e2⟩ := yz rows hr
  have hl : R.length = rows.length := by rw [← e1, List.length_map]
  have key := sd (G := G) hk hs cf hswo hc (h := h) (b := b) (gg := gg) (off := off) (pre := pre) (post := post) (rows := R) (by rw [e2]; exact hb) hoff (fun e => hne (by rw [← e1, e]; rfl)) (by rw [hl]; exact hn)
  rw [hl] at key
  intro ι w vs hS hv
  refine (key ι w vs hS hv).mono ?_
  rintro e w' ⟨v, r, h', ι', he, ⟨rfl, R', hp, hpw, rfl⟩, q1, q2, q3⟩
  have hout : R'.map (·.1) = out := by
    have p1 : (R'.map (·.1)).Perm rows := by rw [← e1]; exact hp.map _
    refine List.Perm.eq_of_pairwise (le := fun x y => ¬ cf y x < 0) (fun x y hx hy a1 a2 => hanti x y (p1.mem_iff.mp hx) (ho.mem_iff.mp hy) a1 a2) ?_ hso (p1.trans ho.symm)
    rw [List.pairwise_map]
    exact hpw
  have h2 : R'.flatMap C7 = out.flatMap (·.map AV.i) := by rw [← hout, List.flatMap_map]; rfl
  rw [h2] at q1 q2 q3
  exact ⟨v, _, _, ι', he, ⟨rfl, rfl⟩, q1, q2, q3⟩
end
end
section
open Go Go.Proofs Go.Sort
abbrev Sv := List Int
def X1 (out : List Sv) (s : Sv) : List Sv := if s ∈ out then out else out ++ [s]
def B8 (out more : List Sv) : List Sv := more.foldl X1 out
theorem wP (out : List Sv) : B8 out [] = out := rfl
theorem gp {out more : List Sv} {j : Nat} {s : Sv} (h : more[j]? = some s) : B8 out (more.take (j + 1)) = X1 (B8 out (more.take j)) s := by
  unfold B8
  rw [List.take_add_one, h, List.foldl_append]; rfl
theorem wQ {out : List Sv} {s t : Sv} : t ∈ X1 out s ↔ t ∈ out ∨ t = s := by
  unfold X1
  split
  · rename_i h
    exact ⟨.inl, fun h' => h'.elim id fun e => e ▸ h⟩
  · simp
theorem O7 {t : Sv} : ∀ (more out : List Sv), t ∈ B8 out more ↔ t ∈ out ∨ t ∈ more
  | [], out => by simp [B8]
  | s :: r, out => by
    have := O7 r (X1 out s) (t := t)
    unfold B8 at this ⊢
    rw [List.foldl_cons, this, wQ, List.mem_cons]
    exact or_assoc
theorem wR (out : List Sv) (s : Sv) : (X1 out s).length ≤ out.length + 1 ∧ out.length ≤ (X1 out s).length := by
  unfold X1; split <;> simp
theorem S3 : ∀ (more out : List Sv), (B8 out more).length ≤ out.length + more.length ∧ out.length ≤ (B8 out more).length
  | [], out => by simp [B8]
  | s :: r, out => by
    have h1 := S3 r (X1 out s)
    have h2 := wR out s
    unfold B8 at h1 ⊢
    rw [List.foldl_cons, List.length_cons]
    omega
def D0 (nx : Sv → List Sv) (most : Nat) : Nat → Nat → List Sv → List Sv
  | 0, _, out => out
  | f + 1, i, out => match out[i]? with
    | some s => if out.length ≤ most then D0 nx most f (i + 1) (B8 out (nx s)) else out
    | none => out
def B4 (nx : Sv → List Sv) (most : Nat) (l : List Sv) : List Sv := D0 nx most (most + 1) 0 (B8 [] l)
theorem dO {nx : Sv → List Sv} {most : Nat} {P : Sv → Prop} (hn : ∀ s, P s → ∀ t ∈ nx s, P t) : ∀ (f i : Nat) (out : List Sv), (∀ s ∈ out, P s) → ∀ s ∈ D0 nx most f i out, P s
  | 0, _, out, h => h
  | f + 1, i, out, h => by
    unfold D0
    split
    · rename_i s hs
      split
      · refine dO hn f (i + 1) _ fun t ht => ?_
        rcases (O7 _ _).mp ht with ht | ht
        · exact h t ht
        · exact hn s (h s (List.mem_of_getElem? hs)) t ht
      · exact h
    · exact h
theorem ky {nx : Sv → List Sv} {most : Nat} : ∀ (f i : Nat) (out : List Sv), ∀ s ∈ out, s ∈ D0 nx most f i out
  | 0, _, out, s, h => h
  | f + 1, i, out, s, h => by
    unfold D0
    split
    · split
      · exact ky f (i + 1) _ s ((O7 _ _).mpr (.inl h))
      · exact h
    · exact h
theorem da {nx : Sv → List Sv} {most : Nat} : ∀ (f i : Nat) (out : List Sv), most + 1 ≤ f + i → (D0 nx most f i out).length ≤ most → (∀ (j : Nat) s, j < i → out[j]? = some s → ∀ t ∈ nx s, t ∈ out) →
    ∀ s ∈ D0 nx most f i out, ∀ t ∈ nx s, t ∈ D0 nx most f i out
  | 0, i, out, hf, hl, h => by
    unfold D0 at hl ⊢
    intro s hs t ht
    obtain ⟨j, hj⟩ := List.getElem?_of_mem hs
    have := (List.getElem?_eq_some_iff.mp hj).1
    exact h j s (by omega) hj t ht
  | f + 1, i, out, hf, hl, h => by
    unfold D0 at hl ⊢
    split at hl
    · rename_i s hs
      split at hl
      · rename_i hle
        rw [if_pos hle]
        refine da f (i + 1) _ (by omega) hl fun j s' hj hs' t ht => ?_
        have hget : ∀ (more o : List Sv) (j : Nat) s, o[j]? = some s → (B8 o more)[j]? = some s := by
          intro more
          induction more with
          | nil => intro o j s h; exact h
          | cons t r ih =>
            intro o j s h
            unfold B8; rw [List.foldl_cons]
            refine ih _ j s ?_
            unfold X1
            split
            · exact h
            · rw [List.getElem?_append_left (List.getElem?_eq_some_iff.mp h).1]; exact h
        have hil := (List.getElem?_eq_some_iff.mp hs).1
        have hjo : out[j]? = some s' := by
          have hj2 : j < out.length := by omega
          have := hget (nx s) out j _ (List.getElem?_eq_getElem hj2)
          rw [hs'] at this
          cases this
          exact List.getElem?_eq_getElem hj2
        rcases Nat.lt_or_ge j i with a | a
        · exact (O7 _ _).mpr (.inl (h j s' a hjo t ht))
        · obtain rfl : j = i := by omega
          rw [hs] at hjo; cases hjo
          exact (O7 _ _).mpr (.inr ht)
      · rename_i hle
        exact absurd hl hle
    · rename_i hs
      intro s' hs' t ht
      obtain ⟨j, hj⟩ := List.getElem?_of_mem hs'
      have h1 := (List.getElem?_eq_some_iff.mp hj).1
      have h2 := List.getElem?_eq_none_iff.mp hs
      exact h j s' (by omega) hj t ht
theorem lq {nx : Sv → List Sv} {most : Nat} {l : List Sv} (hl : (B4 nx most l).length ≤ most) : ∀ s ∈ B4 nx most l, ∀ t ∈ nx s, t ∈ B4 nx most l :=
  da (most + 1) 0 _ (by omega) hl (fun j s hj => by omega)
theorem sf {nx : Sv → List Sv} {most : Nat} {l : List Sv} : ∀ s ∈ l, s ∈ B4 nx most l := fun s hs => ky _ _ _ s ((O7 _ _).mpr (.inr hs))
theorem sg {nx : Sv → List Sv} {most : Nat} {l : List Sv} {P : Sv → Prop} (hn : ∀ s, P s → ∀ t ∈ nx s, P t) (hl : ∀ s ∈ l, P s) : ∀ s ∈ B4 nx most l, P s :=
  dO hn _ _ _ fun s hs => by
    rcases (O7 _ _).mp hs with h | h
    · cases h
    · exact hl s h
abbrev Lb := Int × Int × Int
def ltL (a b : Lb) : Prop := a.1 < b.1 ∨ (a.1 = b.1 ∧ (a.2.1 < b.2.1 ∨ (a.2.1 = b.2.1 ∧ a.2.2 < b.2.2)))
instance (a b : Lb) : Decidable (ltL a b) := by unfold ltL; exact inferInstance
theorem Ab {a b : Lb} (h1 : a.1 = b.1) (h2 : a.2.1 = b.2.1) (h3 : a.2.2 = b.2.2) : a = b := Prod.ext h1 (Prod.ext h2 h3)
theorem iZ (a b : Lb) : ltL a b ∨ a = b ∨ ltL b a := by
  unfold ltL
  by_cases h1 : a.1 < b.1
  · exact .inl (.inl h1)
  by_cases h2 : b.1 < a.1
  · exact .inr (.inr (.inl h2))
  by_cases h3 : a.2.1 < b.2.1
  · exact .inl (.inr ⟨by omega, .inl h3⟩)
  by_cases h4 : b.2.1 < a.2.1
  · exact .inr (.inr (.inr ⟨by omega, .inl h4⟩))
  by_cases h5 : a.2.2 < b.2.2
  · exact .inl (.inr ⟨by omega, .inr ⟨by omega, h5⟩⟩)
  by_cases h6 : b.2.2 < a.2.2
  · exact .inr (.inr (.inr ⟨by omega, .inr ⟨by omega, h6⟩⟩))
  · exact .inr (.inl (Ab (by omega) (by omega) (by omega)))
theorem yA (a : Lb) : ¬ ltL a a := by unfold ltL; omega
theorem mj {a b c : Lb} (h1 : ltL a b) (h2 : ltL b c) : ltL a c := by unfold ltL at *; omega
theorem ml {a b : Lb} (h1 : ltL a b) : ¬ ltL b a := by unfold ltL at *; omega
def kz (x : Lb) : List Lb → List Lb
  | [] => [x]
  | y :: l => if ltL x y then x :: y :: l else if x = y then y :: l else y :: kz x l
def sh (x : Lb) : List Lb → List Lb
  | [] => [x]
  | y :: l => if ltL x y then x :: y :: l else y :: sh x l
def ck : List Lb → List Lb
  | [] => []
  | x :: l => sh x (ck l)
def F3 : List Lb → List Lb
  | [] => []
  | [x] => [x]
  | x :: y :: l => if x = y then F3 (y :: l) else x :: F3 (y :: l)
def iq (l : List Lb) : List Lb := l.foldl (fun a x => kz x a) []
theorem kA {x z : Lb} : ∀ l, z ∈ kz x l ↔ z = x ∨ z ∈ l
  | [] => by simp [kz]
  | y :: l => by
    unfold kz
    split
    · simp
    · split
      · rename_i h; subst h
        simp
      · rw [List.mem_cons, kA l, List.mem_cons]
        exact ⟨fun h => h.elim (fun e => .inr (.inl e)) fun h => h.elim .inl fun h => .inr (.inr h), fun h => h.elim (fun e => .inr (.inl e)) fun h => h.elim .inl fun h => .inr (.inr h)⟩
theorem ir {x : Lb} : ∀ l, l.Pairwise ltL → (kz x l).Pairwise ltL
  | [], _ => by simp [kz]
  | y :: l, h => by
    rw [List.pairwise_cons] at h
    unfold kz
    split
    · rename_i hxy
      rw [List.pairwise_cons]
      refine ⟨fun z hz => ?_, List.pairwise_cons.mpr h⟩
      rcases List.mem_cons.mp hz with rfl | hz
      · exact hxy
      · exact mj hxy (h.1 z hz)
    · rename_i hxy
      split
      · exact List.pairwise_cons.mpr h
      · rename_i hne
        rw [List.pairwise_cons]
        refine ⟨fun z hz => ?_, ir l h.2⟩
        rcases (kA l).mp hz with rfl | hz
        · rcases iZ z y with a | a | a
          · exact absurd a hxy
          · exact absurd a hne
          · exact a
        · exact h.1 z hz
theorem mn : ∀ (l acc : List Lb), acc.Pairwise ltL → (l.foldl (fun a x => kz x a) acc).Pairwise ltL ∧ ∀ z, z ∈ l.foldl (fun a x => kz x a) acc ↔ z ∈ l ∨ z ∈ acc
  | [], acc, h => ⟨h, fun z => by simp⟩
  | x :: l, acc, h => by
    obtain ⟨h1, h2⟩ := mn l (kz x acc) (ir acc h)
    refine ⟨h1, fun z => ?_⟩
    rw [List.foldl_cons, h2, kA, List.mem_cons]
    exact ⟨fun h => h.elim (fun h => .inl (.inr h)) fun h => h.elim (fun h => .inl (.inl h)) .inr, fun h => h.elim (fun h => h.elim (fun h => .inr (.inl h)) .inl) fun h => .inr (.inr h)⟩
theorem si (l : List Lb) : (iq l).Pairwise ltL ∧ ∀ z, z ∈ iq l ↔ z ∈ l := by
  obtain ⟨h1, h2⟩ := mn l [] List.Pairwise.nil
  exact ⟨h1, fun z => by have := h2 z; simpa [iq] using this⟩
theorem gu (x : Lb) : ∀ l, (sh x l).Perm (x :: l)
  | [] => .refl _
  | y :: l => by
    unfold sh
    split
    · exact .refl _
    · exact ((gu x l).cons y).trans (List.Perm.swap x y l)
theorem aW : ∀ l, (ck l).Perm l
  | [] => .refl _
  | x :: l => (gu x _).trans ((aW l).cons x)
theorem ql (x : Lb) : ∀ l, l.Pairwise (fun a b => ¬ ltL b a) → (sh x l).Pairwise (fun a b => ¬ ltL b a)
  | [], _ => by simp [sh]
  | y :: l, h => by
    rw [List.pairwise_cons] at h
    unfold sh
    split
    · rename_i hxy
      rw [List.pairwise_cons]
      refine ⟨fun z hz => ?_, List.pairwise_cons.mpr h⟩
      rcases List.mem_cons.mp hz with rfl | hz
      · exact ml hxy
      · exact fun e => h.1 z hz (mj e hxy)
    · rename_i hxy
      rw [List.pairwise_cons]
      refine ⟨fun z hz => ?_, ql x l h.2⟩
      rcases List.mem_cons.mp ((gu x l).mem_iff.mp hz) with rfl | hz
      · exact hxy
      · exact h.1 z hz
theorem gw : ∀ l, (ck l).Pairwise (fun a b => ¬ ltL b a)
  | [] => .nil
  | x :: l => ql x _ (gw l)
theorem kB : ∀ l : List Lb, l.Pairwise (fun a b => ¬ ltL b a) → (F3 l).Pairwise ltL ∧ ∀ z, z ∈ F3 l ↔ z ∈ l
  | [], _ => ⟨.nil, fun z => Iff.rfl⟩
  | [x], _ => ⟨by simp [F3], fun z => Iff.rfl⟩
  | x :: y :: l, h => by
    rw [List.pairwise_cons] at h
    obtain ⟨h1, h2⟩ := kB (y :: l) h.2
    unfold F3
    split
    · rename_i e; subst e
      refine ⟨h1, fun z => ?_⟩
      rw [h2]; simp
    · rename_i hne
      refine ⟨List.pairwise_cons.mpr ⟨fun z hz => ?_, h1⟩, fun z => by rw [List.mem_cons, h2, List.mem_cons (b := x)]⟩
      have hz := (h2 z).mp hz
      have hxy : ltL x y := by
        rcases iZ x y with a | a | a
        · exact a
        · exact absurd a hne
        · exact absurd a (h.1 y (by simp))
      rcases List.mem_cons.mp hz with rfl | hz'
      · exact hxy
      · rcases iZ x z with a | a | a
        · exact a
        · exfalso
          subst a
          have := List.pairwise_cons.mp h.2
          exact this.1 x hz' hxy
        · exact absurd a (h.1 z (List.mem_cons_of_mem _ hz'))
theorem uJ {l m : List Lb} (h1 : l.Pairwise ltL) (h2 : m.Pairwise ltL) (h : ∀ z, z ∈ l ↔ z ∈ m) : l = m := by
  have nn : ∀ a b : Lb, ltL a b → a ≠ b := fun a b hab e => yA a (by subst e; exact hab)
  have n1 : l.Nodup := h1.imp fun {a b} hab => nn a b hab
  have n2 : m.Nodup := h2.imp fun {a b} hab => nn a b hab
  refine List.Perm.eq_of_pairwise (le := ltL) (fun a b _ _ h1 h2 => absurd h2 (ml h1)) h1 h2 ?_
  exact (List.perm_ext_iff_of_nodup n1 n2).mpr h
theorem uK (l : List Lb) : F3 (ck l) = iq l := by
  obtain ⟨h1, h2⟩ := kB (ck l) (gw l)
  obtain ⟨h3, h4⟩ := si l
  exact uJ h1 h3 fun z => by rw [h2, h4, (aW l).mem_iff]
def uL (a : Lb) : List Int := [a.1, a.2.1, a.2.2]
def O8 (a b : Int) : Int := if a < b then -1 else if b < a then 1 else 0
def kC : List Int → Int
  | [] => 0
  | a :: r => if a = 0 then kC r else a
def iu (x y : Lb) : Int := kC [O8 x.1 y.1, O8 x.2.1 y.2.1, O8 x.2.2 y.2.2]
theorem kD {a b : Int} : (O8 a b < 0 ↔ a < b) ∧ (O8 a b = 0 ↔ a = b) := by
  unfold O8
  split
  · exact ⟨by omega, by omega⟩
  · split
    · exact ⟨by omega, by omega⟩
    · exact ⟨by omega, by omega⟩
theorem kE {x y : Lb} : iu x y < 0 ↔ ltL x y := by
  have h1 := @kD x.1 y.1
  have h2 := @kD x.2.1 y.2.1
  have h3 := @kD x.2.2 y.2.2
  unfold iu kC ltL
  simp only [kC]
  split
  · rename_i e1
    have e1 := h1.2.mp e1
    split
    · rename_i e2
      have e2 := h2.2.mp e2
      split
      · rename_i e3
        have e3 := h3.2.mp e3
        omega
      · rw [h3.1]; omega
    · rename_i e2
      rw [h2.1]
      have : x.2.1 ≠ y.2.1 := fun e => e2 (h2.2.mpr e)
      omega
  · rename_i e1
    rw [h1.1]
    have : x.1 ≠ y.1 := fun e => e1 (h1.2.mpr e)
    omega
def tv : List Int → List Int → Int
  | [a, b, c], [d, e, f] => iu (a, b, c) (d, e, f)
  | _, _ => 0
theorem uM (x : Rec 3) : ∃ a b c, x.1 = [a, b, c] := by
  obtain ⟨l, hl, _⟩ := x
  match l, hl with
  | [a, b, c], _ => exact ⟨a, b, c, rfl⟩
theorem uN : SWO (fun x y : Rec 3 => decide (tv x.1 y.1 < 0)) := by
  have hL : ∀ a b c d e f, decide (tv [a, b, c] [d, e, f] < 0) = decide (a < d ∨ (a = d ∧ (b < e ∨ (b = e ∧ c < f)))) := fun a b c d e f => by
    show decide (iu (a, b, c) (d, e, f) < 0) = _
    exact decide_eq_decide.mpr kE
  refine ⟨fun x => ?_, fun x y z h1 h2 => ?_, fun x y z h1 h2 => ?_⟩
  · obtain ⟨a, i, j, h⟩ := uM x
    rw [h, hL]; simp
  all_goals
    obtain ⟨a, i, j, e1⟩ := uM x
    obtain ⟨b, k, l, e2⟩ := uM y
    obtain ⟨c, m, n, e3⟩ := uM z
    simp only [e1, e2, e3, hL, decide_eq_true_eq, decide_eq_false_iff_not] at h1 h2 ⊢
    omega
theorem sj {x y : Lb} (h1 : ¬ iu y x < 0) (h2 : ¬ iu x y < 0) : x = y := by
  rw [kE] at h1 h2
  rcases iZ x y with a | a | a
  · exact absurd a h2
  · exact a
  · exact absurd a h1
end
section
def db := And.intro T2 (And.intro T3 (And.intro T4 (And.intro T25 (And.intro T28 (And.intro T41 (And.intro T57 (And.intro T58 (And.intro T92 (And.intro fS (And.intro iM iN))))))))))
attribute [local irreducible] awp n9 k3 l8 o6 n5
variable {G : Nat → Option (List PV)}
def J1 : List Int → List Int → List Int × Bool
  | [], S => (S, true)
  | f :: r, S => if tk S f - 1 < 0 then (S.set f.toNat (tk S f - 1), false) else J1 r (S.set f.toNat (tk S f - 1))
def N7 : List Int → List Int → List Int × Bool
  | [], S => (S, true)
  | f :: r, S => if 3 < tk S f + 1 then (S.set f.toNat (tk S f + 1), false) else N7 r (S.set f.toNat (tk S f + 1))
def mvF (S : List Int) (fr to : List Int) : List Int × Bool := if (J1 fr S).2 = true then N7 to (J1 fr S).1 else J1 fr S
theorem sk {l T : List Int} {i : Nat} {f : Int} (h : l[i]? = some f) : J1 (l.drop i) T = if tk T f - 1 < 0 then (T.set f.toNat (tk T f - 1), false) else J1 (l.drop (i + 1)) (T.set f.toNat (tk T f - 1)) := by
  obtain ⟨hi, e⟩ := List.getElem?_eq_some_iff.mp h
  rw [List.drop_eq_getElem_cons hi, e]; rfl
theorem sm {l T : List Int} {i : Nat} {f : Int} (h : l[i]? = some f) : N7 (l.drop i) T = if 3 < tk T f + 1 then (T.set f.toNat (tk T f + 1), false) else N7 (l.drop (i + 1)) (T.set f.toNat (tk T f + 1)) := by
  obtain ⟨hi, e⟩ := List.getElem?_eq_some_iff.mp h
  rw [List.drop_eq_getElem_cons hi, e]; rfl
def z49 : List PV := List.replicate 49 (.int .i64 0)
def zS : List Int := List.replicate 49 0
theorem TSz : j9 Tryz.prog 82 = some ⟨.struct [(0, 40, 57), (40, 4, 58), (44, 4, 58), (48, 1, 3)], 49, 392, some z49⟩ := by rw [T82]; rfl
theorem i6 : (z49 = []) = False := by simp [z49]
theorem h9 : z49.map AV.p = zS.map AV.i := rfl
theorem j3 : zS.length = 49 := rfl
theorem L9 (h : Heap) (n fuel : Nat) (S : List Int) : L4 h n fuel (S.map AV.i) = some (S.map (PV.int .i64)) := by
  rw [← x9]
  exact rG h n fuel _ fun x hx => by obtain ⟨y, _, rfl⟩ := List.mem_map.mp hx; exact fun e => by cases e
theorem F4 {H : Heap} {b : Nat} {x : Option Blk} (h : H[b]? = some x) (L : Heap) : (H ++ L)[b]? = some x := by
  rw [List.getElem?_append_left (List.getElem?_eq_some_iff.mp h).1]; exact h
theorem iv {H : Heap} {b lb n g : Nat} {ns : List Nd} {fl : List Fl} {S : List Int} (hb : H[b]? = some (some ⟨g, gmC ns fl S lb n⟩)) (hh : eU S) (fr to : List Int) (hfr : InF fr) (hto : InF to) :
    d5 Tryz.prog G 120 [.ptr b g 0, aI fr, aI to] H (fun r h' => r = .tup [aS (mvF S fr to).1, .b (mvF S fr to).2] ∧ h' = H) := by
  have hS := hh.1
  have gl := w8 (ns := ns) (fl := fl) (lb := lb) (n := n) hS
  have t49 := x6 (ns := ns) (fl := fl) (lb := lb) (n := n) hS
  have hbL := F4 hb
  have hov := l7 (cs := S.map AV.i) (n := 49) (by rw [List.length_map, hS])
  have hzl : (zS.map AV.i).length = 49 := by rw [List.length_map]; rfl
  have hTl : ∀ T : List Int, T.length = 49 → ((T.map AV.i).take 49 = T.map AV.i) := fun T hT => List.take_of_length_le (by rw [List.length_map, hT]; exact Nat.le_refl _)
  have hto' : ∀ T : List Int, T.length = 49 → w9 (zS.map AV.i) 0 (T.map AV.i) = T.map AV.i := fun T hT => l7 (n := 49) (by rw [List.length_map, hT]) _ hzl
  have hso := hto' S hS
  have hem : (zS.map AV.i).isEmpty = false := rfl
  refine c8 (rl := []) e9 Tryz.func120 rfl (rs := [.cell 6 82, .tmp 7]) rfl Tryz.ntmps120 (by simp) ?_
  repeat' (first | ((repeat ((fail_if_success (refine hK _ ?_)); clear hK K)); refine hK _ ?_; clear hK K) | (refine b9 fun K1 q6 => ?_; simp only [S1, simprocAttr, db, TSz, i6, h9, j3, t49, hov, hso, hem, hS, gl, hb, hbL, d8, d7, d9, List.length_map, List.length_take, List.length_drop]; refine q6 _ ?_; clear q6 K1) | refine b6 fun K hK => ?_ | ((first | apply b8 | apply b5 | apply c7); try simp only [NB, simprocAttr]))
  refine H9 (σ := Qt) (fun q => fr.length - q.i) 58 (fun q => [(19, .i q.i), (18, .i fr.length), (17, aI fr), (8, .ptr (H.length + 1) 0 0), (6, .ptr H.length 0 0), (2, aI to)]) (fun q => [some ⟨0, zS.map AV.i⟩, some ⟨0, q.T.map AV.i⟩])
    (fun q => q.i ≤ fr.length ∧ eU q.T ∧ J1 fr S = J1 (fr.drop q.i) q.T) ⟨0, S⟩ ?_ ⟨Nat.zero_le _, hh, rfl⟩ fun q hq K hK => ?_
  · refine ⟨rfl, ⟨[], by simp only [List.append_nil]⟩, ?_, g9 _ _, g9 _ _, trivial⟩
    simp only [S1, simprocAttr, KNB] <;> (try and_intros) <;> (try assumption) <;> (try trivial) <;> (try omega)
  obtain ⟨i, T⟩ := q
  obtain ⟨hi, hT, hrun⟩ := hq
  simp only at hi hT hrun
  have hTlen := hT.1
  rcases Nat.lt_or_ge i fr.length with hlt | hge
  · obtain ⟨f, hf⟩ : ∃ f, fr[i]? = some f := ⟨_, List.getElem?_eq_getElem hlt⟩
    obtain ⟨f0, f40⟩ := hfr.2 f (List.mem_of_getElem? hf)
    obtain ⟨k, rfl⟩ := Int.eq_ofNat_of_zero_le f0
    have k40 : k < 40 := by omega
    obtain ⟨hv, v0, v3⟩ := hT.at k40
    rw [sk hf] at hrun
    have hdr := N2 hv
    have hse := fun v => I3 T k v
    have hln : ∀ v, (T.set k v).length = 49 := fun v => by rw [List.length_set, hTlen]
    have hk49 : k + 1 ≤ 49 := by omega
    generalize hvv : tk T (k : Int) = v at *
    have hw : IntKind.i64.wrap (v - 1) = v - 1 := IntWalk.i64_in _ (by omega)
    have hv2 : (T.set k (v - 1))[k]? = some (v - 1) := by rw [List.getElem?_set]; simp; omega
    have hdr2 := N2 hv2
    have hs2 := hto' _ (hln (v - 1))
    have ht2 := hTl _ (hln (v - 1))
    rw [Int.toNat_natCast] at hrun
    by_cases h1 : v - 1 < 0
    · have h1' : decide (v - 1 < 0) = true := decide_eq_true h1
      rw [if_pos h1] at hrun
      have em : mvF S fr to = (T.set k (v - 1), false) := by unfold mvF; rw [hrun]; rfl
      rw [em]
      repeat' (first | ((repeat ((fail_if_success (refine hK _ ?_)); clear hK K)); refine hK _ ?_; clear hK K) | ((first | refine b9 fun K1 q6 => ?_ | refine b7 fun A B hA hB => ?_); simp only [S1, simprocAttr, db, F5 hf, O1 hlt, H3 (by have := hfr.1; omega) hlt, f0, f40, hdr, hse, hw, h1', hdr2, hln, hs2, ht2, hk49, TSz, i6, h9, j3, hem, hTlen, d8, d7, d9, LNB]; first | refine q6 _ ?_; clear q6 K1 | (refine hA ?_; clear hA hB A B)) | refine b6 fun K hK => ?_ | ((first | apply b8 | apply b5 | apply c7 | apply c9 | apply d3); try simp only [NB, simprocAttr]))
      all_goals simp only [S1, simprocAttr, ENB, db, hln, ht2, hse, List.length_map, TSz, d9, L9, x9]
    · have h1' : decide (v - 1 < 0) = false := decide_eq_false h1
      rw [if_neg h1] at hrun
      repeat' (first | ((repeat ((fail_if_success (refine hK _ ?_)); clear hK K)); refine hK _ ?_; clear hK K) | ((first | refine b9 fun K1 q6 => ?_ | refine b7 fun A B hA hB => ?_); simp only [S1, simprocAttr, db, F5 hf, O1 hlt, H3 (by have := hfr.1; omega) hlt, f0, f40, hdr, hse, hw, h1', hdr2, hln, hs2, ht2, hk49, TSz, i6, h9, j3, hem, hTlen, d8, d7, d9, LNB]; first | refine q6 _ ?_; clear q6 K1 | ((first | refine hA ?_ | refine hB ?_); clear hA hB A B)) | refine b6 fun K hK => ?_ | ((first | apply b8 | apply b5 | apply c7 | apply c9); try simp only [NB, simprocAttr]))
      all_goals refine ⟨⟨i + 1, T.set k (v - 1)⟩, by simp only; omega, ⟨hlt, hT.set k40 (by omega) (by omega), hrun⟩, ?_⟩
      all_goals refine ⟨rfl, ⟨_, rfl⟩, ?_, g9 _ _, g9 _ _, trivial⟩
      all_goals simp only [S1, simprocAttr, KNB] <;> (try and_intros) <;> (try assumption) <;> (try trivial) <;> (try omega)
  · obtain rfl : i = fr.length := by omega
    rw [List.drop_length] at hrun
    have em : mvF S fr to = N7 to T := by unfold mvF; rw [hrun]; rfl
    rw [em]
    repeat' (first | ((repeat ((fail_if_success (refine hK _ ?_)); clear hK K)); refine hK _ ?_; clear hK K) | ((first | refine b9 fun K1 q6 => ?_ | refine b7 fun A B hA hB => ?_); simp only [S1, simprocAttr, db, I1]; first | refine q6 _ ?_; clear q6 K1 | (refine hB ?_; clear hA hB A B)) | refine b6 fun K hK => ?_ | ((first | apply b8 | apply b5 | apply c7 | apply f9); try simp only [NB, simprocAttr]))
    refine H9 (σ := Qt) (fun q => to.length - q.i) 58 (fun q => [(39, .i q.i), (38, .i to.length), (37, aI to), (8, .ptr (H.length + 1) 0 0), (6, .ptr H.length 0 0)]) (fun q => [some ⟨0, zS.map AV.i⟩, some ⟨0, q.T.map AV.i⟩])
      (fun q => q.i ≤ to.length ∧ eU q.T ∧ N7 to T = N7 (to.drop q.i) q.T) ⟨0, T⟩ ?_ ⟨Nat.zero_le _, hT, rfl⟩ fun q hq K hK => ?_
    · refine ⟨rfl, ⟨[], by simp only [List.append_nil]⟩, ?_, g9 _ _, g9 _ _, trivial⟩
      simp only [S1, simprocAttr, KNB] <;> (try and_intros) <;> (try assumption) <;> (try trivial) <;> (try omega)
    obtain ⟨j, U⟩ := q
    obtain ⟨hj, hU, hrun2⟩ := hq
    simp only at hj hU hrun2
    have hUlen := hU.1
    rcases Nat.lt_or_ge j to.length with hlt | hge
    · obtain ⟨f, hf⟩ : ∃ f, to[j]? = some f := ⟨_, List.getElem?_eq_getElem hlt⟩
      obtain ⟨f0, f40⟩ := hto.2 f (List.mem_of_getElem? hf)
      obtain ⟨k, rfl⟩ := Int.eq_ofNat_of_zero_le f0
      have k40 : k < 40 := by omega
      obtain ⟨hv, v0, v3⟩ := hU.at k40
      rw [sm hf] at hrun2
      have hdr := N2 hv
      have hse := fun v => I3 U k v
      have hln : ∀ v, (U.set k v).length = 49 := fun v => by rw [List.length_set, hUlen]
      have hk49 : k + 1 ≤ 49 := by omega
      generalize hvv : tk U (k : Int) = v at *
      have hw : IntKind.i64.wrap (v + 1) = v + 1 := IntWalk.i64_in _ (by omega)
      have hv2 : (U.set k (v + 1))[k]? = some (v + 1) := by rw [List.getElem?_set]; simp; omega
      have hdr2 := N2 hv2
      have hs2 := hto' _ (hln (v + 1))
      have ht2 := hTl _ (hln (v + 1))
      rw [Int.toNat_natCast] at hrun2
      by_cases h1 : 3 < v + 1
      · have h1' : decide (3 < v + 1) = true := decide_eq_true h1
        rw [if_pos h1] at hrun2
        repeat' (first | ((repeat ((fail_if_success (refine hK _ ?_)); clear hK K)); refine hK _ ?_; clear hK K) | ((first | refine b9 fun K1 q6 => ?_ | refine b7 fun A B hA hB => ?_); simp only [S1, simprocAttr, db, F5 hf, O1 hlt, H3 (by have := hto.1; omega) hlt, f0, f40, hdr, hse, hw, h1', hdr2, hln, hs2, ht2, hk49, TSz, i6, h9, j3, hem, hUlen, d8, d7, d9, LNB]; first | refine q6 _ ?_; clear q6 K1 | (refine hA ?_; clear hA hB A B)) | refine b6 fun K hK => ?_ | ((first | apply b8 | apply b5 | apply c7 | apply c9 | apply d3); try simp only [NB, simprocAttr]))
        all_goals simp only [S1, simprocAttr, ENB, db, hln, ht2, hse, List.length_map, TSz, d9, L9, x9]
        all_goals simp only [em, hrun2]
      · have h1' : decide (3 < v + 1) = false := decide_eq_false h1
        rw [if_neg h1] at hrun2
        repeat' (first | ((repeat ((fail_if_success (refine hK _ ?_)); clear hK K)); refine hK _ ?_; clear hK K) | ((first | refine b9 fun K1 q6 => ?_ | refine b7 fun A B hA hB => ?_); simp only [S1, simprocAttr, db, F5 hf, O1 hlt, H3 (by have := hto.1; omega) hlt, f0, f40, hdr, hse, hw, h1', hdr2, hln, hs2, ht2, hk49, TSz, i6, h9, j3, hem, hUlen, d8, d7, d9, LNB]; first | refine q6 _ ?_; clear q6 K1 | ((first | refine hA ?_ | refine hB ?_); clear hA hB A B)) | refine b6 fun K hK => ?_ | ((first | apply b8 | apply b5 | apply c7 | apply c9); try simp only [NB, simprocAttr]))
        all_goals refine ⟨⟨j + 1, U.set k (v + 1)⟩, by simp only; omega, ⟨hlt, hU.set k40 (by omega) (by omega), hrun2⟩, ?_⟩
        all_goals refine ⟨rfl, ⟨_, rfl⟩, ?_, g9 _ _, g9 _ _, trivial⟩
        all_goals simp only [S1, simprocAttr, KNB] <;> (try and_intros) <;> (try assumption) <;> (try trivial) <;> (try omega)
    · obtain rfl : j = to.length := by omega
      rw [List.drop_length] at hrun2
      have ht2 := hTl _ hUlen
      have hs2 := hto' _ hUlen
      repeat' (first | ((repeat ((fail_if_success (refine hK _ ?_)); clear hK K)); refine hK _ ?_; clear hK K) | ((first | refine b9 fun K1 q6 => ?_ | refine b7 fun A B hA hB => ?_); simp only [S1, simprocAttr, db, I1, hs2, ht2, TSz, i6, h9, j3, hem, hUlen, d8, d7, d9, LNB]; first | refine q6 _ ?_; clear q6 K1 | (refine hB ?_; clear hA hB A B)) | refine b6 fun K hK => ?_ | ((first | apply b8 | apply b5 | apply f9 | apply d3); try simp only [NB, simprocAttr]))
      all_goals simp only [S1, simprocAttr, ENB, db, ht2, hUlen, List.length_map, TSz, d9, L9, x9]
      all_goals simp only [em, hrun2, N7]
end
section
structure TokOk (n : Nat) (S : List Int) : Prop where
  len : S.length = 49
  tok : ∀ k : Nat, k < 40 → 0 ≤ tk S k ∧ tk S k ≤ 3
  off : ∀ k : Nat, n ≤ k → k < 40 → tk S k = 0
structure RestOk (S : List Int) : Prop where
  q : ∀ k : Nat, k < 4 → 0 ≤ qAt S k ∧ qAt S k ≤ 3
  v : ∀ k : Nat, k < 4 → Num (S.getD (40 + k) 0)
  md : 0 ≤ mdS S ∧ mdS S ≤ 2
theorem tw {x : Int} : inM x = true ↔ Num x := by unfold inM Num; simp
theorem wS {n : Nat} {S : List Int} (h1 : TokOk n S) (h2 : RestOk S) : okS n S = true := by
  unfold okS
  simp only [Bool.and_eq_true, List.all_eq_true, List.mem_range, Bool.not_eq_true', decide_eq_true_eq]
  refine ⟨⟨fun i hi => ?_, fun i hi => ?_⟩, ?_, h2.md⟩
  · unfold cO
    have := h1.tok i hi
    have ho := h1.off i
    by_cases hn : n ≤ i
    · have := ho hn hi
      simp only [Bool.or_eq_false_iff, Bool.and_eq_false_iff, decide_eq_false_iff_not, bne_eq_false_iff_eq]
      exact ⟨⟨by omega, by omega⟩, .inr this⟩
    · simp only [Bool.or_eq_false_iff, Bool.and_eq_false_iff, decide_eq_false_iff_not, bne_eq_false_iff_eq]
      exact ⟨⟨by omega, by omega⟩, .inl (by omega)⟩
  · unfold gm
    have := h2.q i hi
    simp only [Bool.or_eq_false_iff, decide_eq_false_iff_not]
    omega
  · unfold inV
    rw [yu, yv, yw, yx]
    simp only [Bool.and_eq_true, tw]
    exact ⟨⟨⟨h2.v 0 (by omega), h2.v 1 (by omega)⟩, h2.v 2 (by omega)⟩, h2.v 3 (by omega)⟩
theorem wT {n : Nat} {S : List Int} (hS : S.length = 49) (h : okS n S = true) : TokOk n S ∧ RestOk S := by
  unfold okS at h
  simp only [Bool.and_eq_true, List.all_eq_true, List.mem_range, Bool.not_eq_true', decide_eq_true_eq] at h
  obtain ⟨⟨h1, h2⟩, h3, h4⟩ := h
  refine ⟨⟨hS, fun k hk => ?_, fun k hn hk => ?_⟩, ⟨fun k hk => ?_, fun k hk => ?_, h4⟩⟩
  · have := h1 k hk
    unfold cO at this
    simp only [Bool.or_eq_false_iff, decide_eq_false_iff_not] at this
    omega
  · have := h1 k hk
    unfold cO at this
    simp only [Bool.or_eq_false_iff, Bool.and_eq_false_iff, decide_eq_false_iff_not, bne_eq_false_iff_eq] at this
    rcases this.2 with h | h
    · omega
    · exact h
  · have := h2 k hk
    unfold gm at this
    simp only [Bool.or_eq_false_iff, decide_eq_false_iff_not] at this
    omega
  · unfold inV at h3
    rw [yu, yv, yw, yx] at h3
    simp only [Bool.and_eq_true, tw] at h3
    match k, hk with
    | 0, _ => exact h3.1.1.1
    | 1, _ => exact h3.1.1.2
    | 2, _ => exact h3.1.2
    | 3, _ => exact h3.2
def S4 (S : List Int) : Int := (S.take 40).sum
theorem tx : ∀ (l : List Int) (k : Nat) (x v : Int), l[k]? = some x → (l.set k v).sum = l.sum - x + v
  | [], k, x, v, h => by simp at h
  | a :: r, 0, x, v, h => by
    simp only [List.getElem?_cons_zero, Option.some.injEq] at h
    subst h
    simp only [List.set_cons_zero, List.sum_cons]; omega
  | a :: r, k + 1, x, v, h => by
    rw [List.getElem?_cons_succ] at h
    have := tx r k x v h
    simp only [List.set_cons_succ, List.sum_cons, this]; omega
theorem wU {S : List Int} (hS : S.length = 49) {k : Nat} (hk : k < 40) : S[k]? = some (tk S k) := L1 hS (by omega)
theorem kF {S : List Int} (hS : S.length = 49) {k : Nat} (hk : k < 40) (v : Int) : S4 (S.set k v) = S4 S - tk S k + v := by
  unfold S4
  rw [List.take_set]
  exact tx _ _ _ _ (by rw [List.getElem?_take_of_lt hk]; exact wU hS hk)
theorem wV {S : List Int} (hS : S.length = 49) {k j : Nat} (hk : k < 40) (v : Int) : tk (S.set k v) j = if j = k then v else tk S j := by
  unfold tk
  rw [Int.toNat_natCast, List.getD_eq_getElem?_getD, List.getElem?_set]
  by_cases e : k = j
  · subst e; rw [if_pos rfl, if_pos rfl, if_pos (by omega)]; rfl
  · rw [if_neg e, if_neg (fun h => e h.symm), ← List.getD_eq_getElem?_getD]
theorem dP {S : List Int} {k : Nat} (hk : k < 40) (v : Int) : (S.set k v).drop 40 = S.drop 40 := List.drop_set_of_lt hk
theorem TokOk.set {n : Nat} {S : List Int} (h : TokOk n S) {k : Nat} (hn : k < n) (hk : k < 40) {v : Int} (h0 : 0 ≤ v) (h3 : v ≤ 3) : TokOk n (S.set k v) := by
  refine ⟨by rw [List.length_set, h.len], fun j hj => ?_, fun j hnj hj => ?_⟩
  · rw [wV h.len hk]
    split
    · exact ⟨h0, h3⟩
    · exact h.tok j hj
  · rw [wV h.len hk, if_neg (by omega)]
    exact h.off j hnj hj
def kG (n : Nat) (l : List Int) : Prop := ∀ f ∈ l, ∃ j : Nat, f = (j : Int) ∧ j < n ∧ j < 40
theorem tz {n : Nat} : ∀ {l S T : List Int}, TokOk n S → kG n l → S7 T7 l S = some T → TokOk n T ∧ T.drop 40 = S.drop 40 ∧ S4 T = S4 S - l.length
  | [], S, T, h, _, e => by cases e; exact ⟨h, rfl, by simp⟩
  | f :: r, S, T, h, hi, e => by
    obtain ⟨j, rfl, hn, hj⟩ := hi f (by simp)
    unfold S7 at e
    rw [List.foldlM_cons] at e
    obtain ⟨U, e1, e2⟩ := Option.bind_eq_some_iff.mp e
    unfold T7 at e1
    split at e1
    · cases e1
    · rename_i h1
      cases e1
      rw [Int.toNat_natCast] at e2
      have ht := h.tok j hj
      obtain ⟨a1, a2, a3⟩ := tz (h.set hn hj (v := tk S j - 1) (by omega) (by omega)) (fun f hf => hi f (by simp [hf])) e2
      refine ⟨a1, by rw [a2, dP hj], ?_⟩
      rw [a3, kF h.len hj, List.length_cons]; omega
theorem tA {n : Nat} : ∀ {l S T : List Int}, TokOk n S → kG n l → S7 W3 l S = some T → TokOk n T ∧ T.drop 40 = S.drop 40 ∧ S4 T = S4 S + l.length
  | [], S, T, h, _, e => by cases e; exact ⟨h, rfl, by simp⟩
  | f :: r, S, T, h, hi, e => by
    obtain ⟨j, rfl, hn, hj⟩ := hi f (by simp)
    unfold S7 at e
    rw [List.foldlM_cons] at e
    obtain ⟨U, e1, e2⟩ := Option.bind_eq_some_iff.mp e
    unfold W3 at e1
    split at e1
    · cases e1
    · rename_i h1
      cases e1
      rw [Int.toNat_natCast] at e2
      have ht := h.tok j hj
      obtain ⟨a1, a2, a3⟩ := tA (h.set hn hj (v := tk S j + 1) (by omega) (by omega)) (fun f hf => hi f (by simp [hf])) e2
      refine ⟨a1, by rw [a2, dP hj], ?_⟩
      rw [a3, kF h.len hj, List.length_cons]; omega
theorem qm {S T : List Int} (hS : S.length = 49) {k : Nat} (hk : k < 40) : tk (B2 S T) k = tk S k := by
  unfold tk B2
  rw [Int.toNat_natCast, List.getD_eq_getElem?_getD, List.getElem?_append_left (by rw [List.length_take]; omega), List.getElem?_take_of_lt (by omega), ← List.getD_eq_getElem?_getD]
theorem wW {n : Nat} {S T : List Int} (h : TokOk n S) (hT : T.length = 49) : TokOk n (B2 S T) := by
  refine ⟨by simp [B2, h.len, hT], fun k hk => by rw [qm h.len hk]; exact h.tok k hk, fun k hn hk => by rw [qm h.len hk]; exact h.off k hn hk⟩
theorem sn {S T : List Int} (hS : S.length = 49) : (B2 S T).drop 40 = T.drop 40 := by
  unfold B2
  rw [List.drop_append_of_le_length (by rw [List.length_take]; omega), List.drop_of_length_le (by rw [List.length_take]; omega), List.nil_append]
theorem uO {S T : List Int} (hS : S.length = 49) : S4 (B2 S T) = S4 S := by
  unfold S4 B2
  rw [List.take_append_of_le_length (by rw [List.length_take]; omega), List.take_take]
  rfl
theorem RestOk.drop {S T : List Int} (h : RestOk S) (e : T.drop 40 = S.drop 40) : RestOk T := by
  have g : ∀ k, T.getD (40 + k) 0 = S.getD (40 + k) 0 := fun k => by
    rw [List.getD_eq_getElem?_getD, List.getD_eq_getElem?_getD, ← List.getElem?_drop, ← List.getElem?_drop, e]
  refine ⟨fun k hk => ?_, fun k hk => by rw [g]; exact h.v k hk, ?_⟩
  · have := h.q k hk
    unfold qAt at this ⊢
    rw [Int.toNat_natCast] at this ⊢
    rwa [show 44 + k = 40 + (4 + k) by omega, g, show 40 + (4 + k) = 44 + k by omega]
  · have := h.md
    unfold mdS at this ⊢
    rwa [show 48 = 40 + 8 by rfl, g]
theorem qn {S T : List Int} (e : T.drop 40 = S.drop 40) : mdS T = mdS S := by
  unfold mdS
  rw [List.getD_eq_getElem?_getD, List.getD_eq_getElem?_getD, show 48 = 40 + 8 by rfl, ← List.getElem?_drop, ← List.getElem?_drop, e]
theorem yB {n : Nat} {S : List Int} (h : TokOk n S) {x : Sp} (hx : x.to.length = 49) {fr to : List Int} (hf : kG n fr) (ht : kG n to) : ∀ y ∈ m8 S x fr to,
    TokOk n y.to ∧ y.to.drop 40 = x.to.drop 40 ∧ y.node = x.node ∧ y.arg = x.arg ∧ y.lk = x.lk ∧ y.ln = x.ln ∧ y.la = x.la ∧ S4 y.to = S4 S - fr.length + to.length := by
  intro y hy
  unfold m8 at hy
  split at hy
  · cases hy
  rename_i T hT
  split at hy
  · cases hy
  rename_i U hU
  obtain rfl := List.mem_singleton.mp hy
  obtain ⟨a1, a2, a3⟩ := tz (wW h hx) hf hT
  obtain ⟨b1, b2, b3⟩ := tA a1 ht hU
  exact ⟨b1, by simp only; rw [b2, a2, sn h.len], rfl, rfl, rfl, rfl, rfl, by simp only; rw [b3, a3, uO h.len]⟩
theorem wX {ns : List Nd} {fl : List Fl} (rt : Right ns fl) (i : Int) : kG fl.length (o5 fl i) := by
  intro f hm
  obtain ⟨j, _, h1, rfl, _⟩ := F1 hm
  exact ⟨j, rfl, h1, by have := rt.f; omega⟩
theorem cH {ns : List Nd} {fl : List Fl} (rt : Right ns fl) (i : Int) : kG fl.length (i7 fl i) := by
  intro f hm
  obtain ⟨j, _, h1, rfl, _⟩ := F1 hm
  exact ⟨j, rfl, h1, by have := rt.f; omega⟩
theorem qo {n : Nat} {l : List Int} (h : kG n l) {f : Int} (hf : f ∈ l) : kG n [f] := fun g hg => by rw [List.mem_singleton.mp hg]; exact h f hf
theorem J2 {S : List Int} {k j : Nat} {v : Int} (hk : k < S.length) : (S.set k v).getD j 0 = if j = k then v else S.getD j 0 := by
  rw [List.getD_eq_getElem?_getD, List.getElem?_set]
  by_cases e : k = j
  · subst e; rw [if_pos rfl, if_pos rfl, if_pos hk]; rfl
  · rw [if_neg e, if_neg (fun h => e h.symm), ← List.getD_eq_getElem?_getD]
theorem RestOk.setV {S : List Int} (h : RestOk S) (hS : S.length = 49) {a : Nat} (ha : a < 4) {v : Int} (hv : Num v) : RestOk (S.set (40 + a) v) := by
  refine ⟨fun k hk => ?_, fun k hk => ?_, ?_⟩
  · unfold qAt; rw [Int.toNat_natCast, J2 (by omega), if_neg (by omega)]
    have := h.q k hk; unfold qAt at this; rwa [Int.toNat_natCast] at this
  · rw [J2 (by omega)]
    split
    · exact hv
    · exact h.v k hk
  · unfold mdS; rw [J2 (by omega), if_neg (by omega)]; exact h.md
theorem RestOk.setQ {S : List Int} (h : RestOk S) (hS : S.length = 49) {a : Nat} (ha : a < 4) {v : Int} (h0 : 0 ≤ v) (h3 : v ≤ 3) : RestOk (S.set (44 + a) v) := by
  refine ⟨fun k hk => ?_, fun k hk => ?_, ?_⟩
  · unfold qAt; rw [Int.toNat_natCast, J2 (by omega)]
    split
    · exact ⟨h0, h3⟩
    · have := h.q k hk; unfold qAt at this; rwa [Int.toNat_natCast] at this
  · rw [J2 (by omega), if_neg (by omega)]; exact h.v k hk
  · unfold mdS; rw [J2 (by omega), if_neg (by omega)]; exact h.md
theorem RestOk.setM {S : List Int} (h : RestOk S) (hS : S.length = 49) {v : Int} (h0 : 0 ≤ v) (h3 : v ≤ 2) : RestOk (S.set 48 v) := by
  refine ⟨fun k hk => ?_, fun k hk => ?_, ?_⟩
  · unfold qAt; rw [Int.toNat_natCast, J2 (by omega), if_neg (by omega)]
    have := h.q k hk; unfold qAt at this; rwa [Int.toNat_natCast] at this
  · rw [J2 (by omega), if_neg (by omega)]; exact h.v k hk
  · unfold mdS; rw [J2 (by omega), if_pos rfl]; exact ⟨h0, h3⟩
theorem oc {S : List Int} (hS : S.length = 49) {k : Nat} (hk : k < 48) (v : Int) : mdS (S.set k v) = mdS S := by
  unfold mdS; rw [J2 (by omega), if_neg (by omega)]
theorem qq {S : List Int} (hS : S.length = 49) (v : Int) : mdS (S.set 48 v) = v := by
  unfold mdS; rw [J2 (by omega), if_pos rfl]
theorem qr {S : List Int} (v : Int) {k : Nat} (hk : k < 40) : tk (S.set 48 v) k = tk S k := by
  unfold tk
  rw [Int.toNat_natCast, List.getD_eq_getElem?_getD, List.getElem?_set, if_neg (by omega), ← List.getD_eq_getElem?_getD]
theorem TokOk.setM {n : Nat} {S : List Int} (h : TokOk n S) (v : Int) : TokOk n (S.set 48 v) :=
  ⟨by rw [List.length_set, h.len], fun k hk => by rw [qr v hk]; exact h.tok k hk, fun k hn hk => by rw [qr v hk]; exact h.off k hn hk⟩
theorem uQ (S : List Int) (v : Int) : S4 (S.set 48 v) = S4 S := by
  unfold S4
  rw [List.take_set_of_le (by omega)]
theorem wY {t : Tm} {v : Int → Int} (hv : inV v = true → ∀ i, Num (v i)) : Num (N8 t v).1 := by
  unfold N8
  split
  · unfold Num; simp only; omega
  · rename_i e
    obtain ⟨g1, g2, g3⟩ := W4 (by simpa using e)
    have g0 : w7 t.op = false := by
      cases hh : w7 t.op with
      | false => rfl
      | true => unfold jK at g3; rw [hh] at g3; simp at g3
    exact (G9 (hv g2) g1).1 g0
structure StepOk (n : Nat) (S : List Int) (y : Sp) (d : Int) : Prop where
  tok : TokOk n y.to
  rest : RestOk y.to
  sum : S4 y.to = S4 S + d
  md : (y.lk = 7 ∧ mdS y.to = 1) ∨ (y.lk = 6 ∧ mdS y.to = 2) ∨ (y.lk ≠ 7 ∧ y.lk ≠ 6 ∧ mdS y.to = 0)
theorem StepOk.move {n : Nat} {S : List Int} (h : TokOk n S) {x : Sp} (hx : x.to.length = 49) (hr : RestOk x.to) {fr to : List Int} (hf : kG n fr) (ht : kG n to)
    (hm : (x.lk = 7 ∧ mdS x.to = 1) ∨ (x.lk = 6 ∧ mdS x.to = 2) ∨ (x.lk ≠ 7 ∧ x.lk ≠ 6 ∧ mdS x.to = 0)) : ∀ y ∈ m8 S x fr to, StepOk n S y ((to.length : Int) - fr.length) := by
  intro y hy
  obtain ⟨a1, a2, a3, a4, a5, a6, a7, a8⟩ := yB h hx hf ht y hy
  exact ⟨a1, hr.drop a2, by rw [a8]; omega, by rw [a5, qn a2]; exact hm⟩
theorem StepOk.fault {n : Nat} {S : List Int} (h : TokOk n S) (hr : RestOk S) (i e : Int) : StepOk n S (v7 S i e) 0 :=
  ⟨h.setM 2, hr.setM h.len (by decide) (by decide), by show S4 (S.set 48 2) = _; rw [uQ]; omega, .inr (.inl ⟨rfl, qq h.len 2⟩)⟩
theorem tB {S : List Int} (hr : RestOk S) : ∀ i, Num (vS S i) := by
  intro i
  unfold vS
  split
  · exact hr.v 0 (by omega)
  · split
    · exact hr.v 1 (by omega)
    · split
      · exact hr.v 2 (by omega)
      · exact hr.v 3 (by omega)
theorem kH : ∀ (l : List Int) (a : Int), (∀ x ∈ l, 0 ≤ x ∧ x ≤ 3) → 0 ≤ a → a + 3 * l.length ≤ 1000000 → l.foldl (fun n x => IntKind.i64.wrap (n + x)) a = a + l.sum ∧ 0 ≤ l.sum
  | [], a, _, _, _ => by simp
  | x :: r, a, h, h0, h1 => by
    have hx := h x (by simp)
    simp only [List.length_cons] at h1
    have hw : IntKind.i64.wrap (a + x) = a + x := IntWalk.i64_in _ (by omega)
    obtain ⟨q1, q2⟩ := kH r (a + x) (fun y hy => h y (by simp [hy])) (by omega) (by omega)
    rw [List.foldl_cons, hw, q1, List.sum_cons]
    omega
theorem wZ {n : Nat} {S : List Int} (h : TokOk n S) : ∀ x ∈ S.take 40, 0 ≤ x ∧ x ≤ 3 := by
  intro x hx
  obtain ⟨k, hk⟩ := List.getElem?_of_mem hx
  have hl : k < 40 := by
    rcases Nat.lt_or_ge k 40 with h | h
    · exact h
    · rw [List.getElem?_eq_none (by rw [List.length_take]; omega)] at hk; cases hk
  rw [List.getElem?_take_of_lt hl, wU h.len hl] at hk
  cases hk
  exact h.tok k hl
theorem yC {n : Nat} {S : List Int} (h : TokOk n S) : bx (S.take 40) = S4 S := by
  unfold bx S4
  have := (kH (S.take 40) 0 (wZ h) (by omega) (by rw [List.length_take, h.len]; omega)).1
  rw [this]; omega
theorem Right.ar2 {ns : List Nd} {fl : List Fl} (h : Right ns fl) {i : Nat} {k : Nd} (hc : ns[i]? = some k) (h2 : k.kind = 2) : (o5 fl i).length = 1 := by
  have := h.three (List.getElem?_eq_some_iff.mp hc).1
  unfold E1 at this
  simp only [O3 hc, h2, Int.reduceEq, reduceIte, Bool.and_eq_true, beq_iff_eq] at this
  exact this.1
theorem Right.ar1 {ns : List Nd} {fl : List Fl} (h : Right ns fl) {i : Nat} {k : Nd} (hc : ns[i]? = some k) (h1 : k.kind = 1) : (o5 fl i).length = 0 ∧ (i7 fl i).length = 1 := by
  have := h.three (List.getElem?_eq_some_iff.mp hc).1
  unfold E1 at this
  simp only [O3 hc, h1, Int.reduceEq, reduceIte, Bool.and_eq_true, beq_iff_eq] at this
  exact this
theorem Right.ar11 {ns : List Nd} {fl : List Fl} (h : Right ns fl) {i : Nat} {k : Nd} (hc : ns[i]? = some k) (h3 : k.kind = 3 ∨ k.kind = 4 ∨ k.kind = 8) : (o5 fl i).length = 1 ∧ (i7 fl i).length = 1 := by
  have := h.three (List.getElem?_eq_some_iff.mp hc).1
  unfold E1 at this
  rcases h3 with h3 | h3 | h3
  all_goals simp only [O3 hc, h3, Int.reduceEq, reduceIte, Bool.and_eq_true, beq_iff_eq] at this
  all_goals exact this
theorem Right.ar7 {ns : List Nd} {fl : List Fl} (h : Right ns fl) {i : Nat} {k : Nd} (hc : ns[i]? = some k) (h7 : k.kind = 7) : (o5 fl i).length = 1 ∧ 2 ≤ (i7 fl i).length ∧ ∀ f ∈ i7 fl i, ∃ (c : Nat) (k' : Nd), Y1 fl f = (c : Int) ∧ ns[c]? = some k' ∧ k'.kind = 8 := by
  have := h.three (List.getElem?_eq_some_iff.mp hc).1
  unfold E1 at this
  simp only [O3 hc, h7, Int.reduceEq, reduceIte, Bool.and_eq_true, beq_iff_eq, decide_eq_true_eq] at this
  refine ⟨this.1.1, this.1.2, fun f hf => ?_⟩
  have h0 := this.2
  unfold aG at h0
  rw [List.take_length, List.countP_eq_zero] at h0
  have h1 := h0 f hf
  obtain ⟨j, x, hj, rfl, hx, _⟩ := F1 hf
  unfold X8 at h1
  unfold Y1
  rw [Int.toNat_natCast, hx] at h1 ⊢
  simp only [bne_iff_ne, ne_eq, Decidable.not_not] at h1
  have hi := h.isIn x (List.mem_of_getElem? hx)
  obtain ⟨d0, d1⟩ := hi.2
  obtain ⟨c, hcd⟩ := Int.eq_ofNat_of_zero_le d0
  have hlt : c < ns.length := by omega
  refine ⟨c, ns[c], hcd, List.getElem?_eq_getElem hlt, ?_⟩
  rw [hcd] at h1
  rw [← O3 (List.getElem?_eq_getElem hlt)]; exact h1
def M0 (y : Sp) (d : Int) : Prop := d = if y.lk = 7 then -1 else 0
section
variable {ns : List Nd} {fl : List Fl} {S : List Int}
theorem qs (rt : Right ns fl) (h : TokOk fl.length S) (hr : RestOk S) (hm : mdS S = 0) (node arg : Int) {c : Nat} {k : Nd} (hc : ns[c]? = some k) {fr : List Int} (hf : kG fl.length fr) :
    ∀ y ∈ r5 ns fl S node arg c fr, StepOk fl.length S y (((i7 fl c).length : Int) - fr.length) ∧ y.lk ≠ 7 := by
  intro y hy
  have hk := rt.kind hc
  have en : ndA ns c = k.a := by unfold ndA; rw [Int.toNat_natCast, hc]
  unfold r5 at hy
  rw [en] at hy
  obtain ⟨a, hka⟩ := Int.eq_ofNat_of_zero_le hk.2.1
  have key : ∀ x : Sp, x.lk = 3 ∨ x.lk = 4 → y ∈ m8 S x fr (i7 fl c) → y.lk ≠ 7 := by
    intro x hx hy
    unfold m8 at hy
    split at hy
    · cases hy
    · split at hy
      · cases hy
      · obtain rfl := List.mem_singleton.mp hy
        simp only; omega
  split at hy
  · rename_i h4
    have a4 : a < 4 := by omega
    have hq := hr.q a a4
    rw [hka, Int.toNat_natCast] at hy
    split at hy
    · cases hy
    · have hz : qAt S (a : Int) ≠ 0 := by assumption
      refine ⟨StepOk.move h (x := ⟨node, arg, 3, c, 0, S.set (44 + a) (qAt S a - 1)⟩) (by simp [h.len]) (hr.setQ h.len a4 (by omega) (by omega)) hf (cH rt c) (.inr (.inr ⟨by simp, by simp, ?_⟩)) y hy, key _ (.inl rfl) hy⟩
      simp only; rw [oc h.len (by omega), hm]
  · exact ⟨StepOk.move h (x := ⟨node, arg, 4, c, 0, S⟩) h.len hr hf (cH rt c) (.inr (.inr ⟨by simp, by simp, hm⟩)) y hy, key _ (.inr rfl) hy⟩
theorem fc {S : List Int} {x y : Sp} {fr to : List Int} (hy : y ∈ m8 S x fr to) : y.lk = x.lk := by
  unfold m8 at hy
  split at hy
  · cases hy
  · split at hy
    · cases hy
    · obtain rfl := List.mem_singleton.mp hy; rfl
theorem yD (rt : Right ns fl) (h : TokOk fl.length S) (hr : RestOk S) (hm : mdS S = 0) {i : Nat} {k : Nd} (hc : ns[i]? = some k) :
    ∀ y ∈ m7 ns fl S i k, ∃ d, StepOk fl.length S y d ∧ (k.kind ≠ 6 → S4 S = 1 → M0 y d) := by
  intro y hy
  have hk := rt.kind hc
  have hi := wX rt i
  have ho := cH rt i
  have hnum : ∀ t : Tm, Num (N8 t (vS S)).1 := fun t => wY fun _ => tB hr
  unfold m7 at hy
  split at hy
  · rename_i h2
    have ar := rt.ar2 hc h2
    unfold ci at hy
    rw [yC h] at hy
    split at hy
    · refine ⟨_, StepOk.move h (x := ⟨i, 0, 7, 0, 0, S.set 48 1⟩) (by simp [h.len]) (hr.setM h.len (by decide) (by decide)) hi (fun f hf => by cases hf) (.inl ⟨rfl, qq h.len 1⟩) y hy, fun _ _ => ?_⟩
      unfold M0
      rw [fc hy, if_pos rfl, ar]; rfl
    · rename_i h1
      exact ⟨_, StepOk.move h (x := ⟨i, 0, 0, 0, 0, S⟩) h.len hr hi (fun f hf => by cases hf) (.inr (.inr ⟨by simp, by simp, hm⟩)) y hy, fun _ h => absurd h h1⟩
  rename_i h2
  split at hy
  · rename_i h34
    have ar := rt.ar11 hc (by omega)
    obtain ⟨a, hka⟩ := Int.eq_ofNat_of_zero_le hk.2.1
    have a4 : a < 4 := by have := hk.2.2.1 h34; omega
    unfold N5 at hy
    rw [hka, Int.toNat_natCast] at hy
    have dv : ∀ (b c d : Int) (v : Int), c ≠ 7 → c ≠ 6 → Num v → y ∈ m8 S ⟨i, b, c, i, d, S.set (40 + a) v⟩ (o5 fl i) (i7 fl i) → ∃ d, StepOk fl.length S y d ∧ (k.kind ≠ 6 → S4 S = 1 → M0 y d) := by
      intro b c d v h7 h6 hv hy
      refine ⟨_, StepOk.move h (x := ⟨i, b, c, i, d, S.set (40 + a) v⟩) (by simp [h.len]) (hr.setV h.len a4 hv) hi ho (.inr (.inr ⟨h7, h6, by simp only; rw [oc h.len (by omega), hm]⟩)) y hy, fun _ _ => ?_⟩
      unfold M0
      rw [fc hy, ar.1, ar.2, if_neg h7]; rfl
    split at hy
    · cases hy
    split at hy
    · rcases List.mem_append.mp hy with hy | hy
      · exact dv _ _ _ _ (by decide) (by decide) ⟨by decide, by decide⟩ hy
      · exact dv _ _ _ _ (by decide) (by decide) ⟨by decide, by decide⟩ hy
    split at hy
    · obtain rfl := List.mem_singleton.mp hy
      exact ⟨0, .fault h hr _ _, fun _ _ => by unfold M0; rfl⟩
    · exact dv _ _ _ _ (by decide) (by decide) (hnum _) hy
  rename_i h34
  split at hy
  · rename_i h5
    have hx := rt.xor (List.getElem?_eq_some_iff.mp hc).1 (by rw [O3 hc]; exact h5)
    unfold O6 at hy
    split at hy
    · rename_i h1
      obtain ⟨f, hf, hy⟩ := List.mem_flatMap.mp hy
      refine ⟨_, StepOk.move h (x := ⟨i, f, 0, 0, 0, S⟩) h.len hr (qo hi hf) ho (.inr (.inr ⟨by simp, by simp, hm⟩)) y hy, fun _ _ => ?_⟩
      unfold M0
      rw [fc hy, h1]; rfl
    rename_i h1
    split at hy
    · cases hy
    split at hy
    · obtain rfl := List.mem_singleton.mp hy
      exact ⟨0, .fault h hr _ _, fun _ _ => by unfold M0; rfl⟩
    rename_i he
    have hin := kg (v := vS S) (rt.els hc h5 h1) (by simpa using he)
    refine ⟨_, StepOk.move h (x := ⟨i, (r8 fl (vS S) (i7 fl i)).1, 0, 0, 0, S⟩) h.len hr hi (qo ho hin) (.inr (.inr ⟨by simp, by simp, hm⟩)) y hy, fun _ _ => ?_⟩
    unfold M0
    rw [fc hy, show (o5 fl i).length = 1 by omega]; rfl
  rename_i h5
  split at hy
  · rename_i h6
    exact ⟨_, StepOk.move h (x := ⟨i, 0, 0, 0, 0, S⟩) h.len hr hi ho (.inr (.inr ⟨by simp, by simp, hm⟩)) y hy, fun h => absurd h6 h⟩
  rename_i h6
  split at hy
  · rename_i h7
    obtain ⟨a1, a2, a3⟩ := rt.ar7 hc h7
    obtain ⟨f, hf, hy⟩ := List.mem_flatMap.mp hy
    obtain ⟨c, k', e1, e2, e3⟩ := a3 f hf
    rw [e1] at hy
    obtain ⟨q, q7⟩ := qs rt h hr hm i f e2 hi y hy
    have ar := rt.ar11 e2 (by omega)
    refine ⟨_, q, fun _ _ => ?_⟩
    unfold M0
    rw [if_neg q7, ar.2, a1]; rfl
  rename_i h7
  split at hy
  · rename_i h8
    obtain ⟨q, q7⟩ := qs rt h hr hm i 0 hc hi y hy
    have ar := rt.ar11 hc (by omega)
    refine ⟨_, q, fun _ _ => ?_⟩
    unfold M0
    rw [if_neg q7, ar.1, ar.2]; rfl
  · cases hy
theorem mo {y : Sp} : ∀ {n : Nat}, y ∈ u0 ns fl S n → ∃ (j : Nat) (k : Nd), ns[j]? = some k ∧ y ∈ m7 ns fl S j k
  | 0, h => by cases h
  | n + 1, h => by
    rw [u0] at h
    rcases List.mem_append.mp h with h | h
    · exact mo h
    · split at h
      · rename_i k hk; exact ⟨n, k, hk, h⟩
      · cases h
theorem mq {y : Sp} : ∀ {m : Nat}, y ∈ o7 ns S m → ∃ j, j < m ∧ y ∈ G1 ns S j
  | 0, h => by cases h
  | m + 1, h => by
    rw [o7] at h
    rcases List.mem_append.mp h with h | h
    · obtain ⟨j, h1, h2⟩ := mq h; exact ⟨j, by omega, h2⟩
    · exact ⟨m, by omega, h⟩
theorem yE (h : TokOk fl.length S) (hr : RestOk S) (hm : mdS S = 0) {m : Nat} (h4 : m < 4) : ∀ y ∈ G1 ns S m, StepOk fl.length S y 0 ∧ y.lk ≠ 7 := by
  intro y hy
  unfold G1 at hy
  split at hy
  · rename_i hq
    have := hr.q m h4
    have q := StepOk.move h (x := ⟨-1, m, 5, 0, m, S.set (44 + m) (qAt S m + 1)⟩) (by simp [h.len]) (hr.setQ h.len h4 (by omega) (by omega)) (fr := []) (to := []) (fun f hf => by cases hf) (fun f hf => by cases hf)
      (.inr (.inr ⟨by simp, by simp, by simp only; rw [oc h.len (by omega), hm]⟩)) y hy
    exact ⟨q, by rw [fc hy]; simp⟩
  · cases hy
theorem xa (hS : S.length = 49) (h0 : stC ns fl S = 0) : ∀ y ∈ n7 ns fl S,
    ∃ d, StepOk fl.length S y d ∧ ((∀ k ∈ ns, k.kind ≠ 6) → S4 S = 1 → M0 y d) := by
  intro y hy
  obtain ⟨hn, hk⟩ := W5 h0
  have rt := Right.of hn
  obtain ⟨h, hr⟩ := wT hS hk
  unfold n7 at hy
  split at hy
  · cases hy
  rename_i hm
  have hm : mdS S = 0 := by rw [not_or] at hm; simpa using hm.2
  rcases List.mem_append.mp hy with hy | hy
  · obtain ⟨j, k, h1, h2⟩ := mo hy
    obtain ⟨d, a1, a2⟩ := yD rt h hr hm h1 y h2
    exact ⟨d, a1, fun ha => a2 (ha k (List.mem_of_getElem? h1))⟩
  · obtain ⟨j, h1, h2⟩ := mq hy
    obtain ⟨q1, q2⟩ := yE h hr hm h1 y h2
    exact ⟨0, q1, fun _ _ => by unfold M0; rw [if_neg q2]⟩
theorem cl (hS : S.length = 49) (h0 : stC ns fl S = 0) {y : Sp} (hy : y ∈ n7 ns fl S) : stC ns fl y.to = 0 ∧ (mdS y.to == 1) = (y.lk == 7) ∧ (mdS y.to == 2) = (y.lk == 6) := by
  obtain ⟨d, q, _⟩ := xa hS h0 y hy
  refine ⟨?_, ?_⟩
  · unfold stC
    rw [if_neg (by simp [(W5 h0).1]), if_pos (wS q.tok q.rest)]
  · rcases q.md with ⟨h1, h2⟩ | ⟨h1, h2⟩ | ⟨h1, h2, h3⟩
    · rw [h1, h2]; exact ⟨rfl, rfl⟩
    · rw [h1, h2]; exact ⟨rfl, rfl⟩
    · rw [h3]
      refine ⟨?_, ?_⟩ <;> (rw [eq_comm]; simp [h1, h2])
def AR (ns : List Nd) (fl : List Fl) (S : List Int) : Prop := S.length = 49 ∧ stC ns fl S = 0 ∧ S4 S = if mdS S = 1 then 0 else 1
theorem yF {α : Type} {l : List α} (h : l.length = 1) : ∃ a, l = [a] := by
  match l, h with
  | [a], _ => exact ⟨a, rfl⟩
end
end
section
def qu := And.intro T2 (And.intro T3 (And.intro T4 (And.intro T22 (And.intro T25 (And.intro T31 (And.intro T41 (And.intro T57 (And.intro T58 T77))))))))
attribute [local irreducible] awp n9 k3 l8 o6 n5
theorem qv {α : Type} {p : α → Bool} : ∀ {l : List α} {i : Nat}, 0 ≤ I6 p l i → ∃ (j : Nat) (k : α), I6 p l i = ((i + j : Nat) : Int) ∧ l[j]? = some k ∧ p k = true
  | [], i, h => by simp [I6] at h
  | k :: r, i, h => by
    unfold I6 at h ⊢
    cases hp : p k with
    | true => exact ⟨0, k, by simp, rfl, hp⟩
    | false =>
      rw [hp] at h
      simp only [Bool.false_eq_true, if_false] at h ⊢
      obtain ⟨j, k', h1, h2, h3⟩ := qv (l := r) (i := i + 1) h
      exact ⟨j + 1, k', by rw [h1]; congr 1; omega, h2, h3⟩
theorem Right.begin {ns : List Nd} {fl : List Fl} (h : Right ns fl) : ∃ (s f : Nat), m9 ns 1 = (s : Int) ∧ i7 fl (s : Int) = [(f : Int)] ∧ f < fl.length := by
  obtain ⟨⟨h0, h1⟩, _⟩ := nN h.ends
  obtain ⟨s, k, e, hk, hp⟩ := qv (p := fun x : Nd => x.kind == 1) (l := ns) (i := 0) h0
  have hk1 : k.kind = 1 := by simpa using hp
  have ar := (h.ar1 hk hk1).2
  have e' : m9 ns 1 = (s : Int) := by unfold m9; rw [e]; simp
  obtain ⟨a, ha⟩ := yF ar
  obtain ⟨f, hf, hlt, _⟩ := cH h (s : Int) a (by rw [ha]; simp)
  exact ⟨s, f, e', by rw [ha, hf], hlt⟩
noncomputable def s6 (ns : List Nd) (fl : List Fl) : List Int × Int := if (A9 ns fl).1 ≠ 0 then (zS, 4) else (zS.set ((i7 fl (m9 ns 1)).headD 0).toNat 1, 0)
theorem fe {ns : List Nd} {fl : List Fl} (nk : NetOk ns fl) (h : Heap) :
    d5 Tryz.prog gW 36 [G7 ns fl] h (fun r h' => r = .tup [aS (s6 ns fl).1, .i (s6 ns fl).2] ∧ h' = h) := by
  have hnet := fun h => ic ns fl nk h
  have hzl : (zS.map AV.i).length = 49 := by rw [List.length_map]; rfl
  have hem : (zS.map AV.i).isEmpty = false := rfl
  have hzz : w9 (zS.map AV.i) 0 (zS.map AV.i) = zS.map AV.i := l7 (n := 49) (by rw [List.length_map]; rfl) _ hzl
  have hzt : (zS.map AV.i).take 49 = zS.map AV.i := List.take_of_length_le (by rw [hzl]; exact Nat.le_refl _)
  by_cases h0 : (A9 ns fl).1 = 0
  case neg =>
    have f0 : ((A9 ns fl).1 != 0) = true := by simp [h0]
    have e : s6 ns fl = (zS, 4) := by unfold s6; rw [if_pos h0]
    rw [e]
    refine c8 (rl := []) e9 Tryz.func36 rfl (rs := [.cell 2 82, .tmp 3]) rfl Tryz.ntmps36 (by simp) ?_
    repeat' (first | ((repeat ((fail_if_success (refine hK _ ?_)); clear hK K)); refine hK _ ?_; clear hK K) | ((first | refine b9 fun K1 q6 => ?_ | refine b7 fun A B hA hB => ?_); simp only [S1, simprocAttr, qu, f0, TSz, i6, h9, j3, hem, hzz, hzt, d8, d7, d9, List.length_map]; first | refine q6 _ ?_; clear q6 K1 | (refine hA ?_; clear hA hB A B) | (apply d4 E56; exact (hnet _); refine q6 _ ?_; clear q6 K1)) | refine b6 fun K hK => ?_ | ((first | apply b8 | apply b5 | apply d3); try simp only [NB, simprocAttr]))
    all_goals simp only [S1, simprocAttr, ENB, qu, hzt, hzl, List.length_map, j3, TSz, d9, L9, x9]
  have f0 : ((A9 ns fl).1 != 0) = false := by simp [h0]
  have rt := Right.of h0
  obtain ⟨s, f, e1, e2, e3⟩ := rt.begin
  have hf := rt.f
  have e : s6 ns fl = (zS.set f 1, 0) := by unfold s6; rw [if_neg (by simpa using h0), e1, e2]; rfl
  rw [e]
  have hs := fun h => X7 (G := gW) ns nk.n (fl.map eF) h
  have ho := fun h => t8 (G := gW) (ns.map eN) fl nk.f (s : Int) h
  rw [e1] at hs
  rw [e2] at ho
  have f40 : (f : Int) < 40 := by omega
  have f0' : (0 : Int) ≤ (f : Int) := by omega
  have f49 : f + 1 ≤ 49 := by omega
  have hset := I3 zS f 1
  have hzs : (zS.set f 1).length = 49 := by rw [List.length_set]; rfl
  have hzt2 : ((zS.set f 1).map AV.i).take 49 = (zS.set f 1).map AV.i := List.take_of_length_le (by rw [List.length_map, hzs]; exact Nat.le_refl _)
  have hzz2 : w9 (zS.map AV.i) 0 ((zS.set f 1).map AV.i) = (zS.set f 1).map AV.i := l7 (n := 49) (by rw [List.length_map, hzs]) _ hzl
  have hei : eI (f : Int) = [.int .i64 (f : Int)] := rfl
  have hi0 : (0 : Int) ≤ 0 := Int.le_refl 0
  refine c8 (rl := []) e9 Tryz.func36 rfl (rs := [.cell 2 82, .tmp 3]) rfl Tryz.ntmps36 (by simp) ?_
  repeat' (first | ((first | apply b8 | apply s4); (try simp only [NB])) | ((repeat ((fail_if_success (refine hK _ ?_)); clear hK K)); refine hK _ ?_; clear hK K) | ((first | refine b9 fun K1 q6 => ?_ | refine v8 rfl rfl rfl fun K1 q6 => ?_ | refine b7 fun A B hA hB => ?_); simp only [S1, simprocAttr, qu, f0, f40, f0', f49, hset, hzs, hzt2, hzz2, hei, hi0, TSz, i6, h9, j3, hem, hzz, hzt, d8, d7, d9, List.length_map, List.getElem?_cons_zero, Nat.mul_one]; first | refine q6 _ ?_; clear q6 K1 | (refine hB ?_; clear hA hB A B) | (apply d4 E56; exact (hnet _); refine q6 _ ?_; clear q6 K1)) | ((first | refine u6 (v := ?_) rfl rfl rfl rfl (by decide) (fun R1 K1 q6 => ?_) ?_ | refine y5 (v := ?_) rfl rfl rfl (by decide) (fun K1 q6 => ?_) ?_); rotate_left; (focus (simp only [S1, simprocAttr, qu, f0, f40, f0', f49, hset, hzs, hzt2, hzz2, hei, hi0, TSz, i6, h9, j3, hem, hzz, hzt, d8, d7, d9, List.length_map, List.getElem?_cons_zero, Nat.mul_one]; first | (exact q6 _ _ _) | (apply j5 E58; exact (hs _); exact q6 _ _ _) | (apply j5 E57; exact (ho _); exact q6 _ _ _)))) | (refine s5 rfl rfl rfl ?_) | refine b6 fun K hK => ?_ | (refine o9 (es := []) [0, 1, 2, 3, 4, 5, 6, 7, 8] 0 (fs := []) rfl (by kernel_rfl) (by kernel_rfl) ?_) | ((first | apply b5 | apply c9 | apply d3); try simp only [NB, simprocAttr]))
  all_goals simp only [S1, simprocAttr, ENB, qu, hzt2, hzs, List.length_map, j3, TSz, d9, L9, x9]
theorem qw {ns : List Nd} {fl : List Fl} (h0 : (s6 ns fl).2 = 0) : AR ns fl (s6 ns fl).1 ∧ mdS (s6 ns fl).1 = 0 := by
  unfold s6 at h0 ⊢
  split at h0
  · cases h0
  rename_i hn
  rw [if_neg hn]
  have hn : (A9 ns fl).1 = 0 := by simpa using hn
  have rt := Right.of hn
  obtain ⟨s, f, e1, e2, e3⟩ := rt.begin
  have hf := rt.f
  rw [e1, e2, List.headD_cons, Int.toNat_natCast]
  have zt : TokOk fl.length zS := by
    have e : ∀ k : Nat, tk zS k = 0 := fun k => by
      unfold tk zS
      rw [List.getD_eq_getElem?_getD, List.getElem?_replicate]; split <;> rfl
    exact ⟨rfl, fun k _ => by rw [e]; decide, fun k _ _ => e k⟩
  have zr : RestOk zS := ⟨fun k hk => by
      have : qAt zS (k : Int) = 0 := by unfold qAt zS; rw [List.getD_eq_getElem?_getD, List.getElem?_replicate]; split <;> rfl
      rw [this]; decide,
    fun k hk => by
      have : zS.getD (40 + k) 0 = 0 := by unfold zS; rw [List.getD_eq_getElem?_getD, List.getElem?_replicate]; split <;> rfl
      rw [this]; exact ⟨by decide, by decide⟩, by decide⟩
  have ht := zt.set e3 (by omega) (v := 1) (by omega) (by omega)
  have hd : (zS.set f 1).drop 40 = zS.drop 40 := dP (by omega) 1
  have hm : mdS (zS.set f 1) = 0 := by rw [qn hd]; rfl
  refine ⟨⟨ht.len, ?_, ?_⟩, hm⟩
  · unfold stC
    rw [if_neg (by simp [hn]), if_pos (wS ht (zr.drop hd))]
  · rw [hm, if_neg (by decide), kF (by rfl) (by omega)]
    have : tk zS f = 0 := by
      unfold tk zS
      rw [List.getD_eq_getElem?_getD, List.getElem?_replicate]; split <;> rfl
    rw [this]
    have : S4 zS = 0 := by unfold S4 zS; rfl
    rw [this]; rfl
end
section
def xb := And.intro T2 (And.intro T3 (And.intro T4 (And.intro T25 (And.intro T28 (And.intro T41 (And.intro T57 (And.intro T58 (And.intro T92 (And.intro fS (And.intro np (And.intro iM (And.intro iN jG))))))))))))
attribute [local irreducible] awp n9 k3 l8 o6 n5
variable {G : Nat → Option (List PV)}
theorem cI : ∀ (l S : List Int), (J1 l S).1.length = S.length
  | [], S => rfl
  | f :: r, S => by
    unfold J1
    split
    · simp
    · rw [cI r]; simp
theorem gz : ∀ (l S : List Int), (N7 l S).1.length = S.length
  | [], S => rfl
  | f :: r, S => by
    unfold N7
    split
    · simp
    · rw [gz r]; simp
theorem tC (S fr to : List Int) : (mvF S fr to).1.length = S.length := by
  unfold mvF
  split
  · rw [gz, cI]
  · rw [cI]
theorem mr {S X : List Int} (hS : S.length = 49) {k : Nat} (hk : k < 40) (v : Int) : (B2 S X).set k v = B2 (S.set k v) X := by
  unfold B2
  rw [List.set_append_left _ _ (by rw [List.length_take]; omega), List.take_set]
theorem gA {S X : List Int} (hS : S.length = 49) {k : Nat} (hk : k < 40) : tk (B2 S X) k = tk S k := by
  unfold tk B2
  rw [Int.toNat_natCast, List.getD_eq_getElem?_getD, List.getElem?_append_left (by rw [List.length_take]; omega), List.getElem?_take_of_lt (by omega), ← List.getD_eq_getElem?_getD]
theorem gB (step : List Int → Int → Option (List Int)) (f : Int) (r S : List Int) : S7 step (f :: r) S = (step S f).bind (S7 step r) := by
  unfold S7; rw [List.foldlM_cons]; rfl
theorem ms {X : List Int} : ∀ {l S : List Int}, S.length = 49 → InF l → S7 T7 l (B2 S X) = if (J1 l S).2 = true then some (B2 (J1 l S).1 X) else none
  | [], S, _, _ => rfl
  | f :: r, S, hS, h => by
    obtain ⟨f0, f40⟩ := h.2 f (by simp)
    obtain ⟨k, rfl⟩ := Int.eq_ofNat_of_zero_le f0
    have k40 : k < 40 := by omega
    have ih := ms (X := X) (l := r) (S := S.set k (tk S k - 1)) (by rw [List.length_set, hS]) ⟨by have := h.1; simp at this; omega, fun g hg => h.2 g (by simp [hg])⟩
    have e : T7 (B2 S X) (k : Int) = if tk S k < 1 then none else some (B2 (S.set k (tk S k - 1)) X) := by
      unfold T7; rw [gA hS k40, Int.toNat_natCast, mr hS k40]
    rw [gB, e]
    by_cases h1 : tk S k < 1
    · have e2 : J1 ((k : Int) :: r) S = (S.set k (tk S k - 1), false) := by
        unfold J1; rw [if_pos (by omega), Int.toNat_natCast]
      rw [if_pos h1, e2]; rfl
    · have e2 : J1 ((k : Int) :: r) S = J1 r (S.set k (tk S k - 1)) := by
        conv => lhs; unfold J1
        rw [if_neg (by omega), Int.toNat_natCast]
      rw [if_neg h1, e2]; exact ih
theorem mt {X : List Int} : ∀ {l S : List Int}, S.length = 49 → InF l → S7 W3 l (B2 S X) = if (N7 l S).2 = true then some (B2 (N7 l S).1 X) else none
  | [], S, _, _ => rfl
  | f :: r, S, hS, h => by
    obtain ⟨f0, f40⟩ := h.2 f (by simp)
    obtain ⟨k, rfl⟩ := Int.eq_ofNat_of_zero_le f0
    have k40 : k < 40 := by omega
    have ih := mt (X := X) (l := r) (S := S.set k (tk S k + 1)) (by rw [List.length_set, hS]) ⟨by have := h.1; simp at this; omega, fun g hg => h.2 g (by simp [hg])⟩
    have e : W3 (B2 S X) (k : Int) = if 2 < tk S k then none else some (B2 (S.set k (tk S k + 1)) X) := by
      unfold W3; rw [gA hS k40, Int.toNat_natCast, mr hS k40]
    rw [gB, e]
    by_cases h1 : 2 < tk S k
    · have e2 : N7 ((k : Int) :: r) S = (S.set k (tk S k + 1), false) := by
        unfold N7; rw [if_pos (by omega), Int.toNat_natCast]
      rw [if_pos h1, e2]; rfl
    · have e2 : N7 ((k : Int) :: r) S = N7 r (S.set k (tk S k + 1)) := by
        conv => lhs; unfold N7
        rw [if_neg (by omega), Int.toNat_natCast]
      rw [if_neg h1, e2]; exact ih
def stF (S : List Int) (m : Sp) (chg : List Int → List Int) (fr to : List Int) : List Sp := if (mvF S fr to).2 = true then [{ m with to := chg (mvF S fr to).1 }] else []
def Chg (S : List Int) (chg : List Int → List Int) (X : List Int) : Prop := X.length = 49 ∧ ∀ T : List Int, T.length = 49 → T.drop 40 = S.drop 40 → chg T = B2 T X
theorem aX {S : List Int} {k : Nat} (hk : k < 40) (v : Int) : (S.set k v).drop 40 = S.drop 40 := List.drop_set_of_lt hk
theorem aY : ∀ {l S : List Int}, InF l → (J1 l S).1.drop 40 = S.drop 40
  | [], S, _ => rfl
  | f :: r, S, h => by
    obtain ⟨f0, f40⟩ := h.2 f (by simp)
    have k40 : f.toNat < 40 := by omega
    unfold J1
    split
    · exact aX k40 _
    · rw [aY (l := r) ⟨by have := h.1; simp at this; omega, fun g hg => h.2 g (by simp [hg])⟩]; exact aX k40 _
theorem dQ : ∀ {l S : List Int}, InF l → (N7 l S).1.drop 40 = S.drop 40
  | [], S, _ => rfl
  | f :: r, S, h => by
    obtain ⟨f0, f40⟩ := h.2 f (by simp)
    have k40 : f.toNat < 40 := by omega
    unfold N7
    split
    · exact aX k40 _
    · rw [dQ (l := r) ⟨by have := h.1; simp at this; omega, fun g hg => h.2 g (by simp [hg])⟩]; exact aX k40 _
theorem H7 {S X : List Int} (hS : S.length = 49) {m : Sp} {chg : List Int → List Int} (hc : Chg S chg X) {fr to : List Int} (hf : InF fr) (ht : InF to) : stF S m chg fr to = m8 S { m with to := X } fr to := by
  unfold stF m8
  simp only
  rw [ms hS hf]
  have l1 : (J1 fr S).1.length = 49 := by rw [cI, hS]
  have d1 := aY (S := S) hf
  unfold mvF
  cases h1 : (J1 fr S).2 with
  | false => simp [h1]
  | true =>
    have d2 := dQ (S := (J1 fr S).1) ht
    simp only [if_true]
    rw [mt l1 ht]
    cases h2 : (N7 to (J1 fr S).1).2 with
    | false => simp
    | true =>
      simp only [if_true]
      rw [hc.2 _ (by rw [gz, l1]) (by rw [d2, d1])]
theorem sq {T X : List Int} (h : T.drop 40 = X.drop 40) : B2 T X = T := by unfold B2; rw [← h, List.take_append_drop]
theorem Chg.id {S : List Int} (hS : S.length = 49) : Chg S (fun T => T) S := ⟨hS, fun T _ hd => (sq hd).symm⟩
theorem Chg.set {S : List Int} (hS : S.length = 49) {k : Nat} (hk : 40 ≤ k) (v : Int) : Chg S (fun T => T.set k v) (S.set k v) := by
  refine ⟨by rw [List.length_set, hS], fun T hT hd => ?_⟩
  unfold B2
  simp only
  rw [List.drop_set, if_neg (by omega), ← hd]
  conv => lhs; rw [← List.take_append_drop 40 T]
  rw [List.set_append_right _ _ (by rw [List.length_take]; omega), List.length_take, Nat.min_eq_left (by omega)]
abbrev aMv (m : Sp) : AV := .agg [.i m.node, .i m.arg, .i m.lk, .i m.ln, .i m.la]
theorem ff {h : Heap} {b lb : Nat} {ns : List Nd} {fl : List Fl} {S : List Int} {l : List Sp} (ok : GmOk h b lb S l) (m : Sp) (fr to : List Int) (hfr : InF fr) (hto : InF to) :
    d5 Tryz.prog G 82 [.ptr b 0 0, aMv m, aI fr, aI to, .p .nilf] (l5 h b lb ns fl S l) (fun r h' => r = .undef ∧ h' = l5 h b lb ns fl S (l ++ stF S m (fun T => T) fr to)) := by
  have hb := ok.hb
  have hl := ok.hl
  have hne := ok.ne
  have hS := ok.held.1
  have hmax : l.length + 1 ≤ j7 := by have := ok.few; unfold j7; omega
  have gl := w8 (ns := ns) (fl := fl) (lb := lb) (n := l.length) hS
  have hmv := fun L => iv (G := G) (H := l5 h b lb ns fl S l ++ L) (r4 hb hne L) ok.held fr to hfr hto
  have hT : (mvF S fr to).1.length = 49 := by rw [tC, hS]
  have hzl : (zS.map AV.i).length = 49 := by rw [List.length_map]; rfl
  have hem : (zS.map AV.i).isEmpty = false := rfl
  have hsF : stF S m (fun T => T) fr to = if (mvF S fr to).2 = true then [{ m with to := (mvF S fr to).1 }] else [] := rfl
  generalize (mvF S fr to).1 = T at *
  have hso : w9 (zS.map AV.i) 0 (T.map AV.i) = T.map AV.i := l7 (n := 49) (by rw [List.length_map, hT]) _ hzl
  have hTt : ((T.map AV.i).take 49 = T.map AV.i) := List.take_of_length_le (by rw [List.length_map, hT]; exact Nat.le_refl _)
  have htl := D3 hT
  have hx : ({ m with to := T } : Sp).to.length = 49 := hT
  have hln : (cSp { m with to := T }).length = 54 := E4 hx
  have heq : (AV.p (.int .i64 m.node) :: .p (.int .i64 m.arg) :: .p (.int .i64 m.lk) :: .p (.int .i64 m.ln) :: .p (.int .i64 m.la) :: T.map AV.i) = (cSp { m with to := T }).map AV.i := rfl
  have hov2 := l7 (cs := (cSp { m with to := T }).map AV.i) (n := 54) (by rw [List.length_map, hln])
  have hpv := Q5 (cSp { m with to := T })
  have hti : ((cSp { m with to := T }).map (PV.int .i64)).take 54 = (cSp { m with to := T }).map (PV.int .i64) := List.take_of_length_le (by rw [List.length_map, hln]; exact Nat.le_refl _)
  have hmm := x9 (cSp { m with to := T })
  have hsl := ah ok.len
  have hrf := aJ (ns := ns) (fl := fl) (lb := lb) (n := l.length) hS
  have hgs := eS (ns := ns) (fl := fl) (lb := lb) (n := l.length) (m := l.length + 1) hS
  have hgb := pQ (ns := ns) (fl := fl) (S := S) (l := l) hb hne
  have hfn : ∀ L : Heap, ((l5 h b lb ns fl S l ++ L).set lb (some ⟨l.length + 1, ga l ++ (cSp { m with to := T }).map AV.i⟩)).set b (some ⟨0, gmC ns fl S lb (l.length + 1)⟩) = l5 h b lb ns fl S (l ++ [{ m with to := T }]) ++ L := fun L => by
    have := jU (ns := ns) (fl := fl) (S := S) (l := l) (l' := l ++ [{ m with to := T }]) hb hl hne L
    simpa only [spB, gmB, List.length_append, List.length_cons, List.length_nil, Nat.zero_add, bU] using this
  rw [hsF]
  cases hq : (mvF S fr to).2 with
  | false =>
    simp only [hq, if_false, List.append_nil, Bool.false_eq_true] at hmv ⊢
    refine i3 (rl := []) e9 Tryz.func82 rfl (rs := []) rfl Tryz.ntmps82 (by simp) ?_
    repeat' (first | ((repeat ((fail_if_success (refine hK _ ?_)); clear hK K)); refine hK _ ?_; clear hK K) | ((first | refine b9 fun K1 q6 => ?_ | refine b7 fun A B hA hB => ?_); simp only [S1, simprocAttr, xb, TSz, i6, h9, j3, hem, hso, hT, hTt, htl, d8, r4 hb hne, l9 hl, m6 hb hne, j8 hl, d7, d9, List.length_map, List.length_take, List.length_drop, i5, A3, v6, C1, z6, Nat.mul_one]; first | refine q6 _ ?_; clear q6 K1 | (refine hA ?_; clear hA hB A B) | (apply d4 xU; exact (hmv _); refine q6 _ ?_; clear q6 K1)) | refine b6 fun K hK => ?_ | ((first | apply b8 | apply b5 | apply d3); try simp only [NB, simprocAttr]))
    all_goals simp only [S1, simprocAttr, ENB, A0, y7, i5, m5, k8] <;> first | exact d6 hl | exact ⟨d6 hl, rfl⟩ | exact ⟨d6 hl, rfl, rfl⟩
  | true =>
    simp only [hq, if_true] at hmv ⊢
    refine i3 (rl := []) e9 Tryz.func82 rfl (rs := []) rfl Tryz.ntmps82 (by simp) ?_
    repeat' (first | ((first | apply b8 | apply s4); (try simp only [NB])) | ((repeat ((fail_if_success (refine hK _ ?_)); clear hK K)); refine hK _ ?_; clear hK K) | ((first | refine b9 fun K1 q6 => ?_ | refine v8 rfl rfl rfl fun K1 q6 => ?_ | refine b7 fun A B hA hB => ?_); simp only [S1, simprocAttr, xb, TSz, i6, h9, j3, hem, hso, hT, hTt, htl, heq, hln, hov2, hpv, hti, hmm, hsl, hrf, hgs, hgb, hfn, hmax, d8, r4 hb hne, l9 hl, m6 hb hne, j8 hl, gmB, spB, gl, d7, d9, List.length_map, List.length_take, List.length_drop, i5, A3, v6, C1, z6, Nat.mul_one]; first | refine q6 _ ?_; clear q6 K1 | (refine hB ?_; clear hA hB A B) | (apply d4 xU; exact (hmv _); refine q6 _ ?_; clear q6 K1)) | ((first | refine u6 (v := ?_) rfl rfl rfl rfl (by decide) (fun R1 K1 q6 => ?_) ?_ | refine y5 (v := ?_) rfl rfl rfl (by decide) (fun K1 q6 => ?_) ?_ | refine X4 (v := ?_) rfl rfl rfl (by decide) (fun K1 q6 => ?_) ?_); rotate_left; (focus (simp only [S1, simprocAttr, xb, TSz, i6, h9, j3, hem, hso, hT, hTt, htl, heq, hln, hov2, hpv, hti, hmm, hsl, hrf, hgs, hgb, hfn, hmax, d8, r4 hb hne, l9 hl, m6 hb hne, j8 hl, gmB, spB, gl, d7, d9, List.length_map, List.length_take, List.length_drop, i5, A3, v6, C1, z6, Nat.mul_one]; (exact q6 _ _ _)))) | (refine s5 rfl rfl rfl ?_) | refine b6 fun K hK => ?_ | (refine o9 (es := []) [0, 1, 2, 3, 4, 5, 6, 7, 8, 9, 10, 11, 12] 0 (fs := []) rfl (by kernel_rfl) (by kernel_rfl) ?_) | ((first | apply b5 | apply c9); try simp only [NB, simprocAttr]))
    all_goals simp only [S1, simprocAttr, ENB, A0, y7, i5, m5, k8] <;> first | exact d6 hl | exact ⟨d6 hl, rfl⟩ | exact ⟨d6 hl, rfl, rfl⟩
end
section
def xc := And.intro T2 (And.intro T3 (And.intro T4 (And.intro T25 (And.intro T28 (And.intro T41 (And.intro T57 (And.intro T58 (And.intro T77 (And.intro T92 (And.intro fS (And.intro np (And.intro iM (And.intro iN (And.intro nq jG))))))))))))))
attribute [local irreducible] awp n9 k3 l8 o6 n5
variable {G : Nat → Option (List PV)}
theorem yG {h : Heap} {b lb : Nat} {ns : List Nd} {fl : List Fl} {S : List Int} {l : List Sp} (ok : GmOk h b lb S l) (m : Sp) (fr to : List Int) (hfr : InF fr) (hto : InF to) {f : FuncId} (hE : g8 Tryz.prog f) {caps : List AV} (hcap : o4 h.length caps) {chg : List Int → List Int} (hlen : ∀ T : List Int, T.length = 49 → (chg T).length = 49)
    (hC : ∀ (A : Option Blk) (T : List Int), T.length = 49 → T.drop 40 = S.drop 40 → d5 Tryz.prog G f (.ptr (h.length + 1) 0 0 :: caps) (l5 h b lb ns fl S l ++ [A, some ⟨0, T.map AV.i⟩]) (fun r h' => r = .undef ∧ h' = l5 h b lb ns fl S l ++ [A, some ⟨0, (chg T).map AV.i⟩])) :
    d5 Tryz.prog G 82 [.ptr b 0 0, aMv m, aI fr, aI to, .fn f caps] (l5 h b lb ns fl S l) (fun r h' => r = .undef ∧ h' = l5 h b lb ns fl S (l ++ stF S m chg fr to)) := by
  have hb := ok.hb
  have hl := ok.hl
  have hne := ok.ne
  have hS := ok.held.1
  have hmax : l.length + 1 ≤ j7 := by have := ok.few; unfold j7; omega
  have gl := w8 (ns := ns) (fl := fl) (lb := lb) (n := l.length) hS
  have hmv := fun L => iv (G := G) (H := l5 h b lb ns fl S l ++ L) (r4 hb hne L) ok.held fr to hfr hto
  have hT : (mvF S fr to).1.length = 49 := by rw [tC, hS]
  have hzl : (zS.map AV.i).length = 49 := by rw [List.length_map]; rfl
  have hem : (zS.map AV.i).isEmpty = false := rfl
  have hsF : stF S m chg fr to = if (mvF S fr to).2 = true then [{ m with to := chg (mvF S fr to).1 }] else [] := rfl
  have hdp : (mvF S fr to).1.drop 40 = S.drop 40 := by
    unfold mvF
    split
    · rw [dQ hto, aY hfr]
    · exact aY hfr
  generalize (mvF S fr to).1 = T at *
  have hCT := fun A => hC A T hT hdp
  have hT0 := hT
  have hso0 : w9 (zS.map AV.i) 0 (T.map AV.i) = T.map AV.i := l7 (n := 49) (by rw [List.length_map, hT]) _ hzl
  have hTt0 : ((T.map AV.i).take 49 = T.map AV.i) := List.take_of_length_le (by rw [List.length_map, hT]; exact Nat.le_refl _)
  have hU := hlen T hT
  generalize chg T = U at *
  have hTt : ((U.map AV.i).take 49 = U.map AV.i) := List.take_of_length_le (by rw [List.length_map, hU]; exact Nat.le_refl _)
  have htl := D3 hU
  have hx : ({ m with to := U } : Sp).to.length = 49 := hU
  have hln : (cSp { m with to := U }).length = 54 := E4 hx
  have heq : (AV.p (.int .i64 m.node) :: .p (.int .i64 m.arg) :: .p (.int .i64 m.lk) :: .p (.int .i64 m.ln) :: .p (.int .i64 m.la) :: U.map AV.i) = (cSp { m with to := U }).map AV.i := rfl
  have hov2 := l7 (cs := (cSp { m with to := U }).map AV.i) (n := 54) (by rw [List.length_map, hln])
  have hpv := Q5 (cSp { m with to := U })
  have hti : ((cSp { m with to := U }).map (PV.int .i64)).take 54 = (cSp { m with to := U }).map (PV.int .i64) := List.take_of_length_le (by rw [List.length_map, hln]; exact Nat.le_refl _)
  have hmm := x9 (cSp { m with to := U })
  have hsl := ah ok.len
  have hrf := aJ (ns := ns) (fl := fl) (lb := lb) (n := l.length) hS
  have hgs := eS (ns := ns) (fl := fl) (lb := lb) (n := l.length) (m := l.length + 1) hS
  have hgb := pQ (ns := ns) (fl := fl) (S := S) (l := l) hb hne
  have hfn : ∀ L : Heap, ((l5 h b lb ns fl S l ++ L).set lb (some ⟨l.length + 1, ga l ++ (cSp { m with to := U }).map AV.i⟩)).set b (some ⟨0, gmC ns fl S lb (l.length + 1)⟩) = l5 h b lb ns fl S (l ++ [{ m with to := U }]) ++ L := fun L => by
    have := jU (ns := ns) (fl := fl) (S := S) (l := l) (l' := l ++ [{ m with to := U }]) hb hl hne L
    simpa only [spB, gmB, List.length_append, List.length_cons, List.length_nil, Nat.zero_add, bU] using this
  rw [hsF]
  cases hq : (mvF S fr to).2 with
  | false =>
    simp only [hq, if_false, List.append_nil, Bool.false_eq_true] at hmv ⊢
    refine i3 (rl := []) e9 Tryz.func82 rfl (rs := []) rfl Tryz.ntmps82 (by simp) ?_
    repeat' (first | ((repeat ((fail_if_success (refine hK _ ?_)); clear hK K)); refine hK _ ?_; clear hK K) | ((first | refine b9 fun K1 q6 => ?_ | refine b7 fun A B hA hB => ?_); simp only [S1, simprocAttr, xc, TSz, i6, h9, j3, hem, hso0, hT0, hTt0, hU, hTt, htl, d8, r4 hb hne, l9 hl, m6 hb hne, j8 hl, d7, d9, List.length_map, List.length_take, List.length_drop, i5, A3, v6, C1, z6, Nat.mul_one]; first | refine q6 _ ?_; clear q6 K1 | (refine hA ?_; clear hA hB A B) | (apply d4 xU; exact (hmv _); refine q6 _ ?_; clear q6 K1)) | refine b6 fun K hK => ?_ | ((first | apply b8 | apply b5 | apply d3); try simp only [NB, simprocAttr]))
    all_goals simp only [S1, simprocAttr, ENB, A0, y7, i5, m5, k8] <;> first | exact d6 hl | exact ⟨d6 hl, rfl⟩ | exact ⟨d6 hl, rfl, rfl⟩
  | true =>
    simp only [hq, if_true] at hmv ⊢
    refine i3 (rl := []) e9 Tryz.func82 rfl (rs := []) rfl Tryz.ntmps82 (by simp) ?_
    repeat' (first | ((first | apply b8 | apply s4); (try simp only [NB])) | ((repeat ((fail_if_success (refine hK _ ?_)); clear hK K)); refine hK _ ?_; clear hK K) | ((first | refine b9 fun K1 q6 => ?_ | refine v8 rfl rfl rfl fun K1 q6 => ?_ | refine b7 fun A B hA hB => ?_); simp only [S1, simprocAttr, xc, TSz, i6, h9, j3, hem, hso0, hT0, hTt0, hU, hTt, htl, heq, hln, hov2, hpv, hti, hmm, hsl, hrf, hgs, hgb, hfn, hmax, d8, r4 hb hne, l9 hl, m6 hb hne, j8 hl, gmB, spB, gl, d7, d9, List.length_map, List.length_take, List.length_drop, i5, A3, v6, C1, z6, Nat.mul_one]; first | refine q6 _ ?_; clear q6 K1 | ((first | refine hA ?_ | refine hB ?_); clear hA hB A B) | (apply d4 xU; exact (hmv _); refine q6 _ ?_; clear q6 K1) | (apply d4 hE; exact (hCT _); refine q6 _ ?_; clear q6 K1)) | ((first | refine u6 (v := ?_) rfl rfl rfl rfl (by decide) (fun R1 K1 q6 => ?_) ?_ | refine y5 (v := ?_) rfl rfl rfl (by decide) (fun K1 q6 => ?_) ?_ | refine X4 (v := ?_) rfl rfl rfl (by decide) (fun K1 q6 => ?_) ?_); rotate_left; (focus (simp only [S1, simprocAttr, xc, TSz, i6, h9, j3, hem, hso0, hT0, hTt0, hU, hTt, htl, heq, hln, hov2, hpv, hti, hmm, hsl, hrf, hgs, hgb, hfn, hmax, d8, r4 hb hne, l9 hl, m6 hb hne, j8 hl, gmB, spB, gl, d7, d9, List.length_map, List.length_take, List.length_drop, i5, A3, v6, C1, z6, Nat.mul_one]; (exact q6 _ _ _)))) | (refine s5 rfl rfl rfl ?_) | refine b6 fun K hK => ?_ | (refine o9 (es := []) [0, 1, 2, 3, 4, 5, 6, 7, 8, 9, 10, 11, 12] 0 (fs := []) rfl (by kernel_rfl) (by kernel_rfl) ?_) | ((first | apply b5 | apply c9); try simp only [NB, simprocAttr]))
    all_goals simp only [S1, simprocAttr, ENB, A0, y7, i5, m5, k8] <;> first | exact d6 hl | exact ⟨d6 hl, rfl⟩ | exact ⟨d6 hl, rfl, rfl⟩
end
section
def Y5 := And.intro T2 (And.intro T3 (And.intro T4 (And.intro T25 (And.intro T28 (And.intro T41 (And.intro T57 (And.intro T58 (And.intro T75 (And.intro T77 (And.intro T92 (And.intro fS (And.intro iM (And.intro iN (And.intro nq jG))))))))))))))
attribute [local irreducible] awp n9 k3 l8 o6 n5
variable {G : Nat → Option (List PV)}
theorem cm {H : Heap} {c g : Nat} {T U : List Int} : ∀ (b : Nat) (bk : Blk), (H.set c (some ⟨g, U.map AV.i⟩))[b]? = some (some bk) → H[b]? = some (some bk) ∨ ∀ x ∈ bk.cells, AVlt H.length x := by
  intro b bk hb
  rw [List.getElem?_set] at hb
  split at hb
  · split at hb
    · cases hb; exact .inr (L5 _ (g9 _ U))
    · cases hb
  · exact .inl hb
theorem cn (H : Heap) (c : Nat) (x : Option Blk) : (H.set c x).take H.length = H.set c x := List.take_of_length_le (by simp)
theorem fg (H : Heap) (c : Nat) (x : Option Blk) : (H.set c x).length = H.length := by simp
theorem Ad {H : Heap} {c r x gc gr gx : Nat} {T : List Int} (hc : H[c]? = some (some ⟨gc, T.map AV.i⟩)) (hT : T.length = 49) {v : Int} (hr : H[r]? = some (some ⟨gr, [.i v]⟩)) {kd : Int} {a : Nat} (ha : a < 4) {rest : List AV} (hx : H[x]? = some (some ⟨gx, .i kd :: .i a :: rest⟩)) :
    d5 Tryz.prog G 110 [.ptr c gc 0, .ptr r gr 0, .ptr x gx 0] H (fun q h' => q = .undef ∧ h' = H.set c (some ⟨gc, (T.set (40 + a) v).map AV.i⟩)) := by
  have hcL := F4 hc
  have hrL := F4 hr
  have hxL := F4 hx
  have a0 : (0 : Int) ≤ (a : Int) := by omega
  have a4' : (a : Int) < 4 := by omega
  have h49 : 40 + a + 1 ≤ 49 := by omega
  have hse := fun v => I3 T (40 + a) v
  have hk := cm (H := H) (c := c) (g := gc) (T := T) (U := T.set (40 + a) v)
  have htk := cn H c
  have hsl := fg H c
  refine i3 (rl := []) e9 Tryz.func110 rfl (rs := []) rfl Tryz.ntmps110 (by simp) ?_
  repeat' (first | (apply s4; (try simp only [NB])) | (refine v8 rfl rfl rfl fun K1 q6 => ?_; simp only [S1, simprocAttr, Y5, TSz, i6, hc, hr, hx, hcL, hrL, hxL, a0, a4', h49, hse, hT, htk, hsl, List.length_map, Nat.mul_one]; refine q6 _ ?_; clear q6 K1) | ((first | refine u6 (v := ?_) rfl rfl rfl rfl (by decide) (fun R1 K1 q6 => ?_) ?_ | refine y5 (v := ?_) rfl rfl rfl (by decide) (fun K1 q6 => ?_) ?_); rotate_left; (focus (simp only [S1, simprocAttr, Y5, TSz, i6, hc, hr, hx, hcL, hrL, hxL, a0, a4', h49, hse, hT, htk, hsl, List.length_map, Nat.mul_one]; (exact q6 _ _ _)))) | (refine s5 rfl rfl rfl ?_) | (refine o9 (es := []) [0, 1, 2, 3, 4, 5, 6, 7] 0 (fs := []) rfl (by kernel_rfl) (by kernel_rfl) ?_))
  all_goals simp only [A0, y7, Q3, Q2, I4, F8, E6, G4, pur, L4, hsl, htk, List.length_append, List.length_cons, List.length_nil, S1, simprocAttr, Y5, Nat.le_add_right, Nat.le_refl, List.append_nil]
  all_goals exact hk
theorem Ae {H : Heap} {c r x gc gr gx : Nat} {T : List Int} (hc : H[c]? = some (some ⟨gc, T.map AV.i⟩)) (hT : T.length = 49) {v : Int} (hr : H[r]? = some (some ⟨gr, [.i v]⟩)) {kd : Int} {a : Nat} (ha : a < 4) {rest : List AV} (hx : H[x]? = some (some ⟨gx, .i kd :: .i a :: rest⟩)) :
    d5 Tryz.prog G 113 [.ptr c gc 0, .ptr r gr 0, .ptr x gx 0] H (fun q h' => q = .undef ∧ h' = H.set c (some ⟨gc, (T.set (40 + a) v).map AV.i⟩)) := by
  have hcL := F4 hc
  have hrL := F4 hr
  have hxL := F4 hx
  have a0 : (0 : Int) ≤ (a : Int) := by omega
  have a4' : (a : Int) < 4 := by omega
  have h49 : 40 + a + 1 ≤ 49 := by omega
  have hse := fun v => I3 T (40 + a) v
  have hk := cm (H := H) (c := c) (g := gc) (T := T) (U := T.set (40 + a) v)
  have htk := cn H c
  have hsl := fg H c
  refine i3 (rl := []) e9 Tryz.func113 rfl (rs := []) rfl Tryz.ntmps113 (by simp) ?_
  repeat' (first | (apply s4; (try simp only [NB])) | (refine v8 rfl rfl rfl fun K1 q6 => ?_; simp only [S1, simprocAttr, Y5, TSz, i6, hc, hr, hx, hcL, hrL, hxL, a0, a4', h49, hse, hT, htk, hsl, List.length_map, Nat.mul_one]; refine q6 _ ?_; clear q6 K1) | ((first | refine u6 (v := ?_) rfl rfl rfl rfl (by decide) (fun R1 K1 q6 => ?_) ?_ | refine y5 (v := ?_) rfl rfl rfl (by decide) (fun K1 q6 => ?_) ?_); rotate_left; (focus (simp only [S1, simprocAttr, Y5, TSz, i6, hc, hr, hx, hcL, hrL, hxL, a0, a4', h49, hse, hT, htk, hsl, List.length_map, Nat.mul_one]; (exact q6 _ _ _)))) | (refine s5 rfl rfl rfl ?_) | (refine o9 (es := []) [0, 1, 2, 3, 4, 5, 6, 7] 0 (fs := []) rfl (by kernel_rfl) (by kernel_rfl) ?_))
  all_goals simp only [A0, y7, Q3, Q2, I4, F8, E6, G4, pur, L4, hsl, htk, List.length_append, List.length_cons, List.length_nil, S1, simprocAttr, Y5, Nat.le_add_right, Nat.le_refl, List.append_nil]
  all_goals exact hk
theorem sr {H : Heap} {c gc : Nat} {T : List Int} (hc : H[c]? = some (some ⟨gc, T.map AV.i⟩)) (hT : T.length = 49) :
    d5 Tryz.prog G 117 [.ptr c gc 0] H (fun q h' => q = .undef ∧ h' = H.set c (some ⟨gc, (T.set 48 1).map AV.i⟩)) := by
  have hcL := F4 hc
  have hse := fun v => I3 T 48 v
  have hk := cm (H := H) (c := c) (g := gc) (T := T) (U := T.set 48 1)
  have htk := cn H c
  have hsl := fg H c
  refine i3 (rl := []) e9 Tryz.func117 rfl (rs := []) rfl Tryz.ntmps117 (by simp) ?_
  repeat' (first | (refine b9 fun K1 q6 => ?_; simp only [S1, simprocAttr, Y5, TSz, i6, hc, hcL, hse, hT, htk, hsl, List.length_map, Nat.mul_one]; refine q6 _ ?_; clear q6 K1) | ((first | apply b8 | apply b5); try simp only [NB, simprocAttr]))
  all_goals simp only [A0, y7, Q3, Q2, I4, F8, E6, G4, pur, L4, hsl, htk, List.length_append, List.length_cons, List.length_nil, S1, simprocAttr, Y5, Nat.le_add_right, Nat.le_refl, List.append_nil]
  all_goals exact hk
theorem ss {H : Heap} {c r gc gr : Nat} {T : List Int} (hc : H[c]? = some (some ⟨gc, T.map AV.i⟩)) (hT : T.length = 49) {a : Nat} (ha : a < 4) (hr : H[r]? = some (some ⟨gr, [.i a]⟩)) {q : Int} (hq : T[44 + a]? = some q) (hq0 : 0 ≤ q ∧ q ≤ 3) :
    d5 Tryz.prog G 142 [.ptr c gc 0, .ptr r gr 0] H (fun u h' => u = .undef ∧ h' = H.set c (some ⟨gc, (T.set (44 + a) (q - 1)).map AV.i⟩)) := by
  have hcL := F4 hc
  have hrL := F4 hr
  have a0 : (0 : Int) ≤ (a : Int) := by omega
  have a4' : (a : Int) < 4 := by omega
  have h49 : 44 + a + 1 ≤ 49 := by omega
  have hw : IntKind.i64.wrap (q - 1) = q - 1 := IntWalk.i64_in _ (by omega)
  have hdr := N2 hq
  have hse := fun v => I3 T (44 + a) v
  have hk := cm (H := H) (c := c) (g := gc) (T := T) (U := T.set (44 + a) (q - 1))
  have htk := cn H c
  have hsl := fg H c
  refine i3 (rl := []) e9 Tryz.func142 rfl (rs := []) rfl Tryz.ntmps142 (by simp) ?_
  repeat' (first | (apply s4; (try simp only [NB])) | (refine v8 rfl rfl rfl fun K1 q6 => ?_; simp only [S1, simprocAttr, Y5, TSz, i6, hc, hr, hcL, hrL, a0, a4', h49, hw, hdr, hse, hT, htk, hsl, List.length_map, Nat.mul_one]; refine q6 _ ?_; clear q6 K1) | ((first | refine u6 (v := ?_) rfl rfl rfl rfl (by decide) (fun R1 K1 q6 => ?_) ?_ | refine y5 (v := ?_) rfl rfl rfl (by decide) (fun K1 q6 => ?_) ?_); rotate_left; (focus (simp only [S1, simprocAttr, Y5, TSz, i6, hc, hr, hcL, hrL, a0, a4', h49, hw, hdr, hse, hT, htk, hsl, List.length_map, Nat.mul_one]; (exact q6 _ _ _)))) | (refine s5 rfl rfl rfl ?_) | (refine o9 (es := []) [0, 1, 2, 3, 4, 5, 6, 7, 8, 9, 10] 0 (fs := []) rfl (by kernel_rfl) (by kernel_rfl) ?_))
  all_goals simp only [A0, y7, Q3, Q2, I4, F8, E6, G4, pur, L4, hsl, htk, List.length_append, List.length_cons, List.length_nil, S1, simprocAttr, Y5, Nat.le_add_right, Nat.le_refl, List.append_nil]
  all_goals exact hk
theorem su {H : Heap} {c r gc gr : Nat} {T : List Int} (hc : H[c]? = some (some ⟨gc, T.map AV.i⟩)) (hT : T.length = 49) {a : Nat} (ha : a < 4) (hr : H[r]? = some (some ⟨gr, [.i a]⟩)) {q : Int} (hq : T[44 + a]? = some q) (hq0 : 0 ≤ q ∧ q ≤ 3) :
    d5 Tryz.prog G 83 [.ptr c gc 0, .ptr r gr 0] H (fun u h' => u = .undef ∧ h' = H.set c (some ⟨gc, (T.set (44 + a) (q + 1)).map AV.i⟩)) := by
  have hcL := F4 hc
  have hrL := F4 hr
  have a0 : (0 : Int) ≤ (a : Int) := by omega
  have a4' : (a : Int) < 4 := by omega
  have h49 : 44 + a + 1 ≤ 49 := by omega
  have hw : IntKind.i64.wrap (q + 1) = q + 1 := IntWalk.i64_in _ (by omega)
  have hdr := N2 hq
  have hse := fun v => I3 T (44 + a) v
  have hk := cm (H := H) (c := c) (g := gc) (T := T) (U := T.set (44 + a) (q + 1))
  have htk := cn H c
  have hsl := fg H c
  refine i3 (rl := []) e9 Tryz.func83 rfl (rs := []) rfl Tryz.ntmps83 (by simp) ?_
  repeat' (first | (apply s4; (try simp only [NB])) | (refine v8 rfl rfl rfl fun K1 q6 => ?_; simp only [S1, simprocAttr, Y5, TSz, i6, hc, hr, hcL, hrL, a0, a4', h49, hw, hdr, hse, hT, htk, hsl, List.length_map, Nat.mul_one]; refine q6 _ ?_; clear q6 K1) | ((first | refine u6 (v := ?_) rfl rfl rfl rfl (by decide) (fun R1 K1 q6 => ?_) ?_ | refine y5 (v := ?_) rfl rfl rfl (by decide) (fun K1 q6 => ?_) ?_); rotate_left; (focus (simp only [S1, simprocAttr, Y5, TSz, i6, hc, hr, hcL, hrL, a0, a4', h49, hw, hdr, hse, hT, htk, hsl, List.length_map, Nat.mul_one]; (exact q6 _ _ _)))) | (refine s5 rfl rfl rfl ?_) | (refine o9 (es := []) [0, 1, 2, 3, 4, 5, 6, 7, 8, 9, 10] 0 (fs := []) rfl (by kernel_rfl) (by kernel_rfl) ?_))
  all_goals simp only [A0, y7, Q3, Q2, I4, F8, E6, G4, pur, L4, hsl, htk, List.length_append, List.length_cons, List.length_nil, S1, simprocAttr, Y5, Nat.le_add_right, Nat.le_refl, List.append_nil]
  all_goals exact hk
end
section
def qx := And.intro T2 (And.intro T3 (And.intro T4 (And.intro T22 (And.intro T25 (And.intro T28 (And.intro T41 (And.intro T57 (And.intro T58 (And.intro T77 (And.intro T92 (And.intro fS (And.intro np (And.intro iM (And.intro iN (And.intro nq jG)))))))))))))))
attribute [local irreducible] awp n9 k3 l8 o6 n5
variable {G : Nat → Option (List PV)}
theorem Y6 {h : Heap} {b lb : Nat} {ns : List Nd} {fl : List Fl} {S : List Int} {l : List Sp} (ok : GmOk h b lb S l) (m : Sp) (fr to : List Int) (hfr : InF fr) (hto : InF to) (L : Heap) :
    d5 Tryz.prog G 82 [.ptr b 0 0, aMv m, aI fr, aI to, .p .nilf] (l5 h b lb ns fl S l ++ L) (fun r h' => r = .undef ∧ h' = l5 h b lb ns fl S (l ++ stF S m (fun T => T) fr to) ++ L) := by
  have := ff (G := G) (ns := ns) (fl := fl) (ok.ext L) m fr to hfr hto
  rwa [M3 ok.hb ok.hl, M3 ok.hb ok.hl] at this
theorem W6 {h : Heap} {b lb : Nat} {ns : List Nd} {fl : List Fl} {S : List Int} {l : List Sp} (ok : GmOk h b lb S l) (m : Sp) (fr to : List Int) (hfr : InF fr) (hto : InF to) (L : Heap) {f : FuncId} (hE : g8 Tryz.prog f) {caps : List AV} (hcap : o4 (h.length + L.length) caps) {chg : List Int → List Int} (hlen : ∀ T : List Int, T.length = 49 → (chg T).length = 49)
    (hC : ∀ (A : Option Blk) (T : List Int), T.length = 49 → T.drop 40 = S.drop 40 → d5 Tryz.prog G f (.ptr (h.length + L.length + 1) 0 0 :: caps) (l5 h b lb ns fl S l ++ (L ++ [A, some ⟨0, T.map AV.i⟩])) (fun r h' => r = .undef ∧ h' = l5 h b lb ns fl S l ++ (L ++ [A, some ⟨0, (chg T).map AV.i⟩]))) :
    d5 Tryz.prog G 82 [.ptr b 0 0, aMv m, aI fr, aI to, .fn f caps] (l5 h b lb ns fl S l ++ L) (fun r h' => r = .undef ∧ h' = l5 h b lb ns fl S (l ++ stF S m chg fr to) ++ L) := by
  have := yG (G := G) (ns := ns) (fl := fl) (ok.ext L) m fr to hfr hto hE (caps := caps) (by rw [List.length_append]; exact hcap) (chg := chg) hlen (by
    intro A T hT hd
    have := hC A T hT hd
    rw [M3 ok.hb ok.hl, List.length_append, List.append_assoc, List.append_assoc]
    exact this)
  rwa [M3 ok.hb ok.hl, M3 ok.hb ok.hl] at this
theorem fh {h : Heap} {b lb : Nat} {ns : List Nd} {fl : List Fl} {S : List Int} {l : List Sp} (ok : GmOk h b lb S l) (i e : Int) :
    d5 Tryz.prog G 112 [.ptr b 0 0, .i i, .i e] (l5 h b lb ns fl S l) (fun r h' => r = .undef ∧ h' = l5 h b lb ns fl S (l ++ [v7 S i e])) := by
  have hb := ok.hb
  have hl := ok.hl
  have hne := ok.ne
  have hS := ok.held.1
  have hmax : l.length + 1 ≤ j7 := by have := ok.few; unfold j7; omega
  have gl := w8 (ns := ns) (fl := fl) (lb := lb) (n := l.length) hS
  have t49 := x6 (ns := ns) (fl := fl) (lb := lb) (n := l.length) hS
  have hzl : (zS.map AV.i).length = 49 := by rw [List.length_map]; rfl
  have hem : (zS.map AV.i).isEmpty = false := rfl
  have hso : w9 (zS.map AV.i) 0 (S.map AV.i) = S.map AV.i := l7 (n := 49) (by rw [List.length_map, hS]) _ hzl
  have hset := fun v => I3 S 48 v
  have hS2 : (S.set 48 2).length = 49 := by rw [List.length_set, hS]
  have htl := D3 hS2
  have htk : ((S.set 48 2).map AV.i).take 49 = (S.set 48 2).map AV.i := List.take_of_length_le (by rw [List.length_map, hS2]; exact Nat.le_refl _)
  have hx : (v7 S i e).to.length = 49 := hS2
  have hln : (cSp (v7 S i e)).length = 54 := E4 hx
  have heq : (AV.p (.int .i64 i) :: .p (.int .i64 0) :: .p (.int .i64 6) :: .p (.int .i64 i) :: .p (.int .i64 e) :: (S.set 48 2).map AV.i) = (cSp (v7 S i e)).map AV.i := rfl
  have hov2 := l7 (cs := (cSp (v7 S i e)).map AV.i) (n := 54) (by rw [List.length_map, hln])
  have hpv := Q5 (cSp (v7 S i e))
  have hti : ((cSp (v7 S i e)).map (PV.int .i64)).take 54 = (cSp (v7 S i e)).map (PV.int .i64) := List.take_of_length_le (by rw [List.length_map, hln]; exact Nat.le_refl _)
  have hmm := x9 (cSp (v7 S i e))
  have hsl := ah ok.len
  have hrf := aJ (ns := ns) (fl := fl) (lb := lb) (n := l.length) hS
  have hgs := eS (ns := ns) (fl := fl) (lb := lb) (n := l.length) (m := l.length + 1) hS
  have hgb := pQ (ns := ns) (fl := fl) (S := S) (l := l) hb hne
  have hfn : ∀ L : Heap, ((l5 h b lb ns fl S l ++ L).set lb (some ⟨l.length + 1, ga l ++ (cSp (v7 S i e)).map AV.i⟩)).set b (some ⟨0, gmC ns fl S lb (l.length + 1)⟩) = l5 h b lb ns fl S (l ++ [v7 S i e]) ++ L := fun L => by
    have := jU (ns := ns) (fl := fl) (S := S) (l := l) (l' := l ++ [v7 S i e]) hb hl hne L
    simpa only [spB, gmB, List.length_append, List.length_cons, List.length_nil, Nat.zero_add, bU] using this
  refine i3 (rl := []) e9 Tryz.func112 rfl (rs := []) rfl Tryz.ntmps112 (by simp) ?_
  repeat' (first | ((first | apply b8 | apply s4); (try simp only [NB])) | ((repeat ((fail_if_success (refine hK _ ?_)); clear hK K)); refine hK _ ?_; clear hK K) | ((first | refine b9 fun K1 q6 => ?_ | refine v8 rfl rfl rfl fun K1 q6 => ?_); simp only [S1, simprocAttr, qx, TSz, i6, h9, j3, hem, hso, t49, hset, hS, hS2, htl, htk, heq, hln, hov2, hpv, hti, hmm, hsl, hrf, hgs, hgb, hfn, hmax, d8, r4 hb hne, l9 hl, m6 hb hne, j8 hl, gmB, spB, gl, d7, d9, List.length_map, List.length_take, List.length_drop, i5, A3, v6, C1, z6, Nat.mul_one]; refine q6 _ ?_; clear q6 K1) | ((first | refine u6 (v := ?_) rfl rfl rfl rfl (by decide) (fun R1 K1 q6 => ?_) ?_ | refine y5 (v := ?_) rfl rfl rfl (by decide) (fun K1 q6 => ?_) ?_ | refine X4 (v := ?_) rfl rfl rfl (by decide) (fun K1 q6 => ?_) ?_); rotate_left; (focus (simp only [S1, simprocAttr, qx, TSz, i6, h9, j3, hem, hso, t49, hset, hS, hS2, htl, htk, heq, hln, hov2, hpv, hti, hmm, hsl, hrf, hgs, hgb, hfn, hmax, d8, r4 hb hne, l9 hl, m6 hb hne, j8 hl, gmB, spB, gl, d7, d9, List.length_map, List.length_take, List.length_drop, i5, A3, v6, C1, z6, Nat.mul_one]; (exact q6 _ _ _)))) | (refine s5 rfl rfl rfl ?_) | refine b6 fun K hK => ?_ | (refine o9 (es := []) [0, 1, 2, 3, 4, 5, 6, 7, 8, 9, 10, 11, 12, 13, 14, 15, 16] 0 (fs := []) rfl (by kernel_rfl) (by kernel_rfl) ?_) | (apply b5; try simp only [NB, simprocAttr]))
  all_goals simp only [S1, simprocAttr, ENB, A0, y7, i5, m5, k8] <;> first | exact d6 hl | exact ⟨d6 hl, rfl⟩ | exact ⟨d6 hl, rfl, rfl⟩
theorem uR {h : Heap} {b lb : Nat} {ns : List Nd} {fl : List Fl} {S : List Int} {l : List Sp} (ok : GmOk h b lb S l) (i e : Int) (L : Heap) :
    d5 Tryz.prog G 112 [.ptr b 0 0, .i i, .i e] (l5 h b lb ns fl S l ++ L) (fun r h' => r = .undef ∧ h' = l5 h b lb ns fl S (l ++ [v7 S i e]) ++ L) := by
  have := fh (G := G) (ns := ns) (fl := fl) (ok.ext L) i e
  rwa [M3 ok.hb ok.hl, M3 ok.hb ok.hl] at this
theorem fi {h : Heap} {b lb : Nat} {ns : List Nd} {fl : List Fl} {S : List Int} {l : List Sp} (ok : GmOk h b lb S l) (st : StOk S) (m : Sp) (c : Nat) {k : Nd} (hc : ns[c]? = some k) (ha : 0 ≤ k.a ∧ k.a ≤ 4) (fr : List Int) (hfr : InF fr) (to : List Int) (hto : InF to) (he : to = i7 fl c) :
    d5 Tryz.prog G 115 [.ptr b 0 0, aMv m, .i c, aI fr, aI to] (l5 h b lb ns fl S l) (fun r h' => r = .undef ∧ h' = l5 h b lb ns fl S (l ++ r5 ns fl S m.node m.arg c fr)) := by
  have hb := ok.hb
  have hl := ok.hl
  have hne := ok.ne
  have hS := ok.held.1
  have gl := w8 (ns := ns) (fl := fl) (lb := lb) (n := l.length) hS
  have c0 : (0 : Int) ≤ (c : Int) := by omega
  have hc' := I2 hc
  have en : ndA ns c = k.a := by unfold ndA; rw [Int.toNat_natCast, hc]
  by_cases h4 : k.a = 4
  · have eg : r5 ns fl S m.node m.arg c fr = m8 S ⟨m.node, m.arg, 4, c, 0, S⟩ fr to := by unfold r5; rw [en, if_neg (by omega), he]
    have es := H7 hS (m := ⟨m.node, m.arg, 4, c, 0, S⟩) (Chg.id hS) hfr hto
    have e4 : (k.a == 4) = true := by simp [h4]
    rw [eg, ← es]
    refine i3 (rl := []) e9 Tryz.func115 rfl (rs := []) rfl Tryz.ntmps115 (by simp) ?_
    repeat' (first | ((repeat ((fail_if_success (refine hK _ ?_)); clear hK K)); refine hK _ ?_; clear hK K) | ((first | refine b9 fun K1 q6 => ?_ | refine b7 fun A B hA hB => ?_); simp only [S1, simprocAttr, qx, c0, hc', j6, e4, eN, PGB, r4 hb hne, l9 hl, m6 hb hne, j8 hl, gmB, spB, gl]; first | refine q6 _ ?_; clear q6 K1 | (refine hA ?_; clear hA hB A B) | (apply d4 E82; exact (Y6 ok ⟨m.node, m.arg, 4, c, 0, S⟩ fr to hfr hto _); refine q6 _ ?_; clear q6 K1)) | refine b6 fun K hK => ?_ | ((first | apply b8 | apply b5 | apply d3); try simp only [NB, simprocAttr]))
    all_goals simp only [S1, simprocAttr, ENB, A0, y7, i5, m5, k8] <;> first | exact d6 hl | exact ⟨d6 hl, rfl⟩ | exact ⟨d6 hl, rfl, rfl⟩
  · obtain ⟨a, hka⟩ := Int.eq_ofNat_of_zero_le ha.1
    have a4 : a < 4 := by omega
    have a0 : (0 : Int) ≤ (a : Int) := by omega
    have a4' : (a : Int) < 4 := by omega
    have e4 : ((a : Int) == 4) = false := by simp; omega
    obtain ⟨hq, q0, q3⟩ := st.q a4
    have gq := zg (ns := ns) (fl := fl) (lb := lb) (n := l.length) hq
    have e2 : qAt S k.a = qAt S a := by rw [hka]
    generalize hqv : qAt S (a : Int) = q at *
    by_cases hz : q = 0
    · have eg : r5 ns fl S m.node m.arg c fr = [] := by unfold r5; rw [en, if_pos (by omega), e2, if_pos hz]
      have hz' : decide (0 < q) = false := decide_eq_false (by omega)
      rw [eg, List.append_nil]
      refine i3 (rl := []) e9 Tryz.func115 rfl (rs := []) rfl Tryz.ntmps115 (by simp) ?_
      repeat' (first | ((repeat ((fail_if_success (refine hK _ ?_)); clear hK K)); refine hK _ ?_; clear hK K) | ((first | refine b9 fun K1 q6 => ?_ | refine k4 fun K1 q6 => ?_ | refine b7 fun A B hA hB => ?_); simp only [S1, simprocAttr, qx, TSz, i6, c0, hc', j6, hka, e4, a0, a4', gq, hz', eN, PGB, r4 hb hne, l9 hl, m6 hb hne, j8 hl, gmB, spB, gl]; first | refine q6 _ ?_; clear q6 K1 | (refine hB ?_; clear hA hB A B)) | refine b6 fun K hK => ?_ | ((first | apply b8 | apply i8 | apply b5 | refine i9 ?_ | apply c9); try simp only [NB, simprocAttr]))
      all_goals simp only [S1, simprocAttr, ENB, A0, y7, i5, m5, k8] <;> first | exact d6 hl | exact ⟨d6 hl, rfl⟩ | exact ⟨d6 hl, rfl, rfl⟩
    · have eg : r5 ns fl S m.node m.arg c fr = m8 S ⟨m.node, m.arg, 3, c, 0, S.set (44 + a) (q - 1)⟩ fr to := by
        unfold r5; rw [en, if_pos (by omega), e2, if_neg hz, hka, Int.toNat_natCast, he]
      have hz' : decide (0 < q) = true := decide_eq_true (by omega)
      have es := H7 hS (m := ⟨m.node, m.arg, 3, c, 0, S⟩) (Chg.set hS (k := 44 + a) (by omega) (q - 1)) hfr hto
      simp only at es
      rw [eg, ← es]
      have hCl : ∀ (X : Option Blk) (A : Option Blk) (T : List Int), T.length = 49 → T.drop 40 = S.drop 40 → d5 Tryz.prog G 142 [.ptr (h.length + 2 + 1) 0 0, .ptr (h.length + 1) 0 0] (l5 h b lb ns fl S l ++ ([X, some ⟨0, [.i a]⟩] ++ [A, some ⟨0, T.map AV.i⟩])) (fun r h' => r = .undef ∧ h' = l5 h b lb ns fl S l ++ ([X, some ⟨0, [.i a]⟩] ++ [A, some ⟨0, (T.set (44 + a) (q - 1)).map AV.i⟩])) := by
        intro X A T hT hd
        have hqT : T[44 + a]? = some q := by
          have e : (T.drop 40)[4 + a]? = (S.drop 40)[4 + a]? := by rw [hd]
          rw [List.getElem?_drop, List.getElem?_drop, show 40 + (4 + a) = 44 + a by omega] at e
          rw [e, hq]
        have := ss (G := G) (H := l5 h b lb ns fl S l ++ ([X, some ⟨0, [.i a]⟩] ++ [A, some ⟨0, T.map AV.i⟩])) (c := h.length + 2 + 1) (r := h.length + 1) (gc := 0) (gr := 0) (by rw [show h.length + 2 + 1 = h.length + 3 by omega, v6]; rfl) hT a4 (by rw [v6]; rfl) hqT ⟨q0, q3⟩
        rw [show h.length + 2 + 1 = h.length + 3 by omega] at this ⊢
        rw [z6] at this
        exact this
      have hst := fun X => W6 (G := G) (ns := ns) (fl := fl) ok ⟨m.node, m.arg, 3, c, 0, S⟩ fr to hfr hto [X, some ⟨0, [.i a]⟩] Bt (caps := [.ptr (h.length + 1) 0 0]) ⟨by simp [s7], trivial⟩ (fun T hT => by rw [List.length_set, hT]) (hCl X)
      refine i3 (rl := []) e9 Tryz.func115 rfl (rs := []) rfl Tryz.ntmps115 (by simp) ?_
      repeat' (first | ((repeat ((fail_if_success (refine hK _ ?_)); clear hK K)); refine hK _ ?_; clear hK K) | ((first | refine b9 fun K1 q6 => ?_ | refine k4 fun K1 q6 => ?_ | refine b7 fun A B hA hB => ?_); simp only [S1, simprocAttr, qx, TSz, i6, c0, hc', j6, hka, e4, a0, a4', gq, hz', eN, PGB, r4 hb hne, l9 hl, m6 hb hne, j8 hl, gmB, spB, gl]; first | refine q6 _ ?_; clear q6 K1 | ((first | refine hA ?_ | refine hB ?_); clear hA hB A B) | (apply d4 E82; exact (hst _); refine q6 _ ?_; clear q6 K1)) | refine b6 fun K hK => ?_ | ((first | apply b8 | apply i8 | apply b5 | refine i9 ?_ | apply c9); try simp only [NB, simprocAttr]))
      all_goals simp only [S1, simprocAttr, ENB, A0, y7, i5, m5, k8] <;> first | exact d6 hl | exact ⟨d6 hl, rfl⟩ | exact ⟨d6 hl, rfl, rfl⟩
end
section
def Y7 := And.intro T2 (And.intro T3 (And.intro T4 (And.intro T22 (And.intro T23 (And.intro T25 (And.intro T28 (And.intro T41 (And.intro T57 (And.intro T58 (And.intro T77 (And.intro T92 (And.intro T96 (And.intro fS (And.intro iM (And.intro iN (And.intro nq jG))))))))))))))))
attribute [local irreducible] awp n9 k3 l8 o6 n5
variable {G : Nat → Option (List PV)}
theorem lr (S : List Int) (hS : S.length = 49) (h : Heap) : d5 Tryz.prog G 116 [aS S] h (fun r h' => r = .i (bx (S.take 40)) ∧ h' = h) := by
  have hne := K6 hS
  have t40 : ((S.map AV.i).take 40) = (S.take 40).map AV.i := by rw [List.map_take]
  have l40 : (S.take 40).length = 40 := by rw [List.length_take]; omega
  refine c8 (rl := []) e9 Tryz.func116 rfl (rs := [.tmp 2]) rfl Tryz.ntmps116 (by simp) ?_
  repeat' (first | ((repeat ((fail_if_success (refine hK _ ?_)); clear hK K)); refine hK _ ?_; clear hK K) | (refine b9 fun K1 q6 => ?_; simp only [S1, simprocAttr, Y7, TSz, i6, h9, j3, List.length_map, hS, hne, t40, d8, d7, d9, List.drop_zero]; refine q6 _ ?_; clear q6 K1) | refine b6 fun K hK => ?_ | ((first | apply b8 | apply b5 | apply c7); try simp only [NB, simprocAttr]))
  refine p8 40 16 (fun i => [(8, .i i), (7, .agg ((S.take 40).map AV.i)), (3, .i (bx (S.take i)))]) (fun i => []) (fun i => True) ?_ trivial fun i hi hp K hK => ?_
  · refine ⟨rfl, ⟨[some ⟨0, S.map AV.i⟩], rfl⟩, ?_, trivial⟩
    simp only [List.take_zero, bx, List.foldl_nil]
    simp only [K4, s7, o4, B9, frL, G5, S1, simprocAttr, Y7, List.length_map, Int.natCast_zero, AV.p.injEq, PV.int.injEq, PV.bool.injEq, PV.sl.injEq] <;> (try and_intros) <;> (try assumption) <;> (try trivial) <;> (try omega)
    all_goals exact g9 _ _
  rcases Nat.lt_or_ge i 40 with hlt | hge
  · obtain ⟨x, hx⟩ : ∃ x, S[i]? = some x := ⟨_, List.getElem?_eq_getElem (by omega)⟩
    have i0 : (0 : Int) ≤ (i : Int) := by omega
    have i40 : (i : Int) < 40 := by omega
    have hst := mc hx
    have hxt : (S.take 40)[i]? = some x := by rw [List.getElem?_take_of_lt hlt]; exact hx
    repeat' (first | ((repeat ((fail_if_success (refine hK _ ?_)); clear hK K)); refine hK _ ?_; clear hK K) | ((first | refine b9 fun K1 q6 => ?_ | refine b7 fun A B hA hB => ?_); simp only [S1, simprocAttr, Y7, cX hlt rfl, Q4 (n := 40) (by omega) hlt, i0, i40, N2 hxt, l40, List.length_map, Nat.mul_one]; first | refine q6 _ ?_; clear q6 K1 | (refine hA ?_; clear hA hB A B)) | refine b6 fun K hK => ?_ | ((first | apply b8 | apply b5 | apply c7 | apply c9); try simp only [NB, simprocAttr]))
    all_goals refine ⟨hlt, trivial, ?_⟩
    all_goals simp only [hst]
    all_goals refine ⟨rfl, ⟨[], by simp only [List.append_nil]⟩, ?_, trivial⟩
    all_goals simp only [K4, s7, o4, B9, frL, G5, S1, simprocAttr, Y7, List.length_map, Int.natCast_zero, AV.p.injEq, PV.int.injEq, PV.bool.injEq, PV.sl.injEq] <;> (try and_intros) <;> (try assumption) <;> (try trivial) <;> (try omega)
    all_goals exact g9 _ _
  · obtain rfl : i = 40 := by omega
    repeat' (first | ((repeat ((fail_if_success (refine hK _ ?_)); clear hK K)); refine hK _ ?_; clear hK K) | ((first | refine b9 fun K1 q6 => ?_ | refine b7 fun A B hA hB => ?_); simp only [S1, simprocAttr, Y7]; first | refine q6 _ ?_; clear q6 K1 | (refine hB ?_; clear hA hB A B)) | refine b6 fun K hK => ?_ | ((first | apply b8 | apply b5 | apply f9 | apply d3); try simp only [NB, simprocAttr]))
    all_goals simp only [S1, simprocAttr, ENB, Y7]
theorem oe (k : Nd) (m : Int) (H : Heap) {r g : Nat} (hr : H[r]? = some (some ⟨g, [.i m]⟩)) : d5 Tryz.prog G 119 [aNd k, .ptr r g 0] H (fun q h' => q = .b (k.kind == 8 && k.a == m) ∧ h' = H) := by
  have hrL := F4 hr
  cases e : (k.kind == 8) with
  | false =>
    refine c8 (rl := []) e9 Tryz.func119 rfl (rs := [.tmp 3]) rfl Tryz.ntmps119 (by simp) ?_
    repeat' (first | ((repeat ((fail_if_success (refine hK _ ?_)); clear hK K)); refine hK _ ?_; clear hK K) | (refine b9 fun K1 q6 => ?_; simp only [S1, simprocAttr, Y7, hr, hrL, e]; refine q6 _ ?_; clear q6 K1) | refine b6 fun K hK => ?_ | ((first | apply b8 | apply b5 | apply d3); try simp only [NB, simprocAttr]))
    all_goals simp only [S1, simprocAttr, ENB, Y7]
    all_goals rfl
  | true =>
    refine c8 (rl := []) e9 Tryz.func119 rfl (rs := [.tmp 3]) rfl Tryz.ntmps119 (by simp) ?_
    repeat' (first | ((repeat ((fail_if_success (refine hK _ ?_)); clear hK K)); refine hK _ ?_; clear hK K) | (refine b9 fun K1 q6 => ?_; simp only [S1, simprocAttr, Y7, hr, hrL, e]; refine q6 _ ?_; clear q6 K1) | refine b6 fun K hK => ?_ | ((first | apply b8 | apply b5 | apply d3); try simp only [NB, simprocAttr]))
    all_goals simp only [S1, simprocAttr, ENB, Y7]
    all_goals rfl
theorem mu {α : Type} (p : α → Bool) : ∀ (l : List α) (i : Nat), decide (0 ≤ I6 p l i) = l.any p
  | [], i => rfl
  | k :: r, i => by
    unfold I6
    cases h : p k with
    | true => simp [h]
    | false => simp [h, mu p r (i + 1)]
theorem iQ {f : FuncId} (hE : g8 Tryz.prog f) {caps : List AV} {p : Nd → Bool} (ks : List Nd) (hl : ks.length ≤ 100) (h : Heap) (hcap : o4 h.length caps)
    (hc : ∀ k ∈ ks, d5 Tryz.prog G f (aNd k :: caps) h (fun r h' => r = .b (p k) ∧ h' = h)) :
    d5 Tryz.prog G 118 [.p (.sl (ks.map eN)), .fn f caps] h (fun r h' => r = .b (ks.any p) ∧ h' = h) := by
  rw [← mu p ks 0]
  refine c8 (rl := []) e9 Tryz.func118 rfl (rs := [.tmp 4]) rfl Tryz.ntmps118 (by simp) ?_
  repeat' (first | ((repeat ((fail_if_success (refine hK _ ?_)); clear hK K)); refine hK _ ?_; clear hK K) | (refine b9 fun K1 q6 => ?_; simp only [S1, simprocAttr, Y7]; first | refine q6 _ ?_; clear q6 K1 | (apply d4 E78; exact (aA hE ks hl _ hcap hc); refine q6 _ ?_; clear q6 K1)) | refine b6 fun K hK => ?_ | ((first | apply b8 | apply b5 | apply d3); try simp only [NB, simprocAttr]))
  simp only [S1, simprocAttr, ENB, Y7]
theorem og (ns : List Nd) (fl : List Fl) (hl : ns.length ≤ 100) (m : Nat) (hm : m < 4) (h : Heap) : d5 Tryz.prog G 81 [G7 ns fl, .i m] h (fun r h' => r = .b (cE ns m) ∧ h' = h) := by
  have m0 : decide ((0 : Int) ≤ (m : Int)) = true := by simp
  have m4 : decide ((m : Int) < 4) = true := by simp; omega
  have hA : ∀ A : Option Blk, ∀ k ∈ ns, d5 Tryz.prog G 119 [aNd k, .ptr (h.length + 1) 0 0] (h ++ [A, some ⟨0, [.i m]⟩]) (fun q h' => q = .b (k.kind == 8 && k.a == m) ∧ h' = h ++ [A, some ⟨0, [.i m]⟩]) :=
    fun A k _ => oe k m _ (by rw [n8]; rfl)
  have hcn := fun A : Option Blk => iQ (G := G) Bn (caps := [.ptr (h.length + 1) 0 0]) (p := fun k => k.kind == 8 && k.a == m) ns hl (h ++ [A, some ⟨0, [.i m]⟩]) ⟨by simp [s7], trivial⟩ (hA A)
  have ea : (ns.any fun k => k.kind == 8 && k.a == m) = cE ns m := rfl
  rw [← ea]
  refine c8 (rl := []) e9 Tryz.func81 rfl (rs := [.tmp 4]) rfl Tryz.ntmps81 (by simp) ?_
  repeat' (first | ((repeat ((fail_if_success (refine hK _ ?_)); clear hK K)); refine hK _ ?_; clear hK K) | (refine b9 fun K1 q6 => ?_; simp only [S1, simprocAttr, Y7, m0, m4, List.length_map]; first | refine q6 _ ?_; clear q6 K1 | (apply d4 Bm; exact (hcn _); refine q6 _ ?_; clear q6 K1)) | refine b6 fun K hK => ?_ | ((first | apply b8 | apply b5 | apply d3); try simp only [NB, simprocAttr]))
  all_goals simp only [S1, simprocAttr, ENB, Y7]
end
section
def fj := And.intro T2 (And.intro T3 (And.intro T4 (And.intro T22 (And.intro T23 (And.intro T25 (And.intro T28 (And.intro T31 (And.intro T41 (And.intro T57 (And.intro T58 (And.intro T75 (And.intro T77 (And.intro T80 (And.intro T92 (And.intro fS (And.intro iM (And.intro iN jG)))))))))))))))))
attribute [local irreducible] awp n9 k3 l8 o6 n5
theorem D4 {P : Program} {G : Nat → Option (List PV)} {rl : List String} {h0 : Heap} {id : Nat} {ops : Array Oper} {Q : Exit → St → Prop} {fr : Nat → Option AV} {nt : Nat} {hp : Heap} (ord : List Nat) (hl : ord.length = ops.size) (hn : ops.toList.all (fun o => !r6 o) = true) (hr : (zsB P ops).length = 0) {fs : List Nat} (hB : js [] .any ops fs ord (Array.replicate ops.size false) = true)
    (h : o6 P G rl [] ops fs hp.length 0 (Q .normal) ord ⟨fr, nt, hp ++ List.replicate 0 (some ⟨0, []⟩)⟩) : awp P G rl h0 (.region id ops true) Q ⟨fr, nt, hp⟩ := o9 ord 0 hl hr hB h
def iw (fl : List Fl) (l : List Int) : Int := ((l.filter (B1 fl)).getLast?).getD (-1)
theorem sv {fl : List Fl} {l : List Int} {j : Nat} {f : Int} (h : l[j]? = some f) : iw fl (l.take (j + 1)) = if B1 fl f = true then f else iw fl (l.take j) := by
  unfold iw
  rw [List.take_add_one, h, List.filter_append]
  cases he : B1 fl f with
  | true => simp [he]
  | false => simp [he]
theorem mv {fl : List Fl} : ∀ {l : List Int}, l.countP (B1 fl) = 1 → iw fl l = chE fl l
  | [], h => by simp at h
  | f :: r, h => by
    unfold chE
    by_cases he : B1 fl f = true
    · rw [if_pos he]
      have h0 : r.countP (B1 fl) = 0 := by rw [List.countP_cons_of_pos he] at h; omega
      have h1 : r.filter (B1 fl) = [] := by
        rw [← List.length_eq_zero_iff, ← List.countP_eq_length_filter]; exact h0
      unfold iw
      rw [List.filter_cons_of_pos he, h1]; rfl
    · rw [if_neg he]
      rw [List.countP_cons_of_neg he] at h
      rw [← mv h]
      unfold iw
      rw [List.filter_cons_of_neg he]
theorem Right.els1 {ns : List Nd} {fl : List Fl} (h : Right ns fl) {i : Nat} {k : Nd} (hc : ns[i]? = some k) (h5 : k.kind = 5) (hn : (i7 fl i).length ≠ 1) : (i7 fl i).countP (B1 fl) = 1 := by
  have hi := (List.getElem?_eq_some_iff.mp hc).1
  have := h.three hi
  unfold E1 at this
  simp only [O3 hc, h5] at this
  simp only [Int.reduceEq, reduceIte, Bool.or_eq_true, Bool.and_eq_true, beq_iff_eq, decide_eq_true_eq] at this
  rcases this with h | h
  · have h2 := h.2
    unfold aG at h2
    rwa [List.take_length] at h2
  · exact absurd h.2 hn
theorem al {ns : List Nd} {fl : List Fl} {S : List Int} {lb n e bt : Nat} {z : Option (List PV)} : P3 ⟨.slice e, 1, bt, z⟩ ((gmC ns fl S lb n).drop 1) = some (.p (.sl (fl.map eF))) := rfl
theorem sw {h : Heap} {b lb : Nat} {ns : List Nd} {fl : List Fl} (nk : NetOk ns fl) {S : List Int} {l : List Sp} (ok : GmOk h b lb S l) (st : StOk S) (few : l.length ≤ 900000) (i : Int) (ins outs : List Int) (hi : InF ins) (ho : InF outs) (hof : ∀ x ∈ outs, ∃ i : Nat, x = (i : Int) ∧ i < fl.length)
    (hz : outs.length ≠ 1 → tk S (ins.headD 0) ≠ 0) (hels : outs.length ≠ 1 → outs.countP (B1 fl) = 1) :
    d5 Tryz.prog gW 114 [.ptr b 0 0, .i i, aI ins, aI outs] (l5 h b lb ns fl S l) (fun r h' => r = .undef ∧ h' = l5 h b lb ns fl S (l ++ O6 fl S i ins outs)) := by
  have hb := ok.hb
  have hl := ok.hl
  have hne := ok.ne
  have hS := ok.held.1
  have gl := w8 (ns := ns) (fl := fl) (lb := lb) (n := l.length) hS
  have gv := F2 (ns := ns) (fl := fl) (lb := lb) (n := l.length) hS
  obtain ⟨m2, hm2, ht2⟩ := nk.tf
  by_cases h1 : outs.length = 1
  · have h1' : ((outs.length : Int) == 1) = true := by simp [h1]
    let acc := fun j => (ins.take j).flatMap fun f => m8 S ⟨i, f, 0, 0, 0, S⟩ [f] outs
    have hal : ∀ j, (acc j).length ≤ j := by
      intro j
      induction j with
      | zero => simp [acc]
      | succ j ih =>
        rcases Nat.lt_or_ge j ins.length with hj | hj
        · have e : ins.take (j + 1) = ins.take j ++ [ins[j]] := by rw [List.take_add_one, List.getElem?_eq_getElem hj]; rfl
          simp only [acc] at ih ⊢
          rw [e, List.flatMap_append, List.length_append]
          have := B6 S ⟨i, ins[j], 0, 0, 0, S⟩ [ins[j]] outs
          simp only [List.flatMap_cons, List.flatMap_nil, List.append_nil]
          omega
        · have e : ins.take (j + 1) = ins.take j := by rw [List.take_of_length_le (by omega), List.take_of_length_le hj]
          simp only [acc] at ih ⊢
          rw [e]; omega
    have hto : ∀ j, ∀ y ∈ acc j, y.to.length = 49 := by
      intro j y hy
      obtain ⟨f, _, hy⟩ := List.mem_flatMap.mp hy
      exact y9 hS hS y hy
    have eg : O6 fl S i ins outs = acc ins.length := by unfold O6; rw [if_pos h1]; simp only [acc, List.take_length]
    rw [eg]
    have hil := hi.1
    refine i3 (rl := []) e9 Tryz.func114 rfl (rs := []) rfl Tryz.ntmps114 (by simp) ?_
    repeat' (first | ((repeat ((fail_if_success (refine hK _ ?_)); clear hK K)); refine hK _ ?_; clear hK K) | ((first | refine b9 fun K1 q6 => ?_ | refine b7 fun A B hA hB => ?_); simp only [S1, simprocAttr, fj, h1', TSz, i6, h9, j3, PGB, r4 hb hne, l9 hl, m6 hb hne, j8 hl, gmB, spB, gl]; first | refine q6 _ ?_; clear q6 K1 | (refine hA ?_; clear hA hB A B)) | refine b6 fun K hK => ?_ | ((first | apply b8 | apply b5 | apply c7); try simp only [NB, simprocAttr]))
    refine R5 ins.length 84 (fun j => l5 h b lb ns fl S (l ++ acc j)) (fun j => [(20, .i j), (19, .i ins.length), (18, aI ins), (3, aI outs), (1, .i i), (0, .ptr b 0 0)]) (fun j => []) (fun j => True) (fun j => ⟨by rw [i5, i5], aK hl⟩) ?_ trivial fun j hj hp K hK => ?_
    · have e0 : acc 0 = [] := by simp [acc]
      simp only [e0, List.append_nil]
      refine ⟨rfl, ⟨[], by simp only [List.append_nil]⟩, ?_, trivial⟩
      simp only [S1, simprocAttr, KNB, i5] <;> (try and_intros) <;> (try assumption) <;> (try trivial) <;> (try omega)
    have okj : GmOk h b lb S (l ++ acc j) := ok.app (hto j) (by have := hal j; omega)
    rcases Nat.lt_or_ge j ins.length with hlt | hge
    · obtain ⟨f, hfj⟩ : ∃ f, ins[j]? = some f := ⟨_, List.getElem?_eq_getElem hlt⟩
      have hf1 : InF [f] := ⟨by simp, fun g hg => by rw [List.mem_singleton.mp hg]; exact hi.2 f (List.mem_of_getElem? hfj)⟩
      have es := H7 hS (m := ⟨i, f, 0, 0, 0, S⟩) (Chg.id hS) hf1 ho
      have ea : acc (j + 1) = acc j ++ m8 S ⟨i, f, 0, 0, 0, S⟩ [f] outs := by
        simp only [acc]
        rw [List.take_add_one, hfj, List.flatMap_append]; simp
      have ea' : l ++ acc (j + 1) = (l ++ acc j) ++ stF S ⟨i, f, 0, 0, 0, S⟩ (fun T => T) [f] outs := by rw [ea, List.append_assoc, es]
      generalize hlj : l ++ acc j = lj at ea' okj ⊢
      repeat' (first | ((repeat ((fail_if_success (refine hK _ ?_)); clear hK K)); refine hK _ ?_; clear hK K) | ((first | refine b9 fun K1 q6 => ?_ | refine b7 fun A B hA hB => ?_); simp only [S1, simprocAttr, fj, F5 hfj, O1 hlt, H3 (by omega) hlt, TSz, i6, h9, j3, PGB, r4 hb hne, l9 hl, m6 hb hne, j8 hl, gmB, spB, gl]; first | refine q6 _ ?_; clear q6 K1 | (refine hA ?_; clear hA hB A B) | (apply d4 E82; exact (ff okj ⟨i, f, 0, 0, 0, S⟩ [f] outs hf1 ho); refine q6 _ ?_; clear q6 K1)) | refine b6 fun K hK => ?_ | ((first | apply b8 | apply b5 | apply c7 | apply c9); try simp only [NB, simprocAttr]))
      all_goals refine ⟨hlt, trivial, ?_⟩
      all_goals simp only [ea']
      all_goals refine ⟨rfl, ⟨[], by simp only [List.append_nil]⟩, ?_, trivial⟩
      all_goals simp only [S1, simprocAttr, KNB, i5] <;> (try and_intros) <;> (try assumption) <;> (try trivial) <;> (try omega)
    · obtain rfl : j = ins.length := by omega
      repeat' (first | ((repeat ((fail_if_success (refine hK _ ?_)); clear hK K)); refine hK _ ?_; clear hK K) | ((first | refine b9 fun K1 q6 => ?_ | refine b7 fun A B hA hB => ?_); simp only [S1, simprocAttr, fj, I1]; first | refine q6 _ ?_; clear q6 K1 | (refine hB ?_; clear hA hB A B)) | refine b6 fun K hK => ?_ | ((first | apply b8 | apply b5 | apply f9 | apply d3); try simp only [NB, simprocAttr]))
      all_goals simp only [S1, simprocAttr, ENB, A0, y7, i5, m5, k8] <;> first | exact d6 hl | exact ⟨d6 hl, rfl⟩ | exact ⟨d6 hl, rfl, rfl⟩
  have h1' : ((outs.length : Int) == 1) = false := by simp; omega
  have hol := ho.1
  have hels := hels h1
  have hz := hz h1
  refine i3 (rl := []) e9 Tryz.func114 rfl (rs := []) rfl Tryz.ntmps114 (by simp) ?_
  repeat' (first | ((repeat ((fail_if_success (refine hK _ ?_)); clear hK K)); refine hK _ ?_; clear hK K) | ((first | refine b9 fun K1 q6 => ?_ | refine b7 fun A B hA hB => ?_); simp only [S1, simprocAttr, fj, h1', TSz, i6, h9, j3, PGB, r4 hb hne, l9 hl, m6 hb hne, j8 hl, gmB, spB, gl]; first | refine q6 _ ?_; clear q6 K1 | (refine hB ?_; clear hA hB A B)) | refine b6 fun K hK => ?_ | ((first | apply b8 | apply b5 | apply c7 | apply c9); try simp only [NB, simprocAttr]))
  refine p8 outs.length 84 (fun j => [(35, .i j), (34, .i outs.length), (33, aI outs), (10, .i (iw fl (outs.take j))), (2, aI ins), (1, .i i), (0, .ptr b 0 0)]) (fun j => []) (fun j => chF fl (vS S) outs = chF fl (vS S) (outs.drop j)) ?_ rfl fun j hj hp K hK => ?_
  · refine ⟨rfl, ⟨[], by simp only [List.append_nil]⟩, ?_, trivial⟩
    have e0 : iw fl (outs.take 0) = -1 := rfl
    simp only [e0]
    simp only [S1, simprocAttr, KNB, i5] <;> (try and_intros) <;> (try assumption) <;> (try trivial) <;> (try omega)
  rcases Nat.lt_or_ge j outs.length with hlt | hge
  · obtain ⟨f, hf⟩ : ∃ f, outs[j]? = some f := ⟨_, List.getElem?_eq_getElem hlt⟩
    obtain ⟨q, rfl, hq⟩ := hof f (List.mem_of_getElem? hf)
    obtain ⟨x, hx⟩ : ∃ x, fl[q]? = some x := ⟨_, List.getElem?_eq_getElem hq⟩
    have hx' := U6 hx
    have q0 : (0 : Int) ≤ (q : Int) := by omega
    have ht := fun h => qb (ht2 x (List.mem_of_getElem? hx)) (vS S) nZ h
    have hee : B1 fl (q : Int) = x.els := by unfold B1; rw [Int.toNat_natCast, hx]
    have hls := sv (fl := fl) hf
    rw [hee] at hls
    rw [qc hf, Int.toNat_natCast, hx] at hp
    simp only at hp
    cases he : x.els with
    | true =>
      rw [he, if_pos rfl] at hp hls
      repeat' (first | ((repeat ((fail_if_success (refine hK _ ?_)); clear hK K)); refine hK _ ?_; clear hK K) | ((first | refine b9 fun K1 q6 => ?_ | refine b7 fun A B hA hB => ?_); simp only [S1, simprocAttr, fj, F5 hf, O1 hlt, H3 (by omega) hlt, q0, hx', eF, he, al, mb, TSz, i6, h9, j3, PGB, r4 hb hne, l9 hl, m6 hb hne, j8 hl, gmB, spB, gl]; first | refine q6 _ ?_; clear q6 K1 | (refine hA ?_; clear hA hB A B)) | refine b6 fun K hK => ?_ | ((first | apply b8 | apply b5 | apply c7 | apply f9 | apply c9); try simp only [NB, simprocAttr]))
      all_goals refine ⟨hlt, hp, ?_⟩
      all_goals simp only [hls]
      all_goals refine ⟨rfl, ⟨[], by simp only [List.append_nil]⟩, ?_, trivial⟩
      all_goals simp only [S1, simprocAttr, KNB, i5] <;> (try and_intros) <;> (try assumption) <;> (try trivial) <;> (try omega)
    | false =>
      rw [he, if_neg (by decide)] at hp hls
      by_cases h0 : (P1 x.cond (vS S)).2 = 0
      · have h0' : ((P1 x.cond (vS S)).2 != 0) = false := by simp [h0]
        rw [if_neg (by simpa using h0)] at hp
        cases hb2 : (P1 x.cond (vS S)).1 with
        | true =>
          rw [hb2, if_pos rfl] at hp
          have ec : r8 fl (vS S) outs = ((q : Int), 0) := by unfold r8; rw [hp]; rfl
          have hf1 : InF [(q : Int)] := ⟨by simp, fun g hg => by rw [List.mem_singleton.mp hg]; exact ho.2 _ (List.mem_of_getElem? hf)⟩
          have es := H7 hS (m := ⟨i, q, 0, 0, 0, S⟩) (Chg.id hS) hi hf1
          have eg : O6 fl S i ins outs = stF S ⟨i, q, 0, 0, 0, S⟩ (fun T => T) ins [(q : Int)] := by
            unfold O6; rw [if_neg h1, if_neg hz, ec, if_neg (by simp), es]
          repeat' (first | ((repeat ((fail_if_success (refine hK _ ?_)); clear hK K)); refine hK _ ?_; clear hK K) | ((first | refine b9 fun K1 q6 => ?_ | refine k4 fun K1 q6 => ?_ | refine b7 fun A B hA hB => ?_); simp only [S1, simprocAttr, fj, F5 hf, O1 hlt, H3 (by omega) hlt, q0, hx', eF, he, h0', hb2, gv, al, mb, TSz, i6, h9, j3, PGB, r4 hb hne, l9 hl, m6 hb hne, j8 hl, gmB, spB, gl]; first | refine q6 _ ?_; clear q6 K1 | ((first | refine hA ?_ | refine hB ?_); clear hA hB A B) | (apply j5 zy; exact (ht _); refine q6 _ ?_; clear q6 K1) | (apply d4 E82; exact (ff ok ⟨i, q, 0, 0, 0, S⟩ ins [(q : Int)] hi hf1); refine q6 _ ?_; clear q6 K1)) | refine b6 fun K hK => ?_ | ((first | apply b8 | apply i8 | apply b5 | refine i9 ?_ | apply c7 | apply f9 | apply c9); try simp only [NB, simprocAttr]))
          all_goals rw [eg]
          all_goals simp only [S1, simprocAttr, ENB, A0, y7, i5, m5, k8] <;> first | exact d6 hl | exact ⟨d6 hl, rfl⟩ | exact ⟨d6 hl, rfl, rfl⟩
        | false =>
          rw [hb2, if_neg (by decide)] at hp
          repeat' (first | ((repeat ((fail_if_success (refine hK _ ?_)); clear hK K)); refine hK _ ?_; clear hK K) | ((first | refine b9 fun K1 q6 => ?_ | refine k4 fun K1 q6 => ?_ | refine b7 fun A B hA hB => ?_); simp only [S1, simprocAttr, fj, F5 hf, O1 hlt, H3 (by omega) hlt, q0, hx', eF, he, h0', hb2, gv, al, mb, TSz, i6, h9, j3, PGB, r4 hb hne, l9 hl, m6 hb hne, j8 hl, gmB, spB, gl]; first | refine q6 _ ?_; clear q6 K1 | ((first | refine hA ?_ | refine hB ?_); clear hA hB A B) | (apply j5 zy; exact (ht _); refine q6 _ ?_; clear q6 K1)) | refine b6 fun K hK => ?_ | ((first | apply b8 | apply i8 | apply b5 | refine i9 ?_ | apply c7 | apply c9); try simp only [NB, simprocAttr]))
          all_goals refine ⟨hlt, hp, ?_⟩
          all_goals simp only [hls]
          all_goals refine ⟨rfl, ⟨[], by simp only [List.append_nil]⟩, ?_, trivial⟩
          all_goals simp only [S1, simprocAttr, KNB, i5] <;> (try and_intros) <;> (try assumption) <;> (try trivial) <;> (try omega)
      · have h0' : ((P1 x.cond (vS S)).2 != 0) = true := by simp [h0]
        rw [if_pos h0] at hp
        have ec : r8 fl (vS S) outs = (0, (P1 x.cond (vS S)).2) := by unfold r8; rw [hp]; rfl
        have eg : O6 fl S i ins outs = [v7 S i (P1 x.cond (vS S)).2] := by
          unfold O6; rw [if_neg h1, if_neg hz, ec, if_pos h0]
        repeat' (first | ((repeat ((fail_if_success (refine hK _ ?_)); clear hK K)); refine hK _ ?_; clear hK K) | ((first | refine b9 fun K1 q6 => ?_ | refine k4 fun K1 q6 => ?_ | refine b7 fun A B hA hB => ?_); simp only [S1, simprocAttr, fj, F5 hf, O1 hlt, H3 (by omega) hlt, q0, hx', eF, he, h0', gv, al, mb, TSz, i6, h9, j3, PGB, r4 hb hne, l9 hl, m6 hb hne, j8 hl, gmB, spB, gl]; first | refine q6 _ ?_; clear q6 K1 | ((first | refine hA ?_ | refine hB ?_); clear hA hB A B) | (apply j5 zy; exact (ht _); refine q6 _ ?_; clear q6 K1) | (apply d4 Ay; exact (fh ok i (P1 x.cond (vS S)).2); refine q6 _ ?_; clear q6 K1)) | refine b6 fun K hK => ?_ | ((first | apply b8 | apply i8 | apply b5 | refine i9 ?_ | apply c7 | apply c9 | apply d3); try simp only [NB, simprocAttr]))
        all_goals rw [eg]
        all_goals simp only [S1, simprocAttr, ENB, A0, y7, i5, m5, k8] <;> first | exact d6 hl | exact ⟨d6 hl, rfl⟩ | exact ⟨d6 hl, rfl, rfl⟩
  obtain rfl : j = outs.length := by omega
  rw [List.drop_length] at hp
  have ec : r8 fl (vS S) outs = (chE fl outs, 0) := by unfold r8; rw [hp]; rfl
  have ho1 : chE fl outs ∈ outs := sa (by
    obtain ⟨f, hf, he⟩ := List.countP_pos_iff.mp (by omega : 0 < outs.countP (B1 fl))
    exact ⟨f, hf, he⟩)
  have hf1 : InF [chE fl outs] := ⟨by simp, fun g hg => by rw [List.mem_singleton.mp hg]; exact ho.2 _ ho1⟩
  have es := H7 hS (m := ⟨i, chE fl outs, 0, 0, 0, S⟩) (Chg.id hS) hi hf1
  have eg : O6 fl S i ins outs = stF S ⟨i, chE fl outs, 0, 0, 0, S⟩ (fun T => T) ins [chE fl outs] := by
    unfold O6; rw [if_neg h1, if_neg hz, ec, if_neg (by simp), es]
  have el := mv hels
  rw [List.take_length]
  repeat' (first | ((repeat ((fail_if_success (refine hK _ ?_)); clear hK K)); refine hK _ ?_; clear hK K) | ((first | refine b9 fun K1 q6 => ?_ | refine b7 fun A B hA hB => ?_); simp only [S1, simprocAttr, fj, I1, el, TSz, i6, h9, j3, PGB, r4 hb hne, l9 hl, m6 hb hne, j8 hl, gmB, spB, gl]; first | refine q6 _ ?_; clear q6 K1 | (refine hB ?_; clear hA hB A B) | (apply d4 E82; exact (ff ok ⟨i, chE fl outs, 0, 0, 0, S⟩ ins [chE fl outs] hi hf1); refine q6 _ ?_; clear q6 K1)) | refine b6 fun K hK => ?_ | ((first | apply b8 | apply b5 | apply f9); try simp only [NB, simprocAttr]))
  all_goals rw [eg]
  all_goals simp only [S1, simprocAttr, ENB, A0, y7, i5, m5, k8] <;> first | exact d6 hl | exact ⟨d6 hl, rfl⟩ | exact ⟨d6 hl, rfl, rfl⟩
end
section
def zh := And.intro T2 (And.intro T3 (And.intro T4 (And.intro T22 (And.intro T23 (And.intro T25 (And.intro T28 (And.intro T31 (And.intro T41 (And.intro T57 (And.intro T58 (And.intro T75 (And.intro T77 (And.intro T80 (And.intro T92 (And.intro fS (And.intro np (And.intro iM (And.intro iN (And.intro nq jG)))))))))))))))))))
attribute [local irreducible] awp n9 k3 l8 o6 n5
theorem uT {S : List Int} {f : Int} (h : tk S f = 0) : S7 T7 [f] S = none := by
  rw [gB]
  unfold T7
  rw [if_pos (by omega)]; rfl
theorem uU {S : List Int} {x : Sp} {m : Nat} (hm : m < 40) (hS : S.length = 49) (h : tk S (m : Int) = 0) (to : List Int) : m8 S x [(m : Int)] to = [] := by
  unfold m8
  rw [uT (by rw [gA hS hm]; exact h)]
theorem uV {ns : List Nd} {fl : List Fl} {S : List Int} (hS : S.length = 49) {i : Nat} {k : Nd} {m : Nat} (hm : m < 40) (hi : o5 fl i = [(m : Int)]) (h0 : tk S (m : Int) = 0) (hx : k.kind = 5 → (i7 fl i).length ≠ 1) : m7 ns fl S i k = [] := by
  have mz := fun x to => uU (x := x) hm hS h0 to
  have cz : ∀ a b c, r5 ns fl S a b c [(m : Int)] = [] := by
    intro a b c
    unfold r5
    repeat' split
    · rfl
    · exact mz _ _
    · exact mz _ _
  unfold m7
  rw [hi]
  split
  · unfold ci
    split
    · exact mz _ _
    · exact mz _ _
  · split
    · unfold N5; rw [List.headD_cons, if_pos h0]
    · split
      · rename_i h5
        unfold O6; rw [if_neg (hx h5), List.headD_cons, if_pos h0]
      · split
        · exact mz _ _
        · split
          · rw [List.flatMap_eq_nil_iff]
            exact fun x _ => cz _ _ _
          · split
            · exact cz _ _ _
            · rfl
abbrev xB (k : Nd) (a : Nat) : Option Blk := some ⟨0, [.i k.kind, .i a, .i k.term.op, .i k.term.n, .p (.sl (k.term.kids.map eT))]⟩
section
variable {h : Heap} {b lb : Nat} {ns : List Nd} {fl : List Fl} {S : List Int} {l : List Sp}
theorem xd (k : Nd) {a : Nat} (ha : a < 4) (v : Int) (gr : Nat) (A : Option Blk) (T : List Int) (hT : T.length = 49) : d5 Tryz.prog gW 110 [.ptr (h.length + 2 + 1) 0 0, .ptr (h.length + 1) gr 0, .ptr h.length 0 0] (l5 h b lb ns fl S l ++ ([xB k a, some ⟨gr, [.i v]⟩] ++ [A, some ⟨0, T.map AV.i⟩]))
    (fun r h' => r = .undef ∧ h' = l5 h b lb ns fl S l ++ ([xB k a, some ⟨gr, [.i v]⟩] ++ [A, some ⟨0, (T.set (40 + a) v).map AV.i⟩])) := by
  have := Ad (G := gW) (H := l5 h b lb ns fl S l ++ ([xB k a, some ⟨gr, [.i v]⟩] ++ [A, some ⟨0, T.map AV.i⟩])) (c := h.length + 3) (r := h.length + 1) (x := h.length) (gc := 0) (gr := gr) (gx := 0) (by rw [v6]; rfl) hT (by rw [v6]; rfl) ha (by rw [A3]; rfl)
  rw [z6] at this
  exact this
theorem xe (k : Nd) {a : Nat} (ha : a < 4) (v : Int) (gr : Nat) (A : Option Blk) (T : List Int) (hT : T.length = 49) : d5 Tryz.prog gW 113 [.ptr (h.length + 2 + 1) 0 0, .ptr (h.length + 1) gr 0, .ptr h.length 0 0] (l5 h b lb ns fl S l ++ ([xB k a, some ⟨gr, [.i v]⟩] ++ [A, some ⟨0, T.map AV.i⟩]))
    (fun r h' => r = .undef ∧ h' = l5 h b lb ns fl S l ++ ([xB k a, some ⟨gr, [.i v]⟩] ++ [A, some ⟨0, (T.set (40 + a) v).map AV.i⟩])) := by
  have := Ae (G := gW) (H := l5 h b lb ns fl S l ++ ([xB k a, some ⟨gr, [.i v]⟩] ++ [A, some ⟨0, T.map AV.i⟩])) (c := h.length + 3) (r := h.length + 1) (x := h.length) (gc := 0) (gr := gr) (gx := 0) (by rw [v6]; rfl) hT (by rw [v6]; rfl) ha (by rw [A3]; rfl)
  rw [z6] at this
  exact this
theorem sx (nk : NetOk ns fl) (rt : Right ns fl) (ok : GmOk h b lb S l) (c : Nat) {k : Nd} (hc : ns[c]? = some k) (m : Nat) (hm : m < 40) (hi : o5 fl c = [(m : Int)]) (h1 : k.kind ≠ 1) (h0 : tk S (m : Int) = 0) :
    d5 Tryz.prog gW 80 [.ptr b 0 0, .i c] (l5 h b lb ns fl S l) (fun r h' => r = .undef ∧ h' = l5 h b lb ns fl S l) := by
  have hb := ok.hb
  have hl := ok.hl
  have hne := ok.ne
  have hS := ok.held.1
  have gl := w8 (ns := ns) (fl := fl) (lb := lb) (n := l.length) hS
  have c0 : (0 : Int) ≤ (c : Int) := by omega
  have hc' := I2 hc
  have hf' : fl.length ≤ 100 := by have := rt.f; omega
  obtain ⟨hv, v0, v3⟩ := ok.held.at hm
  have gk := W2 (ns := ns) (fl := fl) (lb := lb) (n := l.length) hv
  have f0 : (0 : Int) ≤ (m : Int) := by omega
  have f40 : (m : Int) < 40 := by omega
  have hz' : (tk S (m : Int) == 0) = true := by simp [h0]
  have e1 : (k.kind != 1) = true := by simp [h1]
  have hil : (((o5 fl c).length : Int) == 1) = true := by rw [hi]; rfl
  have hi0 : (o5 fl c)[0]? = some (m : Int) := by rw [hi]; rfl
  have hei : eI (m : Int) = [.int .i64 (m : Int)] := rfl
  have hin0 : (0 : Int) ≤ 0 := Int.le_refl 0
  refine i3 (rl := []) e9 Tryz.func80 rfl (rs := []) rfl Tryz.ntmps80 (by simp) ?_
  repeat' (first | ((first | apply b8 | apply i8 | apply C4); (try simp only [NB])) | ((repeat ((fail_if_success (refine hK _ ?_)); clear hK K)); refine hK _ ?_; clear hK K) | ((first | refine b9 fun K1 q6 => ?_ | refine k4 fun K1 q6 => ?_ | refine b7 fun A B hA hB => ?_); simp only [S1, simprocAttr, zh, e1, hil, hi0, hei, hin0, f0, f40, gk, hz', c0, hc', eN, j6, m3, TSz, i6, h9, j3, PGB, r4 hb hne, l9 hl, m6 hb hne, j8 hl, gmB, spB, gl]; first | refine q6 _ ?_; clear q6 K1 | (refine hA ?_; clear hA hB A B)) | ((first | refine u6 (v := ?_) rfl rfl rfl rfl (by decide) (fun R1 K1 q6 => ?_) ?_ | refine y5 (v := ?_) rfl rfl rfl (by decide) (fun K1 q6 => ?_) ?_); rotate_left; (focus (simp only [S1, simprocAttr, zh, e1, hil, hi0, hei, hin0, f0, f40, gk, hz', c0, hc', eN, j6, m3, TSz, i6, h9, j3, PGB, r4 hb hne, l9 hl, m6 hb hne, j8 hl, gmB, spB, gl]; first | (exact q6 _ _ _) | (apply j5 eu; exact (B5 _ fl hf' _ _); exact q6 _ _ _) | (apply j5 E57; exact (t8 _ fl hf' _ _); exact q6 _ _ _)))) | refine b6 fun K hK => ?_ | (refine o9 (es := []) [0, 1, 2, 3, 4, 5, 6, 7, 8, 9, 10, 11, 12, 13] 0 (fs := []) rfl (by kernel_rfl) (by kernel_rfl) ?_) | ((first | apply b5 | refine i9 ?_ | apply d3); try simp only [NB, simprocAttr]))
  all_goals simp only [S1, simprocAttr, ENB, A0, y7, i5, m5, k8] <;> first | exact d6 hl | exact ⟨d6 hl, rfl⟩ | exact ⟨d6 hl, rfl, rfl⟩
end
end
section
def dc := And.intro T2 (And.intro T3 (And.intro T4 (And.intro T22 (And.intro T23 (And.intro T25 (And.intro T28 (And.intro T31 (And.intro T41 (And.intro T57 (And.intro T58 (And.intro T75 (And.intro T77 (And.intro T80 (And.intro T92 (And.intro fS (And.intro np (And.intro iM (And.intro iN (And.intro nq jG)))))))))))))))))))
attribute [local irreducible] awp n9 k3 l8 o6 n5
section
variable {h : Heap} {b lb : Nat} {ns : List Nd} {fl : List Fl} {S : List Int} {l : List Sp}
theorem tD (nk : NetOk ns fl) (ok : GmOk h b lb S l) (st : StOk S) (few : l.length ≤ 900000) (i : Int) (ins outs : List Int) (hi : InF ins) (ho : InF outs) (hof : ∀ x ∈ outs, ∃ i : Nat, x = (i : Int) ∧ i < fl.length)
    (hz : outs.length ≠ 1 → tk S (ins.headD 0) ≠ 0) (hels : outs.length ≠ 1 → outs.countP (B1 fl) = 1) (L : Heap) :
    d5 Tryz.prog gW 114 [.ptr b 0 0, .i i, aI ins, aI outs] (l5 h b lb ns fl S l ++ L) (fun r h' => r = .undef ∧ h' = l5 h b lb ns fl S (l ++ O6 fl S i ins outs) ++ L) := by
  have := sw nk (ok.ext L) st few i ins outs hi ho hof hz hels
  rwa [M3 ok.hb ok.hl, M3 ok.hb ok.hl] at this
theorem uW {G : Nat → Option (List PV)} (ok : GmOk h b lb S l) (st : StOk S) (m : Sp) (c : Nat) {k : Nd} (hc : ns[c]? = some k) (ha : 0 ≤ k.a ∧ k.a ≤ 4) (fr : List Int) (hfr : InF fr) (to : List Int) (hto : InF to) (he : to = i7 fl c) (L : Heap) :
    d5 Tryz.prog G 115 [.ptr b 0 0, aMv m, .i c, aI fr, aI to] (l5 h b lb ns fl S l ++ L) (fun r h' => r = .undef ∧ h' = l5 h b lb ns fl S (l ++ r5 ns fl S m.node m.arg c fr) ++ L) := by
  have := fi (G := G) (ok.ext L) st m c hc ha fr hfr to hto he
  rwa [M3 ok.hb ok.hl, M3 ok.hb ok.hl] at this
theorem sy (ok : GmOk h b lb S l) (m : Sp) (fr : List Int) (hfr : InF fr) (L : Heap) :
    d5 Tryz.prog gW 82 [.ptr b 0 0, aMv m, aI fr, .p .nils, .p .nilf] (l5 h b lb ns fl S l ++ L) (fun r h' => r = .undef ∧ h' = l5 h b lb ns fl S (l ++ stF S m (fun T => T) fr []) ++ L) := by
  have := Y6 (G := gW) (ns := ns) (fl := fl) ok m fr [] hfr ⟨by simp, by simp⟩ L
  refine d5.nrm ?_
  have hk := dM fr
  simp only [R7, bP, nrm, hk]
  exact this
theorem uX (ok : GmOk h b lb S l) (m : Sp) (fr : List Int) (hfr : InF fr) (L : Heap) {f : FuncId} (hE : g8 Tryz.prog f) {caps : List AV} (hcap : o4 (h.length + L.length) caps) {chg : List Int → List Int} (hlen : ∀ T : List Int, T.length = 49 → (chg T).length = 49)
    (hC : ∀ (A : Option Blk) (T : List Int), T.length = 49 → T.drop 40 = S.drop 40 → d5 Tryz.prog gW f (.ptr (h.length + L.length + 1) 0 0 :: caps) (l5 h b lb ns fl S l ++ (L ++ [A, some ⟨0, T.map AV.i⟩])) (fun r h' => r = .undef ∧ h' = l5 h b lb ns fl S l ++ (L ++ [A, some ⟨0, (chg T).map AV.i⟩]))) :
    d5 Tryz.prog gW 82 [.ptr b 0 0, aMv m, aI fr, .p .nils, .fn f caps] (l5 h b lb ns fl S l ++ L) (fun r h' => r = .undef ∧ h' = l5 h b lb ns fl S (l ++ stF S m chg fr []) ++ L) := by
  have := W6 (G := gW) (ns := ns) (fl := fl) ok m fr [] hfr ⟨by simp, by simp⟩ L hE hcap hlen hC
  refine d5.nrm ?_
  have hk := dM fr
  simp only [R7, bP, nrm, hk]
  exact this
theorem yH (X Y : Option Blk) (A : Option Blk) (T : List Int) (hT : T.length = 49) : d5 Tryz.prog gW 117 [.ptr (h.length + 2 + 1) 0 0] (l5 h b lb ns fl S l ++ ([X, Y] ++ [A, some ⟨0, T.map AV.i⟩]))
    (fun r h' => r = .undef ∧ h' = l5 h b lb ns fl S l ++ ([X, Y] ++ [A, some ⟨0, (T.set 48 1).map AV.i⟩])) := by
  have := sr (G := gW) (H := l5 h b lb ns fl S l ++ ([X, Y] ++ [A, some ⟨0, T.map AV.i⟩])) (c := h.length + 3) (gc := 0) (by rw [v6]; rfl) hT
  rw [z6] at this
  exact this
theorem xf (nk : NetOk ns fl) (rt : Right ns fl) (ok : GmOk h b lb S l) (st : StOk S) (few : l.length ≤ 900000) (c : Nat) {k : Nd} (hc : ns[c]? = some k) (hk : k.kind = 5) (m : Nat) (hm : m < 40) (hin : o5 fl c = [(m : Int)]) (h0 : tk S (m : Int) ≠ 0) :
    d5 Tryz.prog gW 80 [.ptr b 0 0, .i c] (l5 h b lb ns fl S l) (fun r h' => r = .undef ∧ h' = l5 h b lb ns fl S (l ++ m7 ns fl S c k)) := by
  have hb := ok.hb
  have hl := ok.hl
  have hne := ok.ne
  have hS := ok.held.1
  have gl := w8 (ns := ns) (fl := fl) (lb := lb) (n := l.length) hS
  have gv := F2 (ns := ns) (fl := fl) (lb := lb) (n := l.length) hS
  have t49 := x6 (ns := ns) (fl := fl) (lb := lb) (n := l.length) hS
  have c0 : (0 : Int) ≤ (c : Int) := by omega
  have hc' := I2 hc
  have hf := rt.f
  have hf' : fl.length ≤ 100 := by omega
  have hkd := rt.kind hc
  have hi := L8 hf c
  have ho := D7 hf c
  obtain ⟨hv, v0, v3⟩ := ok.held.at hm
  have gk := W2 (ns := ns) (fl := fl) (lb := lb) (n := l.length) hv
  have f0 : (0 : Int) ≤ (m : Int) := by omega
  have f40 : (m : Int) < 40 := by omega
  have hz' : (tk S (m : Int) == 0) = false := by simp [h0]
  have hil : (((o5 fl c).length : Int) == 1) = true := by rw [hin]; rfl
  have hi0 : (o5 fl c)[0]? = some (m : Int) := by rw [hin]; rfl
  have hei : eI (m : Int) = [.int .i64 (m : Int)] := rfl
  have hin0 : (0 : Int) ≤ 0 := Int.le_refl 0
  have e2 : (k.kind == 2) = false := by simp [hk]
  have e3 : (k.kind == 3) = false := by simp [hk]
  have e4 : (k.kind == 4) = false := by simp [hk]
  have e5 : (k.kind == 5) = true := by simp [hk]
  have e6 : (k.kind == 6) = false := by simp [hk]
  have e7 : (k.kind == 7) = false := by simp [hk]
  have e8 : (k.kind == 8) = false := by simp [hk]
  have e1 : (k.kind != 1) = true := by simp [hk]
  have eg : m7 ns fl S c k = O6 fl S c (o5 fl c) (i7 fl c) := by unfold m7; rw [if_neg (by omega), if_neg (by omega), if_pos hk]
  rw [eg]
  have hz9 : (i7 fl c).length ≠ 1 → tk S ((o5 fl c).headD 0) ≠ 0 := fun _ => by rw [hin]; exact h0
  refine i3 (rl := []) e9 Tryz.func80 rfl (rs := []) rfl Tryz.ntmps80 (by simp) ?_
  repeat' (first | ((first | apply b8 | apply i8 | apply C4); (try simp only [NB])) | ((repeat ((fail_if_success (refine hK _ ?_)); clear hK K)); refine hK _ ?_; clear hK K) | ((first | refine b9 fun K1 q6 => ?_ | refine k4 fun K1 q6 => ?_ | refine b7 fun A B hA hB => ?_); simp only [S1, simprocAttr, dc, e1, e2, e3, e4, e5, e6, e7, e8, hil, hi0, hei, hin0, f0, f40, gk, hz', c0, hc', eN, j6, m3, TSz, i6, h9, j3, PGB, r4 hb hne, l9 hl, m6 hb hne, j8 hl, gmB, spB, gl]; first | refine q6 _ ?_; clear q6 K1 | ((first | refine hA ?_ | refine hB ?_); clear hA hB A B) | (apply d4 Az; exact (tD nk ok st few c _ _ hi ho (fa c) hz9 (rt.els1 hc hk) _); refine q6 _ ?_; clear q6 K1)) | ((first | refine u6 (v := ?_) rfl rfl rfl rfl (by decide) (fun R1 K1 q6 => ?_) ?_ | refine y5 (v := ?_) rfl rfl rfl (by decide) (fun K1 q6 => ?_) ?_); rotate_left; (focus (simp only [S1, simprocAttr, dc, e1, e2, e3, e4, e5, e6, e7, e8, hil, hi0, hei, hin0, f0, f40, gk, hz', c0, hc', eN, j6, m3, TSz, i6, h9, j3, PGB, r4 hb hne, l9 hl, m6 hb hne, j8 hl, gmB, spB, gl]; first | (exact q6 _ _ _) | (apply j5 eu; exact (B5 _ fl hf' _ _); exact q6 _ _ _) | (apply j5 E57; exact (t8 _ fl hf' _ _); exact q6 _ _ _)))) | refine b6 fun K hK => ?_ | (refine D4 [0, 1, 2, 3, 4, 5, 6, 7, 8, 9, 10, 11, 12, 13] (fs := []) rfl rfl (by kernel_rfl) (by kernel_rfl) ?_) | ((first | apply b5 | refine i9 ?_ | apply c7 | apply c9); try simp only [NB, simprocAttr]))
  all_goals simp only [S1, simprocAttr, ENB, A0, y7, i5, m5, k8] <;> first | exact d6 hl | exact ⟨d6 hl, rfl⟩ | exact ⟨d6 hl, rfl, rfl⟩
theorem xg (nk : NetOk ns fl) (rt : Right ns fl) (ok : GmOk h b lb S l) (st : StOk S) (few : l.length ≤ 900000) (c : Nat) {k : Nd} (hc : ns[c]? = some k) (hk : k.kind = 5) (hin : (o5 fl c).length ≠ 1) :
    d5 Tryz.prog gW 80 [.ptr b 0 0, .i c] (l5 h b lb ns fl S l) (fun r h' => r = .undef ∧ h' = l5 h b lb ns fl S (l ++ m7 ns fl S c k)) := by
  have hb := ok.hb
  have hl := ok.hl
  have hne := ok.ne
  have hS := ok.held.1
  have gl := w8 (ns := ns) (fl := fl) (lb := lb) (n := l.length) hS
  have gv := F2 (ns := ns) (fl := fl) (lb := lb) (n := l.length) hS
  have t49 := x6 (ns := ns) (fl := fl) (lb := lb) (n := l.length) hS
  have c0 : (0 : Int) ≤ (c : Int) := by omega
  have hc' := I2 hc
  have hf := rt.f
  have hf' : fl.length ≤ 100 := by omega
  have hkd := rt.kind hc
  have hi := L8 hf c
  have ho := D7 hf c
  have hil : (((o5 fl c).length : Int) == 1) = false := by simp; omega
  have e2 : (k.kind == 2) = false := by simp [hk]
  have e3 : (k.kind == 3) = false := by simp [hk]
  have e4 : (k.kind == 4) = false := by simp [hk]
  have e5 : (k.kind == 5) = true := by simp [hk]
  have e6 : (k.kind == 6) = false := by simp [hk]
  have e7 : (k.kind == 7) = false := by simp [hk]
  have e8 : (k.kind == 8) = false := by simp [hk]
  have e1 : (k.kind != 1) = true := by simp [hk]
  have eg : m7 ns fl S c k = O6 fl S c (o5 fl c) (i7 fl c) := by unfold m7; rw [if_neg (by omega), if_neg (by omega), if_pos hk]
  rw [eg]
  have hz9 : (i7 fl c).length ≠ 1 → tk S ((o5 fl c).headD 0) ≠ 0 := fun h => by have := rt.xor (List.getElem?_eq_some_iff.mp hc).1 (by rw [O3 hc]; exact hk); omega
  refine i3 (rl := []) e9 Tryz.func80 rfl (rs := []) rfl Tryz.ntmps80 (by simp) ?_
  repeat' (first | ((first | apply b8 | apply i8 | apply C4); (try simp only [NB])) | ((repeat ((fail_if_success (refine hK _ ?_)); clear hK K)); refine hK _ ?_; clear hK K) | ((first | refine b9 fun K1 q6 => ?_ | refine k4 fun K1 q6 => ?_ | refine b7 fun A B hA hB => ?_); simp only [S1, simprocAttr, dc, e1, e2, e3, e4, e5, e6, e7, e8, hil, c0, hc', eN, j6, m3, TSz, i6, h9, j3, PGB, r4 hb hne, l9 hl, m6 hb hne, j8 hl, gmB, spB, gl]; first | refine q6 _ ?_; clear q6 K1 | ((first | refine hA ?_ | refine hB ?_); clear hA hB A B) | (apply d4 Az; exact (tD nk ok st few c _ _ hi ho (fa c) hz9 (rt.els1 hc hk) _); refine q6 _ ?_; clear q6 K1)) | ((first | refine u6 (v := ?_) rfl rfl rfl rfl (by decide) (fun R1 K1 q6 => ?_) ?_ | refine y5 (v := ?_) rfl rfl rfl (by decide) (fun K1 q6 => ?_) ?_); rotate_left; (focus (simp only [S1, simprocAttr, dc, e1, e2, e3, e4, e5, e6, e7, e8, hil, c0, hc', eN, j6, m3, TSz, i6, h9, j3, PGB, r4 hb hne, l9 hl, m6 hb hne, j8 hl, gmB, spB, gl]; first | (exact q6 _ _ _) | (apply j5 eu; exact (B5 _ fl hf' _ _); exact q6 _ _ _) | (apply j5 E57; exact (t8 _ fl hf' _ _); exact q6 _ _ _)))) | refine b6 fun K hK => ?_ | (refine D4 [0, 1, 2, 3, 4, 5, 6, 7, 8, 9, 10, 11, 12, 13] (fs := []) rfl rfl (by kernel_rfl) (by kernel_rfl) ?_) | ((first | apply b5 | refine i9 ?_ | apply c7 | apply c9); try simp only [NB, simprocAttr]))
  all_goals simp only [S1, simprocAttr, ENB, A0, y7, i5, m5, k8] <;> first | exact d6 hl | exact ⟨d6 hl, rfl⟩ | exact ⟨d6 hl, rfl, rfl⟩
theorem xh (nk : NetOk ns fl) (rt : Right ns fl) (ok : GmOk h b lb S l) (st : StOk S) (few : l.length ≤ 900000) (c : Nat) {k : Nd} (hc : ns[c]? = some k) (hk : k.kind = 6) (m : Nat) (hm : m < 40) (hin : o5 fl c = [(m : Int)]) (h0 : tk S (m : Int) ≠ 0) :
    d5 Tryz.prog gW 80 [.ptr b 0 0, .i c] (l5 h b lb ns fl S l) (fun r h' => r = .undef ∧ h' = l5 h b lb ns fl S (l ++ m7 ns fl S c k)) := by
  have hb := ok.hb
  have hl := ok.hl
  have hne := ok.ne
  have hS := ok.held.1
  have gl := w8 (ns := ns) (fl := fl) (lb := lb) (n := l.length) hS
  have gv := F2 (ns := ns) (fl := fl) (lb := lb) (n := l.length) hS
  have t49 := x6 (ns := ns) (fl := fl) (lb := lb) (n := l.length) hS
  have c0 : (0 : Int) ≤ (c : Int) := by omega
  have hc' := I2 hc
  have hf := rt.f
  have hf' : fl.length ≤ 100 := by omega
  have hkd := rt.kind hc
  have hi := L8 hf c
  have ho := D7 hf c
  obtain ⟨hv, v0, v3⟩ := ok.held.at hm
  have gk := W2 (ns := ns) (fl := fl) (lb := lb) (n := l.length) hv
  have f0 : (0 : Int) ≤ (m : Int) := by omega
  have f40 : (m : Int) < 40 := by omega
  have hz' : (tk S (m : Int) == 0) = false := by simp [h0]
  have hil : (((o5 fl c).length : Int) == 1) = true := by rw [hin]; rfl
  have hi0 : (o5 fl c)[0]? = some (m : Int) := by rw [hin]; rfl
  have hei : eI (m : Int) = [.int .i64 (m : Int)] := rfl
  have hin0 : (0 : Int) ≤ 0 := Int.le_refl 0
  have e2 : (k.kind == 2) = false := by simp [hk]
  have e3 : (k.kind == 3) = false := by simp [hk]
  have e4 : (k.kind == 4) = false := by simp [hk]
  have e5 : (k.kind == 5) = false := by simp [hk]
  have e6 : (k.kind == 6) = true := by simp [hk]
  have e7 : (k.kind == 7) = false := by simp [hk]
  have e8 : (k.kind == 8) = false := by simp [hk]
  have e1 : (k.kind != 1) = true := by simp [hk]
  have eg : m7 ns fl S c k = m8 S ⟨c, 0, 0, 0, 0, S⟩ (o5 fl c) (i7 fl c) := by unfold m7; rw [if_neg (by omega), if_neg (by omega), if_neg (by omega), if_pos hk]
  have es := H7 hS (m := ⟨c, 0, 0, 0, 0, S⟩) (Chg.id hS) hi ho
  simp only at es
  rw [eg, ← es]
  refine i3 (rl := []) e9 Tryz.func80 rfl (rs := []) rfl Tryz.ntmps80 (by simp) ?_
  repeat' (first | ((first | apply b8 | apply i8 | apply C4); (try simp only [NB])) | ((repeat ((fail_if_success (refine hK _ ?_)); clear hK K)); refine hK _ ?_; clear hK K) | ((first | refine b9 fun K1 q6 => ?_ | refine k4 fun K1 q6 => ?_ | refine b7 fun A B hA hB => ?_); simp only [S1, simprocAttr, dc, e1, e2, e3, e4, e5, e6, e7, e8, hil, hi0, hei, hin0, f0, f40, gk, hz', c0, hc', eN, j6, m3, TSz, i6, h9, j3, PGB, r4 hb hne, l9 hl, m6 hb hne, j8 hl, gmB, spB, gl]; first | refine q6 _ ?_; clear q6 K1 | ((first | refine hA ?_ | refine hB ?_); clear hA hB A B) | (apply d4 E82; exact (Y6 ok ⟨c, 0, 0, 0, 0, S⟩ _ _ hi ho _); refine q6 _ ?_; clear q6 K1)) | ((first | refine u6 (v := ?_) rfl rfl rfl rfl (by decide) (fun R1 K1 q6 => ?_) ?_ | refine y5 (v := ?_) rfl rfl rfl (by decide) (fun K1 q6 => ?_) ?_); rotate_left; (focus (simp only [S1, simprocAttr, dc, e1, e2, e3, e4, e5, e6, e7, e8, hil, hi0, hei, hin0, f0, f40, gk, hz', c0, hc', eN, j6, m3, TSz, i6, h9, j3, PGB, r4 hb hne, l9 hl, m6 hb hne, j8 hl, gmB, spB, gl]; first | (exact q6 _ _ _) | (apply j5 eu; exact (B5 _ fl hf' _ _); exact q6 _ _ _) | (apply j5 E57; exact (t8 _ fl hf' _ _); exact q6 _ _ _)))) | refine b6 fun K hK => ?_ | (refine D4 [0, 1, 2, 3, 4, 5, 6, 7, 8, 9, 10, 11, 12, 13] (fs := []) rfl rfl (by kernel_rfl) (by kernel_rfl) ?_) | ((first | apply b5 | refine i9 ?_ | apply c7 | apply c9); try simp only [NB, simprocAttr]))
  all_goals simp only [S1, simprocAttr, ENB, A0, y7, i5, m5, k8] <;> first | exact d6 hl | exact ⟨d6 hl, rfl⟩ | exact ⟨d6 hl, rfl, rfl⟩
theorem xj (nk : NetOk ns fl) (rt : Right ns fl) (ok : GmOk h b lb S l) (st : StOk S) (few : l.length ≤ 900000) (c : Nat) {k : Nd} (hc : ns[c]? = some k) (hk : k.kind = 6) (hin : (o5 fl c).length ≠ 1) :
    d5 Tryz.prog gW 80 [.ptr b 0 0, .i c] (l5 h b lb ns fl S l) (fun r h' => r = .undef ∧ h' = l5 h b lb ns fl S (l ++ m7 ns fl S c k)) := by
  have hb := ok.hb
  have hl := ok.hl
  have hne := ok.ne
  have hS := ok.held.1
  have gl := w8 (ns := ns) (fl := fl) (lb := lb) (n := l.length) hS
  have gv := F2 (ns := ns) (fl := fl) (lb := lb) (n := l.length) hS
  have t49 := x6 (ns := ns) (fl := fl) (lb := lb) (n := l.length) hS
  have c0 : (0 : Int) ≤ (c : Int) := by omega
  have hc' := I2 hc
  have hf := rt.f
  have hf' : fl.length ≤ 100 := by omega
  have hkd := rt.kind hc
  have hi := L8 hf c
  have ho := D7 hf c
  have hil : (((o5 fl c).length : Int) == 1) = false := by simp; omega
  have e2 : (k.kind == 2) = false := by simp [hk]
  have e3 : (k.kind == 3) = false := by simp [hk]
  have e4 : (k.kind == 4) = false := by simp [hk]
  have e5 : (k.kind == 5) = false := by simp [hk]
  have e6 : (k.kind == 6) = true := by simp [hk]
  have e7 : (k.kind == 7) = false := by simp [hk]
  have e8 : (k.kind == 8) = false := by simp [hk]
  have e1 : (k.kind != 1) = true := by simp [hk]
  have eg : m7 ns fl S c k = m8 S ⟨c, 0, 0, 0, 0, S⟩ (o5 fl c) (i7 fl c) := by unfold m7; rw [if_neg (by omega), if_neg (by omega), if_neg (by omega), if_pos hk]
  have es := H7 hS (m := ⟨c, 0, 0, 0, 0, S⟩) (Chg.id hS) hi ho
  simp only at es
  rw [eg, ← es]
  refine i3 (rl := []) e9 Tryz.func80 rfl (rs := []) rfl Tryz.ntmps80 (by simp) ?_
  repeat' (first | ((first | apply b8 | apply i8 | apply C4); (try simp only [NB])) | ((repeat ((fail_if_success (refine hK _ ?_)); clear hK K)); refine hK _ ?_; clear hK K) | ((first | refine b9 fun K1 q6 => ?_ | refine k4 fun K1 q6 => ?_ | refine b7 fun A B hA hB => ?_); simp only [S1, simprocAttr, dc, e1, e2, e3, e4, e5, e6, e7, e8, hil, c0, hc', eN, j6, m3, TSz, i6, h9, j3, PGB, r4 hb hne, l9 hl, m6 hb hne, j8 hl, gmB, spB, gl]; first | refine q6 _ ?_; clear q6 K1 | ((first | refine hA ?_ | refine hB ?_); clear hA hB A B) | (apply d4 E82; exact (Y6 ok ⟨c, 0, 0, 0, 0, S⟩ _ _ hi ho _); refine q6 _ ?_; clear q6 K1)) | ((first | refine u6 (v := ?_) rfl rfl rfl rfl (by decide) (fun R1 K1 q6 => ?_) ?_ | refine y5 (v := ?_) rfl rfl rfl (by decide) (fun K1 q6 => ?_) ?_); rotate_left; (focus (simp only [S1, simprocAttr, dc, e1, e2, e3, e4, e5, e6, e7, e8, hil, c0, hc', eN, j6, m3, TSz, i6, h9, j3, PGB, r4 hb hne, l9 hl, m6 hb hne, j8 hl, gmB, spB, gl]; first | (exact q6 _ _ _) | (apply j5 eu; exact (B5 _ fl hf' _ _); exact q6 _ _ _) | (apply j5 E57; exact (t8 _ fl hf' _ _); exact q6 _ _ _)))) | refine b6 fun K hK => ?_ | (refine D4 [0, 1, 2, 3, 4, 5, 6, 7, 8, 9, 10, 11, 12, 13] (fs := []) rfl rfl (by kernel_rfl) (by kernel_rfl) ?_) | ((first | apply b5 | refine i9 ?_ | apply c7 | apply c9); try simp only [NB, simprocAttr]))
  all_goals simp only [S1, simprocAttr, ENB, A0, y7, i5, m5, k8] <;> first | exact d6 hl | exact ⟨d6 hl, rfl⟩ | exact ⟨d6 hl, rfl, rfl⟩
theorem yI (nk : NetOk ns fl) (rt : Right ns fl) (ok : GmOk h b lb S l) (st : StOk S) (few : l.length ≤ 900000) (c : Nat) {k : Nd} (hc : ns[c]? = some k) (hk : k.kind = 8) (m : Nat) (hm : m < 40) (hin : o5 fl c = [(m : Int)]) (h0 : tk S (m : Int) ≠ 0) :
    d5 Tryz.prog gW 80 [.ptr b 0 0, .i c] (l5 h b lb ns fl S l) (fun r h' => r = .undef ∧ h' = l5 h b lb ns fl S (l ++ m7 ns fl S c k)) := by
  have hb := ok.hb
  have hl := ok.hl
  have hne := ok.ne
  have hS := ok.held.1
  have gl := w8 (ns := ns) (fl := fl) (lb := lb) (n := l.length) hS
  have gv := F2 (ns := ns) (fl := fl) (lb := lb) (n := l.length) hS
  have t49 := x6 (ns := ns) (fl := fl) (lb := lb) (n := l.length) hS
  have c0 : (0 : Int) ≤ (c : Int) := by omega
  have hc' := I2 hc
  have hf := rt.f
  have hf' : fl.length ≤ 100 := by omega
  have hkd := rt.kind hc
  have hi := L8 hf c
  have ho := D7 hf c
  obtain ⟨hv, v0, v3⟩ := ok.held.at hm
  have gk := W2 (ns := ns) (fl := fl) (lb := lb) (n := l.length) hv
  have f0 : (0 : Int) ≤ (m : Int) := by omega
  have f40 : (m : Int) < 40 := by omega
  have hz' : (tk S (m : Int) == 0) = false := by simp [h0]
  have hil : (((o5 fl c).length : Int) == 1) = true := by rw [hin]; rfl
  have hi0 : (o5 fl c)[0]? = some (m : Int) := by rw [hin]; rfl
  have hei : eI (m : Int) = [.int .i64 (m : Int)] := rfl
  have hin0 : (0 : Int) ≤ 0 := Int.le_refl 0
  have e2 : (k.kind == 2) = false := by simp [hk]
  have e3 : (k.kind == 3) = false := by simp [hk]
  have e4 : (k.kind == 4) = false := by simp [hk]
  have e5 : (k.kind == 5) = false := by simp [hk]
  have e6 : (k.kind == 6) = false := by simp [hk]
  have e7 : (k.kind == 7) = false := by simp [hk]
  have e8 : (k.kind == 8) = true := by simp [hk]
  have e1 : (k.kind != 1) = true := by simp [hk]
  have eg : m7 ns fl S c k = r5 ns fl S c 0 c (o5 fl c) := by unfold m7; rw [if_neg (by omega), if_neg (by omega), if_neg (by omega), if_neg (by omega), if_neg (by omega), if_pos hk]
  rw [eg]
  refine i3 (rl := []) e9 Tryz.func80 rfl (rs := []) rfl Tryz.ntmps80 (by simp) ?_
  repeat' (first | ((first | apply b8 | apply i8 | apply C4); (try simp only [NB])) | ((repeat ((fail_if_success (refine hK _ ?_)); clear hK K)); refine hK _ ?_; clear hK K) | ((first | refine b9 fun K1 q6 => ?_ | refine k4 fun K1 q6 => ?_ | refine b7 fun A B hA hB => ?_); simp only [S1, simprocAttr, dc, e1, e2, e3, e4, e5, e6, e7, e8, hil, hi0, hei, hin0, f0, f40, gk, hz', c0, hc', eN, j6, m3, TSz, i6, h9, j3, PGB, r4 hb hne, l9 hl, m6 hb hne, j8 hl, gmB, spB, gl]; first | refine q6 _ ?_; clear q6 K1 | ((first | refine hA ?_ | refine hB ?_); clear hA hB A B) | (apply d4 AA; exact (uW ok st ⟨c, 0, 0, 0, 0, S⟩ c hc ⟨hkd.2.1, hkd.2.2.2⟩ _ hi _ ho rfl _); refine q6 _ ?_; clear q6 K1)) | ((first | refine u6 (v := ?_) rfl rfl rfl rfl (by decide) (fun R1 K1 q6 => ?_) ?_ | refine y5 (v := ?_) rfl rfl rfl (by decide) (fun K1 q6 => ?_) ?_); rotate_left; (focus (simp only [S1, simprocAttr, dc, e1, e2, e3, e4, e5, e6, e7, e8, hil, hi0, hei, hin0, f0, f40, gk, hz', c0, hc', eN, j6, m3, TSz, i6, h9, j3, PGB, r4 hb hne, l9 hl, m6 hb hne, j8 hl, gmB, spB, gl]; first | (exact q6 _ _ _) | (apply j5 eu; exact (B5 _ fl hf' _ _); exact q6 _ _ _) | (apply j5 E57; exact (t8 _ fl hf' _ _); exact q6 _ _ _)))) | refine b6 fun K hK => ?_ | (refine D4 [0, 1, 2, 3, 4, 5, 6, 7, 8, 9, 10, 11, 12, 13] (fs := []) rfl rfl (by kernel_rfl) (by kernel_rfl) ?_) | ((first | apply b5 | refine i9 ?_ | apply c7 | apply c9); try simp only [NB, simprocAttr]))
  all_goals simp only [S1, simprocAttr, ENB, A0, y7, i5, m5, k8] <;> first | exact d6 hl | exact ⟨d6 hl, rfl⟩ | exact ⟨d6 hl, rfl, rfl⟩
end
end
section
def dg := And.intro T2 (And.intro T3 (And.intro T4 (And.intro T22 (And.intro T23 (And.intro T25 (And.intro T28 (And.intro T31 (And.intro T41 (And.intro T57 (And.intro T58 (And.intro T75 (And.intro T77 (And.intro T80 (And.intro T92 (And.intro fS (And.intro np (And.intro iM (And.intro iN (And.intro nq jG)))))))))))))))))))
attribute [local irreducible] awp n9 k3 l8 o6 n5
section
variable {h : Heap} {b lb : Nat} {ns : List Nd} {fl : List Fl} {S : List Int} {l : List Sp}
theorem yJ (nk : NetOk ns fl) (rt : Right ns fl) (ok : GmOk h b lb S l) (st : StOk S) (few : l.length ≤ 900000) (c : Nat) {k : Nd} (hc : ns[c]? = some k) (hk : k.kind = 2) (m : Nat) (hm : m < 40) (hin : o5 fl c = [(m : Int)]) (h0 : tk S (m : Int) ≠ 0) :
    d5 Tryz.prog gW 80 [.ptr b 0 0, .i c] (l5 h b lb ns fl S l) (fun r h' => r = .undef ∧ h' = l5 h b lb ns fl S (l ++ m7 ns fl S c k)) := by
  have hb := ok.hb
  have hl := ok.hl
  have hne := ok.ne
  have hS := ok.held.1
  have gl := w8 (ns := ns) (fl := fl) (lb := lb) (n := l.length) hS
  have gv := F2 (ns := ns) (fl := fl) (lb := lb) (n := l.length) hS
  have t49 := x6 (ns := ns) (fl := fl) (lb := lb) (n := l.length) hS
  have c0 : (0 : Int) ≤ (c : Int) := by omega
  have hc' := I2 hc
  have hf := rt.f
  have hf' : fl.length ≤ 100 := by omega
  have hkd := rt.kind hc
  have hi := L8 hf c
  have ho := D7 hf c
  obtain ⟨hv, v0, v3⟩ := ok.held.at hm
  have gk := W2 (ns := ns) (fl := fl) (lb := lb) (n := l.length) hv
  have f0 : (0 : Int) ≤ (m : Int) := by omega
  have f40 : (m : Int) < 40 := by omega
  have hz' : (tk S (m : Int) == 0) = false := by simp [h0]
  have hil : (((o5 fl c).length : Int) == 1) = true := by rw [hin]; rfl
  have hi0 : (o5 fl c)[0]? = some (m : Int) := by rw [hin]; rfl
  have hei : eI (m : Int) = [.int .i64 (m : Int)] := rfl
  have hin0 : (0 : Int) ≤ 0 := Int.le_refl 0
  have e2 : (k.kind == 2) = true := by simp [hk]
  have e3 : (k.kind == 3) = false := by simp [hk]
  have e4 : (k.kind == 4) = false := by simp [hk]
  have e5 : (k.kind == 5) = false := by simp [hk]
  have e6 : (k.kind == 6) = false := by simp [hk]
  have e7 : (k.kind == 7) = false := by simp [hk]
  have e8 : (k.kind == 8) = false := by simp [hk]
  have e1 : (k.kind != 1) = true := by simp [hk]
  have hw9 := fun h => lr (G := gW) S hS h
  by_cases hw : bx (S.take 40) = 1
  · have eg : m7 ns fl S c k = m8 S ⟨c, 0, 7, 0, 0, S.set 48 1⟩ (o5 fl c) [] := by unfold m7 ci; rw [if_pos hk, if_pos hw]
    have hw' : (bx (S.take 40) == 1) = true := by simp [hw]
    have es := H7 hS (m := ⟨c, 0, 7, 0, 0, S⟩) (Chg.set hS (k := 48) (by omega) 1) hi (to := []) ⟨by simp, by simp⟩
    simp only at es
    rw [eg, ← es]
    have hst := fun X Y => uX (ns := ns) (fl := fl) ok ⟨c, 0, 7, 0, 0, S⟩ (o5 fl c) hi [X, Y] Bl (caps := []) trivial (fun T hT => by rw [List.length_set, hT]) (fun A T hT _ => yH X Y A T hT)
    refine i3 (rl := []) e9 Tryz.func80 rfl (rs := []) rfl Tryz.ntmps80 (by simp) ?_
    repeat' (first | ((first | apply b8 | apply i8 | apply C4); (try simp only [NB])) | ((repeat ((fail_if_success (refine hK _ ?_)); clear hK K)); refine hK _ ?_; clear hK K) | ((first | refine b9 fun K1 q6 => ?_ | refine k4 fun K1 q6 => ?_ | refine b7 fun A B hA hB => ?_); simp only [S1, simprocAttr, dg, e1, e2, e3, e4, e5, e6, e7, e8, hil, hi0, hei, hin0, f0, f40, gk, hz', hw', t49, c0, hc', eN, j6, m3, TSz, i6, h9, j3, PGB, r4 hb hne, l9 hl, m6 hb hne, j8 hl, gmB, spB, gl]; first | refine q6 _ ?_; clear q6 K1 | ((first | refine hA ?_ | refine hB ?_); clear hA hB A B) | (apply d4 AB; exact (hw9 _); refine q6 _ ?_; clear q6 K1) | (apply d4 E82; exact (hst _ _); refine q6 _ ?_; clear q6 K1)) | ((first | refine u6 (v := ?_) rfl rfl rfl rfl (by decide) (fun R1 K1 q6 => ?_) ?_ | refine y5 (v := ?_) rfl rfl rfl (by decide) (fun K1 q6 => ?_) ?_); rotate_left; (focus (simp only [S1, simprocAttr, dg, e1, e2, e3, e4, e5, e6, e7, e8, hil, hi0, hei, hin0, f0, f40, gk, hz', hw', t49, c0, hc', eN, j6, m3, TSz, i6, h9, j3, PGB, r4 hb hne, l9 hl, m6 hb hne, j8 hl, gmB, spB, gl]; first | (exact q6 _ _ _) | (apply j5 eu; exact (B5 _ fl hf' _ _); exact q6 _ _ _) | (apply j5 E57; exact (t8 _ fl hf' _ _); exact q6 _ _ _)))) | refine b6 fun K hK => ?_ | (refine D4 [0, 1, 2, 3, 4, 5, 6, 7, 8, 9, 10, 11, 12, 13] (fs := []) rfl rfl (by kernel_rfl) (by kernel_rfl) ?_) | ((first | apply b5 | refine i9 ?_ | apply c7 | apply c9); try simp only [NB, simprocAttr]))
    all_goals simp only [S1, simprocAttr, ENB, A0, y7, i5, m5, k8] <;> first | exact d6 hl | exact ⟨d6 hl, rfl⟩ | exact ⟨d6 hl, rfl, rfl⟩
  · have eg : m7 ns fl S c k = m8 S ⟨c, 0, 0, 0, 0, S⟩ (o5 fl c) [] := by unfold m7 ci; rw [if_pos hk, if_neg hw]
    have hw' : (bx (S.take 40) == 1) = false := by simp [hw]
    have es := H7 hS (m := ⟨c, 0, 0, 0, 0, S⟩) (Chg.id hS) hi (to := []) ⟨by simp, by simp⟩
    simp only at es
    rw [eg, ← es]
    refine i3 (rl := []) e9 Tryz.func80 rfl (rs := []) rfl Tryz.ntmps80 (by simp) ?_
    repeat' (first | ((first | apply b8 | apply i8 | apply C4); (try simp only [NB])) | ((repeat ((fail_if_success (refine hK _ ?_)); clear hK K)); refine hK _ ?_; clear hK K) | ((first | refine b9 fun K1 q6 => ?_ | refine k4 fun K1 q6 => ?_ | refine b7 fun A B hA hB => ?_); simp only [S1, simprocAttr, dg, e1, e2, e3, e4, e5, e6, e7, e8, hil, hi0, hei, hin0, f0, f40, gk, hz', hw', t49, c0, hc', eN, j6, m3, TSz, i6, h9, j3, PGB, r4 hb hne, l9 hl, m6 hb hne, j8 hl, gmB, spB, gl]; first | refine q6 _ ?_; clear q6 K1 | ((first | refine hA ?_ | refine hB ?_); clear hA hB A B) | (apply d4 AB; exact (hw9 _); refine q6 _ ?_; clear q6 K1) | (apply d4 E82; exact (sy ok ⟨c, 0, 0, 0, 0, S⟩ _ hi _); refine q6 _ ?_; clear q6 K1)) | ((first | refine u6 (v := ?_) rfl rfl rfl rfl (by decide) (fun R1 K1 q6 => ?_) ?_ | refine y5 (v := ?_) rfl rfl rfl (by decide) (fun K1 q6 => ?_) ?_); rotate_left; (focus (simp only [S1, simprocAttr, dg, e1, e2, e3, e4, e5, e6, e7, e8, hil, hi0, hei, hin0, f0, f40, gk, hz', hw', t49, c0, hc', eN, j6, m3, TSz, i6, h9, j3, PGB, r4 hb hne, l9 hl, m6 hb hne, j8 hl, gmB, spB, gl]; first | (exact q6 _ _ _) | (apply j5 eu; exact (B5 _ fl hf' _ _); exact q6 _ _ _) | (apply j5 E57; exact (t8 _ fl hf' _ _); exact q6 _ _ _)))) | refine b6 fun K hK => ?_ | (refine D4 [0, 1, 2, 3, 4, 5, 6, 7, 8, 9, 10, 11, 12, 13] (fs := []) rfl rfl (by kernel_rfl) (by kernel_rfl) ?_) | ((first | apply b5 | refine i9 ?_ | apply c7 | apply c9); try simp only [NB, simprocAttr]))
    all_goals simp only [S1, simprocAttr, ENB, A0, y7, i5, m5, k8] <;> first | exact d6 hl | exact ⟨d6 hl, rfl⟩ | exact ⟨d6 hl, rfl, rfl⟩
theorem yK (nk : NetOk ns fl) (rt : Right ns fl) (ok : GmOk h b lb S l) (st : StOk S) (few : l.length ≤ 900000) (c : Nat) {k : Nd} (hc : ns[c]? = some k) (hk : k.kind = 1) :
    d5 Tryz.prog gW 80 [.ptr b 0 0, .i c] (l5 h b lb ns fl S l) (fun r h' => r = .undef ∧ h' = l5 h b lb ns fl S (l ++ m7 ns fl S c k)) := by
  have hb := ok.hb
  have hl := ok.hl
  have hne := ok.ne
  have hS := ok.held.1
  have gl := w8 (ns := ns) (fl := fl) (lb := lb) (n := l.length) hS
  have gv := F2 (ns := ns) (fl := fl) (lb := lb) (n := l.length) hS
  have t49 := x6 (ns := ns) (fl := fl) (lb := lb) (n := l.length) hS
  have c0 : (0 : Int) ≤ (c : Int) := by omega
  have hc' := I2 hc
  have hf := rt.f
  have hf' : fl.length ≤ 100 := by omega
  have hkd := rt.kind hc
  have hi := L8 hf c
  have ho := D7 hf c
  have e2 : (k.kind == 2) = false := by simp [hk]
  have e3 : (k.kind == 3) = false := by simp [hk]
  have e4 : (k.kind == 4) = false := by simp [hk]
  have e5 : (k.kind == 5) = false := by simp [hk]
  have e6 : (k.kind == 6) = false := by simp [hk]
  have e7 : (k.kind == 7) = false := by simp [hk]
  have e8 : (k.kind == 8) = false := by simp [hk]
  have e1 : (k.kind != 1) = false := by simp [hk]
  have eg : m7 ns fl S c k = [] := by unfold m7; rw [if_neg (by omega), if_neg (by omega), if_neg (by omega), if_neg (by omega), if_neg (by omega), if_neg (by omega)]
  rw [eg, List.append_nil]
  refine i3 (rl := []) e9 Tryz.func80 rfl (rs := []) rfl Tryz.ntmps80 (by simp) ?_
  repeat' (first | ((first | apply b8 | apply i8 | apply C4); (try simp only [NB])) | ((repeat ((fail_if_success (refine hK _ ?_)); clear hK K)); refine hK _ ?_; clear hK K) | ((first | refine b9 fun K1 q6 => ?_ | refine k4 fun K1 q6 => ?_ | refine b7 fun A B hA hB => ?_); simp only [S1, simprocAttr, dg, e1, e2, e3, e4, e5, e6, e7, e8, c0, hc', eN, j6, m3, TSz, i6, h9, j3, PGB, r4 hb hne, l9 hl, m6 hb hne, j8 hl, gmB, spB, gl]; first | refine q6 _ ?_; clear q6 K1 | (refine hB ?_; clear hA hB A B)) | ((first | refine u6 (v := ?_) rfl rfl rfl rfl (by decide) (fun R1 K1 q6 => ?_) ?_ | refine y5 (v := ?_) rfl rfl rfl (by decide) (fun K1 q6 => ?_) ?_); rotate_left; (focus (simp only [S1, simprocAttr, dg, e1, e2, e3, e4, e5, e6, e7, e8, c0, hc', eN, j6, m3, TSz, i6, h9, j3, PGB, r4 hb hne, l9 hl, m6 hb hne, j8 hl, gmB, spB, gl]; first | (exact q6 _ _ _) | (apply j5 eu; exact (B5 _ fl hf' _ _); exact q6 _ _ _) | (apply j5 E57; exact (t8 _ fl hf' _ _); exact q6 _ _ _)))) | refine b6 fun K hK => ?_ | (refine D4 [0, 1, 2, 3, 4, 5, 6, 7, 8, 9, 10, 11, 12, 13] (fs := []) rfl rfl (by kernel_rfl) (by kernel_rfl) ?_) | ((first | apply b5 | refine i9 ?_ | apply c7 | apply c9); try simp only [NB, simprocAttr]))
  all_goals simp only [S1, simprocAttr, ENB, A0, y7, i5, m5, k8] <;> first | exact d6 hl | exact ⟨d6 hl, rfl⟩ | exact ⟨d6 hl, rfl, rfl⟩
theorem yL (nk : NetOk ns fl) (rt : Right ns fl) (ok : GmOk h b lb S l) (st : StOk S) (few : l.length ≤ 900000) (c : Nat) {k : Nd} (hc : ns[c]? = some k) (hk : k.kind = 7) (m : Nat) (hm : m < 40) (hin : o5 fl c = [(m : Int)]) (h0 : tk S (m : Int) ≠ 0) :
    d5 Tryz.prog gW 80 [.ptr b 0 0, .i c] (l5 h b lb ns fl S l) (fun r h' => r = .undef ∧ h' = l5 h b lb ns fl S (l ++ m7 ns fl S c k)) := by
  have hb := ok.hb
  have hl := ok.hl
  have hne := ok.ne
  have hS := ok.held.1
  have gl := w8 (ns := ns) (fl := fl) (lb := lb) (n := l.length) hS
  have gv := F2 (ns := ns) (fl := fl) (lb := lb) (n := l.length) hS
  have t49 := x6 (ns := ns) (fl := fl) (lb := lb) (n := l.length) hS
  have c0 : (0 : Int) ≤ (c : Int) := by omega
  have hc' := I2 hc
  have hf := rt.f
  have hf' : fl.length ≤ 100 := by omega
  have hkd := rt.kind hc
  have hi := L8 hf c
  have ho := D7 hf c
  obtain ⟨hv, v0, v3⟩ := ok.held.at hm
  have gk := W2 (ns := ns) (fl := fl) (lb := lb) (n := l.length) hv
  have f0 : (0 : Int) ≤ (m : Int) := by omega
  have f40 : (m : Int) < 40 := by omega
  have hz' : (tk S (m : Int) == 0) = false := by simp [h0]
  have hil : (((o5 fl c).length : Int) == 1) = true := by rw [hin]; rfl
  have hi0 : (o5 fl c)[0]? = some (m : Int) := by rw [hin]; rfl
  have hei : eI (m : Int) = [.int .i64 (m : Int)] := rfl
  have hin0 : (0 : Int) ≤ 0 := Int.le_refl 0
  have e2 : (k.kind == 2) = false := by simp [hk]
  have e3 : (k.kind == 3) = false := by simp [hk]
  have e4 : (k.kind == 4) = false := by simp [hk]
  have e5 : (k.kind == 5) = false := by simp [hk]
  have e6 : (k.kind == 6) = false := by simp [hk]
  have e7 : (k.kind == 7) = true := by simp [hk]
  have e8 : (k.kind == 8) = false := by simp [hk]
  have e1 : (k.kind != 1) = true := by simp [hk]
  have eg : m7 ns fl S c k = (i7 fl c).flatMap fun f => r5 ns fl S c f (Y1 fl f) (o5 fl c) := by unfold m7; rw [if_neg (by omega), if_neg (by omega), if_neg (by omega), if_neg (by omega), if_pos hk]
  let acc := fun j => ((i7 fl c).take j).flatMap fun f => r5 ns fl S c f (Y1 fl f) (o5 fl c)
  have hcl : ∀ f d, (r5 ns fl S c f d (o5 fl c)).length ≤ 1 := by
    intro f d
    unfold r5
    split
    · split
      · simp
      · exact B6 _ _ _ _
    · exact B6 _ _ _ _
  have hal : ∀ j, (acc j).length ≤ j := by
    intro j
    induction j with
    | zero => simp [acc]
    | succ j ih =>
      rcases Nat.lt_or_ge j (i7 fl c).length with hj | hj
      · have e : (i7 fl c).take (j + 1) = (i7 fl c).take j ++ [(i7 fl c)[j]] := by rw [List.take_add_one, List.getElem?_eq_getElem hj]; rfl
        simp only [acc] at ih ⊢
        rw [e, List.flatMap_append, List.length_append]
        have := hcl (i7 fl c)[j] (Y1 fl (i7 fl c)[j])
        simp only [List.flatMap_cons, List.flatMap_nil, List.append_nil]
        omega
      · have e : (i7 fl c).take (j + 1) = (i7 fl c).take j := by rw [List.take_of_length_le (by omega), List.take_of_length_le hj]
        simp only [acc] at ih ⊢
        rw [e]; omega
  have hto : ∀ j, ∀ y ∈ acc j, y.to.length = 49 := by
    intro j y hy
    obtain ⟨f, _, hy⟩ := List.mem_flatMap.mp hy
    unfold r5 at hy
    split at hy
    · split at hy
      · cases hy
      · exact y9 hS (by rw [List.length_set, hS]) y hy
    · exact y9 hS hS y hy
  have eg2 : m7 ns fl S c k = acc (i7 fl c).length := by rw [eg]; simp only [acc, List.take_length]
  rw [eg2]
  have hol := ho.1
  refine i3 (rl := []) e9 Tryz.func80 rfl (rs := []) rfl Tryz.ntmps80 (by simp) ?_
  repeat' (first | ((first | apply b8 | apply i8 | apply C4); (try simp only [NB])) | ((repeat ((fail_if_success (refine hK _ ?_)); clear hK K)); refine hK _ ?_; clear hK K) | ((first | refine b9 fun K1 q6 => ?_ | refine k4 fun K1 q6 => ?_ | refine b7 fun A B hA hB => ?_); simp only [S1, simprocAttr, dg, e1, e2, e3, e4, e5, e6, e7, e8, hil, hi0, hei, hin0, f0, f40, gk, hz', c0, hc', eN, j6, m3, TSz, i6, h9, j3, PGB, r4 hb hne, l9 hl, m6 hb hne, j8 hl, gmB, spB, gl]; first | refine q6 _ ?_; clear q6 K1 | ((first | refine hA ?_ | refine hB ?_); clear hA hB A B)) | ((first | refine u6 (v := ?_) rfl rfl rfl rfl (by decide) (fun R1 K1 q6 => ?_) ?_ | refine y5 (v := ?_) rfl rfl rfl (by decide) (fun K1 q6 => ?_) ?_); rotate_left; (focus (simp only [S1, simprocAttr, dg, e1, e2, e3, e4, e5, e6, e7, e8, hil, hi0, hei, hin0, f0, f40, gk, hz', c0, hc', eN, j6, m3, TSz, i6, h9, j3, PGB, r4 hb hne, l9 hl, m6 hb hne, j8 hl, gmB, spB, gl]; first | (exact q6 _ _ _) | (apply j5 eu; exact (B5 _ fl hf' _ _); exact q6 _ _ _) | (apply j5 E57; exact (t8 _ fl hf' _ _); exact q6 _ _ _)))) | refine b6 fun K hK => ?_ | (refine D4 [0, 1, 2, 3, 4, 5, 6, 7, 8, 9, 10, 11, 12, 13] (fs := []) rfl rfl (by kernel_rfl) (by kernel_rfl) ?_) | ((first | apply b5 | refine i9 ?_ | apply c7 | apply c9); try simp only [NB, simprocAttr]))
  refine R5 (i7 fl c).length 174 (fun j => l5 h b lb ns fl S (l ++ acc j)) (fun j => [(121, .i j), (120, .i (i7 fl c).length), (119, aI (i7 fl c)), (5, aI (o5 fl c)), (1, .i c), (0, .ptr b 0 0)]) (fun j => []) (fun j => True) (fun j => ⟨by rw [i5, i5], aK hl⟩) ?_ trivial fun j hj hp K hK => ?_
  · have e0 : acc 0 = [] := by simp [acc]
    simp only [e0, List.append_nil]
    refine ⟨rfl, ⟨_, rfl⟩, ?_, trivial⟩
    simp only [S1, simprocAttr, KNB, i5] <;> (try and_intros) <;> (try assumption) <;> (try trivial) <;> (try omega)
  have okj : GmOk h b lb S (l ++ acc j) := ok.app (hto j) (by have := hal j; omega)
  rcases Nat.lt_or_ge j (i7 fl c).length with hlt | hge
  · obtain ⟨f, hfj⟩ : ∃ f, (i7 fl c)[j]? = some f := ⟨_, List.getElem?_eq_getElem hlt⟩
    obtain ⟨q, hfq, hq⟩ := fa c f (List.mem_of_getElem? hfj)
    subst hfq
    obtain ⟨x, hx⟩ : ∃ x, fl[q]? = some x := ⟨_, List.getElem?_eq_getElem hq⟩
    obtain ⟨⟨s0, s1⟩, d0, d1⟩ := rt.isIn x (List.mem_of_getElem? hx)
    obtain ⟨d, hd⟩ := Int.eq_ofNat_of_zero_le d0
    obtain ⟨k2, hk2⟩ : ∃ k2, ns[d]? = some k2 := ⟨_, List.getElem?_eq_getElem (by omega)⟩
    have hkd2 := rt.kind hk2
    have hx' := U6 hx
    have q0 : (0 : Int) ≤ (q : Int) := by omega
    have eds : Y1 fl (q : Int) = (d : Int) := by unfold Y1; rw [Int.toNat_natCast, hx]; exact hd
    have ea' : l ++ acc (j + 1) = (l ++ acc j) ++ r5 ns fl S c q d (o5 fl c) := by
      simp only [acc]
      rw [List.take_add_one, hfj, List.flatMap_append, List.append_assoc]
      simp [eds]
    generalize hlj : l ++ acc j = lj at ea' okj ⊢
    repeat' (first | ((repeat ((fail_if_success (refine hK _ ?_)); clear hK K)); refine hK _ ?_; clear hK K) | ((first | refine b9 fun K1 q6 => ?_ | refine b7 fun A B hA hB => ?_); simp only [S1, simprocAttr, dg, F5 hfj, O1 hlt, H3 (by omega) hlt, q0, hx', eF, hd, al, mb, m3, TSz, i6, h9, j3, PGB, r4 hb hne, l9 hl, m6 hb hne, j8 hl, gmB, spB, gl]; first | refine q6 _ ?_; clear q6 K1 | (refine hA ?_; clear hA hB A B) | (apply d4 E57; exact (t8 _ fl hf' _ _); refine q6 _ ?_; clear q6 K1) | (apply d4 AA; exact (fi okj st ⟨c, q, 0, 0, 0, S⟩ d hk2 ⟨hkd2.2.1, hkd2.2.2.2⟩ _ hi _ (D7 hf d) rfl); refine q6 _ ?_; clear q6 K1)) | refine b6 fun K hK => ?_ | ((first | apply b8 | apply b5 | apply c7 | apply c9); try simp only [NB, simprocAttr]))
    all_goals refine ⟨hlt, trivial, ?_⟩
    all_goals simp only [ea']
    all_goals refine ⟨rfl, ⟨[], by simp only [List.append_nil]⟩, ?_, trivial⟩
    all_goals simp only [S1, simprocAttr, KNB, i5] <;> (try and_intros) <;> (try assumption) <;> (try trivial) <;> (try omega)
  · obtain rfl : j = (i7 fl c).length := by omega
    repeat' (first | ((repeat ((fail_if_success (refine hK _ ?_)); clear hK K)); refine hK _ ?_; clear hK K) | ((first | refine b9 fun K1 q6 => ?_ | refine b7 fun A B hA hB => ?_); simp only [S1, simprocAttr, dg, I1]; first | refine q6 _ ?_; clear q6 K1 | (refine hB ?_; clear hA hB A B)) | refine b6 fun K hK => ?_ | ((first | apply b8 | apply b5 | apply f9); try simp only [NB, simprocAttr]))
    all_goals simp only [S1, simprocAttr, ENB, A0, y7, i5, m5, k8] <;> first | exact d6 hl | exact ⟨d6 hl, rfl⟩ | exact ⟨d6 hl, rfl, rfl⟩
end
end
end Go.Proofs.YtbbmfemplmelhaaGreatDoor.AM
