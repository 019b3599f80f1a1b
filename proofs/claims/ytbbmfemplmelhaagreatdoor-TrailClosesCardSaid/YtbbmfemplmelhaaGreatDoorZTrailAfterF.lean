/- Proved here, in parts, for one law: contracts of the functions that the laws call, and the plain facts behind them. Conditions: none. -/
import Derived.Test.YtbbmfemplmelhaaGreatDoorZTrailAfterE
set_option linter.unusedVariables false
set_option linter.unusedSimpArgs false
set_option linter.defProp false
set_option maxRecDepth 4000
set_option maxHeartbeats 4000000
namespace Go.Proofs.YtbbmfemplmelhaaGreatDoor.AM
open Go Go.Proofs
section
def cp := And.intro T2 (And.intro T3 (And.intro T4 (And.intro T22 (And.intro T25 (And.intro T28 (And.intro T31 (And.intro T41 (And.intro T57 (And.intro T58 (And.intro T77 (And.intro T92 (And.intro fU (And.intro nf (And.intro iU (And.intro iV (And.intro ng jL))))))))))))))))
attribute [local irreducible] awp n9 k8 l8 o5 m9
theorem sr {h : Heap} {b lb : Nat} {ns : List Nd} {fl : List Fl} {S : List Int} {l : List Sp} (ok : GmOk h b lb S l) (m : Sp) (L : Heap) {f : FuncId} (hE : g8 Tryz.prog f) {caps : List AV} (hcap : o4 (h.length + L.length) caps) {chg : List Int → List Int} (hlen : ∀ T : List Int, T.length = 49 → (chg T).length = 49)
    (hC : ∀ (A : Option Blk) (T : List Int), T.length = 49 → T.drop 40 = S.drop 40 → d5 Tryz.prog gW f (.ptr (h.length + L.length + 1) 0 0 :: caps) (l7 h b lb ns fl S l ++ (L ++ [A, some ⟨0, T.map AV.i⟩])) (fun r h' => r = .undef ∧ h' = l7 h b lb ns fl S l ++ (L ++ [A, some ⟨0, (chg T).map AV.i⟩]))) :
    d5 Tryz.prog gW 82 [.ptr b 0 0, aMv m, .p .nils, .p .nils, .fn f caps] (l7 h b lb ns fl S l ++ L) (fun r h' => r = .undef ∧ h' = l7 h b lb ns fl S (l ++ stF S m chg [] []) ++ L) := by
  have := W2 (G := gW) (ns := ns) (fl := fl) ok m [] [] ⟨by simp, by simp⟩ ⟨by simp, by simp⟩ L hE hcap hlen hC
  refine d5.nrm ?_
  simp only [R2, bS, nrm]
  exact this
theorem yr {h : Heap} {b lb : Nat} {ns : List Nd} {fl : List Fl} {S : List Int} {l : List Sp} {a : Nat} (ha : a < 4) {q : Int} (hq : S[44 + a]? = some q) (hq0 : 0 ≤ q ∧ q ≤ 3) (A : Option Blk) (T : List Int) (hT : T.length = 49) (hd : T.drop 40 = S.drop 40) :
    d5 Tryz.prog gW 83 [.ptr (h.length + 1 + 1) 0 0, .ptr h.length 0 0] (l7 h b lb ns fl S l ++ ([some ⟨0, [.i a]⟩] ++ [A, some ⟨0, T.map AV.i⟩]))
    (fun r h' => r = .undef ∧ h' = l7 h b lb ns fl S l ++ ([some ⟨0, [.i a]⟩] ++ [A, some ⟨0, (T.set (44 + a) (q + 1)).map AV.i⟩])) := by
  have hqT : T[44 + a]? = some q := by
    have e : (T.drop 40)[4 + a]? = (S.drop 40)[4 + a]? := by rw [hd]
    rw [List.getElem?_drop, List.getElem?_drop, show 40 + (4 + a) = 44 + a by omega] at e
    rw [e, hq]
  have := sj (G := gW) (H := l7 h b lb ns fl S l ++ ([some ⟨0, [.i a]⟩] ++ [A, some ⟨0, T.map AV.i⟩])) (c := h.length + 2) (r := h.length) (gc := 0) (gr := 0) (by rw [u6]; rfl) hT ha (by rw [A4]; rfl) hqT hq0
  rw [z6] at this
  exact this
theorem fv {ns : List Nd} {fl : List Fl} (nk : NetOk ns fl) {S : List Int} (hS : S.length = 49) (h : Heap) :
    d5 Tryz.prog gW 59 [G4 ns fl, aS S] h (fun r h' => r = rT (p9 ns fl S) ∧ h' = h) := by
  have hne := J3 hS
  have hck := fun h => dL nk hS h
  have dm := L8 (H7 hS (k := 48) (by omega))
  have emd : S.getD 48 0 = mdS S := rfl
  rw [emd] at dm
  have t49 : ((S.map AV.i).drop 0).take 49 = S.map AV.i := by rw [List.drop_zero]; exact List.take_of_length_le (by rw [List.length_map, hS]; exact Nat.le_refl _)
  have t49' : (S.map AV.i).take 49 = S.map AV.i := by rwa [List.drop_zero] at t49
  by_cases h0 : stC ns fl S = 0
  case neg =>
    have e : p9 ns fl S = [] := by unfold p9; rw [if_pos (.inl h0)]
    have f0 : (stC ns fl S != 0) = true := by simp [h0]
    rw [e]
    refine c8 (rl := []) d7 Tryz.func59 rfl (rs := [.tmp 4]) rfl Tryz.ntmps59 (by simp) ?_
    repeat' (first | ((repeat ((fail_if_success (refine hK _ ?_)); clear hK K)); refine hK _ ?_; clear hK K) | ((first | refine b9 fun K1 q8 => ?_ | refine b7 fun A B hA hB => ?_); simp only [S1, simprocAttr, cp, TSz, i9, i7, j5, f0, hne, hS, d9, t49', dm, d8, e9, List.length_map]; first | refine q8 _ ?_; clear q8 K1 | (refine hA ?_; clear hA hB A B) | (apply d4 E51; exact (hck _); refine q8 _ ?_; clear q8 K1)) | refine b6 fun K hK => ?_ | ((first | apply b8 | apply b5 | apply d3); try simp only [NB, simprocAttr]))
    all_goals simp only [S1, simprocAttr, ENB, cp]
    all_goals rfl
  have f0 : (stC ns fl S != 0) = false := by simp [h0]
  by_cases h1 : mdS S = 0
  case neg =>
    have e : p9 ns fl S = [] := by unfold p9; rw [if_pos (.inr h1)]
    have f1 : (mdS S != 0) = true := by simp [h1]
    rw [e]
    refine c8 (rl := []) d7 Tryz.func59 rfl (rs := [.tmp 4]) rfl Tryz.ntmps59 (by simp) ?_
    repeat' (first | ((repeat ((fail_if_success (refine hK _ ?_)); clear hK K)); refine hK _ ?_; clear hK K) | ((first | refine b9 fun K1 q8 => ?_ | refine b7 fun A B hA hB => ?_); simp only [S1, simprocAttr, cp, TSz, i9, i7, j5, f0, f1, hne, hS, d9, t49', dm, d8, e9, List.length_map]; first | refine q8 _ ?_; clear q8 K1 | (refine hA ?_; clear hA hB A B) | (apply d4 E51; exact (hck _); refine q8 _ ?_; clear q8 K1)) | refine b6 fun K hK => ?_ | ((first | apply b8 | apply b5 | apply d3); try simp only [NB, simprocAttr]))
    all_goals simp only [S1, simprocAttr, ENB, cp]
    all_goals rfl
  have f1 : (mdS S != 0) = false := by simp [h1]
  have e : p9 ns fl S = w7 ns fl S ns.length ++ p8 ns S 4 := by unfold p9; rw [if_neg (by simp [h0, h1])]
  rw [e]
  refine c8 (rl := []) d7 Tryz.func59 rfl (rs := [.tmp 4]) rfl Tryz.ntmps59 (by simp) ?_
  have ov2 := pZ hS
  repeat' (first | ((repeat ((fail_if_success (refine hK _ ?_)); clear hK K)); refine hK _ ?_; clear hK K) | ((first | refine b9 fun K1 q8 => ?_ | refine b7 fun A B hA hB => ?_); simp only [S1, simprocAttr, cp, TSz, i9, i7, j5, f0, f1, hne, hS, ov2, d9, t49', dm, d8, e9, List.length_map, List.drop_succ_cons, List.drop_zero, List.all_append]; first | refine q8 _ ?_; clear q8 K1 | (refine hB ?_; clear hA hB A B) | (apply d4 E51; exact (hck _); refine q8 _ ?_; clear q8 K1)) | refine b6 fun K hK => ?_ | ((first | apply b8 | apply b5 | apply c7 | apply c9); try simp only [NB, simprocAttr]))
  obtain ⟨hn0, hok⟩ := fg h0
  have rt := Right.of hn0
  have st := wD hS hok
  have hn := rt.n
  have hf := rt.f
  have hnl : ∀ j, j ≤ ns.length → (w7 ns fl S j).length ≤ 2400 := fun j hj => Nat.le_trans (aZ ns fl S hf j) (by omega)
  have gok : ∀ l : List Sp, (∀ y ∈ l, y.to.length = 49) → l.length ≤ 3000 → GmOk (h ++ [some ⟨0, x6 ns fl⟩, some ⟨0, S.map AV.i⟩, none, none]) (h.length + 2) (h.length + 3) S l :=
    fun l h1 h2 => ⟨by simp, by simp, by omega, st.held, h1, by omega⟩
  have hnode : ∀ (l : List Sp), (∀ y ∈ l, y.to.length = 49) → l.length ≤ 3000 → ∀ (c : Nat) (k : Nd), ns[c]? = some k → d5 Tryz.prog gW 80 [.ptr (h.length + 2) 0 0, .i c] (h ++ [some ⟨0, x6 ns fl⟩, some ⟨0, S.map AV.i⟩, gmB ns fl S (h.length + 3) l, spB l])
      (fun r h' => r = .undef ∧ h' = h ++ [some ⟨0, x6 ns fl⟩, some ⟨0, S.map AV.i⟩, gmB ns fl S (h.length + 3) (l ++ n8 ns fl S c k), spB (l ++ n8 ns fl S c k)]) := by
    intro l h1 h2 c k hc
    have := qj nk rt (gok l h1 h2) st (by omega) c hc
    have e1 := Y1 h (some ⟨0, x6 ns fl⟩) (some ⟨0, S.map AV.i⟩) none none [] ns fl S l
    have e2 := Y1 h (some ⟨0, x6 ns fl⟩) (some ⟨0, S.map AV.i⟩) none none [] ns fl S (l ++ n8 ns fl S c k)
    rw [List.append_nil] at e1 e2
    rwa [e1, e2] at this
  refine C0 ns.length 57 (fun j => [(25, .i j), (24, .i ns.length), (5, .ptr (h.length + 2) 0 0), (3, .ptr (h.length + 1) 0 0), (2, .ptr h.length 0 0)])
    (fun j => [some ⟨0, x6 ns fl⟩, some ⟨0, S.map AV.i⟩, gmB ns fl S (h.length + 3) (w7 ns fl S j), spB (w7 ns fl S j)]) (fun j => True) ?_ trivial fun j hj hp K hK => ?_
  · refine (o6.game hS rfl).trans (Sub.ghost ⟨rfl, ⟨[], by simp only [List.append_nil]; rfl⟩, ?_, ⟨trivial, trivial, trivial⟩, g9 _ _, D8 (by simp), g9 _ _, trivial⟩)
    simp only [S1, simprocAttr, KNB] <;> (try and_intros) <;> (try assumption) <;> (try trivial) <;> (try omega)
  rcases Nat.lt_or_ge j ns.length with hlt | hge
  · obtain ⟨k, hx⟩ : ∃ k, ns[j]? = some k := ⟨_, List.getElem?_eq_getElem hlt⟩
    have ej : w7 ns fl S (j + 1) = w7 ns fl S j ++ n8 ns fl S j k := by rw [w7, hx]
    have hnd := hnode (w7 ns fl S j) (U8 hS j) (by have := hnl j hj; omega) j k hx
    repeat' (first | ((repeat ((fail_if_success (refine hK _ ?_)); clear hK K)); refine hK _ ?_; clear hK K) | ((first | refine b9 fun K1 q8 => ?_ | refine b7 fun A B hA hB => ?_); simp only [S1, simprocAttr, cp, W7 hlt, K5 nk.n hlt]; first | refine q8 _ ?_; clear q8 K1 | (refine hA ?_; clear hA hB A B) | (apply d4 E80; exact hnd; refine q8 _ ?_; clear q8 K1)) | refine b6 fun K hK => ?_ | ((first | apply b8 | apply b5 | apply c7 | apply c9); try simp only [NB, simprocAttr]))
    all_goals refine ⟨hlt, trivial, ?_⟩
    all_goals simp only [ej]
    all_goals refine ⟨rfl, ⟨_, rfl⟩, ?_, ⟨trivial, trivial, trivial⟩, g9 _ _, D8 (by simp), g9 _ _, trivial⟩
    all_goals simp only [S1, simprocAttr, KNB] <;> (try and_intros) <;> (try assumption) <;> (try trivial) <;> (try omega)
  obtain rfl : j = ns.length := by omega
  have ar44 : ((S.map AV.i).drop 44).take 4 = ((S.drop 44).take 4).map AV.i := by rw [List.map_take, List.map_drop]
  have l4 : ((S.drop 44).take 4).length = 4 := by simp [hS]
  repeat' (first | ((repeat ((fail_if_success (refine hK _ ?_)); clear hK K)); refine hK _ ?_; clear hK K) | ((first | refine b9 fun K1 q8 => ?_ | refine b7 fun A B hA hB => ?_); simp only [S1, simprocAttr, cp, TSz, i9, dF, ar44, hS, d8, e9, List.length_map, List.length_drop, List.length_take]; first | refine q8 _ ?_; clear q8 K1 | (refine hB ?_; clear hA hB A B)) | refine b6 fun K hK => ?_ | ((first | apply b8 | apply b5 | apply c7 | apply f9); try simp only [NB, simprocAttr]))
  have hl0 : ∀ y ∈ w7 ns fl S ns.length, y.to.length = 49 := U8 hS ns.length
  have hl1 : (w7 ns fl S ns.length).length ≤ 2400 := hnl _ (Nat.le_refl _)
  generalize w7 ns fl S ns.length = l0 at *
  have hlm : ∀ m, m ≤ 4 → (l0 ++ p8 ns S m).length ≤ 2500 := fun m hm => by
    rw [List.length_append]; have := ba ns S m; omega
  have htm : ∀ m, ∀ y ∈ l0 ++ p8 ns S m, y.to.length = 49 := fun m y hy => (List.mem_append.mp hy).elim (hl0 y) (cG hS m y)
  refine o9 4 57 (fun m => [(34, .i m), (33, .agg (((S.drop 44).take 4).map AV.i)), (5, .ptr (h.length + 2) 0 0), (3, .ptr (h.length + 1) 0 0), (2, .ptr h.length 0 0)])
    (fun m => [some ⟨0, x6 ns fl⟩, some ⟨0, S.map AV.i⟩, gmB ns fl S (h.length + 3) (l0 ++ p8 ns S m), spB (l0 ++ p8 ns S m)]) (fun m => True) ?_ trivial fun m hm hp K hK => ?_
  · have s0 : p8 ns S 0 = [] := rfl
    simp only [s0, List.append_nil]
    refine ⟨rfl, ⟨[], by simp only [List.append_nil]⟩, ?_, ⟨trivial, trivial, trivial⟩, g9 _ _, D8 (by simp), g9 _ _, trivial⟩
    simp only [S1, simprocAttr, KNB] <;> (try and_intros) <;> (try assumption) <;> (try trivial) <;> (try omega)
    all_goals exact g9 _ _
  rcases Nat.lt_or_ge m 4 with hlt | hge
  · have m0 : (0 : Int) ≤ (m : Int) := by omega
    have m4 : (m : Int) < 4 := by omega
    obtain ⟨hq, q0, q3⟩ := st.q hlt
    have hq4 : ((S.drop 44).take 4)[m]? = some (qAt S m) := by rw [List.getElem?_take_of_lt hlt, List.getElem?_drop]; exact hq
    have hdq := L8 hq4
    have hw9 := fun h => nX (G := gW) ns fl nk.n m hlt h
    have es : p8 ns S (m + 1) = p8 ns S m ++ K6 ns S m := rfl
    cases ew : cF ns m with
    | false =>
      rw [ew] at hw9
      have hs : K6 ns S m = [] := by unfold K6; rw [if_neg (by simp [ew])]
      repeat' (first | ((repeat ((fail_if_success (refine hK _ ?_)); clear hK K)); refine hK _ ?_; clear hK K) | ((first | refine b9 fun K1 q8 => ?_ | refine b7 fun A B hA hB => ?_); simp only [S1, simprocAttr, cp, m0, m4, P7 (n := 4) (by omega) hlt, hdq, l4, List.length_map, Nat.mul_one]; first | refine q8 _ ?_; clear q8 K1 | ((first | refine hA ?_ | refine hB ?_); clear hA hB A B) | (apply d4 E81; exact (hw9 _); refine q8 _ ?_; clear q8 K1)) | refine b6 fun K hK => ?_ | ((first | apply b8 | apply b5 | apply c7 | apply c9); try simp only [NB, simprocAttr]))
      all_goals refine ⟨hlt, trivial, ?_⟩
      all_goals simp only [es, hs, List.append_nil]
      all_goals refine ⟨rfl, ⟨_, rfl⟩, ?_, ⟨trivial, trivial, trivial⟩, g9 _ _, D8 (by simp), g9 _ _, trivial⟩
      all_goals simp only [S1, simprocAttr, KNB] <;> (try and_intros) <;> (try assumption) <;> (try trivial) <;> (try omega)
      all_goals exact g9 _ _
    | true =>
      rw [ew] at hw9
      by_cases h3 : qAt S (m : Int) < 3
      · have h3' : decide (qAt S (m : Int) < 3) = true := decide_eq_true h3
        have hs : K6 ns S m = o8 S ⟨-1, m, 5, 0, m, S.set (44 + m) (qAt S m + 1)⟩ [] [] := by unfold K6; rw [if_pos ⟨ew, h3⟩]
        generalize qAt S (m : Int) = q at *
        have em := H3 hS (m := ⟨-1, m, 5, 0, m, S⟩) (Chg.set hS (k := 44 + m) (by omega) (q + 1)) (fr := []) (to := []) ⟨by simp, by simp⟩ ⟨by simp, by simp⟩
        simp only at em
        have hadd : d5 Tryz.prog gW 82 [.ptr (h.length + 2) 0 0, aMv ⟨-1, m, 5, 0, m, S⟩, .p .nils, .p .nils, .fn 83 [.ptr (h.length + 4) 0 0]] (h ++ (some ⟨0, x6 ns fl⟩ :: some ⟨0, S.map AV.i⟩ :: gmB ns fl S (h.length + 3) (l0 ++ p8 ns S m) :: spB (l0 ++ p8 ns S m) :: [some ⟨0, [.i m]⟩]))
            (fun r h' => r = .undef ∧ h' = h ++ (some ⟨0, x6 ns fl⟩ :: some ⟨0, S.map AV.i⟩ :: gmB ns fl S (h.length + 3) (l0 ++ p8 ns S m ++ K6 ns S m) :: spB (l0 ++ p8 ns S m ++ K6 ns S m) :: [some ⟨0, [.i m]⟩])) := by
          have := sr (ns := ns) (fl := fl) (gok _ (htm m) (by have := hlm m (by omega); omega)) ⟨-1, m, 5, 0, m, S⟩ [some ⟨0, [.i m]⟩] E83 (caps := [.ptr (h.length + 4) 0 0]) ⟨by simp [s4], trivial⟩ (chg := fun T => T.set (44 + m) (q + 1)) (fun T hT => by rw [List.length_set, hT])
            (fun A T hT hd => by
              have := yr (h := h ++ [some ⟨0, x6 ns fl⟩, some ⟨0, S.map AV.i⟩, none, none]) (b := h.length + 2) (lb := h.length + 3) (ns := ns) (fl := fl) (S := S) (l := l0 ++ p8 ns S m) hlt hq ⟨q0, q3⟩ A T hT hd
              simpa using this)
          rw [em, ← hs] at this
          rwa [Y1, Y1] at this
        repeat' (first | ((repeat ((fail_if_success (refine hK _ ?_)); clear hK K)); refine hK _ ?_; clear hK K) | ((first | refine b9 fun K1 q8 => ?_ | refine b7 fun A B hA hB => ?_); simp only [S1, simprocAttr, cp, m0, m4, P7 (n := 4) (by omega) hlt, hdq, l4, h3', List.length_map, Nat.mul_one]; first | refine q8 _ ?_; clear q8 K1 | (refine hA ?_; clear hA hB A B) | (apply d4 E81; exact (hw9 _); refine q8 _ ?_; clear q8 K1) | (apply d4 E82; exact hadd; refine q8 _ ?_; clear q8 K1)) | refine b6 fun K hK => ?_ | ((first | apply b8 | apply b5 | apply c7 | apply c9); try simp only [NB, simprocAttr]))
        all_goals refine ⟨hlt, trivial, ?_⟩
        all_goals simp only [es, ← List.append_assoc]
        all_goals refine ⟨rfl, ⟨_, by simp only [List.append_assoc, List.cons_append, List.nil_append]; rfl⟩, ?_, ⟨trivial, trivial, trivial⟩, g9 _ _, D8 (by simp), g9 _ _, trivial⟩
        all_goals simp only [S1, simprocAttr, KNB] <;> (try and_intros) <;> (try assumption) <;> (try trivial) <;> (try omega)
        all_goals exact g9 _ _
      · have h3' : decide (qAt S (m : Int) < 3) = false := decide_eq_false h3
        have hs : K6 ns S m = [] := by unfold K6; rw [if_neg (by simp [h3])]
        repeat' (first | ((repeat ((fail_if_success (refine hK _ ?_)); clear hK K)); refine hK _ ?_; clear hK K) | ((first | refine b9 fun K1 q8 => ?_ | refine b7 fun A B hA hB => ?_); simp only [S1, simprocAttr, cp, m0, m4, P7 (n := 4) (by omega) hlt, hdq, l4, h3', List.length_map, Nat.mul_one]; first | refine q8 _ ?_; clear q8 K1 | ((first | refine hA ?_ | refine hB ?_); clear hA hB A B) | (apply d4 E81; exact (hw9 _); refine q8 _ ?_; clear q8 K1)) | refine b6 fun K hK => ?_ | ((first | apply b8 | apply b5 | apply c7 | apply c9); try simp only [NB, simprocAttr]))
        all_goals refine ⟨hlt, trivial, ?_⟩
        all_goals simp only [es, hs, List.append_nil]
        all_goals refine ⟨rfl, ⟨_, rfl⟩, ?_, ⟨trivial, trivial, trivial⟩, g9 _ _, D8 (by simp), g9 _ _, trivial⟩
        all_goals simp only [S1, simprocAttr, KNB] <;> (try and_intros) <;> (try assumption) <;> (try trivial) <;> (try omega)
        all_goals exact g9 _ _
  obtain rfl : m = 4 := by omega
  have hz := htm 4
  have hrf := aR (ns := ns) (fl := fl) (lb := h.length + 3) (n := (l0 ++ p8 ns S 4).length) hS
  rw [List.length_append] at hrf
  repeat' (first | ((repeat ((fail_if_success (refine hK _ ?_)); clear hK K)); refine hK _ ?_; clear hK K) | ((first | refine b9 fun K1 q8 => ?_ | refine b7 fun A B hA hB => ?_); simp only [S1, simprocAttr, cp, gmB, hrf]; first | refine q8 _ ?_; clear q8 K1 | (refine hB ?_; clear hA hB A B)) | refine b6 fun K hK => ?_ | ((first | apply b8 | apply b5 | apply f9 | apply d3); try simp only [NB, simprocAttr]))
  rw [show rT (l0 ++ p8 ns S 4) = .p (.sl ((l0 ++ p8 ns S 4).map nV)) from congrArg (fun x => AV.p (.sl x)) (kw hz).symm]
  exact gb qa tg (.inr rfl) (l := l0 ++ p8 ns S 4) (List.length_append).symm rfl (by simp only [spB, wF hz, r8, n5, List.getElem?_cons_succ, List.getElem?_cons_zero, List.length_append, if_true]) (by omega) (by simp) (by simp) rfl
end
section
def bx := And.intro T2 (And.intro T3 (And.intro T4 (And.intro T22 (And.intro T25 (And.intro T28 (And.intro T31 (And.intro T41 (And.intro T57 (And.intro T58 (And.intro T77 (And.intro T89 (And.intro T92 (And.intro fU nf)))))))))))))
attribute [local irreducible] awp n9 k8 l8 o5 m9
theorem Q2 {ns : List Nd} {fl : List Fl} {S : List Int} (hS : S.length = 49) : ∀ y ∈ p9 ns fl S, y.to.length = 49 := by
  intro y hy
  unfold p9 at hy
  split at hy
  · cases hy
  · rcases List.mem_append.mp hy with h | h
    · exact U8 hS _ y h
    · exact cG hS _ y h
theorem M6 {ns : List Nd} {fl : List Fl} {S : List Int} : (p9 ns fl S).length ≤ 2500 := by
  unfold p9
  split
  · simp
  · rename_i h0
    rw [not_or] at h0
    have rt := Right.of (fg (by simpa using h0.1)).1
    have hn := rt.n
    have hf := rt.f
    have h1 := aZ ns fl S hf ns.length
    have h2 := ba ns S 4
    rw [List.length_append]
    have : 100 * ns.length ≤ 100 * 24 := Nat.mul_le_mul_left _ hn
    omega
def cMv (y : Sp) : List Int := [y.node, y.arg, y.lk, y.ln, y.la]
def eMv (y : Sp) : List PV := (cMv y).map (PV.int .i64)
def kI (l : List Sp) : List Int := l.flatMap cMv
abbrev zM (l : List Sp) : AV := .p (.sl (l.map eMv))
theorem yu (y : Sp) : (eMv y).length = 5 := rfl
theorem zN (y : Sp) : ∀ x ∈ eMv y, x ≠ .nils := by
  intro x hx
  obtain ⟨n, _, rfl⟩ := List.mem_map.mp hx
  exact fun e => by cases e
theorem zO (l : List Sp) : (kI l).map AV.i = (X6 eMv l).map AV.p := by
  unfold X6 kI eMv
  rw [List.map_flatMap, List.map_flatMap]
  congr 1
theorem qk : ∀ l : List Sp, (kI l).length = l.length * 5
  | [] => rfl
  | x :: r => by
    have := qk r
    unfold kI at this ⊢
    rw [List.flatMap_cons, List.length_append, this, List.length_cons]; simp [cMv] <;> omega
theorem uO {l : List Sp} {j : Nat} {y : Sp} (h : l[j]? = some y) : kI (l.take (j + 1)) = kI (l.take j) ++ [y.node, y.arg, y.lk, y.ln, y.la] := by
  unfold kI
  rw [List.take_add_one, h, List.flatMap_append]
  simp [cMv]
theorem iB {ns : List Nd} {fl : List Fl} (nk : NetOk ns fl) {S : List Int} (hS : S.length = 49) (h : Heap) :
    d5 Tryz.prog gW 38 [G4 ns fl, aS S] h (fun r h' => r = zM (p9 ns fl S) ∧ h' = h) := by
  have hne := J3 hS
  have hst := fun h => fv nk hS h
  have hto := Q2 (ns := ns) (fl := fl) hS
  have hln := M6 (ns := ns) (fl := fl) (S := S)
  have t49' : (S.map AV.i).take 49 = S.map AV.i := List.take_of_length_le (by rw [List.length_map, hS]; exact Nat.le_refl _)
  refine c8 (rl := []) d7 Tryz.func38 rfl (rs := [.tmp 4]) rfl Tryz.ntmps38 (by simp) ?_
  repeat' (first | ((repeat ((fail_if_success (refine hK _ ?_)); clear hK K)); refine hK _ ?_; clear hK K) | (refine b9 fun K1 q8 => ?_; simp only [S1, simprocAttr, bx, TSz, i9, i7, j5, hne, hS, d9, t49', d8, e9, List.length_map]; first | refine q8 _ ?_; clear q8 K1 | (apply d4 E59; exact (hst _); refine q8 _ ?_; clear q8 K1)) | refine b6 fun K hK => ?_ | ((first | apply b8 | apply b5 | apply c7); try simp only [NB, simprocAttr]))
  clear hst
  generalize p9 ns fl S = sl at *
  refine C0 sl.length 23 (fun j => [(12, .i j), (11, .i sl.length), (10, rT sl), (5, .ref (h.length + 2) j 0 5 j)])
    (fun j => [some ⟨0, x6 ns fl⟩, some ⟨0, S.map AV.i⟩, some ⟨j, (kI (sl.take j)).map AV.i⟩]) (fun j => True) ?_ trivial fun j hj hp K hK => ?_
  · refine (o6.adopt 5 5 rfl).trans (Sub.ghost ⟨rfl, ⟨[], by simp [kI]⟩, ?_, ⟨trivial, trivial, trivial⟩, g9 _ _, g9 _ _, trivial⟩)
    simp only [G8, s4, D0, frL, List.length_cons, List.length_nil]
    simp
  rcases Nat.lt_or_ge j sl.length with hlt | hge
  · obtain ⟨y, hy⟩ : ∃ y, sl[j]? = some y := ⟨_, List.getElem?_eq_getElem hlt⟩
    have hxy : (sl.map eSp)[j]? = some ((cSp y).map (PV.int .i64)) := by rw [List.getElem?_map, hy]; rfl
    have hyl := hto y (List.mem_of_getElem? hy)
    have jl : (j : Int) < (sl.length : Int) := by omega
    have j0 : (0 : Int) ≤ (j : Int) := by omega
    have hnx : IntKind.i64.wrap ((j : Int) + 1) = ((j + 1 : Nat) : Int) := by rw [IntWalk.i64_in _ (by omega)]; omega
    have y54 : (cSp y).length = 54 := E4 hyl
    have ymm := (u0 (cSp y)).trans (nH y)
    have yov := D4 hyl
    have yt49 : (y.to.map AV.i).take 49 = y.to.map AV.i := List.take_of_length_le (by rw [List.length_map, hyl]; exact Nat.le_refl _)
    have hmax : j + 1 ≤ j7 := by unfold j7; omega
    have hcl : (kI (sl.take j)).length = j * 5 := by rw [qk, List.length_take, Nat.min_eq_left (by omega)]
    have hcs := uO hy
    repeat' (first | ((repeat ((fail_if_success (refine hK _ ?_)); clear hK K)); refine hK _ ?_; clear hK K) | ((first | refine b9 fun K1 q8 => ?_ | refine b7 fun A B hA hB => ?_); simp only [S1, simprocAttr, bx, jl, j0, hxy, hnx, y54, ymm, yov, yt49, hyl, hmax, hcl, d8, e9, d9, List.length_map, Nat.mul_one]; first | refine q8 _ ?_; clear q8 K1 | (refine hA ?_; clear hA hB A B)) | refine b6 fun K hK => ?_ | ((first | apply b8 | apply b5 | apply c7 | apply c9); try simp only [NB, simprocAttr]))
    all_goals refine ⟨hlt, trivial, ?_⟩
    all_goals simp only [hcs, List.map_append, List.map_cons, List.map_nil]
    all_goals refine ⟨rfl, ⟨_, rfl⟩, ?_, ⟨trivial, trivial, trivial⟩, g9 _ _, (by have := g9 (h.length + 3) (kI (sl.take j) ++ [y.node, y.arg, y.lk, y.ln, y.la]); simpa using this), trivial⟩
    all_goals simp only [S1, simprocAttr, KNB] <;> (try and_intros) <;> (try assumption) <;> (try trivial) <;> (try omega)
  · obtain rfl : j = sl.length := by omega
    repeat' (first | ((repeat ((fail_if_success (refine hK _ ?_)); clear hK K)); refine hK _ ?_; clear hK K) | ((first | refine b9 fun K1 q8 => ?_ | refine b7 fun A B hA hB => ?_); simp only [S1, simprocAttr, bx, Int.lt_irrefl]; first | refine q8 _ ?_; clear q8 K1 | (refine hB ?_; clear hA hB A B)) | refine b6 fun K hK => ?_ | ((first | apply b8 | apply b5 | apply f9 | apply d3); try simp only [NB, simprocAttr]))
    exact gb yu zN (.inr rfl) (l := sl) rfl rfl (by simp only [zO, List.take_length, r8, n5, List.getElem?_cons_succ, List.getElem?_cons_zero, if_true]) (by omega) (by simp) (by simp) rfl
def zSp : Sp := ⟨0, 0, 0, 0, 0, zS⟩
noncomputable def doG (ns : List Nd) (fl : List Fl) (S : List Int) (i : Int) : Sp × Int :=
  if stC ns fl S ≠ 0 then (zSp, stC ns fl S) else if i < 0 then (zSp, 6) else match (p9 ns fl S)[i.toNat]? with | some y => (y, 0) | none => (zSp, 6)
abbrev aLb (y : Sp) : AV := .agg [.i y.lk, .i y.ln, .i y.la]
theorem wZ {ns : List Nd} {fl : List Fl} (nk : NetOk ns fl) {S : List Int} (hS : S.length = 49) (i : Int) (h : Heap) :
    d5 Tryz.prog gW 52 [G4 ns fl, aS S, .i i] h (fun r h' => r = .tup [aS (doG ns fl S i).1.to, aLb (doG ns fl S i).1, .i (doG ns fl S i).2] ∧ h' = h) := by
  have hne := J3 hS
  have hst := fun h => fv nk hS h
  have hck := fun h => dL nk hS h
  have hto := Q2 (ns := ns) (fl := fl) hS
  have t49' : (S.map AV.i).take 49 = S.map AV.i := List.take_of_length_le (by rw [List.length_map, hS]; exact Nat.le_refl _)
  have hzl : (zS.map AV.i).length = 49 := by rw [List.length_map]; rfl
  have hem : (zS.map AV.i).isEmpty = false := rfl
  have hzz : u5 (zS.map AV.i) 0 (zS.map AV.i) = zS.map AV.i := m3 (n := 49) (by rw [List.length_map]; rfl) _ hzl
  have hzt : (zS.map AV.i).take 49 = zS.map AV.i := List.take_of_length_le (by rw [hzl]; exact Nat.le_refl _)
  by_cases h0 : stC ns fl S = 0
  case neg =>
    have f0 : (stC ns fl S != 0) = true := by simp [h0]
    have e : doG ns fl S i = (zSp, stC ns fl S) := by unfold doG; rw [if_pos h0]
    rw [e]
    refine c8 (rl := []) d7 Tryz.func52 rfl (rs := [.cell 6 82, .cell 7 28, .tmp 8]) rfl Tryz.ntmps52 (by simp) ?_
    repeat' (first | ((repeat ((fail_if_success (refine hK _ ?_)); clear hK K)); refine hK _ ?_; clear hK K) | ((first | refine b9 fun K1 q8 => ?_ | refine b7 fun A B hA hB => ?_); simp only [S1, simprocAttr, bx, f0, TSz, i9, i7, j5, hem, hzz, hzt, hne, hS, d9, t49', d8, e9, List.length_map]; first | refine q8 _ ?_; clear q8 K1 | (refine hA ?_; clear hA hB A B) | (apply d4 E51; exact (hck _); refine q8 _ ?_; clear q8 K1)) | refine b6 fun K hK => ?_ | ((first | apply b8 | apply b5 | apply d3); try simp only [NB, simprocAttr]))
    all_goals simp only [S1, simprocAttr, ENB, bx, hzt, hzl, List.length_map, j5, TSz, e9, O1, u0]
    all_goals rfl
  have f0 : (stC ns fl S != 0) = false := by simp [h0]
  rw [h0] at hck
  by_cases h1 : i < 0
  · have f1 : decide (i < 0) = true := decide_eq_true h1
    have e : doG ns fl S i = (zSp, 6) := by unfold doG; rw [if_neg (by simpa using h0), if_pos h1]
    rw [e]
    refine c8 (rl := []) d7 Tryz.func52 rfl (rs := [.cell 6 82, .cell 7 28, .tmp 8]) rfl Tryz.ntmps52 (by simp) ?_
    repeat' (first | ((repeat ((fail_if_success (refine hK _ ?_)); clear hK K)); refine hK _ ?_; clear hK K) | ((first | refine b9 fun K1 q8 => ?_ | refine b7 fun A B hA hB => ?_); simp only [S1, simprocAttr, bx, f1, TSz, i9, i7, j5, hem, hzz, hzt, hne, hS, d9, t49', d8, e9, List.length_map]; first | refine q8 _ ?_; clear q8 K1 | ((first | refine hA ?_ | refine hB ?_); clear hA hB A B) | (apply d4 E51; exact (hck _); refine q8 _ ?_; clear q8 K1) | (apply d4 E59; exact (hst _); refine q8 _ ?_; clear q8 K1)) | refine b6 fun K hK => ?_ | ((first | apply b8 | apply b5 | apply c9 | apply d3); try simp only [NB, simprocAttr]))
    all_goals simp only [S1, simprocAttr, ENB, bx, hzt, hzl, List.length_map, j5, TSz, e9, O1, u0]
    all_goals rfl
  have f1 : decide (i < 0) = false := decide_eq_false h1
  obtain ⟨n, rfl⟩ := Int.eq_ofNat_of_zero_le (by omega : 0 ≤ i)
  rcases Nat.lt_or_ge n (p9 ns fl S).length with hlt | hge
  · obtain ⟨y, hy⟩ : ∃ y, (p9 ns fl S)[n]? = some y := ⟨_, List.getElem?_eq_getElem hlt⟩
    have e : doG ns fl S (n : Int) = (y, 0) := by unfold doG; rw [if_neg (by simpa using h0), if_neg h1, Int.toNat_natCast, hy]
    rw [e]
    have hyl := hto y (List.mem_of_getElem? hy)
    generalize p9 ns fl S = sl at *
    have hxy : (sl.map eSp)[n]? = some ((cSp y).map (PV.int .i64)) := by rw [List.getElem?_map, hy]; rfl
    have f2 : decide ((sl.length : Int) ≤ (n : Int)) = false := by simp; omega
    have n0 : (0 : Int) ≤ (n : Int) := by omega
    have y54 : (cSp y).length = 54 := E4 hyl
    have ymm := (u0 (cSp y)).trans (nH y)
    have ycons : (cSp y).map (PV.int .i64) = .int .i64 y.node :: .int .i64 y.arg :: .int .i64 y.lk :: .int .i64 y.ln :: .int .i64 y.la :: y.to.map (PV.int .i64) := rfl
    have yto : (y.to.map (PV.int .i64)).map AV.p = y.to.map AV.i := u0 y.to
    have yt49 : (y.to.map AV.i).take 49 = y.to.map AV.i := List.take_of_length_le (by rw [List.length_map, hyl]; exact Nat.le_refl _)
    have yt49p : (y.to.map (PV.int .i64)).take 49 = y.to.map (PV.int .i64) := List.take_of_length_le (by rw [List.length_map, hyl]; exact Nat.le_refl _)
    have hyz : u5 (zS.map AV.i) 0 (y.to.map AV.i) = y.to.map AV.i := m3 (n := 49) (by rw [List.length_map, hyl]) _ hzl
    refine c8 (rl := []) d7 Tryz.func52 rfl (rs := [.cell 6 82, .cell 7 28, .tmp 8]) rfl Tryz.ntmps52 (by simp) ?_
    repeat' (first | ((first | apply b8 | apply s5); (try simp only [NB])) | ((repeat ((fail_if_success (refine hK _ ?_)); clear hK K)); refine hK _ ?_; clear hK K) | ((first | refine b9 fun K1 q8 => ?_ | refine v6 rfl rfl rfl fun K1 q8 => ?_ | refine b7 fun A B hA hB => ?_); simp only [S1, simprocAttr, bx, f1, f2, n0, hxy, y54, ymm, ycons, yto, yt49, yt49p, hyz, hyl, TSz, i9, i7, j5, hem, hne, hS, d9, t49', d8, e9, LNB]; first | refine q8 _ ?_; clear q8 K1 | (refine hB ?_; clear hA hB A B) | (apply d4 E51; exact (hck _); refine q8 _ ?_; clear q8 K1) | (apply d4 E59; exact (hst _); refine q8 _ ?_; clear q8 K1)) | ((first | refine v7 (v := ?_) rfl rfl rfl rfl (by decide) (fun R1 K1 q8 => ?_) ?_ | refine z7 (v := ?_) rfl rfl rfl (by decide) (fun K1 q8 => ?_) ?_ | refine X1 (v := ?_) rfl rfl rfl (by decide) (fun K1 q8 => ?_) ?_ | refine yS (v := ?_) rfl rfl rfl rfl (by decide) (fun H1 K1 q8 => ?_) ?_); rotate_left; (focus (simp only [S1, simprocAttr, bx, f1, f2, n0, hxy, y54, ymm, ycons, yto, yt49, yt49p, hyz, hyl, TSz, i9, i7, j5, hem, hne, hS, d9, t49', d8, e9, LNB]; (exact q8 _ _ _)))) | (refine s6 rfl rfl rfl ?_) | refine b6 fun K hK => ?_ | (refine r4 (es := []) [0, 1, 2, 3, 4, 5, 6, 7, 8, 9, 10, 11, 12, 13] 0 (fs := [2, 7, 10]) rfl (by kernel_rfl) (by kernel_rfl) ?_) | ((first | apply b5 | apply c9 | apply d3); try simp only [NB, simprocAttr]))
    all_goals simp only [S1, simprocAttr, ENB, bx, yt49, hyl, List.length_map, TSz, e9, O1, u0]
  · have e : doG ns fl S (n : Int) = (zSp, 6) := by unfold doG; rw [if_neg (by simpa using h0), if_neg h1, Int.toNat_natCast, List.getElem?_eq_none hge]
    rw [e]
    generalize p9 ns fl S = sl at *
    have f2 : decide ((sl.length : Int) ≤ (n : Int)) = true := by simp; omega
    refine c8 (rl := []) d7 Tryz.func52 rfl (rs := [.cell 6 82, .cell 7 28, .tmp 8]) rfl Tryz.ntmps52 (by simp) ?_
    repeat' (first | ((repeat ((fail_if_success (refine hK _ ?_)); clear hK K)); refine hK _ ?_; clear hK K) | ((first | refine b9 fun K1 q8 => ?_ | refine b7 fun A B hA hB => ?_); simp only [S1, simprocAttr, bx, f1, f2, TSz, i9, i7, j5, hem, hzz, hzt, hne, hS, d9, t49', d8, e9, List.length_map]; first | refine q8 _ ?_; clear q8 K1 | ((first | refine hA ?_ | refine hB ?_); clear hA hB A B) | (apply d4 E51; exact (hck _); refine q8 _ ?_; clear q8 K1) | (apply d4 E59; exact (hst _); refine q8 _ ?_; clear q8 K1)) | refine b6 fun K hK => ?_ | ((first | apply b8 | apply b5 | apply c9 | apply d3); try simp only [NB, simprocAttr]))
    all_goals simp only [S1, simprocAttr, ENB, bx, hzt, hzl, List.length_map, j5, TSz, e9, O1, u0]
    all_goals rfl
end
section
section
variable {P : Program} {G : Nat → Option (List PV)} {rl : List String} {h : Heap}
theorem gH {x y : Code} {Q : Exit → St → Prop} {s : St} (s1 : St) (h1 : ∀ K : St → Prop, (∀ s', o6 P G h s' s1 → K s') → awp P G rl h x (N6 K Q) s) (h2 : awp P G rl h y Q s1) : awp P G rl h (.seq x y) Q s :=
  sL (fun t => t = s1) (h1 _ fun s' hs => ⟨_, hs, rfl⟩) fun t e => by subst e; exact h2
theorem o6.move {h0 : Heap} {s : St} {b j q m off sz n : Nat} {bk bq bm : Blk} (hb : s.heap[b]? = some (some bk)) (hx : bk.cells[j]? = some (.ref m bm.g off sz n)) (hq : s.heap[q]? = some (some bq)) (hm : s.heap[m]? = some (some bm)) (hbq : b ≠ q) (hbm : b ≠ m) (hqm : q ≠ m) :
    o6 P G h0 s ⟨s.fr, s.nt, ((s.heap.set m none).set q (some ⟨bq.g + 1, bm.cells⟩)).set b (some ⟨bk.g, bk.cells.set j (.ref q (bq.g + 1) off sz n)⟩)⟩ := by
  intro ι a w ι0 w0 hS hs he
  have hbl : b < s.heap.length := j6 hb
  have hql : q < s.heap.length := j6 hq
  have hml : m < s.heap.length := j6 hm
  have hne' : bk.cells ≠ [] := by
    intro e
    rw [e] at hx; simp at hx
  obtain ⟨h', hh'⟩ : ∃ h', h' = ((s.heap.set m none).set q (some ⟨bq.g + 1, bm.cells⟩)).set b (some ⟨bk.g, bk.cells.set j (.ref q (bq.g + 1) off sz n)⟩) := ⟨_, rfl⟩
  obtain ⟨ι', hι⟩ : ∃ ι' : Nat → Nat × Nat, ι' = fun i => if i = q then ι m else ι i := ⟨_, rfl⟩
  have hlen : h'.length = s.heap.length := by rw [hh']; simp
  have hlo : ∀ (c : Nat) (bk' : Blk), h'[c]? = some (some bk') → (c = b ∧ bk' = ⟨bk.g, bk.cells.set j (.ref q (bq.g + 1) off sz n)⟩) ∨ (c = q ∧ bk' = ⟨bq.g + 1, bm.cells⟩) ∨ (c ≠ b ∧ c ≠ q ∧ c ≠ m ∧ s.heap[c]? = some (some bk')) := by
    intro c bk' hc
    rw [hh', List.getElem?_set] at hc
    split at hc
    · rename_i e
      split at hc
      · exact .inl ⟨e.symm, (Option.some.inj (Option.some.inj hc)).symm⟩
      · cases hc
    · rename_i e1
      rw [List.getElem?_set] at hc
      split at hc
      · rename_i e
        split at hc
        · exact .inr (.inl ⟨e.symm, (Option.some.inj (Option.some.inj hc)).symm⟩)
        · cases hc
      · rename_i e2
        rw [List.getElem?_set] at hc
        split at hc
        · (try split at hc) <;> cases hc
        · rename_i e3
          exact .inr (.inr ⟨fun e => e1 e.symm, fun e => e2 e.symm, fun e => e3 e.symm, hc⟩)
  have hιo : ∀ c, c ≠ q → ι' c = ι c := fun c hc => by rw [hι]; simp [hc]
  have hιq : ι' q = ι m := by rw [hι]; simp
  have own_lo : ∀ k, own ι' h' k → own ι s.heap k := by
    rintro k ⟨c, bk', q1, q2, q3⟩
    rcases hlo c bk' q1 with ⟨rfl, rfl⟩ | ⟨rfl, rfl⟩ | ⟨n1, n2, n3, q1⟩
    · exact ⟨c, bk, hb, hne', by rw [← q3, hιo c hbq]⟩
    · exact ⟨m, bm, hm, q2, by rw [← q3, hιq]⟩
    · exact ⟨c, bk', q1, q2, by rw [← q3, hιo c n2]⟩
  have oo : ∀ k, k < w.heap.size → ¬ own ι s.heap k → w.heap[k]? = w.heap[k]? ∧ ¬ own ι' h' k := fun k _ ho => ⟨rfl, fun e => ho (own_lo k e)⟩
  have lv : ∀ (c g : Nat), (∀ bk : Blk, s.heap[c]? = some (some bk) → g ≤ bk.g) → A8 h' c g → c ≠ q ∧ c ≠ m ∧ A8 s.heap c g ∧ (∀ bk : Blk, s.heap[c]? = some (some bk) → bk.cells ≠ [] → ∃ bk' : Blk, h'[c]? = some (some bk') ∧ bk'.cells ≠ []) := by
    rintro c g hg ⟨bk', q1, q2⟩
    rcases hlo c bk' q1 with ⟨rfl, rfl⟩ | ⟨rfl, rfl⟩ | ⟨n1, n2, n3, q3⟩
    · refine ⟨hbq, hbm, ⟨bk, hb, q2⟩, fun bk1 hk1 hk2 => ⟨_, q1, ?_⟩⟩
      rw [hb] at hk1; cases hk1
      rw [ne_eq, ← List.length_eq_zero_iff, List.length_set, List.length_eq_zero_iff]; exact hne'
    · have := hg bq hq
      simp only at q2
      omega
    · exact ⟨n2, n3, ⟨bk', q3, q2⟩, fun bk1 hk1 hk2 => ⟨bk', q1, by rw [q3] at hk1; cases hk1; exact hk2⟩⟩
  have gg : ∀ (c g : Nat), (∀ bk : Blk, s.heap[c]? = some (some bk) → g ≤ bk.g) → ∀ bk : Blk, h'[c]? = some (some bk) → g ≤ bk.g := by
    intro c g hg bk' q1
    rcases hlo c bk' q1 with ⟨rfl, rfl⟩ | ⟨rfl, rfl⟩ | ⟨n1, n2, n3, q3⟩
    · exact hg bk hb
    · have := hg bq hq
      simp only; omega
    · exact hg bk' q3
  have vr : ∀ x v, VRel ι s.heap w x v → VRel ι' h' w x v := by
    intro x v hx
    induction hx with
    | p x v hx => exact .p _ _ (hx.mono (Nat.le_refl _) oo)
    | agg cells vs hl hv ih => exact .agg _ _ hl ih
    | tup cells vs hl hv ih => exact .tup _ _ hl ih
    | fn f cells vs hl hv ih => exact .fn _ _ _ hl ih
    | ref c g off sz len A cc hn hb0 hg hv =>
      refine .ref _ _ _ _ _ _ _ hn (by rw [hlen]; exact hb0) (gg c g hg) fun hl => ?_
      obtain ⟨l1, l2, l3, l4⟩ := lv c g hg hl
      rw [hιo c l1]
      rcases hv l3 with hz | ⟨hA, hle, ⟨bk0, q0, hn0⟩, hcs⟩
      · exact .inl hz
      · exact .inr ⟨hA, hle, l4 bk0 q0 hn0, hcs⟩
    | ptr c g off A hb0 hg hv =>
      refine .ptr _ _ _ _ (by rw [hlen]; exact hb0) (gg c g hg) fun hl => ?_
      obtain ⟨l1, l2, l3, l4⟩ := lv c g hg hl
      rw [hιo c l1]
      exact hv l3
    | pin cells blk off hv => exact .pin _ _ _ (hv.mono (Nat.le_refl _) oo)
    | mref c g r hb0 hg hv =>
      refine .mref _ _ _ (by rw [hlen]; exact hb0) (gg c g hg) fun hl => ?_
      obtain ⟨l1, l2, l3, l4⟩ := lv c g hg hl
      rw [hιo c l1]
      exact hv l3
  have hq' : h'[q]? = some (some ⟨bq.g + 1, bm.cells⟩) := by
    rw [hh', List.getElem?_set_ne hbq, List.getElem?_set_self (by simpa using hql)]
  have vm : ∀ v, VRel ι s.heap w (.ref m bm.g off sz n) v → VRel ι' h' w (.ref q (bq.g + 1) off sz n) v := by
    intro v hv
    cases hv with
    | ref _ _ _ _ _ A cc hn hb0 hg hv =>
      refine .ref _ _ _ _ _ _ _ hn (by rw [hlen]; exact hql) (fun bk hk => by rw [hq'] at hk; cases hk; exact Nat.le_refl _) fun _ => ?_
      rw [hιq]
      rcases hv ⟨bm, hm, rfl⟩ with hz | ⟨hA, hle, ⟨bk0, q0, hn0⟩, hcs⟩
      · exact .inl hz
      · rw [hm] at q0; cases q0
        exact .inr ⟨hA, hle, ⟨_, hq', hn0⟩, hcs⟩
  rw [← hh']
  refine ⟨ι', ⟨⟨⟨fun c bk' hc hne => ?_, fun c c' k k' q1 q2 n1 n2 e => ?_⟩, fun g cells hg => (hs.hS.gr g cells hg).mono (Nat.le_refl _) oo⟩, fun k y hy => ?_, hs.nt, hs.df⟩, ?_⟩
  · rcases hlo c bk' hc with ⟨rfl, rfl⟩ | ⟨rfl, rfl⟩ | ⟨e1, e2, e3, hc⟩
    · have hB := hs.hS.hr.blk c bk hb hne'
      rcases hB with ⟨cs, ty, p1, p2, p3⟩ | ⟨es, e1, _⟩
      case inr =>
        rw [e1] at hx
        cases j with
        | zero => simp at hx
        | succ j => simp at hx
      refine .inl ⟨cs, ty, by rw [hιo c hbq]; exact p1, by rw [hιo c hbq]; simpa using p2, fun i y hy => ?_⟩
      rw [hιo c hbq]
      simp only [List.getElem?_set] at hy
      split at hy
      · rename_i e; subst e
        split at hy
        · cases hy
          obtain ⟨v, r1, r2⟩ := p3 j _ hx
          exact ⟨v, r1, vm v r2⟩
        · cases hy
      · obtain ⟨v, r1, r2⟩ := p3 i y hy
        exact ⟨v, r1, vr _ _ r2⟩
    · have := (hs.hS.hr.blk m bm hm hne).keep (b' := c) (ι' := ι') (h' := h') (w' := w) hιq rfl (fun y _ v hv => vr _ _ hv) (Nat.le_refl _) oo
      rcases this with ⟨cs, ty, p1, p2, p3⟩ | ⟨es, e1, p1, p2, p3⟩
      · exact .inl ⟨cs, ty, p1, p2, p3⟩
      · exact .inr ⟨es, e1, p1, p2, p3⟩
    · exact (hs.hS.hr.blk c bk' hc hne).keep (hιo c e2) rfl (fun y _ v hv => vr _ _ hv) (Nat.le_refl _) oo
  · have back : ∀ (c : Nat) (k : Blk), h'[c]? = some (some k) → k.cells ≠ [] → ∃ (d : Nat) (k0 : Blk), s.heap[d]? = some (some k0) ∧ k0.cells ≠ [] ∧ (ι' c).1 = (ι d).1 ∧ d = (if c = q then m else c) := by
      intro c k q1 n1
      rcases hlo c k q1 with ⟨rfl, rfl⟩ | ⟨rfl, rfl⟩ | ⟨e1, e2, e3, hc⟩
      · exact ⟨c, bk, hb, hne', by rw [hιo c hbq], by rw [if_neg hbq]⟩
      · exact ⟨m, bm, hm, n1, by rw [hιq], by rw [if_pos rfl]⟩
      · exact ⟨c, k, hc, n1, by rw [hιo c e2], by rw [if_neg e2]⟩
    obtain ⟨d, k0, a1, a2, a3, a4⟩ := back c k q1 n1
    obtain ⟨d', k1, b1, b2, b3, b4⟩ := back c' k' q2 n2
    have hd := hs.hS.hr.inj d d' k0 k1 a1 b1 a2 b2 (by rw [← a3, ← b3]; exact e)
    have nm : ∀ (c : Nat) (k : Blk), h'[c]? = some (some k) → c ≠ m := by
      intro c k q1
      rcases hlo c k q1 with ⟨rfl, _⟩ | ⟨rfl, _⟩ | ⟨_, _, e3, _⟩
      · exact hbm
      · exact hqm
      · exact e3
    have m1 := nm c k q1
    have m2 := nm c' k' q2
    rw [hd, b4] at a4
    split at a4 <;> split at a4 <;> omega
  · obtain ⟨v, p1, p2⟩ := hs.fr k y hy
    exact ⟨v, p1, vr _ _ p2⟩
  · refine ⟨he.size, fun k hk ho => ⟨(he.keep k hk ho).1, fun e => (he.keep k hk ho).2 (own_lo k e)⟩, by show _ ≤ h'.length; rw [hlen]; exact he.len, fun c bk' hc hk => ?_, he.os, he.output, he.tape, he.drawn⟩
    rcases hlo c bk' hk with ⟨rfl, rfl⟩ | ⟨rfl, rfl⟩ | ⟨e1, e2, e3, hk⟩
    · obtain ⟨bk0, a1, a2, a3⟩ := he.gens c bk hc hb
      refine ⟨bk0, a1, a2, fun e => ?_⟩
      obtain ⟨b1, b2, b3⟩ := a3 e
      exact ⟨by rw [hιo c hbq]; exact b1, fun _ => by rw [ne_eq, ← List.length_eq_zero_iff, List.length_set, List.length_eq_zero_iff]; exact hne', b3⟩
    · obtain ⟨bk0, a1, a2, a3⟩ := he.gens c bq hc hq
      exact ⟨bk0, a1, by simp only; omega, fun e => by simp only at e; omega⟩
    · obtain ⟨bk0, a1, a2, a3⟩ := he.gens c bk' hc hk
      refine ⟨bk0, a1, a2, fun e => ?_⟩
      obtain ⟨b1, b2, b3⟩ := a3 e
      exact ⟨by rw [hιo c e2]; exact b1, b2, b3⟩
theorem o6.freeze {h0 : Heap} {s : St} {k b sz n : Nat} {bk : Blk} {rows : List (List PV)} {rest : List AV} (hk : s.fr k = some (.ref b bk.g 0 sz n)) (hb : s.heap[b]? = some (some bk)) (hn : n = rows.length) (hrows : ∀ r ∈ rows, r.length = sz) (hsz : sz ≠ 0)
    (hc : bk.cells = (rows.flatMap id).map AV.p ++ rest) :
    o6 P G h0 s ⟨upd s.fr k (.p (.sl rows)), s.nt, s.heap.set b none⟩ := by
  intro ι a w ι0 w0 hS hs he
  have hbl : b < s.heap.length := j6 hb
  obtain ⟨h', hh'⟩ : ∃ h', h' = s.heap.set b none := ⟨_, rfl⟩
  have hlen : h'.length = s.heap.length := by rw [hh']; simp
  have hlo : ∀ (c : Nat) (bk' : Blk), h'[c]? = some (some bk') → c ≠ b ∧ s.heap[c]? = some (some bk') := by
    intro c bk' hc
    rw [hh', List.getElem?_set] at hc
    split at hc
    · (try split at hc) <;> cases hc
    · rename_i e; exact ⟨fun e' => e e'.symm, hc⟩
  have hhi : ∀ (c : Nat), c ≠ b → h'[c]? = s.heap[c]? := fun c hc => by rw [hh', List.getElem?_set_ne (fun e => hc e.symm)]
  have own_lo : ∀ k, own ι h' k → own ι s.heap k := by
    rintro k ⟨c, bk', q1, q2, q3⟩
    exact ⟨c, bk', (hlo c bk' q1).2, q2, q3⟩
  have oo : ∀ k, k < w.heap.size → ¬ own ι s.heap k → w.heap[k]? = w.heap[k]? ∧ ¬ own ι h' k := fun k _ ho => ⟨rfl, fun e => ho (own_lo k e)⟩
  have lv : ∀ (c g : Nat), A8 h' c g → c ≠ b ∧ A8 s.heap c g := by
    rintro c g ⟨bk', q1, q2⟩
    obtain ⟨n1, q3⟩ := hlo c bk' q1
    exact ⟨n1, bk', q3, q2⟩
  have gg : ∀ (c g : Nat), (∀ bk : Blk, s.heap[c]? = some (some bk) → g ≤ bk.g) → ∀ bk : Blk, h'[c]? = some (some bk) → g ≤ bk.g := fun c g hg bk' q1 => hg bk' (hlo c bk' q1).2
  have vr : ∀ x v, VRel ι s.heap w x v → VRel ι h' w x v := by
    intro x v hx
    induction hx with
    | p x v hx => exact .p _ _ (hx.mono (Nat.le_refl _) oo)
    | agg cells vs hl hv ih => exact .agg _ _ hl ih
    | tup cells vs hl hv ih => exact .tup _ _ hl ih
    | fn f cells vs hl hv ih => exact .fn _ _ _ hl ih
    | ref c g off sz len A cc hn hb0 hg hv =>
      refine .ref _ _ _ _ _ _ _ hn (by rw [hlen]; exact hb0) (gg c g hg) fun hl => ?_
      obtain ⟨l1, l3⟩ := lv c g hl
      rcases hv l3 with hz | ⟨hA, hle, ⟨bk0, q0, hn0⟩, hcs⟩
      · exact .inl hz
      · exact .inr ⟨hA, hle, ⟨bk0, by rw [hhi c l1]; exact q0, hn0⟩, hcs⟩
    | ptr c g off A hb0 hg hv =>
      refine .ptr _ _ _ _ (by rw [hlen]; exact hb0) (gg c g hg) fun hl => ?_
      obtain ⟨l1, l3⟩ := lv c g hl
      exact hv l3
    | pin cells blk off hv => exact .pin _ _ _ (hv.mono (Nat.le_refl _) oo)
    | mref c g r hb0 hg hv =>
      refine .mref _ _ _ (by rw [hlen]; exact hb0) (gg c g hg) fun hl => ?_
      obtain ⟨l1, l3⟩ := lv c g hl
      exact hv l3
  obtain ⟨v, hv1, hv2⟩ := hs.fr k _ hk
  have hnew : VRel ι h' w (.p (.sl rows)) v := by
    obtain ⟨A, c, rfl, hn64, hcase⟩ := hv2.ref_inv ⟨bk, hb, rfl⟩
    by_cases h0 : rows = []
    · subst h0; subst hn
      exact .p _ _ (.slz A c)
    rcases hcase with ⟨hz, _⟩ | ⟨rfl, hle, ⟨bk0, hq0, hne⟩, cs0, ty1, fr1, hcc, hfit⟩
    · rw [hn] at hz; exact absurd (List.eq_nil_of_length_eq_zero hz) h0
    rw [hb] at hq0; cases hq0
    obtain ⟨c0, ty0, hc0, hl0, hv0⟩ := (hs.hS.hr.blk b _ hb hne).cells hcc
    subst hn
    have hnown : ¬ own ι h' (ι b).1 := by
      rintro ⟨d, bk', q1, q2, q3⟩
      obtain ⟨n1, q4⟩ := hlo d bk' q1
      exact n1 (hs.hS.hr.inj d b bk' bk q4 hb q2 hne q3)
    have key : ∀ i j x, P2 rows i j = some x → ∃ u, c0[(ι b).2 + (i * sz + j)]? = some u ∧ VRel ι s.heap w (.p x) u := by
      intro i j x hx
      have hj : j < sz := by
        unfold P2 at hx
        cases hr : rows[i]? with
        | none => rw [hr] at hx; simp at hx
        | some r =>
          rw [hr] at hx
          have h1 := hrows r (List.mem_of_getElem? hr)
          have h2 := j6 (show r[j]? = some x from hx)
          omega
      have hf := eb rows hrows i j hj
      rw [hx] at hf
      refine hv0 _ _ ?_
      rw [hc, List.getElem?_append_left (by rw [List.length_map]; exact j6 hf), List.getElem?_map, hf]; rfl
    refine .p _ _ (.sl rows (ι b).1 ((ι b).2 + 0) c sz (fun i j => (c0[(ι b).2 + (i * sz + j)]?).getD undef) hle hn64 hnown (sA hc0) hrows (fun i j x hx => ?_) (fun i j x hx => ?_))
    · obtain ⟨u, q1, q2⟩ := key i j x hx
      rw [Nat.add_zero, q1]
      unfold World.cell?
      simp only [hc0, q1]; rfl
    · obtain ⟨u, q1, q2⟩ := key i j x hx
      rw [q1]
      cases q2 with
      | p _ _ q2 => exact q2.mono (Nat.le_refl _) oo
  rw [← hh']
  refine ⟨ι, ⟨⟨⟨fun c bk' hc hne => ?_, fun c c' k k' q1 q2 n1 n2 e => ?_⟩, fun g cells hg => (hs.hS.gr g cells hg).mono (Nat.le_refl _) oo⟩, fun j y hy => ?_, hs.nt, hs.df⟩, ?_⟩
  · exact (hs.hS.hr.blk c bk' (hlo c bk' hc).2 hne).keep rfl rfl (fun y _ v hv => vr _ _ hv) (Nat.le_refl _) oo
  · exact hs.hS.hr.inj c c' k k' (hlo c k q1).2 (hlo c' k' q2).2 n1 n2 e
  · simp only [upd] at hy
    split at hy
    · rename_i e; subst e; cases hy
      exact ⟨v, hv1, hnew⟩
    · obtain ⟨u, p1, p2⟩ := hs.fr j y hy
      exact ⟨u, p1, vr _ _ p2⟩
  · refine ⟨he.size, fun k hk ho => ⟨(he.keep k hk ho).1, fun e => (he.keep k hk ho).2 (own_lo k e)⟩, by show _ ≤ h'.length; rw [hlen]; exact he.len, fun c bk' hc hk => ?_, he.os, he.output, he.tape, he.drawn⟩
    obtain ⟨e1, e2⟩ := hlo c bk' hk
    obtain ⟨bk0, a1, a2, a3⟩ := he.gens c bk' hc e2
    exact ⟨bk0, a1, a2, a3⟩
theorem ss {σ : Type} {c : Code} {Q : Exit → St → Prop} {s : St} (m : σ → Nat) (nt : Nat) (H : σ → Heap) (l : σ → List (Nat × AV)) (L : σ → List (Option Blk)) (p : σ → Prop) (x0 : σ)
    (hH : ∀ x, (H x).length = h.length ∧ ∀ (b : Nat) (bk : Blk), (H x)[b]? = some (some bk) → h[b]? = some (some bk) ∨ o4 h.length bk.cells) (hi : Sub (H x0) s (l x0) (L x0) nt) (hp : p x0)
    (hb : ∀ x, p x → ∀ K : St → Prop, (∀ s', (∃ y, m y < m x ∧ p y ∧ Sub (H y) s' (l y) (L y) nt) → K s') → awp P G rl h c (N6 K Q) ⟨frL (l x), nt, H x ++ L x⟩) : awp P G rl h (.loop c) Q s := by
  refine bQ (fun n s => ∃ x, p x ∧ n = m x ∧ s = ⟨frL (l x), nt, H x ++ L x⟩) (m x0) _ (hi.ghostH (hH x0).1 (hH x0).2) ⟨x0, hp, rfl, rfl⟩ fun n s hI => ?_
  obtain ⟨x, h1, rfl, rfl⟩ := hI
  refine hb x h1 _ fun s' hs => ?_
  obtain ⟨y, h2, h3, h4⟩ := hs
  exact ⟨m y, _, h2, h4.ghostH (hH y).1 (hH y).2, y, h3, rfl, rfl⟩
end
end
section
def bz := And.intro T2 (And.intro T3 (And.intro T4 (And.intro T25 (And.intro T26 (And.intro T41 (And.intro T57 (And.intro T58 (And.intro T89 (And.intro T92 yV)))))))))
attribute [local irreducible] awp n9 k8 l8 o5 m9
variable {G : Nat → Option (List PV)}
def eSt (S : Sv) : List PV := S.map (PV.int .i64)
abbrev B1 (l : List Sv) : AV := .p (.sl (l.map eSt))
def q7 (l : List Sv) : List AV := l.flatMap (·.map AV.i)
def mkE (s : Sv) : List Int × Bool := (s, true)
def A7 (l : List Sv) : Prop := ∀ s ∈ l, s.length = 49
theorem C6 : ∀ {l : List Sv}, A7 l → (q7 l).length = l.length * 49
  | [], _ => rfl
  | s :: l, h => by
    have := C6 (l := l) fun t ht => h t (by simp [ht])
    unfold q7 at this ⊢
    rw [List.flatMap_cons, List.length_append, this, List.length_map, h s (by simp), List.length_cons]; omega
theorem F4 (l : List Sv) (s : Sv) : q7 (l ++ [s]) = q7 l ++ s.map AV.i := by
  unfold q7; rw [List.flatMap_append]; simp
theorem u7 (l : List Sv) (n : Nat) : o4 n (q7 l) := by
  unfold q7
  rw [← List.map_flatMap]
  exact g9 _ _
theorem kJ : ∀ {l : List Sv} (j : Nat), A7 l → (q7 l).drop (j * 49) = q7 (l.drop j)
  | l, 0, _ => by simp
  | [], j + 1, _ => by simp [q7]
  | s :: l, j + 1, h => by
    have := kJ (l := l) j fun t ht => h t (by simp [ht])
    have hs : (s.map AV.i).length = 49 := by rw [List.length_map]; exact h s (by simp)
    rw [List.drop_succ_cons, ← this]
    unfold q7
    rw [List.flatMap_cons, show (j + 1) * 49 = 49 + j * 49 by omega, ← List.drop_drop, List.drop_left' hs]
theorem dO {l : List Sv} {j : Nat} {s : Sv} (h : A7 l) (hs : l[j]? = some s) : ((q7 l).drop (j * 49)).take 49 = s.map AV.i := by
  rw [kJ j h, List.drop_eq_getElem_cons (List.getElem?_eq_some_iff.mp hs).1, (List.getElem?_eq_some_iff.mp hs).2]
  have e : q7 (s :: l.drop (j + 1)) = s.map AV.i ++ q7 (l.drop (j + 1)) := by unfold q7; rw [List.flatMap_cons]
  rw [e, List.take_left' (by rw [List.length_map]; exact h s (List.mem_of_getElem? hs))]
theorem mu : ∀ l : List Int, dn (l.map AV.i) = some l
  | [] => rfl
  | x :: r => by simp only [List.map_cons, dn, mu r, Option.map_some]
theorem tv {s : Sv} : ∀ {l : List Sv}, s ∈ l → jj (l.map mkE) s = some true
  | [], h => by cases h
  | t :: l, h => by
    unfold jj
    rw [List.map_cons, List.find?_cons]
    by_cases e : t = s
    · subst e; simp [mkE]
    · have : ((mkE t).1 == s) = false := by simpa [mkE] using e
      rw [this]
      have hl : s ∈ l := by
        rcases List.mem_cons.mp h with h | h
        · exact absurd h.symm e
        · exact h
      exact tv hl
theorem ql {s : Sv} : ∀ {l : List Sv}, s ∉ l → jj (l.map mkE) s = none
  | [], h => rfl
  | t :: l, h => by
    unfold jj
    rw [List.map_cons, List.find?_cons]
    have e : t ≠ s := fun e => h (by simp [e])
    have : ((mkE t).1 == s) = false := by simpa [mkE] using e
    rw [this]
    exact ql fun h' => h (by simp [h'])
theorem Az {l : List Sv} (h : A7 l) : ((l.map mkE).all fun e => e.1.length == 49) = true := by
  rw [List.all_eq_true]
  intro e he
  obtain ⟨s, hs, rfl⟩ := List.mem_map.mp he
  simp [mkE, h s hs]
theorem Q3 {out more : List Sv} (h1 : A7 out) (h2 : A7 more) : A7 (C5 out more) := fun s hs => by
  rcases (fi _ _).mp hs with h | h
  · exact h1 s h
  · exact h2 s h
def S3 (h : Heap) (out : List Sv) : Heap := h ++ [some ⟨0, [.mp (out.map mkE)]⟩, some ⟨0, [.mref h.length 0]⟩, some ⟨0, [.ref (h.length + 3) out.length 0 49 out.length]⟩, some ⟨out.length, q7 out⟩]
theorem H4 (h : Heap) (out : List Sv) : (S3 h out).length = h.length + 4 := by simp [S3]
theorem mv (h : Heap) (out out' : List Sv) : ∀ (b : Nat) (bk : Blk), (S3 h out)[b]? = some (some bk) → (S3 h out')[b]? = some (some bk) ∨ o4 (S3 h out').length bk.cells := by
  intro b bk hb
  rw [H4]
  unfold S3 at hb ⊢
  rcases Nat.lt_or_ge b h.length with hl | hl
  · rw [List.getElem?_append_left hl] at hb ⊢
    exact .inl hb
  · rw [List.getElem?_append_right hl] at hb
    right
    obtain ⟨i, hi⟩ : ∃ i, b - h.length = i := ⟨_, rfl⟩
    rw [hi] at hb
    match i, hb with
    | 0, hb => simp at hb; subst hb; exact ⟨trivial, trivial⟩
    | 1, hb => simp at hb; subst hb; exact ⟨by simp [s4], trivial⟩
    | 2, hb => simp at hb; subst hb; exact ⟨by simp [s4], trivial⟩
    | 3, hb => simp at hb; subst hb; exact u7 _ _
    | i + 4, hb => simp at hb
theorem kK (h : Heap) {out more : List Sv} (h1 : A7 out) (h2 : A7 more) (hn : out.length + more.length ≤ 16000000) :
    d5 Tryz.prog G 74 [B1 more, .ptr (h.length + 1) 0 0, .ptr (h.length + 2) 0 0] (S3 h out) (fun r h' => r = .undef ∧ h' = S3 h (C5 out more)) := by
  have hzl : (zS.map AV.i).length = 49 := by rw [List.length_map]; rfl
  have hem : (zS.map AV.i).isEmpty = false := rfl
  refine i3 (rl := []) d7 Tryz.func74 rfl (rs := []) rfl Tryz.ntmps74 (by simp) ?_
  repeat' (first | ((repeat ((fail_if_success (refine hK _ ?_)); clear hK K)); refine hK _ ?_; clear hK K) | (refine b9 fun K1 q8 => ?_; simp only [S1, simprocAttr, bz, List.length_map]; refine q8 _ ?_; clear q8 K1) | refine b6 fun K hK => ?_ | ((first | apply b8 | apply b5 | apply c7); try simp only [NB, simprocAttr]))
  refine Q9 more.length 23 (fun j => S3 h (C5 out (more.take j))) (fun j => [(8, .i j), (7, .i more.length), (6, B1 more), (1, .ptr (h.length + 1) 0 0), (2, .ptr (h.length + 2) 0 0)]) (fun j => []) (fun j => True)
    (fun j => ⟨by rw [H4, H4], mv h _ _⟩) ?_ trivial fun j hj hp K hK => ?_
  · refine ⟨rfl, ⟨[], by simp [C5]⟩, ?_, trivial⟩
    simp only [H4]
    simp only [S1, simprocAttr, KNB] <;> (try and_intros) <;> (try assumption) <;> (try trivial) <;> (try omega)
  rw [List.append_nil]
  rcases Nat.lt_or_ge j more.length with hlt | hge
  · obtain ⟨s, hx⟩ : ∃ k, more[j]? = some k := ⟨_, List.getElem?_eq_getElem hlt⟩
    have hs : s.length = 49 := h2 s (List.mem_of_getElem? hx)
    have hxr : (more.map eSt)[j]? = some (s.map (PV.int .i64)) := by rw [List.getElem?_map, hx]; rfl
    have es := gz (out := out) hx
    have ho : A7 (C5 out (more.take j)) := Q3 h1 fun t ht => h2 t (List.mem_of_mem_take ht)
    have hol := (R6 (more.take j) out).1
    rw [List.length_take] at hol
    have jl : (j : Int) < (more.length : Int) := by omega
    have j0 : (0 : Int) ≤ (j : Int) := by omega
    have hnx : IntKind.i64.wrap ((j : Int) + 1) = ((j + 1 : Nat) : Int) := by rw [IntWalk.i64_in _ (by omega)]; omega
    have t49' : (s.map AV.i).take 49 = s.map AV.i := List.take_of_length_le (by rw [List.length_map, hs]; exact Nat.le_refl _)
    have hso : u5 (zS.map AV.i) 0 (s.map AV.i) = s.map AV.i := m3 (n := 49) (by rw [List.length_map, hs]) _ hzl
    have hsm := u0 s
    have hne := J3 hs
    generalize C5 out (more.take j) = o at *
    have hio := mu s
    have ha := Az ho
    have hmax : o.length + 1 ≤ j7 := by unfold j7; omega
    have hfl := C6 ho
    have hpk : ∀ L : Heap, S3 h o ++ L = h ++ ([some ⟨0, [.mp (o.map mkE)]⟩, some ⟨0, [.mref h.length 0]⟩, some ⟨0, [.ref (h.length + 3) o.length 0 49 o.length]⟩, some ⟨o.length, q7 o⟩] ++ L) := fun L => by unfold S3; rw [List.append_assoc]
    have hpk0 : S3 h o = h ++ [some ⟨0, [.mp (o.map mkE)]⟩, some ⟨0, [.mref h.length 0]⟩, some ⟨0, [.ref (h.length + 3) o.length 0 49 o.length]⟩, some ⟨o.length, q7 o⟩] := rfl
    by_cases hin : s ∈ o
    · have hg := tv hin
      have ea : Z4 o s = o := by unfold Z4; rw [if_pos hin]
      rw [ea] at es
      rw [hpk0]
      repeat' (first | ((repeat ((fail_if_success (refine hK _ ?_)); clear hK K)); refine hK _ ?_; clear hK K) | ((first | refine b9 fun K1 q8 => ?_ | refine b7 fun A B hA hB => ?_); simp only [S1, simprocAttr, bz, jl, j0, hnx, hxr, hs, hzl, hem, t49', hso, hsm, hne, hio, ha, hg, dX, Aa, Ab, Ad, TSz, i9, i7, j5, d9, d8, e9, List.length_map, Option.getD_some]; first | refine q8 _ ?_; clear q8 K1 | ((first | refine hA ?_ | refine hB ?_); clear hA hB A B)) | refine b6 fun K hK => ?_ | ((first | apply b8 | apply b5 | apply c7 | apply c9); try simp only [NB, simprocAttr]))
      all_goals refine ⟨hlt, trivial, ?_⟩
      all_goals refine ⟨rfl, ⟨_, by rw [es, hpk0, List.append_assoc]; rfl⟩, ?_, trivial⟩
      all_goals simp only [H4]
      all_goals simp only [S1, simprocAttr, KNB] <;> (try and_intros) <;> (try assumption) <;> (try trivial) <;> (try omega)
    · have hg := ql hin
      have ea : Z4 o s = o ++ [s] := by unfold Z4; rw [if_neg hin]
      rw [ea] at es
      have hpk1 : S3 h (o ++ [s]) = h ++ [some ⟨0, [.mp (o.map mkE ++ [(s, true)])]⟩, some ⟨0, [.mref h.length 0]⟩, some ⟨0, [.ref (h.length + 3) (o.length + 1) 0 49 (o.length + 1)]⟩, some ⟨o.length + 1, q7 o ++ s.map AV.i⟩] := by
        unfold S3; rw [F4, List.map_append, List.length_append]; rfl
      have hpv := P8 s
      have hch := N1 49 (s.map (PV.int .i64)) (by rw [List.length_map, hs])
      have hti : (s.map (PV.int .i64)).take 49 = s.map (PV.int .i64) := List.take_of_length_le (by rw [List.length_map, hs]; exact Nat.le_refl _)
      rw [hpk0]
      repeat' (first | ((repeat ((fail_if_success (refine hK _ ?_)); clear hK K)); refine hK _ ?_; clear hK K) | ((first | refine b9 fun K1 q8 => ?_ | refine b7 fun A B hA hB => ?_); simp only [S1, simprocAttr, bz, jl, j0, hnx, hxr, hs, hzl, hem, t49', hso, hsm, hne, hio, ha, hg, hmax, hfl, hpv, hch, hti, dX, aw, Aa, Ab, Ad, TSz, i9, i7, j5, d9, d8, e9, List.length_map, Option.getD_none, List.drop_zero]; first | refine q8 _ ?_; clear q8 K1 | (refine hA ?_; clear hA hB A B)) | refine b6 fun K hK => ?_ | ((first | apply b8 | apply b5 | apply c7 | apply c9); try simp only [NB, simprocAttr]))
      all_goals refine ⟨hlt, trivial, ?_⟩
      all_goals refine ⟨rfl, ⟨_, by rw [es, hpk1, List.append_assoc]; rfl⟩, ?_, trivial⟩
      all_goals simp only [H4]
      all_goals simp only [S1, simprocAttr, KNB] <;> (try and_intros) <;> (try assumption) <;> (try trivial) <;> (try omega)
  · obtain rfl : j = more.length := by omega
    have hfin : ∀ (b : Nat) (bk : Blk), (S3 h (C5 out more))[b]? = some (some bk) → (S3 h out)[b]? = some (some bk) ∨ ∀ x, x ∈ bk.cells → AVlt (S3 h out).length x := fun b bk hb => by
      rcases mv h (C5 out more) out b bk hb with h' | h'
      · exact .inl h'
      · right
        rw [H4] at h' ⊢
        exact L7 _ h'
    have htk : (S3 h (C5 out more)).take (S3 h out).length = S3 h (C5 out more) := List.take_of_length_le (by rw [H4, H4]; exact Nat.le_refl _)
    have hle : (S3 h out).length ≤ (S3 h (C5 out more)).length := by rw [H4, H4]; exact Nat.le_refl _
    rw [List.take_length]
    repeat' (first | ((repeat ((fail_if_success (refine hK _ ?_)); clear hK K)); refine hK _ ?_; clear hK K) | ((first | refine b9 fun K1 q8 => ?_ | refine b7 fun A B hA hB => ?_); simp only [S1, simprocAttr, bz, Int.lt_irrefl]; first | refine q8 _ ?_; clear q8 K1 | (refine hB ?_; clear hA hB A B)) | refine b6 fun K hK => ?_ | ((first | apply b8 | apply b5 | apply f9); try simp only [NB, simprocAttr]))
    all_goals simp only [A0, y5, P6, P5, H8, F7, E6, G2, pur, L6, htk, S1, simprocAttr, Nat.le_add_right, Nat.le_refl]
    all_goals exact ⟨hle, hfin⟩
theorem jg {l : List Sv} (h : A7 l) : ∀ s ∈ l, (eSt s).length = 49 := fun s hs => by unfold eSt; rw [List.length_map]; exact h s hs
theorem gI : ∀ {l : List Sv}, A7 l → B9 49 l.length (l.flatMap eSt) = l.map eSt
  | [], _ => rfl
  | s :: r, h => by
    have ih := gI (l := r) fun t ht => h t (by simp [ht])
    have hs : (eSt s).length = 49 := jg h s (by simp)
    rw [List.length_cons, B9, List.flatMap_cons, List.take_left' hs, List.drop_left' hs, ih]; rfl
theorem qm (h : Heap) (n fuel : Nat) (l : List Sv) : L6 h n fuel (q7 l) = some (l.flatMap eSt) := by
  unfold q7 eSt
  rw [← List.map_flatMap, ← List.map_flatMap]
  exact O1 h n fuel _
theorem tw {h : Heap} {n fuel b g m : Nat} {l : List Sv} (h49 : A7 l) (hm : m = l.length) (hb : r8 h b g = some (q7 l)) (hn : n ≤ b) : pur h n (fuel + 1) (.ref b g 0 49 m) = some (.sl (l.map eSt)) := by
  subst hm
  unfold pur
  by_cases h0 : l.length = 0
  · rw [if_pos h0]; have := List.eq_nil_of_length_eq_zero h0; subst this; rfl
  · rw [if_neg h0, hb]
    have e : (q7 l).length = l.length * 49 := C6 h49
    simp only [hn, true_and, Nat.zero_add, e, Nat.le_refl, if_true, List.drop_zero]
    rw [List.take_of_length_le (by rw [e]; exact Nat.le_refl _), qm]
    simp only [Option.map_some, gI h49]
theorem kL {P : Program} {h : Heap} {K : AV → Prop} {x : Exit} {s : St} (hx : x = .normal ∨ x = .ret) {t b g m : Nat} {l : List Sv} (h49 : A7 l) (hm : m = l.length) (hf : s.fr t = some (.ref b g 0 49 m))
    (hb : r8 s.heap b g = some (q7 l)) (hn : h.length ≤ b) (ht : s.heap.take h.length = h) (hle : h.length ≤ s.heap.length) (hk : K (B1 l)) : iR P [.tmp t] h K x s := by
  have key : W6 P [.tmp t] h K s := by
    unfold W6
    simp only [P6, P5, H8, hf, F7, E6, tw h49 hm hb hn, Option.map_some]
    exact ⟨ht, hle, hk⟩
  rcases hx with rfl | rfl <;> exact key
theorem uQ {P : Program} {h : Heap} {K : AV → Prop} {x : Exit} {s : St} (hx : x = .normal ∨ x = .ret) {t t2 b g m : Nat} {l : List Sv} {y : Bool} (h49 : A7 l) (hm : m = l.length) (hf : s.fr t = some (.ref b g 0 49 m)) (hf2 : s.fr t2 = some (.b y))
    (hb : r8 s.heap b g = some (q7 l)) (hn : h.length ≤ b) (ht : s.heap.take h.length = h) (hle : h.length ≤ s.heap.length) (hk : K (.tup [B1 l, .b y])) : iR P [.tmp t, .tmp t2] h K x s := by
  have key : W6 P [.tmp t, .tmp t2] h K s := by
    unfold W6
    simp only [P6, P5, H8, hf, hf2, F7, G2, E6, tw h49 hm hb hn, pur, Option.map_some]
    exact ⟨ht, hle, hk⟩
  rcases hx with rfl | rfl <;> exact key
structure Qsp where
  i : Nat
  out : List Sv
theorem nY {f : FuncId} (hE : g8 Tryz.prog f) {caps : List AV} {h : Heap} (hcap : o4 h.length caps) {nx : Sv → List Sv} (hnx49 : ∀ s, s.length = 49 → A7 (nx s)) (hnl : ∀ s, (nx s).length ≤ 2500)
    (hnx : ∀ s, s.length = 49 → ∀ L : Heap, d5 Tryz.prog G f (aS s :: caps) (h ++ L) (fun r h' => r = B1 (nx s) ∧ h' = h ++ L)) {l : List Sv} (h49 : A7 l) (hl : l.length ≤ 8000000) :
    d5 Tryz.prog G 53 [B1 l, .i 1500, .fn f caps] h (fun r h' => r = .tup [B1 (E2 nx 1500 l), .b (decide ((E2 nx 1500 l).length ≤ 1500))] ∧ h' = h) := by
  have hadd0 := kK (G := G) h (out := []) (more := l) (fun s hs => by cases hs) h49 (by simp; omega)
  have hp0 : h ++ [some ⟨0, [.mp []]⟩, some ⟨0, [.mref h.length 0]⟩, some ⟨0, [.ref (h.length + 3) 0 0 49 0]⟩, some ⟨0, []⟩] = S3 h [] := rfl
  refine c8 (rl := []) d7 Tryz.func53 rfl (rs := [.tmp 6, .tmp 7]) rfl Tryz.ntmps53 (by simp) ?_
  refine b6 fun K hK => ?_
  repeat' (first | (apply b8; (try simp only [NB]); ((repeat ((fail_if_success (refine hK _ ?_)); clear hK K)); refine hK _ ?_; clear hK K)) | (refine b9 fun K1 q8 => ?_; simp only [S1, simprocAttr, bz, yV]; refine q8 _ ?_; clear q8 K1) | (apply b5; try simp only [NB, simprocAttr]; (try ((repeat ((fail_if_success (refine hK _ ?_)); clear hK K)); refine hK _ ?_; clear hK K))))
  refine b6 fun K hK => ?_
  repeat' (first | (apply b8; (try simp only [NB]); ((repeat ((fail_if_success (refine hK _ ?_)); clear hK K)); refine hK _ ?_; clear hK K)) | (refine b9 fun K1 q8 => ?_; simp only [S1, simprocAttr, bz, yV]; refine q8 _ ?_; clear q8 K1) | (apply b5; try simp only [NB, simprocAttr]; (try ((repeat ((fail_if_success (refine hK _ ?_)); clear hK K)); refine hK _ ?_; clear hK K))))
  refine gH ⟨frL [(8, .ptr (h.length + 1) 0 0), (9, .ptr (h.length + 2) 0 0), (0, B1 l), (1, .i 1500), (2, .fn f caps)], 42, S3 h []⟩ (fun K hK => ?_) ?_
  · repeat' (first | ((repeat ((fail_if_success (refine hK _ ?_)); clear hK K)); refine hK _ ?_; clear hK K) | (refine b9 fun K1 q8 => ?_; simp only [S1, simprocAttr, bz]; refine q8 _ ?_; clear q8 K1) | ((first | apply b8 | apply b5); try simp only [NB, simprocAttr]))
    refine (o6.adoptCell 49 (b := h.length + 2) (j := 0) (bk := ⟨0, [.p .nils]⟩) (by simp [n5]) rfl (by omega)).trans (Sub.ghost ⟨rfl, ⟨[], by simp [q7, T6]⟩, ?_, ?_⟩)
    · have hc4 := E0 (Nat.le_add_right h.length 4) caps hcap
      simp only [S1, simprocAttr, KNB] <;> (try and_intros) <;> (try assumption) <;> (try trivial) <;> (try omega)
      all_goals exact hc4
    · exact ⟨⟨trivial, trivial⟩, ⟨by simp [s4], trivial⟩, ⟨by simp [s4], trivial⟩, trivial, trivial⟩
  have hEa := E74
  repeat' (first | ((repeat ((fail_if_success (refine hK _ ?_)); clear hK K)); refine hK _ ?_; clear hK K) | (refine b9 fun K1 q8 => ?_; simp only [S1, simprocAttr, bz, H4]; first | refine q8 _ ?_; clear q8 K1 | (apply d4 E74; exact hadd0; refine q8 _ ?_; clear q8 K1)) | refine b6 fun K hK => ?_ | ((first | apply b8 | apply b5 | apply c7); try simp only [NB, simprocAttr]))
  refine jU (σ := Qsp) (fun q => 1501 - q.i) 42 (fun q => [(11, .i q.i), (10, .fn 74 [.ptr (h.length + 1) 0 0, .ptr (h.length + 2) 0 0]), (9, .ptr (h.length + 2) 0 0), (1, .i 1500), (2, .fn f caps)])
    (fun q => [some ⟨0, [.mp (q.out.map mkE)]⟩, some ⟨0, [.mref h.length 0]⟩, some ⟨0, [.ref (h.length + 3) q.out.length 0 49 q.out.length]⟩, some ⟨q.out.length, q7 q.out⟩])
    (fun q => q.i ≤ 1501 ∧ A7 q.out ∧ q.out.length ≤ 8000000 ∧ E2 nx 1500 l = M5 nx 1500 (1501 - q.i) q.i q.out) ⟨0, C5 [] l⟩ ?_ ?_ fun q hp K hK => ?_
  · refine Sub.ghost ⟨rfl, ⟨[], by rw [List.append_nil]; rfl⟩, ?_, ?_⟩
    · have hc4 := E0 (Nat.le_add_right h.length 4) caps hcap
      simp only [S1, simprocAttr, KNB] <;> (try and_intros) <;> (try assumption) <;> (try trivial) <;> (try omega)
      all_goals exact hc4
    · exact ⟨⟨trivial, trivial⟩, ⟨by simp [s4], trivial⟩, ⟨by simp [s4], trivial⟩, u7 _ _, trivial⟩
  · refine ⟨by show 0 ≤ 1501; omega, Q3 (fun s hs => by cases hs) h49, ?_, rfl⟩
    have := (R6 l []).1
    simp only [List.length_nil, Nat.zero_add] at this
    show (C5 [] l).length ≤ 8000000
    omega
  obtain ⟨i, out⟩ := q
  obtain ⟨p1, p2, p3, p4⟩ := hp
  simp only at p1 p2 p3 p4 hK ⊢
  have hpk : h ++ [some ⟨0, [.mp (out.map mkE)]⟩, some ⟨0, [.mref h.length 0]⟩, some ⟨0, [.ref (h.length + 3) out.length 0 49 out.length]⟩, some ⟨out.length, q7 out⟩] = S3 h out := rfl
  have hfl := C6 p2
  have i0 : (0 : Int) ≤ (i : Int) := by omega
  have hnx1 : IntKind.i64.wrap ((i : Int) + 1) = ((i + 1 : Nat) : Int) := by rw [IntWalk.i64_in _ (by omega)]; omega
  have hend : ∀ {fr : Nat → Option AV} (y : Bool), E2 nx 1500 l = out → fr 6 = some (.ref (h.length + 3) out.length 0 49 out.length) → fr 7 = some (.b y) → y = decide (out.length ≤ 1500) → iR Tryz.prog [.tmp 6, .tmp 7] h (fun r => r = .tup [B1 (E2 nx 1500 l), .b (decide ((E2 nx 1500 l).length ≤ 1500))]) .ret
      ⟨fr, 42, h ++ [some ⟨0, [.mp (out.map mkE)]⟩, some ⟨0, [.mref h.length 0]⟩, some ⟨0, [.ref (h.length + 3) out.length 0 49 out.length]⟩, some ⟨out.length, q7 out⟩]⟩ := fun y e1 e2 e3 e4 => by
    rw [e1, ← e4]
    exact uQ (.inr rfl) (t := 6) (t2 := 7) p2 rfl e2 e3 (by simp [r8, n5]) (Nat.le_add_right _ _) (by simp) (by simp) rfl
  by_cases hlt : i < out.length
  · have hi : (i : Int) < (out.length : Int) := by omega
    obtain ⟨s, hx⟩ : ∃ k, out[i]? = some k := ⟨_, List.getElem?_eq_getElem hlt⟩
    by_cases hmost : out.length ≤ 1500
    · have hm : (out.length : Int) ≤ 1500 := by omega
      have hs : s.length = 49 := p2 s (List.mem_of_getElem? hx)
      have hft := dO p2 hx
      have hle : 49 ≤ out.length * 49 - i * 49 := by omega
      have hn1 := hnx s hs [some ⟨0, [.mp (out.map mkE)]⟩, some ⟨0, [.mref h.length 0]⟩, some ⟨0, [.ref (h.length + 3) out.length 0 49 out.length]⟩, some ⟨out.length, q7 out⟩]
      have hnl1 := hnl s
      have ha1 := kK (G := G) h p2 (hnx49 s hs) (by omega)
      have hEa := E74
      have hao := (R6 (nx s) out).1
      have p4' : E2 nx 1500 l = M5 nx 1500 (1501 - (i + 1)) (i + 1) (C5 out (nx s)) := by
        rw [p4]
        obtain ⟨k, hk⟩ : ∃ k, 1501 - i = k + 1 := ⟨1500 - i, by omega⟩
        rw [hk, show 1501 - (i + 1) = k by omega]
        conv => lhs; unfold M5
        rw [hx]; simp only; rw [if_pos hmost]
      repeat' (first | ((repeat ((fail_if_success (refine hK _ ?_)); clear hK K)); refine hK _ ?_; clear hK K) | ((first | refine b9 fun K1 q8 => ?_ | refine b7 fun A B hA hB => ?_); simp only [S1, simprocAttr, bz, hi, hm, i0, hnx1, hft, hle, hfl, TSz, d9, d8, e9, List.length_map, List.length_drop]; first | refine q8 _ ?_; clear q8 K1 | (refine hA ?_; clear hA hB A B) | (apply d4 hE; exact hn1; refine q8 _ ?_; clear q8 K1) | (apply d4 E74; exact ha1; refine q8 _ ?_; clear q8 K1)) | refine b6 fun K hK => ?_ | ((first | apply b8 | apply b5 | apply c7 | apply c9); try simp only [NB, simprocAttr]))
      all_goals refine ⟨⟨i + 1, C5 out (nx s)⟩, by simp only; omega, ⟨by simp only; omega, Q3 p2 (hnx49 s hs), by simp only; omega, p4'⟩, ?_⟩
      all_goals refine ⟨rfl, ⟨[], by rw [List.append_nil]; rfl⟩, ?_, ?_⟩
      · have hc4 := E0 (Nat.le_add_right h.length 4) caps hcap
        simp only [S1, simprocAttr, KNB] <;> (try and_intros) <;> (try assumption) <;> (try trivial) <;> (try omega)
        all_goals exact hc4
      · exact ⟨⟨trivial, trivial⟩, ⟨by simp [s4], trivial⟩, ⟨by simp [s4], trivial⟩, u7 _ _, trivial⟩
    · have hm : ¬ (out.length : Int) ≤ 1500 := by omega
      have e : E2 nx 1500 l = out := by
        rw [p4]
        cases hq : 1501 - i with
        | zero => rfl
        | succ f => unfold M5; rw [hx]; simp only; rw [if_neg hmost]
      repeat' (first | ((repeat ((fail_if_success (refine hK _ ?_)); clear hK K)); refine hK _ ?_; clear hK K) | ((first | refine b9 fun K1 q8 => ?_ | refine j9 fun K1 q8 => ?_ | refine b7 fun A B hA hB => ?_); simp only [S1, simprocAttr, bz, hi, hm, List.length_map]; first | refine q8 _ ?_; clear q8 K1 | (refine hB ?_; clear hA hB A B)) | refine b6 fun K hK => ?_ | ((first | apply b8 | apply i5 | apply b5 | refine i6 ?_ | apply f9 | apply d3); try simp only [NB, simprocAttr]))
      all_goals exact hend false e rfl rfl (by simp [hmost])
  · have hi : ¬ (i : Int) < (out.length : Int) := by omega
    have e : E2 nx 1500 l = out := by
      rw [p4]
      cases hq : 1501 - i with
      | zero => rfl
      | succ f => unfold M5; rw [List.getElem?_eq_none (by omega)]
    by_cases hmost : out.length ≤ 1500
    · have hm : (out.length : Int) ≤ 1500 := by omega
      repeat' (first | ((repeat ((fail_if_success (refine hK _ ?_)); clear hK K)); refine hK _ ?_; clear hK K) | ((first | refine b9 fun K1 q8 => ?_ | refine j9 fun K1 q8 => ?_ | refine b7 fun A B hA hB => ?_); simp only [S1, simprocAttr, bz, hi, hm, List.length_map]; first | refine q8 _ ?_; clear q8 K1 | (refine hB ?_; clear hA hB A B)) | refine b6 fun K hK => ?_ | ((first | apply b8 | apply i5 | apply b5 | refine i6 ?_ | apply f9 | apply d3); try simp only [NB, simprocAttr]))
      all_goals exact hend true e rfl rfl (by simp [hmost])
    · have hm : ¬ (out.length : Int) ≤ 1500 := by omega
      repeat' (first | ((repeat ((fail_if_success (refine hK _ ?_)); clear hK K)); refine hK _ ?_; clear hK K) | ((first | refine b9 fun K1 q8 => ?_ | refine j9 fun K1 q8 => ?_ | refine b7 fun A B hA hB => ?_); simp only [S1, simprocAttr, bz, hi, hm, List.length_map]; first | refine q8 _ ?_; clear q8 K1 | (refine hB ?_; clear hA hB A B)) | refine b6 fun K hK => ?_ | ((first | apply b8 | apply i5 | apply b5 | refine i6 ?_ | apply f9 | apply d3); try simp only [NB, simprocAttr]))
      all_goals exact hend false e rfl rfl (by simp [hmost])
end
section
attribute [local irreducible] awp n9 k8 l8 o5 m9
theorem TRz : k3 Tryz.prog 60 = some ⟨.struct [(0, 40, 57), (40, 4, 58), (44, 4, 58), (48, 1, 3)], 49, 392, some z49⟩ := by rw [T60]; rfl
theorem qn {S : List Int} (hS : S.length = 49) (c : List AV) (hc : c.length = 49) : (u5 (u5 (u5 c 0 ((S.take 40).map AV.i)) 40 (((S.drop 40).take 4).map AV.i)) 44 (((S.drop 44).take 4).map AV.i)).set 48 (.p (.int .i64 (mdS S))) = S.map AV.i := by
  have l1 : ((S.take 40).map AV.i).length = 40 := by simp [hS]
  have l2 : (((S.drop 40).take 4).map AV.i).length = 4 := by simp [hS]
  have l3 : (((S.drop 44).take 4).map AV.i).length = 4 := by simp [hS]
  have eS : S.map AV.i = (S.take 40).map AV.i ++ (((S.drop 40).take 4).map AV.i ++ (((S.drop 44).take 4).map AV.i ++ [.p (.int .i64 (mdS S))])) := by
    have h1 : S = S.take 40 ++ ((S.drop 40).take 4 ++ ((S.drop 44).take 4 ++ [mdS S])) := by
      have a1 : S.drop 48 = [mdS S] := by
        rw [List.drop_eq_getElem_cons (by omega), List.drop_of_length_le (by omega)]
        congr 1
        have := H7 hS (k := 48) (by omega)
        rw [List.getElem?_eq_getElem (by omega)] at this
        exact Option.some.inj this
      have a2 : S.drop 44 = (S.drop 44).take 4 ++ [mdS S] := by
        rw [← a1, show S.drop 48 = (S.drop 44).drop 4 by rw [List.drop_drop], List.take_append_drop]
      have a3 : S.drop 40 = (S.drop 40).take 4 ++ ((S.drop 44).take 4 ++ [mdS S]) := by
        rw [← a2, show S.drop 44 = (S.drop 40).drop 4 by rw [List.drop_drop], List.take_append_drop]
      rw [← a3, List.take_append_drop]
    conv => lhs; rw [h1]
    simp only [List.map_append, List.map_cons, List.map_nil]
  generalize (S.take 40).map AV.i = A at *
  generalize ((S.drop 40).take 4).map AV.i = B at *
  generalize ((S.drop 44).take 4).map AV.i = C at *
  have o1 : u5 c 0 A = A ++ c.drop 40 := by rw [ak _ c 0 (by omega)]; simp [l1]
  have o2 : u5 (A ++ c.drop 40) 40 B = A ++ (B ++ c.drop 44) := by
    rw [ak _ _ 40 (by rw [List.length_append, List.length_drop]; omega)]
    rw [List.take_left' l1, l2, List.drop_append, l1, List.drop_of_length_le (by omega), List.drop_drop, List.append_assoc]; rfl
  have o3 : u5 (A ++ (B ++ c.drop 44)) 44 C = A ++ (B ++ (C ++ c.drop 48)) := by
    have l4 : (A ++ B).length = 44 := by rw [List.length_append]; omega
    rw [← List.append_assoc, ak _ _ 44 (by rw [List.length_append, List.length_drop]; omega)]
    rw [List.take_left' l4, l3, List.drop_append, l4, List.drop_of_length_le (by omega), List.drop_drop, List.append_assoc, List.append_assoc]; rfl
  rw [o1, o2, o3, eS]
  have l5 : (A ++ (B ++ C)).length = 48 := by rw [List.length_append, List.length_append]; omega
  have c1 : ∃ x, c.drop 48 = [x] := List.length_eq_one_iff.mp (by rw [List.length_drop]; omega)
  obtain ⟨x, hx⟩ := c1
  rw [hx, show A ++ (B ++ (C ++ [x])) = (A ++ (B ++ C)) ++ [x] by simp only [List.append_assoc], List.set_append_right _ _ (by omega), l5]
  simp only [List.append_assoc]; rfl
end
section
def bA := And.intro T2 (And.intro T3 (And.intro T4 (And.intro T25 (And.intro T26 (And.intro T28 (And.intro T31 (And.intro T34 (And.intro T41 (And.intro T57 (And.intro T58 (And.intro T62 (And.intro T65 (And.intro T89 T92)))))))))))))
attribute [local irreducible] awp n9 k8 l8 o5 m9
def dP (y : Sp) : Lb := (y.lk, y.ln, y.la)
abbrev aL (x : Lb) : AV := .agg [.i x.1, .i x.2.1, .i x.2.2]
def O7 (sl : List Sp) (x : Lb) : List Sv := (sl.filter fun y => dP y = x).map (·.to)
noncomputable def am (ns : List Nd) (fl : List Fl) (S : Sv) (x : Lb) : List Sv := O7 (p9 ns fl S) x
theorem mw {sl : List Sp} {j : Nat} {y : Sp} (h : sl[j]? = some y) (x : Lb) : O7 (sl.take (j + 1)) x = O7 (sl.take j) x ++ if dP y = x then [y.to] else [] := by
  unfold O7
  rw [List.take_add_one, h, List.filter_append, List.map_append]
  congr 1
  by_cases hc : dP y = x <;> simp [hc]
theorem nZ (sl : List Sp) (j : Nat) (x : Lb) : (O7 (sl.take j) x).length ≤ sl.length := by
  unfold O7
  rw [List.length_map]
  exact Nat.le_trans (List.length_filter_le _ _) (by rw [List.length_take]; omega)
theorem fw {sl : List Sp} (h : ∀ y ∈ sl, y.to.length = 49) (x : Lb) : A7 (O7 sl x) := fun s hs => by
  unfold O7 at hs
  obtain ⟨y, hy, rfl⟩ := List.mem_map.mp hs
  exact h y (List.mem_filter.mp hy).1
theorem uR (a b : Lb) : y8 true [AV.i a.1, AV.i a.2.1, AV.i a.2.2] [AV.i b.1, AV.i b.2.1, AV.i b.2.2] = some (decide (a = b)) := by
  simp only [y8]
  obtain ⟨a1, a2, a3⟩ := a
  obtain ⟨b1, b2, b3⟩ := b
  by_cases h1 : a1 = b1 <;> by_cases h2 : a2 = b2 <;> by_cases h3 : a3 = b3 <;> simp [h1, h2, h3]
theorem mA {ns : List Nd} {fl : List Fl} (nk : NetOk ns fl) {S : Sv} (hS : S.length = 49) (x : Lb) (h : Heap) :
    d5 Tryz.prog gW 31 [G4 ns fl, aS S, aL x] h (fun r h' => r = B1 (am ns fl S x) ∧ h' = h) := by
  have hne := J3 hS
  have hmv := fun h => iB nk hS h
  have hto := Q2 (ns := ns) (fl := fl) hS
  have hln := M6 (ns := ns) (fl := fl) (S := S)
  have hzl : (zS.map AV.i).length = 49 := by rw [List.length_map]; rfl
  have hem : (zS.map AV.i).isEmpty = false := rfl
  have t49' : (S.map AV.i).take 49 = S.map AV.i := List.take_of_length_le (by rw [List.length_map, hS]; exact Nat.le_refl _)
  have hdo : ∀ (j : Nat) (y : Sp), (p9 ns fl S)[j]? = some y → ∀ h, d5 Tryz.prog gW 52 [G4 ns fl, aS S, .i j] h (fun r h' => r = .tup [aS y.to, aLb y, .i 0] ∧ h' = h) := by
    intro j y hy h
    have h0 : stC ns fl S = 0 := by
      rcases Classical.em (stC ns fl S = 0) with e | e
      · exact e
      · exfalso
        have : p9 ns fl S = [] := by unfold p9; rw [if_pos (.inl e)]
        rw [this] at hy; simp at hy
    have := wZ nk hS (j : Int) h
    have e : doG ns fl S (j : Int) = (y, 0) := by unfold doG; rw [if_neg (by simpa using h0), if_neg (by omega), Int.toNat_natCast, hy]
    rw [e] at this
    exact this
  refine c8 (rl := []) d7 Tryz.func31 rfl (rs := [.tmp 6]) rfl Tryz.ntmps31 (by simp) ?_
  refine b6 fun K hK => ?_
  repeat' (first | (apply b8; (try simp only [NB]); ((repeat ((fail_if_success (refine hK _ ?_)); clear hK K)); refine hK _ ?_; clear hK K)) | (refine b9 fun K1 q8 => ?_; simp only [S1, simprocAttr, bA, hne, hS, d9]; refine q8 _ ?_; clear q8 K1) | (apply b5; try simp only [NB, simprocAttr]; (try ((repeat ((fail_if_success (refine hK _ ?_)); clear hK K)); refine hK _ ?_; clear hK K))))
  refine b6 fun K hK => ?_
  repeat' (first | (apply b8; (try simp only [NB]); ((repeat ((fail_if_success (refine hK _ ?_)); clear hK K)); refine hK _ ?_; clear hK K)) | (refine b9 fun K1 q8 => ?_; simp only [S1, simprocAttr, bA]; refine q8 _ ?_; clear q8 K1) | (apply b5; try simp only [NB, simprocAttr]; (try ((repeat ((fail_if_success (refine hK _ ?_)); clear hK K)); refine hK _ ?_; clear hK K))))
  refine b6 fun K hK => ?_
  repeat' (first | ((repeat ((fail_if_success (refine hK _ ?_)); clear hK K)); refine hK _ ?_; clear hK K) | (refine b9 fun K1 q8 => ?_; simp only [S1, simprocAttr, bA, TSz, i9, hne, hS, d9, t49', d8, e9, List.length_map]; first | refine q8 _ ?_; clear q8 K1 | (apply d4 E38; exact (hmv _); refine q8 _ ?_; clear q8 K1)) | refine b6 fun K hK => ?_ | ((first | apply b8 | apply b5 | apply c7); try simp only [NB, simprocAttr]))
  have hW : am ns fl S x = O7 (p9 ns fl S) x := rfl
  clear hmv
  generalize p9 ns fl S = sl at *
  refine C0 sl.length 40 (fun j => [(17, .i j), (16, .i sl.length), (15, zM sl), (7, .ref (h.length + 3) (O7 (sl.take j) x).length 0 49 (O7 (sl.take j) x).length), (3, .ptr h.length 0 0), (4, .ptr (h.length + 1) 0 0), (5, .ptr (h.length + 2) 0 0)])
    (fun j => [some ⟨0, x6 ns fl⟩, some ⟨0, S.map AV.i⟩, some ⟨0, [.i x.1, .i x.2.1, .i x.2.2]⟩, some ⟨(O7 (sl.take j) x).length, q7 (O7 (sl.take j) x)⟩]) (fun j => True) ?_ trivial fun j hj hp K hK => ?_
  · refine (o6.adopt 7 49 rfl).trans (Sub.ghost ⟨rfl, ⟨[], by simp [q7, O7]⟩, ?_, ⟨trivial, trivial, trivial⟩, g9 _ _, ⟨trivial, trivial, trivial, trivial⟩, trivial, trivial⟩)
    simp only [G8, s4, D0, frL, List.length_cons, List.length_nil]
    simp [O7]
  rcases Nat.lt_or_ge j sl.length with hlt | hge
  · obtain ⟨y, hy⟩ : ∃ y, sl[j]? = some y := ⟨_, List.getElem?_eq_getElem hlt⟩
    have hxy : (sl.map eMv)[j]? = some [.int .i64 y.node, .int .i64 y.arg, .int .i64 y.lk, .int .i64 y.ln, .int .i64 y.la] := by rw [List.getElem?_map, hy]; rfl
    have hyl := hto y (List.mem_of_getElem? hy)
    have es := mw hy x
    have hle := nZ sl j x
    have ho49 := fw (sl := sl.take j) (fun y hy => hto y (List.mem_of_mem_take hy)) x
    have hfl := C6 ho49
    have hmax : (O7 (sl.take j) x).length + 1 ≤ j7 := by unfold j7; omega
    have jl : (j : Int) < (sl.length : Int) := by omega
    have j0 : (0 : Int) ≤ (j : Int) := by omega
    have hnx : IntKind.i64.wrap ((j : Int) + 1) = ((j + 1 : Nat) : Int) := by rw [IntWalk.i64_in _ (by omega)]; omega
    have heq := uR (dP y) x
    have heq : y8 true [.p (.int .i64 y.lk), .p (.int .i64 y.ln), .p (.int .i64 y.la)] [.p (.int .i64 x.1), .p (.int .i64 x.2.1), .p (.int .i64 x.2.2)] = some (decide (dP y = x)) := heq
    by_cases hc : dP y = x
    · rw [decide_eq_true hc] at heq
      rw [if_pos hc] at es
      have hd := hdo j y hy
      have yt49 : (y.to.map AV.i).take 49 = y.to.map AV.i := List.take_of_length_le (by rw [List.length_map, hyl]; exact Nat.le_refl _)
      have hyz : u5 (zS.map AV.i) 0 (y.to.map AV.i) = y.to.map AV.i := m3 (n := 49) (by rw [List.length_map, hyl]) _ hzl
      have hey : (y.to.map AV.i).isEmpty = false := J3 hyl
      have hpv := P8 y.to
      have hch := N1 49 (y.to.map (PV.int .i64)) (by rw [List.length_map, hyl])
      have hti : (y.to.map (PV.int .i64)).take 49 = y.to.map (PV.int .i64) := List.take_of_length_le (by rw [List.length_map, hyl]; exact Nat.le_refl _)
      have hmm := u0 y.to
      have hfa := F4 (O7 (sl.take j) x) y.to
      repeat' (first | ((repeat ((fail_if_success (refine hK _ ?_)); clear hK K)); refine hK _ ?_; clear hK K) | ((first | refine b9 fun K1 q8 => ?_ | refine b7 fun A B hA hB => ?_); simp only [S1, simprocAttr, bA, jl, j0, hxy, hnx, hyl, hzl, hem, yt49, hyz, hey, hpv, hch, hti, hmm, hfl, hmax, heq, eqA, W28, TSz, i9, i7, j5, hne, hS, d9, t49', d8, e9, List.length_map, Nat.mul_one]; first | refine q8 _ ?_; clear q8 K1 | (refine hA ?_; clear hA hB A B) | (apply d4 E52; exact (hd _); refine q8 _ ?_; clear q8 K1)) | refine b6 fun K hK => ?_ | ((first | apply b8 | apply b5 | apply c7 | apply c9); try simp only [NB, simprocAttr]))
      all_goals refine ⟨hlt, trivial, ?_⟩
      all_goals simp only [es, hfa, List.length_append, List.length_cons, List.length_nil, Nat.zero_add]
      all_goals refine ⟨rfl, ⟨_, rfl⟩, ?_, ⟨trivial, trivial, trivial⟩, g9 _ _, ⟨trivial, trivial, trivial, trivial⟩, (by rw [← F4]; exact u7 _ _), trivial⟩
      all_goals simp only [S1, simprocAttr, KNB] <;> (try and_intros) <;> (try assumption) <;> (try trivial) <;> (try omega)
    · rw [decide_eq_false hc] at heq
      rw [if_neg hc, List.append_nil] at es
      repeat' (first | ((repeat ((fail_if_success (refine hK _ ?_)); clear hK K)); refine hK _ ?_; clear hK K) | ((first | refine b9 fun K1 q8 => ?_ | refine b7 fun A B hA hB => ?_); simp only [S1, simprocAttr, bA, jl, j0, hxy, hnx, hyl, heq, eqA, W28, d8, e9, List.length_map, Nat.mul_one]; first | refine q8 _ ?_; clear q8 K1 | ((first | refine hA ?_ | refine hB ?_); clear hA hB A B)) | refine b6 fun K hK => ?_ | ((first | apply b8 | apply b5 | apply c7 | apply c9); try simp only [NB, simprocAttr]))
      all_goals refine ⟨hlt, trivial, ?_⟩
      all_goals simp only [es]
      all_goals refine ⟨rfl, ⟨_, rfl⟩, ?_, ⟨trivial, trivial, trivial⟩, g9 _ _, ⟨trivial, trivial, trivial, trivial⟩, u7 _ _, trivial⟩
      all_goals simp only [S1, simprocAttr, KNB] <;> (try and_intros) <;> (try assumption) <;> (try trivial) <;> (try omega)
  · obtain rfl : j = sl.length := by omega
    have h49 := fw hto x
    repeat' (first | ((repeat ((fail_if_success (refine hK _ ?_)); clear hK K)); refine hK _ ?_; clear hK K) | ((first | refine b9 fun K1 q8 => ?_ | refine b7 fun A B hA hB => ?_); simp only [S1, simprocAttr, bA, Int.lt_irrefl]; first | refine q8 _ ?_; clear q8 K1 | (refine hB ?_; clear hA hB A B)) | refine b6 fun K hK => ?_ | ((first | apply b8 | apply b5 | apply f9 | apply d3); try simp only [NB, simprocAttr]))
    all_goals exact kL (.inr rfl) h49 rfl (by rw [List.take_length]; rfl) (by simp only [List.take_length, r8, n5, List.getElem?_cons_succ, List.getElem?_cons_zero, if_true]) (by omega) (by simp) (by simp) (by rw [hW])
theorem kM {ns : List Nd} {fl : List Fl} (nk : NetOk ns fl) {S : Sv} (hS : S.length = 49) (x : Lb) (h : Heap) :
    d5 Tryz.prog gW 34 [G4 ns fl, aS S, aL x] h (fun r h' => r = B1 (am ns fl S x) ∧ h' = h) := by
  have hne := J3 hS
  have hmv := fun h => fh nk hS h
  have hto := Q2 (ns := ns) (fl := fl) hS
  have hln := M6 (ns := ns) (fl := fl) (S := S)
  have hzl : (zS.map AV.i).length = 49 := by rw [List.length_map]; rfl
  have hem : (zS.map AV.i).isEmpty = false := rfl
  have t49' : (S.map AV.i).take 49 = S.map AV.i := List.take_of_length_le (by rw [List.length_map, hS]; exact Nat.le_refl _)
  refine c8 (rl := []) d7 Tryz.func34 rfl (rs := [.tmp 6]) rfl Tryz.ntmps34 (by simp) ?_
  refine b6 fun K hK => ?_
  repeat' (first | (apply b8; (try simp only [NB]); ((repeat ((fail_if_success (refine hK _ ?_)); clear hK K)); refine hK _ ?_; clear hK K)) | (refine b9 fun K1 q8 => ?_; simp only [S1, simprocAttr, bA, hne, hS, d9]; refine q8 _ ?_; clear q8 K1) | (apply b5; try simp only [NB, simprocAttr]; (try ((repeat ((fail_if_success (refine hK _ ?_)); clear hK K)); refine hK _ ?_; clear hK K))))
  refine b6 fun K hK => ?_
  repeat' (first | (apply b8; (try simp only [NB]); ((repeat ((fail_if_success (refine hK _ ?_)); clear hK K)); refine hK _ ?_; clear hK K)) | (refine b9 fun K1 q8 => ?_; simp only [S1, simprocAttr, bA]; refine q8 _ ?_; clear q8 K1) | (apply b5; try simp only [NB, simprocAttr]; (try ((repeat ((fail_if_success (refine hK _ ?_)); clear hK K)); refine hK _ ?_; clear hK K))))
  refine b6 fun K hK => ?_
  repeat' (first | ((repeat ((fail_if_success (refine hK _ ?_)); clear hK K)); refine hK _ ?_; clear hK K) | (refine b9 fun K1 q8 => ?_; simp only [S1, simprocAttr, bA, TRz, i9, hne, hS, d9, t49', d8, e9, List.length_map]; first | refine q8 _ ?_; clear q8 K1 | (apply d4 E24; exact (hmv _); refine q8 _ ?_; clear q8 K1)) | refine b6 fun K hK => ?_ | ((first | apply b8 | apply b5 | apply c7); try simp only [NB, simprocAttr]))
  have hW : am ns fl S x = O7 (p9 ns fl S) x := rfl
  clear hmv
  generalize p9 ns fl S = sl at *
  refine C0 sl.length 29 (fun j => [(14, .i j), (13, .i sl.length), (12, rT sl), (7, .ref (h.length + 3) (O7 (sl.take j) x).length 0 49 (O7 (sl.take j) x).length), (5, .ptr (h.length + 2) 0 0)])
    (fun j => [some ⟨0, x6 ns fl⟩, some ⟨0, S.map AV.i⟩, some ⟨0, [.i x.1, .i x.2.1, .i x.2.2]⟩, some ⟨(O7 (sl.take j) x).length, q7 (O7 (sl.take j) x)⟩]) (fun j => True) ?_ trivial fun j hj hp K hK => ?_
  · refine (o6.adopt 7 49 rfl).trans (Sub.ghost ⟨rfl, ⟨[], by simp [q7, O7]⟩, ?_, ⟨trivial, trivial, trivial⟩, g9 _ _, ⟨trivial, trivial, trivial, trivial⟩, trivial, trivial⟩)
    simp only [G8, s4, D0, frL, List.length_cons, List.length_nil]
    simp [O7]
  rcases Nat.lt_or_ge j sl.length with hlt | hge
  · obtain ⟨y, hy⟩ : ∃ y, sl[j]? = some y := ⟨_, List.getElem?_eq_getElem hlt⟩
    have hxy : (sl.map eSp)[j]? = some ((cSp y).map (PV.int .i64)) := by rw [List.getElem?_map, hy]; rfl
    have hyl := hto y (List.mem_of_getElem? hy)
    have es := mw hy x
    have hle := nZ sl j x
    have ho49 := fw (sl := sl.take j) (fun y hy => hto y (List.mem_of_mem_take hy)) x
    have hfl := C6 ho49
    have hmax : (O7 (sl.take j) x).length + 1 ≤ j7 := by unfold j7; omega
    have jl : (j : Int) < (sl.length : Int) := by omega
    have j0 : (0 : Int) ≤ (j : Int) := by omega
    have hnx : IntKind.i64.wrap ((j : Int) + 1) = ((j + 1 : Nat) : Int) := by rw [IntWalk.i64_in _ (by omega)]; omega
    have heq := uR (dP y) x
    have heq : y8 true [.p (.int .i64 y.lk), .p (.int .i64 y.ln), .p (.int .i64 y.la)] [.p (.int .i64 x.1), .p (.int .i64 x.2.1), .p (.int .i64 x.2.2)] = some (decide (dP y = x)) := heq
    have y54 : (cSp y).length = 54 := E4 hyl
    have ymm := (u0 (cSp y)).trans (nH y)
    have ycons : (cSp y).map (PV.int .i64) = .int .i64 y.node :: .int .i64 y.arg :: .int .i64 y.lk :: .int .i64 y.ln :: .int .i64 y.la :: y.to.map (PV.int .i64) := rfl
    have yov := D4 hyl
    have yt49 : (y.to.map AV.i).take 49 = y.to.map AV.i := List.take_of_length_le (by rw [List.length_map, hyl]; exact Nat.le_refl _)
    by_cases hc : dP y = x
    · rw [decide_eq_true hc] at heq
      rw [if_pos hc] at es
      have hyz : u5 (zS.map AV.i) 0 (y.to.map AV.i) = y.to.map AV.i := m3 (n := 49) (by rw [List.length_map, hyl]) _ hzl
      have hpv := P8 y.to
      have hch := N1 49 (y.to.map (PV.int .i64)) (by rw [List.length_map, hyl])
      have hti : (y.to.map (PV.int .i64)).take 49 = y.to.map (PV.int .i64) := List.take_of_length_le (by rw [List.length_map, hyl]; exact Nat.le_refl _)
      have hmm := u0 y.to
      have hfa := F4 (O7 (sl.take j) x) y.to
      repeat' (first | ((repeat ((fail_if_success (refine hK _ ?_)); clear hK K)); refine hK _ ?_; clear hK K) | ((first | refine b9 fun K1 q8 => ?_ | refine b7 fun A B hA hB => ?_); simp only [S1, simprocAttr, bA, jl, j0, hxy, hnx, hyl, hzl, hem, y54, ymm, yov, yt49, hyz, hpv, hch, hti, hmm, hfl, hmax, heq, eqA, W28, TRz, i9, i7, j5, hne, hS, d9, t49', d8, e9, List.length_map, Nat.mul_one]; first | refine q8 _ ?_; clear q8 K1 | (refine hA ?_; clear hA hB A B)) | refine b6 fun K hK => ?_ | ((first | apply b8 | apply b5 | apply c7 | apply c9); try simp only [NB, simprocAttr]))
      all_goals refine ⟨hlt, trivial, ?_⟩
      all_goals simp only [es, hfa, List.length_append, List.length_cons, List.length_nil, Nat.zero_add]
      all_goals refine ⟨rfl, ⟨_, rfl⟩, ?_, ⟨trivial, trivial, trivial⟩, g9 _ _, ⟨trivial, trivial, trivial, trivial⟩, (by rw [← F4]; exact u7 _ _), trivial⟩
      all_goals simp only [S1, simprocAttr, KNB] <;> (try and_intros) <;> (try assumption) <;> (try trivial) <;> (try omega)
    · rw [decide_eq_false hc] at heq
      rw [if_neg hc, List.append_nil] at es
      repeat' (first | ((repeat ((fail_if_success (refine hK _ ?_)); clear hK K)); refine hK _ ?_; clear hK K) | ((first | refine b9 fun K1 q8 => ?_ | refine b7 fun A B hA hB => ?_); simp only [S1, simprocAttr, bA, jl, j0, hxy, hnx, hyl, y54, ymm, yov, yt49, heq, eqA, W28, d9, d8, e9, List.length_map, Nat.mul_one]; first | refine q8 _ ?_; clear q8 K1 | ((first | refine hA ?_ | refine hB ?_); clear hA hB A B)) | refine b6 fun K hK => ?_ | ((first | apply b8 | apply b5 | apply c7 | apply c9); try simp only [NB, simprocAttr]))
      all_goals refine ⟨hlt, trivial, ?_⟩
      all_goals simp only [es]
      all_goals refine ⟨rfl, ⟨_, rfl⟩, ?_, ⟨trivial, trivial, trivial⟩, g9 _ _, ⟨trivial, trivial, trivial, trivial⟩, u7 _ _, trivial⟩
      all_goals simp only [S1, simprocAttr, KNB] <;> (try and_intros) <;> (try assumption) <;> (try trivial) <;> (try omega)
  · obtain rfl : j = sl.length := by omega
    have h49 := fw hto x
    repeat' (first | ((repeat ((fail_if_success (refine hK _ ?_)); clear hK K)); refine hK _ ?_; clear hK K) | ((first | refine b9 fun K1 q8 => ?_ | refine b7 fun A B hA hB => ?_); simp only [S1, simprocAttr, bA, Int.lt_irrefl]; first | refine q8 _ ?_; clear q8 K1 | (refine hB ?_; clear hA hB A B)) | refine b6 fun K hK => ?_ | ((first | apply b8 | apply b5 | apply f9 | apply d3); try simp only [NB, simprocAttr]))
    all_goals exact kL (.inr rfl) h49 rfl (by rw [List.take_length]; rfl) (by simp only [List.take_length, r8, n5, List.getElem?_cons_succ, List.getElem?_cons_zero, if_true]) (by omega) (by simp) (by simp) (by rw [hW])
end
section
def bB := And.intro T2 (And.intro T3 (And.intro T4 (And.intro T25 (And.intro T26 (And.intro T28 (And.intro T31 (And.intro T34 (And.intro T36 (And.intro T41 (And.intro T57 (And.intro T58 (And.intro T62 (And.intro T65 (And.intro T89 T92))))))))))))))
attribute [local irreducible] awp n9 k8 l8 o5 m9
theorem cJ {ns : List Nd} {fl : List Fl} {S : Sv} (hS : S.length = 49) (x : Lb) : A7 (am ns fl S x) := fw (Q2 hS) x
theorem fx (ns : List Nd) (fl : List Fl) (S : Sv) (x : Lb) : (am ns fl S x).length ≤ 2500 := by
  have := nZ (p9 ns fl S) (p9 ns fl S).length x
  rw [List.take_length] at this
  exact Nat.le_trans this M6
noncomputable abbrev nxW (ns : List Nd) (fl : List Fl) (S : Sv) : List Sv := am ns fl S (0, 0, 0)
theorem lu {ns : List Nd} {fl : List Fl} (nk : NetOk ns fl) {S : Sv} (hS : S.length = 49) {H : Heap} {b : Nat} (hb : H[b]? = some (some ⟨0, x6 ns fl⟩)) (hlt : b < H.length) :
    d5 Tryz.prog gW 54 [aS S, .ptr b 0 0] H (fun r h' => r = B1 (nxW ns fl S) ∧ h' = H) := by
  have hne := J3 hS
  have t49' : (S.map AV.i).take 49 = S.map AV.i := List.take_of_length_le (by rw [List.length_map, hS]; exact Nat.le_refl _)
  have hled := fun h => mA nk hS (0, 0, 0) h
  have hb' : ∀ L : Heap, (H ++ L)[b]? = some (some ⟨0, x6 ns fl⟩) := fun L => by rw [List.getElem?_append_left hlt]; exact hb
  refine c8 (rl := []) d7 Tryz.func54 rfl (rs := [.tmp 3]) rfl Tryz.ntmps54 (by simp) ?_
  repeat' (first | ((repeat ((fail_if_success (refine hK _ ?_)); clear hK K)); refine hK _ ?_; clear hK K) | (refine b9 fun K1 q8 => ?_; simp only [S1, simprocAttr, bB, hb, hb', TSz, i9, hne, hS, d9, t49', d8, e9, List.length_map]; first | refine q8 _ ?_; clear q8 K1 | (apply d4 E31; exact (hled _); refine q8 _ ?_; clear q8 K1)) | refine b6 fun K hK => ?_ | ((first | apply b8 | apply b5 | apply d3); try simp only [NB, simprocAttr]))
  all_goals simp only [S1, simprocAttr, ENB, bB]
noncomputable def x8 (ns : List Nd) (fl : List Fl) (l : List Sv) : List Sv × Int := if (E2 (nxW ns fl) 1500 l).length ≤ 1500 then (E2 (nxW ns fl) 1500 l, 0) else ([], 5)
theorem bf {ns : List Nd} {fl : List Fl} (nk : NetOk ns fl) {l : List Sv} (h49 : A7 l) (hl : l.length ≤ 8000000) (h : Heap) :
    d5 Tryz.prog gW 32 [G4 ns fl, B1 l] h (fun r h' => r = .tup [B1 (x8 ns fl l).1, .i (x8 ns fl l).2] ∧ h' = h) := by
  have hE := E54
  have hsp := nY (G := gW) hE (caps := [.ptr h.length 0 0]) (h := h ++ [some ⟨0, x6 ns fl⟩]) ⟨by simp [s4], trivial⟩ (nx := nxW ns fl) (fun s hs => cJ hs _) (fun s => fx _ _ _ _)
    (fun s hs L => lu nk hs (by rw [List.append_assoc, ae]; rfl) (by simp)) h49 hl
  by_cases hc : (E2 (nxW ns fl) 1500 l).length ≤ 1500
  · have e : x8 ns fl l = (E2 (nxW ns fl) 1500 l, 0) := if_pos hc
    rw [e]
    rw [decide_eq_true hc] at hsp
    refine c8 (rl := []) d7 Tryz.func32 rfl (rs := [.tmp 4, .tmp 5]) rfl Tryz.ntmps32 (by simp) ?_
    repeat' (first | ((repeat ((fail_if_success (refine hK _ ?_)); clear hK K)); refine hK _ ?_; clear hK K) | ((first | refine b9 fun K1 q8 => ?_ | refine b7 fun A B hA hB => ?_); simp only [S1, simprocAttr, bB]; first | refine q8 _ ?_; clear q8 K1 | (refine hB ?_; clear hA hB A B) | (apply d4 E53; exact hsp; refine q8 _ ?_; clear q8 K1)) | refine b6 fun K hK => ?_ | ((first | apply b8 | apply b5 | apply c9 | apply d3); try simp only [NB, simprocAttr]))
    all_goals simp only [S1, simprocAttr, ENB, bB]
  · have e : x8 ns fl l = ([], 5) := if_neg hc
    rw [e]
    rw [decide_eq_false hc] at hsp
    refine c8 (rl := []) d7 Tryz.func32 rfl (rs := [.tmp 4, .tmp 5]) rfl Tryz.ntmps32 (by simp) ?_
    repeat' (first | ((repeat ((fail_if_success (refine hK _ ?_)); clear hK K)); refine hK _ ?_; clear hK K) | ((first | refine b9 fun K1 q8 => ?_ | refine b7 fun A B hA hB => ?_); simp only [S1, simprocAttr, bB]; first | refine q8 _ ?_; clear q8 K1 | (refine hA ?_; clear hA hB A B) | (apply d4 E53; exact hsp; refine q8 _ ?_; clear q8 K1)) | refine b6 fun K hK => ?_ | ((first | apply b8 | apply b5 | apply d3); try simp only [NB, simprocAttr]))
    all_goals simp only [S1, simprocAttr, ENB, bB]
    all_goals rfl
theorem mB {l : List Sv} (h49 : A7 l) (hl : l.length ≤ 16000000) {S : Sv} (hS : S.length = 49) {h : Heap} {b g : Nat} (hb : h[b]? = some (some ⟨g, q7 l⟩)) (hlt0 : b < h.length) :
    d5 Tryz.prog gW 55 [.ref b g 0 49 l.length, aS S] h (fun r h' => r = .b (decide (S ∈ l)) ∧ h' = h) := by
  have hne := J3 hS
  have hzl : (zS.map AV.i).length = 49 := by rw [List.length_map]; rfl
  have t49' : (S.map AV.i).take 49 = S.map AV.i := List.take_of_length_le (by rw [List.length_map, hS]; exact Nat.le_refl _)
  have hb' : ∀ L : Heap, (h ++ L)[b]? = some (some ⟨g, q7 l⟩) := fun L => by rw [List.getElem?_append_left hlt0]; exact hb
  have hfl := C6 h49
  refine c8 (rl := []) d7 Tryz.func55 rfl (rs := [.tmp 4]) rfl Tryz.ntmps55 (by simp) ?_
  repeat' (first | ((repeat ((fail_if_success (refine hK _ ?_)); clear hK K)); refine hK _ ?_; clear hK K) | (refine b9 fun K1 q8 => ?_; simp only [S1, simprocAttr, bB, hne, hS, d9, List.length_map]; refine q8 _ ?_; clear q8 K1) | refine b6 fun K hK => ?_ | ((first | apply b8 | apply b5 | apply c7); try simp only [NB, simprocAttr]))
  refine o9 l.length 17 (fun j => [(9, .i j), (8, .i l.length), (7, .ref b g 0 49 l.length), (3, .ptr h.length 0 0)]) (fun j => [some ⟨0, S.map AV.i⟩]) (fun j => S ∉ l.take j) ?_ (by simp) fun j hj hp K hK => ?_
  · refine ⟨rfl, ⟨[], by simp⟩, ?_, g9 _ _, trivial⟩
    simp only [S1, simprocAttr, KNB] <;> (try and_intros) <;> (try assumption) <;> (try trivial) <;> (try omega)
  rcases Nat.lt_or_ge j l.length with hlt | hge
  · obtain ⟨s, hx⟩ : ∃ k, l[j]? = some k := ⟨_, List.getElem?_eq_getElem hlt⟩
    have hs : s.length = 49 := h49 s (List.mem_of_getElem? hx)
    have hft := dO h49 hx
    have hle : 49 ≤ l.length * 49 - j * 49 := by omega
    have jl : (j : Int) < (l.length : Int) := by omega
    have j0 : (0 : Int) ≤ (j : Int) := by omega
    have hnx : IntKind.i64.wrap ((j : Int) + 1) = ((j + 1 : Nat) : Int) := by rw [IntWalk.i64_in _ (by omega)]; omega
    have s49 : (s.map AV.i).take 49 = s.map AV.i := List.take_of_length_le (by rw [List.length_map, hs]; exact Nat.le_refl _)
    have hso : u5 (zS.map AV.i) 0 (s.map AV.i) = s.map AV.i := m3 (n := 49) (by rw [List.length_map, hs]) _ hzl
    have heq := eqI (S := s) (T := S) (by rw [hs, hS])
    by_cases hc : s = S
    · have hbq : (s == S) = true := by simp [hc]
      rw [hbq] at heq
      have hin : decide (S ∈ l) = true := decide_eq_true (hc ▸ List.mem_of_getElem? hx)
      repeat' (first | ((repeat ((fail_if_success (refine hK _ ?_)); clear hK K)); refine hK _ ?_; clear hK K) | ((first | refine b9 fun K1 q8 => ?_ | refine b7 fun A B hA hB => ?_); simp only [S1, simprocAttr, bB, jl, j0, hnx, hb, hb', hfl, hft, hle, hs, hzl, s49, hso, heq, eqA, W60, TRz, i9, i7, j5, hS, t49', d9, d8, e9, List.length_map, List.length_drop]; first | refine q8 _ ?_; clear q8 K1 | (refine hA ?_; clear hA hB A B)) | refine b6 fun K hK => ?_ | ((first | apply b8 | apply b5 | apply c7 | apply c9 | apply d3); try simp only [NB, simprocAttr]))
      all_goals simp only [S1, simprocAttr, ENB, bB]
      all_goals rw [hin]
    · have hbq : (s == S) = false := by simp [hc]
      rw [hbq] at heq
      repeat' (first | ((repeat ((fail_if_success (refine hK _ ?_)); clear hK K)); refine hK _ ?_; clear hK K) | ((first | refine b9 fun K1 q8 => ?_ | refine b7 fun A B hA hB => ?_); simp only [S1, simprocAttr, bB, jl, j0, hnx, hb, hb', hfl, hft, hle, hs, hzl, s49, hso, heq, eqA, W60, TRz, i9, i7, j5, hS, t49', d9, d8, e9, List.length_map, List.length_drop]; first | refine q8 _ ?_; clear q8 K1 | ((first | refine hA ?_ | refine hB ?_); clear hA hB A B)) | refine b6 fun K hK => ?_ | ((first | apply b8 | apply b5 | apply c7 | apply c9); try simp only [NB, simprocAttr]))
      all_goals refine ⟨hlt, ?_, ?_⟩
      · rw [List.take_add_one, hx]
        intro e
        rcases List.mem_append.mp e with e | e
        · exact hp e
        · simp at e; exact hc e.symm
      · refine ⟨rfl, ⟨_, rfl⟩, ?_, g9 _ _, trivial⟩
        simp only [S1, simprocAttr, KNB] <;> (try and_intros) <;> (try assumption) <;> (try trivial) <;> (try omega)
  · obtain rfl : j = l.length := by omega
    rw [List.take_length] at hp
    have hin : decide (S ∈ l) = false := decide_eq_false hp
    repeat' (first | ((repeat ((fail_if_success (refine hK _ ?_)); clear hK K)); refine hK _ ?_; clear hK K) | ((first | refine b9 fun K1 q8 => ?_ | refine b7 fun A B hA hB => ?_); simp only [S1, simprocAttr, bB, Int.lt_irrefl]; first | refine q8 _ ?_; clear q8 K1 | (refine hB ?_; clear hA hB A B)) | refine b6 fun K hK => ?_ | ((first | apply b8 | apply b5 | apply f9 | apply d3); try simp only [NB, simprocAttr]))
    all_goals simp only [S1, simprocAttr, ENB, bB]
    all_goals rw [hin]
end
section
def S9 := And.intro T2 (And.intro T3 (And.intro T4 (And.intro T25 (And.intro T26 (And.intro T28 (And.intro T31 (And.intro T34 (And.intro T36 (And.intro T41 (And.intro T57 (And.intro T58 (And.intro T62 (And.intro T65 (And.intro T89 T92))))))))))))))
attribute [local irreducible] awp n9 k8 l8 o5 m9
abbrev aCl (c : List Sv × Int) : AV := .agg [B1 c.1, .i c.2]
theorem dh {ns : List Nd} {fl : List Fl} (nk : NetOk ns fl) {l : List Sv} (h49 : A7 l) (hl : l.length ≤ 8000000) (h : Heap) :
    d5 Tryz.prog gW 35 [G4 ns fl, B1 l] h (fun r h' => r = aCl (x8 ns fl l) ∧ h' = h) := by
  have hzl : (zS.map AV.i).length = 49 := by rw [List.length_map]; rfl
  have hem : (zS.map AV.i).isEmpty = false := rfl
  refine c8 (rl := []) d7 Tryz.func35 rfl (rs := [.cell 4 36]) rfl Tryz.ntmps35 (by simp) ?_
  refine b6 fun K hK => ?_
  repeat' (first | (apply b8; (try simp only [NB]); ((repeat ((fail_if_success (refine hK _ ?_)); clear hK K)); refine hK _ ?_; clear hK K)) | (refine b9 fun K1 q8 => ?_; simp only [S1, simprocAttr, S9]; refine q8 _ ?_; clear q8 K1) | (apply b5; try simp only [NB, simprocAttr]; (try ((repeat ((fail_if_success (refine hK _ ?_)); clear hK K)); refine hK _ ?_; clear hK K))))
  refine b6 fun K hK => ?_
  repeat' (first | (apply b8; (try simp only [NB]); ((repeat ((fail_if_success (refine hK _ ?_)); clear hK K)); refine hK _ ?_; clear hK K)) | (refine b9 fun K1 q8 => ?_; simp only [S1, simprocAttr, S9]; refine q8 _ ?_; clear q8 K1) | (apply b5; try simp only [NB, simprocAttr]; (try ((repeat ((fail_if_success (refine hK _ ?_)); clear hK K)); refine hK _ ?_; clear hK K))))
  refine b6 fun K hK => ?_
  repeat' (first | ((repeat ((fail_if_success (refine hK _ ?_)); clear hK K)); refine hK _ ?_; clear hK K) | (refine b9 fun K1 q8 => ?_; simp only [S1, simprocAttr, S9, List.length_map]; refine q8 _ ?_; clear q8 K1) | refine b6 fun K hK => ?_ | ((first | apply b8 | apply b5 | apply c7); try simp only [NB, simprocAttr]))
  refine C0 l.length 64 (fun j => [(13, .i j), (12, .i l.length), (11, B1 l), (5, .ref (h.length + 2) (C5 [] (l.take j)).length 0 49 (C5 [] (l.take j)).length), (2, .ptr h.length 0 0), (4, .ptr (h.length + 1) 0 0)])
    (fun j => [some ⟨0, x6 ns fl⟩, some ⟨0, [.p .nils, .i 0]⟩, some ⟨(C5 [] (l.take j)).length, q7 (C5 [] (l.take j))⟩]) (fun j => True) ?_ trivial fun j hj hp K hK => ?_
  · refine (o6.adopt 5 49 rfl).trans (Sub.ghost ⟨rfl, ⟨[], by simp [q7, C5]⟩, ?_, ⟨trivial, trivial, trivial⟩, ⟨trivial, trivial, trivial⟩, trivial, trivial⟩)
    simp only [G8, s4, D0, frL, List.length_cons, List.length_nil]
    simp [C5]
  rcases Nat.lt_or_ge j l.length with hlt | hge
  · obtain ⟨s, hx⟩ : ∃ k, l[j]? = some k := ⟨_, List.getElem?_eq_getElem hlt⟩
    have hs : s.length = 49 := h49 s (List.mem_of_getElem? hx)
    have hxr : (l.map eSt)[j]? = some (s.map (PV.int .i64)) := by rw [List.getElem?_map, hx]; rfl
    have es := gz (out := []) hx
    have ho : A7 (C5 [] (l.take j)) := Q3 (fun s hs => by cases hs) fun t ht => h49 t (List.mem_of_mem_take ht)
    have hol := (R6 (l.take j) []).1
    rw [List.length_take] at hol
    simp only [List.length_nil, Nat.zero_add] at hol
    have jl : (j : Int) < (l.length : Int) := by omega
    have j0 : (0 : Int) ≤ (j : Int) := by omega
    have hnx : IntKind.i64.wrap ((j : Int) + 1) = ((j + 1 : Nat) : Int) := by rw [IntWalk.i64_in _ (by omega)]; omega
    have s49 : (s.map AV.i).take 49 = s.map AV.i := List.take_of_length_le (by rw [List.length_map, hs]; exact Nat.le_refl _)
    have hso : u5 (zS.map AV.i) 0 (s.map AV.i) = s.map AV.i := m3 (n := 49) (by rw [List.length_map, hs]) _ hzl
    have hsm := u0 s
    have hne := J3 hs
    generalize C5 [] (l.take j) = o at *
    have hfl := C6 ho
    have hmax : o.length + 1 ≤ j7 := by unfold j7; omega
    have hh := fun L : Heap => mB (h := h ++ ([some ⟨0, x6 ns fl⟩, some ⟨0, [.p .nils, .i 0]⟩, some ⟨o.length, q7 o⟩] ++ L)) (b := h.length + 2) (g := o.length) ho (by omega) hs (by rw [n5]; rfl) (by simp)
    have hh1 := hh [some ⟨0, s.map AV.i⟩]
    by_cases hin : s ∈ o
    · rw [decide_eq_true hin] at hh1
      have ea : Z4 o s = o := by unfold Z4; rw [if_pos hin]
      rw [ea] at es
      repeat' (first | ((repeat ((fail_if_success (refine hK _ ?_)); clear hK K)); refine hK _ ?_; clear hK K) | ((first | refine b9 fun K1 q8 => ?_ | refine b7 fun A B hA hB => ?_); simp only [S1, simprocAttr, S9, jl, j0, hnx, hxr, hs, hzl, hem, s49, hso, hsm, hne, TRz, i9, i7, j5, d9, d8, e9, List.length_map]; first | refine q8 _ ?_; clear q8 K1 | ((first | refine hA ?_ | refine hB ?_); clear hA hB A B) | (apply d4 E55; exact hh1; refine q8 _ ?_; clear q8 K1)) | refine b6 fun K hK => ?_ | ((first | apply b8 | apply b5 | apply c7 | apply c9); try simp only [NB, simprocAttr]))
      all_goals refine ⟨hlt, trivial, ?_⟩
      all_goals simp only [es]
      all_goals refine ⟨rfl, ⟨_, rfl⟩, ?_, ⟨trivial, trivial, trivial⟩, ⟨trivial, trivial, trivial⟩, u7 _ _, trivial⟩
      all_goals simp only [S1, simprocAttr, KNB] <;> (try and_intros) <;> (try assumption) <;> (try trivial) <;> (try omega)
    · rw [decide_eq_false hin] at hh1
      have ea : Z4 o s = o ++ [s] := by unfold Z4; rw [if_neg hin]
      rw [ea] at es
      have hpv := P8 s
      have hch := N1 49 (s.map (PV.int .i64)) (by rw [List.length_map, hs])
      have hti : (s.map (PV.int .i64)).take 49 = s.map (PV.int .i64) := List.take_of_length_le (by rw [List.length_map, hs]; exact Nat.le_refl _)
      have hfa := F4 o s
      repeat' (first | ((repeat ((fail_if_success (refine hK _ ?_)); clear hK K)); refine hK _ ?_; clear hK K) | ((first | refine b9 fun K1 q8 => ?_ | refine b7 fun A B hA hB => ?_); simp only [S1, simprocAttr, S9, jl, j0, hnx, hxr, hs, hzl, hem, s49, hso, hsm, hne, hfl, hmax, hpv, hch, hti, TRz, i9, i7, j5, d9, d8, e9, List.length_map]; first | refine q8 _ ?_; clear q8 K1 | (refine hA ?_; clear hA hB A B) | (apply d4 E55; exact hh1; refine q8 _ ?_; clear q8 K1)) | refine b6 fun K hK => ?_ | ((first | apply b8 | apply b5 | apply c7 | apply c9); try simp only [NB, simprocAttr]))
      all_goals refine ⟨hlt, trivial, ?_⟩
      all_goals simp only [es, hfa, List.length_append, List.length_cons, List.length_nil, Nat.zero_add]
      all_goals refine ⟨rfl, ⟨_, rfl⟩, ?_, ⟨trivial, trivial, trivial⟩, ⟨trivial, trivial, trivial⟩, (by rw [← F4]; exact u7 _ _), trivial⟩
      all_goals simp only [S1, simprocAttr, KNB] <;> (try and_intros) <;> (try assumption) <;> (try trivial) <;> (try omega)
  · obtain rfl : j = l.length := by omega
    rw [List.take_length]
    have ho : A7 (C5 [] l) := Q3 (fun s hs => by cases hs) h49
    have hol := (R6 l []).1
    simp only [List.length_nil, Nat.zero_add] at hol
    have hcw : E2 (nxW ns fl) 1500 l = M5 (nxW ns fl) 1500 1501 0 (C5 [] l) := rfl
    clear hp hge hj
    repeat' (first | ((repeat ((fail_if_success (refine hK _ ?_)); clear hK K)); refine hK _ ?_; clear hK K) | ((first | refine b9 fun K1 q8 => ?_ | refine b7 fun A B hA hB => ?_); simp only [S1, simprocAttr, S9, Int.lt_irrefl]; first | refine q8 _ ?_; clear q8 K1 | (refine hB ?_; clear hA hB A B)) | refine b6 fun K hK => ?_ | ((first | apply b8 | apply b5 | apply c7 | apply f9); try simp only [NB, simprocAttr]))
    refine K3 (σ := Qsp) (fun q => 1501 - q.i) 64 (fun q => [(8, .i q.i), (5, .ref (h.length + 2) q.out.length 0 49 q.out.length), (2, .ptr h.length 0 0), (4, .ptr (h.length + 1) 0 0)])
      (fun q => [some ⟨0, x6 ns fl⟩, some ⟨0, [.p .nils, .i 0]⟩, some ⟨q.out.length, q7 q.out⟩])
      (fun q => q.i ≤ 1501 ∧ A7 q.out ∧ q.out.length ≤ 8000000 ∧ E2 (nxW ns fl) 1500 l = M5 (nxW ns fl) 1500 (1501 - q.i) q.i q.out) ⟨0, C5 [] l⟩ ?_ ?_ fun q hp K hK => ?_
    · refine ⟨rfl, ⟨[], by simp⟩, ?_, ⟨trivial, trivial, trivial⟩, ⟨trivial, trivial, trivial⟩, u7 _ _, trivial⟩
      simp only [S1, simprocAttr, KNB] <;> (try and_intros) <;> (try assumption) <;> (try trivial) <;> (try omega)
    · exact ⟨by show 0 ≤ 1501; omega, ho, by show (C5 [] l).length ≤ 8000000; omega, rfl⟩
    clear ho hol hcw
    obtain ⟨i, out⟩ := q
    obtain ⟨p1, p2, p3, p4⟩ := hp
    simp only at p1 p2 p3 p4 hK ⊢
    have hfl := C6 p2
    have i0 : (0 : Int) ≤ (i : Int) := by omega
    have hnx1 : IntKind.i64.wrap ((i : Int) + 1) = ((i + 1 : Nat) : Int) := by rw [IntWalk.i64_in _ (by omega)]; omega
    by_cases hlt : i < out.length
    · have hi : (i : Int) < (out.length : Int) := by omega
      obtain ⟨s, hx⟩ : ∃ k, out[i]? = some k := ⟨_, List.getElem?_eq_getElem hlt⟩
      by_cases hmost : out.length ≤ 1500
      · have hm : (out.length : Int) ≤ 1500 := by omega
        have hs : s.length = 49 := p2 s (List.mem_of_getElem? hx)
        have hft := dO p2 hx
        have hle : 49 ≤ out.length * 49 - i * 49 := by omega
        have hled := fun h => kM nk hs (0, 0, 0) h
        have hnl1 := fx ns fl s (0, 0, 0)
        have hn49 := cJ (ns := ns) (fl := fl) hs (0, 0, 0)
        have p4' : E2 (nxW ns fl) 1500 l = M5 (nxW ns fl) 1500 (1501 - (i + 1)) (i + 1) (C5 out (nxW ns fl s)) := by
          rw [p4]
          obtain ⟨k, hk⟩ : ∃ k, 1501 - i = k + 1 := ⟨1500 - i, by omega⟩
          rw [hk, show 1501 - (i + 1) = k by omega]
          conv => lhs; unfold M5
          rw [hx]; simp only; rw [if_pos hmost]
        have hnn : nxW ns fl s = am ns fl s (0, 0, 0) := rfl
        rw [hnn] at p4'
        generalize am ns fl s (0, 0, 0) = more at *
        repeat' (first | ((repeat ((fail_if_success (refine hK _ ?_)); clear hK K)); refine hK _ ?_; clear hK K) | ((first | refine b9 fun K1 q8 => ?_ | refine j9 fun K1 q8 => ?_ | refine b7 fun A B hA hB => ?_); simp only [S1, simprocAttr, S9, hi, hm, i0, hft, hle, hfl, TRz, d9, d8, e9, List.length_map, List.length_drop]; first | refine q8 _ ?_; clear q8 K1 | (refine hA ?_; clear hA hB A B) | (apply j4 E34; exact (hled _); refine q8 _ ?_; clear q8 K1)) | refine b6 fun K hK => ?_ | ((first | apply b8 | apply i5 | apply b5 | refine i6 ?_ | apply c7 | apply c9); try simp only [NB, simprocAttr]))
        refine o9 more.length 64 (fun k => [(45, .i k), (44, .i more.length), (43, B1 more), (8, .i i), (5, .ref (h.length + 2) (C5 out (more.take k)).length 0 49 (C5 out (more.take k)).length), (2, .ptr h.length 0 0), (4, .ptr (h.length + 1) 0 0)])
          (fun k => [some ⟨0, x6 ns fl⟩, some ⟨0, [.p .nils, .i 0]⟩, some ⟨(C5 out (more.take k)).length, q7 (C5 out (more.take k))⟩]) (fun k => True) ?_ trivial fun k hk _ K hK => ?_
        · simp only [List.take_zero, wL]
          refine ⟨rfl, ⟨[], by simp⟩, ?_, ⟨trivial, trivial, trivial⟩, ⟨trivial, trivial, trivial⟩, u7 _ _, trivial⟩
          simp only [S1, simprocAttr, KNB] <;> (try and_intros) <;> (try assumption) <;> (try trivial) <;> (try omega)
        rcases Nat.lt_or_ge k more.length with hlk | hgk
        · obtain ⟨t, hy⟩ : ∃ t, more[k]? = some t := ⟨_, List.getElem?_eq_getElem hlk⟩
          have ht : t.length = 49 := hn49 t (List.mem_of_getElem? hy)
          have hyr : (more.map eSt)[k]? = some (t.map (PV.int .i64)) := by rw [List.getElem?_map, hy]; rfl
          have es := gz (out := out) hy
          have ho : A7 (C5 out (more.take k)) := Q3 p2 fun u hu => hn49 u (List.mem_of_mem_take hu)
          have hol := (R6 (more.take k) out).1
          rw [List.length_take] at hol
          have kl : (k : Int) < (more.length : Int) := by omega
          have k0 : (0 : Int) ≤ (k : Int) := by omega
          have hnk : IntKind.i64.wrap ((k : Int) + 1) = ((k + 1 : Nat) : Int) := by rw [IntWalk.i64_in _ (by omega)]; omega
          have s49 : (t.map AV.i).take 49 = t.map AV.i := List.take_of_length_le (by rw [List.length_map, ht]; exact Nat.le_refl _)
          have hso : u5 (zS.map AV.i) 0 (t.map AV.i) = t.map AV.i := m3 (n := 49) (by rw [List.length_map, ht]) _ hzl
          have hsm := u0 t
          have hne := J3 ht
          generalize C5 out (more.take k) = o at *
          have hfo := C6 ho
          have hmax : o.length + 1 ≤ j7 := by unfold j7; omega
          have hh := fun L : Heap => mB (h := h ++ ([some ⟨0, x6 ns fl⟩, some ⟨0, [.p .nils, .i 0]⟩, some ⟨o.length, q7 o⟩] ++ L)) (b := h.length + 2) (g := o.length) ho (by omega) ht (by rw [n5]; rfl) (by simp)
          have hh1 := hh [some ⟨0, t.map AV.i⟩]
          by_cases hin : t ∈ o
          · rw [decide_eq_true hin] at hh1
            have ea : Z4 o t = o := by unfold Z4; rw [if_pos hin]
            rw [ea] at es
            repeat' (first | ((repeat ((fail_if_success (refine hK _ ?_)); clear hK K)); refine hK _ ?_; clear hK K) | ((first | refine b9 fun K1 q8 => ?_ | refine b7 fun A B hA hB => ?_); simp only [S1, simprocAttr, S9, kl, k0, hnk, hyr, ht, hzl, hem, s49, hso, hsm, hne, TRz, i9, i7, j5, d9, d8, e9, List.length_map]; first | refine q8 _ ?_; clear q8 K1 | ((first | refine hA ?_ | refine hB ?_); clear hA hB A B) | (apply d4 E55; exact hh1; refine q8 _ ?_; clear q8 K1)) | refine b6 fun K hK => ?_ | ((first | apply b8 | apply b5 | apply c7 | apply c9); try simp only [NB, simprocAttr]))
            all_goals refine ⟨hlk, trivial, ?_⟩
            all_goals simp only [es]
            all_goals refine ⟨rfl, ⟨_, rfl⟩, ?_, ⟨trivial, trivial, trivial⟩, ⟨trivial, trivial, trivial⟩, u7 _ _, trivial⟩
            all_goals simp only [S1, simprocAttr, KNB] <;> (try and_intros) <;> (try assumption) <;> (try trivial) <;> (try omega)
          · rw [decide_eq_false hin] at hh1
            have ea : Z4 o t = o ++ [t] := by unfold Z4; rw [if_neg hin]
            rw [ea] at es
            have hpv := P8 t
            have hch := N1 49 (t.map (PV.int .i64)) (by rw [List.length_map, ht])
            have hti : (t.map (PV.int .i64)).take 49 = t.map (PV.int .i64) := List.take_of_length_le (by rw [List.length_map, ht]; exact Nat.le_refl _)
            have hfa := F4 o t
            repeat' (first | ((repeat ((fail_if_success (refine hK _ ?_)); clear hK K)); refine hK _ ?_; clear hK K) | ((first | refine b9 fun K1 q8 => ?_ | refine b7 fun A B hA hB => ?_); simp only [S1, simprocAttr, S9, kl, k0, hnk, hyr, ht, hzl, hem, s49, hso, hsm, hne, hfo, hmax, hpv, hch, hti, TRz, i9, i7, j5, d9, d8, e9, List.length_map]; first | refine q8 _ ?_; clear q8 K1 | (refine hA ?_; clear hA hB A B) | (apply d4 E55; exact hh1; refine q8 _ ?_; clear q8 K1)) | refine b6 fun K hK => ?_ | ((first | apply b8 | apply b5 | apply c7 | apply c9); try simp only [NB, simprocAttr]))
            all_goals refine ⟨hlk, trivial, ?_⟩
            all_goals simp only [es, hfa, List.length_append, List.length_cons, List.length_nil, Nat.zero_add]
            all_goals refine ⟨rfl, ⟨_, rfl⟩, ?_, ⟨trivial, trivial, trivial⟩, ⟨trivial, trivial, trivial⟩, (by rw [← F4]; exact u7 _ _), trivial⟩
            all_goals simp only [S1, simprocAttr, KNB] <;> (try and_intros) <;> (try assumption) <;> (try trivial) <;> (try omega)
        · obtain rfl : k = more.length := by omega
          have hao := (R6 more out).1
          rw [List.take_length]
          repeat' (first | ((repeat ((fail_if_success (refine hK _ ?_)); clear hK K)); refine hK _ ?_; clear hK K) | ((first | refine b9 fun K1 q8 => ?_ | refine b7 fun A B hA hB => ?_); simp only [S1, simprocAttr, S9, Int.lt_irrefl, hnx1]; first | refine q8 _ ?_; clear q8 K1 | (refine hB ?_; clear hA hB A B)) | refine b6 fun K hK => ?_ | ((first | apply b8 | apply b5 | apply f9); try simp only [NB, simprocAttr]))
          all_goals refine ⟨⟨i + 1, C5 out more⟩, by simp only; omega, ⟨by simp only; omega, Q3 p2 hn49, by simp only; omega, p4'⟩, ?_⟩
          all_goals refine ⟨rfl, ⟨_, rfl⟩, ?_, ⟨trivial, trivial, trivial⟩, ⟨trivial, trivial, trivial⟩, u7 _ _, trivial⟩
          all_goals simp only [S1, simprocAttr, KNB] <;> (try and_intros) <;> (try assumption) <;> (try trivial) <;> (try omega)
      · have hm : ¬ (out.length : Int) ≤ 1500 := by omega
        have hm' : (1500 : Int) < (out.length : Int) := by omega
        have e : E2 (nxW ns fl) 1500 l = out := by
          rw [p4]
          cases hq : 1501 - i with
          | zero => rfl
          | succ f => unfold M5; rw [hx]; simp only; rw [if_neg hmost]
        have e2 : x8 ns fl l = ([], 5) := by unfold x8; rw [e, if_neg hmost]
        repeat' (first | ((repeat ((fail_if_success (refine hK _ ?_)); clear hK K)); refine hK _ ?_; clear hK K) | ((first | refine b9 fun K1 q8 => ?_ | refine b7 fun A B hA hB => ?_); simp only [S1, simprocAttr, S9, hi, hm, hm', List.length_map]; first | refine q8 _ ?_; clear q8 K1 | ((first | refine hA ?_ | refine hB ?_); clear hA hB A B)) | refine b6 fun K hK => ?_ | ((first | apply b8 | apply b5 | apply f9 | apply d3); try simp only [NB, simprocAttr]))
        all_goals simp only [S1, simprocAttr, ENB, S9, e2]
        all_goals rfl
    · have hi : ¬ (i : Int) < (out.length : Int) := by omega
      have e : E2 (nxW ns fl) 1500 l = out := by
        rw [p4]
        cases hq : 1501 - i with
        | zero => rfl
        | succ f => unfold M5; rw [List.getElem?_eq_none (by omega)]
      by_cases hmost : out.length ≤ 1500
      · have hm' : ¬ (1500 : Int) < (out.length : Int) := by omega
        have e2 : x8 ns fl l = (out, 0) := by unfold x8; rw [e, if_pos hmost]
        have htk : (q7 out).take (out.length * 49) = q7 out := List.take_of_length_le (by rw [hfl]; exact Nat.le_refl _)
        have hch := gI p2
        have hpu := fun H n f => qm H n f out
        repeat' (first | ((repeat ((fail_if_success (refine hK _ ?_)); clear hK K)); refine hK _ ?_; clear hK K) | ((first | refine b9 fun K1 q8 => ?_ | refine b7 fun A B hA hB => ?_); simp only [S1, simprocAttr, S9, hi, hm', List.length_map]; first | refine q8 _ ?_; clear q8 K1 | (refine hB ?_; clear hA hB A B)) | refine b6 fun K hK => ?_ | ((first | apply b8 | apply b5 | apply f9 | apply c9 | apply d3); try simp only [NB, simprocAttr]))
        all_goals simp only [S1, simprocAttr, ENB, S9, e2, hfl, htk, hch, hpu, Option.map_some]
        all_goals by_cases h0 : out.length = 0
        · obtain rfl := List.eq_nil_of_length_eq_zero h0
          rfl
        · rw [if_neg h0]; rfl
      · have hm' : (1500 : Int) < (out.length : Int) := by omega
        have e2 : x8 ns fl l = ([], 5) := by unfold x8; rw [e, if_neg hmost]
        repeat' (first | ((repeat ((fail_if_success (refine hK _ ?_)); clear hK K)); refine hK _ ?_; clear hK K) | ((first | refine b9 fun K1 q8 => ?_ | refine b7 fun A B hA hB => ?_); simp only [S1, simprocAttr, S9, hi, hm', List.length_map]; first | refine q8 _ ?_; clear q8 K1 | ((first | refine hA ?_ | refine hB ?_); clear hA hB A B)) | refine b6 fun K hK => ?_ | ((first | apply b8 | apply b5 | apply f9 | apply d3); try simp only [NB, simprocAttr]))
        all_goals simp only [S1, simprocAttr, ENB, S9, e2]
        all_goals rfl
end
section
def I4 := And.intro T2 (And.intro T3 (And.intro T4 (And.intro T25 (And.intro T26 (And.intro T28 (And.intro T31 (And.intro T34 (And.intro T36 (And.intro T41 (And.intro T55 (And.intro T57 (And.intro T58 (And.intro T62 (And.intro T65 (And.intro T89 T92)))))))))))))))
attribute [local irreducible] awp n9 k8 l8 o5 m9
noncomputable def W3 (ns : List Nd) (fl : List Fl) : List Sv → Int
  | [] => 0
  | s :: r => if stC ns fl s = 0 then W3 ns fl r else stC ns fl s
noncomputable def A3 (ns : List Nd) (fl : List Fl) (l : List Sv) : Int := if (D3 ns fl).1 ≠ 0 then 4 else W3 ns fl l
theorem iC {ns : List Nd} {fl : List Fl} {l : List Sv} {j : Nat} {s : Sv} (h : l[j]? = some s) : W3 ns fl (l.drop j) = if stC ns fl s = 0 then W3 ns fl (l.drop (j + 1)) else stC ns fl s := by
  rw [List.drop_eq_getElem_cons (List.getElem?_eq_some_iff.mp h).1, (List.getElem?_eq_some_iff.mp h).2]; rfl
theorem fy {ns : List Nd} {fl : List Fl} (nk : NetOk ns fl) {l : List Sv} (h49 : A7 l) (hl : l.length ≤ 8000000) (h : Heap) :
    d5 Tryz.prog gW 30 [G4 ns fl, B1 l] h (fun r h' => r = .i (A3 ns fl l) ∧ h' = h) := by
  have hst := fun h => fj nk h
  have hzl : (zS.map AV.i).length = 49 := by rw [List.length_map]; rfl
  have hem : (zS.map AV.i).isEmpty = false := rfl
  by_cases h0 : (D3 ns fl).1 = 0
  case neg =>
    have e : A3 ns fl l = 4 := by unfold A3; rw [if_pos h0]
    have es : A9 ns fl = (zS, 4) := by unfold A9; rw [if_pos h0]
    have hzz : u5 (zS.map AV.i) 0 (zS.map AV.i) = zS.map AV.i := m3 (n := 49) (by rw [List.length_map]; rfl) _ hzl
    rw [e]
    rw [es] at hst
    refine c8 (rl := []) d7 Tryz.func30 rfl (rs := [.tmp 4]) rfl Tryz.ntmps30 (by simp) ?_
    repeat' (first | ((repeat ((fail_if_success (refine hK _ ?_)); clear hK K)); refine hK _ ?_; clear hK K) | ((first | refine b9 fun K1 q8 => ?_ | refine b7 fun A B hA hB => ?_); simp only [S1, simprocAttr, I4, TSz, i9, i7, j5, hem, hzz, d9, d8, e9, List.length_map]; first | refine q8 _ ?_; clear q8 K1 | (refine hA ?_; clear hA hB A B) | (apply d4 E36; exact (hst _); refine q8 _ ?_; clear q8 K1)) | refine b6 fun K hK => ?_ | ((first | apply b8 | apply b5 | apply d3); try simp only [NB, simprocAttr]))
    all_goals simp only [S1, simprocAttr, ENB, I4]
  have e : A3 ns fl l = W3 ns fl l := by unfold A3; rw [if_neg (by simpa using h0)]
  rw [e]
  have hs2 : (A9 ns fl).2 = 0 := by unfold A9; rw [if_neg (by simpa using h0)]
  have hs1 : (A9 ns fl).1.length = 49 := (wQ hs2).1.1
  rw [hs2] at hst
  generalize (A9 ns fl).1 = S0 at *
  have hso0 : u5 (zS.map AV.i) 0 (S0.map AV.i) = S0.map AV.i := m3 (n := 49) (by rw [List.length_map, hs1]) _ hzl
  refine c8 (rl := []) d7 Tryz.func30 rfl (rs := [.tmp 4]) rfl Tryz.ntmps30 (by simp) ?_
  repeat' (first | ((repeat ((fail_if_success (refine hK _ ?_)); clear hK K)); refine hK _ ?_; clear hK K) | ((first | refine b9 fun K1 q8 => ?_ | refine b7 fun A B hA hB => ?_); simp only [S1, simprocAttr, I4, hs1, hso0, TSz, i9, i7, j5, hem, d9, d8, e9, List.length_map]; first | refine q8 _ ?_; clear q8 K1 | (refine hB ?_; clear hA hB A B) | (apply d4 E36; exact (hst _); refine q8 _ ?_; clear q8 K1)) | refine b6 fun K hK => ?_ | ((first | apply b8 | apply b5 | apply c7 | apply c9); try simp only [NB, simprocAttr]))
  refine o9 l.length 31 (fun j => [(20, .i j), (19, .i l.length), (18, B1 l), (2, .ptr h.length 0 0)]) (fun j => [some ⟨0, x6 ns fl⟩]) (fun j => W3 ns fl l = W3 ns fl (l.drop j)) ?_ rfl fun j hj hp K hK => ?_
  · refine ⟨rfl, ⟨_, rfl⟩, ?_, ⟨trivial, trivial, trivial⟩, trivial⟩
    simp only [S1, simprocAttr, KNB] <;> (try and_intros) <;> (try assumption) <;> (try trivial) <;> (try omega)
  rcases Nat.lt_or_ge j l.length with hlt | hge
  · obtain ⟨s, hx⟩ : ∃ k, l[j]? = some k := ⟨_, List.getElem?_eq_getElem hlt⟩
    have hs : s.length = 49 := h49 s (List.mem_of_getElem? hx)
    have hxr : (l.map eSt)[j]? = some (s.map (PV.int .i64)) := by rw [List.getElem?_map, hx]; rfl
    have jl : (j : Int) < (l.length : Int) := by omega
    have j0 : (0 : Int) ≤ (j : Int) := by omega
    have hnx : IntKind.i64.wrap ((j : Int) + 1) = ((j + 1 : Nat) : Int) := by rw [IntWalk.i64_in _ (by omega)]; omega
    have s49 : (s.map AV.i).take 49 = s.map AV.i := List.take_of_length_le (by rw [List.length_map, hs]; exact Nat.le_refl _)
    have hso : u5 (zS.map AV.i) 0 (s.map AV.i) = s.map AV.i := m3 (n := 49) (by rw [List.length_map, hs]) _ hzl
    have hsm := u0 s
    have hck := fun h => dL nk hs h
    rw [iC hx] at hp
    by_cases hc : stC ns fl s = 0
    · rw [if_pos hc] at hp
      rw [hc] at hck
      repeat' (first | ((repeat ((fail_if_success (refine hK _ ?_)); clear hK K)); refine hK _ ?_; clear hK K) | ((first | refine b9 fun K1 q8 => ?_ | refine b7 fun A B hA hB => ?_); simp only [S1, simprocAttr, I4, jl, j0, hnx, hxr, hs, hzl, hem, s49, hso, hsm, TSz, i9, i7, j5, d9, d8, e9, List.length_map]; first | refine q8 _ ?_; clear q8 K1 | ((first | refine hA ?_ | refine hB ?_); clear hA hB A B) | (apply d4 E51; exact (hck _); refine q8 _ ?_; clear q8 K1)) | refine b6 fun K hK => ?_ | ((first | apply b8 | apply b5 | apply c7 | apply c9); try simp only [NB, simprocAttr]))
      all_goals refine ⟨hlt, hp, ?_⟩
      all_goals refine ⟨rfl, ⟨_, rfl⟩, ?_, ⟨trivial, trivial, trivial⟩, trivial⟩
      all_goals simp only [S1, simprocAttr, KNB] <;> (try and_intros) <;> (try assumption) <;> (try trivial) <;> (try omega)
    · rw [if_neg hc] at hp
      have hc' : (stC ns fl s != 0) = true := by simp [hc]
      repeat' (first | ((repeat ((fail_if_success (refine hK _ ?_)); clear hK K)); refine hK _ ?_; clear hK K) | ((first | refine b9 fun K1 q8 => ?_ | refine b7 fun A B hA hB => ?_); simp only [S1, simprocAttr, I4, jl, j0, hnx, hxr, hs, hzl, hem, s49, hso, hsm, hc', TSz, i9, i7, j5, d9, d8, e9, List.length_map]; first | refine q8 _ ?_; clear q8 K1 | (refine hA ?_; clear hA hB A B) | (apply d4 E51; exact (hck _); refine q8 _ ?_; clear q8 K1)) | refine b6 fun K hK => ?_ | ((first | apply b8 | apply b5 | apply c7 | apply c9 | apply d3); try simp only [NB, simprocAttr]))
      all_goals simp only [S1, simprocAttr, ENB, I4]
      all_goals rw [hp]
  · obtain rfl : j = l.length := by omega
    rw [List.drop_length] at hp
    repeat' (first | ((repeat ((fail_if_success (refine hK _ ?_)); clear hK K)); refine hK _ ?_; clear hK K) | ((first | refine b9 fun K1 q8 => ?_ | refine b7 fun A B hA hB => ?_); simp only [S1, simprocAttr, I4, Int.lt_irrefl]; first | refine q8 _ ?_; clear q8 K1 | (refine hB ?_; clear hA hB A B)) | refine b6 fun K hK => ?_ | ((first | apply b8 | apply b5 | apply f9 | apply d3); try simp only [NB, simprocAttr]))
    all_goals simp only [S1, simprocAttr, ENB, I4]
    all_goals rw [hp]; rfl
theorem fz {ns : List Nd} {fl : List Fl} (nk : NetOk ns fl) {l : List Sv} (h49 : A7 l) (hl : l.length ≤ 8000000) (h : Heap) :
    d5 Tryz.prog gW 33 [G4 ns fl, B1 l] h (fun r h' => r = .i (A3 ns fl l) ∧ h' = h) := by
  have hnc := fun h => aP (G := gW) ns fl nk h
  have hzl : (zS.map AV.i).length = 49 := by rw [List.length_map]; rfl
  have hem : (zS.map AV.i).isEmpty = false := rfl
  by_cases h0 : (D3 ns fl).1 = 0
  case neg =>
    have e : A3 ns fl l = 4 := by unfold A3; rw [if_pos h0]
    have hc' : ((D3 ns fl).1 != 0) = true := by simp [h0]
    rw [e]
    refine c8 (rl := []) d7 Tryz.func33 rfl (rs := [.tmp 4]) rfl Tryz.ntmps33 (by simp) ?_
    repeat' (first | ((repeat ((fail_if_success (refine hK _ ?_)); clear hK K)); refine hK _ ?_; clear hK K) | ((first | refine b9 fun K1 q8 => ?_ | refine b7 fun A B hA hB => ?_); simp only [S1, simprocAttr, I4, hc']; first | refine q8 _ ?_; clear q8 K1 | (refine hA ?_; clear hA hB A B) | (apply d4 E22; exact (hnc _); refine q8 _ ?_; clear q8 K1)) | refine b6 fun K hK => ?_ | ((first | apply b8 | apply b5 | apply d3); try simp only [NB, simprocAttr]))
    all_goals simp only [S1, simprocAttr, ENB, I4]
  have e : A3 ns fl l = W3 ns fl l := by unfold A3; rw [if_neg (by simpa using h0)]
  rw [e]
  have hc0 : ((D3 ns fl).1 != 0) = false := by simp [h0]
  refine c8 (rl := []) d7 Tryz.func33 rfl (rs := [.tmp 4]) rfl Tryz.ntmps33 (by simp) ?_
  repeat' (first | ((repeat ((fail_if_success (refine hK _ ?_)); clear hK K)); refine hK _ ?_; clear hK K) | ((first | refine b9 fun K1 q8 => ?_ | refine b7 fun A B hA hB => ?_); simp only [S1, simprocAttr, I4, hc0, List.length_map]; first | refine q8 _ ?_; clear q8 K1 | (refine hB ?_; clear hA hB A B) | (apply d4 E22; exact (hnc _); refine q8 _ ?_; clear q8 K1)) | refine b6 fun K hK => ?_ | ((first | apply b8 | apply b5 | apply c7 | apply c9); try simp only [NB, simprocAttr]))
  refine o9 l.length 25 (fun j => [(14, .i j), (13, .i l.length), (12, B1 l), (2, .ptr h.length 0 0)]) (fun j => [some ⟨0, x6 ns fl⟩]) (fun j => W3 ns fl l = W3 ns fl (l.drop j)) ?_ rfl fun j hj hp K hK => ?_
  · refine ⟨rfl, ⟨_, rfl⟩, ?_, ⟨trivial, trivial, trivial⟩, trivial⟩
    simp only [S1, simprocAttr, KNB] <;> (try and_intros) <;> (try assumption) <;> (try trivial) <;> (try omega)
  rcases Nat.lt_or_ge j l.length with hlt | hge
  · obtain ⟨s, hx⟩ : ∃ k, l[j]? = some k := ⟨_, List.getElem?_eq_getElem hlt⟩
    have hs : s.length = 49 := h49 s (List.mem_of_getElem? hx)
    have hxr : (l.map eSt)[j]? = some (s.map (PV.int .i64)) := by rw [List.getElem?_map, hx]; rfl
    have jl : (j : Int) < (l.length : Int) := by omega
    have j0 : (0 : Int) ≤ (j : Int) := by omega
    have hnx : IntKind.i64.wrap ((j : Int) + 1) = ((j + 1 : Nat) : Int) := by rw [IntWalk.i64_in _ (by omega)]; omega
    have s49 : (s.map AV.i).take 49 = s.map AV.i := List.take_of_length_le (by rw [List.length_map, hs]; exact Nat.le_refl _)
    have hso : u5 (zS.map AV.i) 0 (s.map AV.i) = s.map AV.i := m3 (n := 49) (by rw [List.length_map, hs]) _ hzl
    have hsm := u0 s
    have hck := fun h => kv nk hs h
    rw [iC hx] at hp
    by_cases hc : stC ns fl s = 0
    · rw [if_pos hc] at hp
      rw [hc] at hck
      repeat' (first | ((repeat ((fail_if_success (refine hK _ ?_)); clear hK K)); refine hK _ ?_; clear hK K) | ((first | refine b9 fun K1 q8 => ?_ | refine b7 fun A B hA hB => ?_); simp only [S1, simprocAttr, I4, jl, j0, hnx, hxr, hs, hzl, hem, s49, hso, hsm, TRz, i9, i7, j5, d9, d8, e9, List.length_map]; first | refine q8 _ ?_; clear q8 K1 | ((first | refine hA ?_ | refine hB ?_); clear hA hB A B) | (apply d4 E48; exact (hck _); refine q8 _ ?_; clear q8 K1)) | refine b6 fun K hK => ?_ | ((first | apply b8 | apply b5 | apply c7 | apply c9); try simp only [NB, simprocAttr]))
      all_goals refine ⟨hlt, hp, ?_⟩
      all_goals refine ⟨rfl, ⟨_, rfl⟩, ?_, ⟨trivial, trivial, trivial⟩, trivial⟩
      all_goals simp only [S1, simprocAttr, KNB] <;> (try and_intros) <;> (try assumption) <;> (try trivial) <;> (try omega)
    · rw [if_neg hc] at hp
      have hc' : (stC ns fl s != 0) = true := by simp [hc]
      repeat' (first | ((repeat ((fail_if_success (refine hK _ ?_)); clear hK K)); refine hK _ ?_; clear hK K) | ((first | refine b9 fun K1 q8 => ?_ | refine b7 fun A B hA hB => ?_); simp only [S1, simprocAttr, I4, jl, j0, hnx, hxr, hs, hzl, hem, s49, hso, hsm, hc', TRz, i9, i7, j5, d9, d8, e9, List.length_map]; first | refine q8 _ ?_; clear q8 K1 | (refine hA ?_; clear hA hB A B) | (apply d4 E48; exact (hck _); refine q8 _ ?_; clear q8 K1)) | refine b6 fun K hK => ?_ | ((first | apply b8 | apply b5 | apply c7 | apply c9 | apply d3); try simp only [NB, simprocAttr]))
      all_goals simp only [S1, simprocAttr, ENB, I4]
      all_goals rw [hp]
  · obtain rfl : j = l.length := by omega
    rw [List.drop_length] at hp
    repeat' (first | ((repeat ((fail_if_success (refine hK _ ?_)); clear hK K)); refine hK _ ?_; clear hK K) | ((first | refine b9 fun K1 q8 => ?_ | refine b7 fun A B hA hB => ?_); simp only [S1, simprocAttr, I4, Int.lt_irrefl]; first | refine q8 _ ?_; clear q8 K1 | (refine hB ?_; clear hA hB A B)) | refine b6 fun K hK => ?_ | ((first | apply b8 | apply b5 | apply f9 | apply d3); try simp only [NB, simprocAttr]))
    all_goals simp only [S1, simprocAttr, ENB, I4]
    all_goals rw [hp]; rfl
noncomputable def L3 (ns : List Nd) (fl : List Fl) (l : List Sv) : List Sv × Int := if A3 ns fl l ≠ 0 then ([], A3 ns fl l) else x8 ns fl l
noncomputable def G6 (ns : List Nd) (fl : List Fl) : List Sv × Int := if (D3 ns fl).1 ≠ 0 then ([], 4) else x8 ns fl [(A9 ns fl).1]
theorem qo {ns : List Nd} {fl : List Fl} (nk : NetOk ns fl) {l : List Sv} (h49 : A7 l) (hl : l.length ≤ 8000000) (h : Heap) :
    d5 Tryz.prog gW 27 [G4 ns fl, B1 l] h (fun r h' => r = .tup [B1 (L3 ns fl l).1, .i (L3 ns fl l).2] ∧ h' = h) := by
  have hr := fun h => fy nk h49 hl h
  have hc := fun h => bf nk h49 hl h
  by_cases h0 : A3 ns fl l = 0
  · have e : L3 ns fl l = x8 ns fl l := by unfold L3; rw [if_neg (by simpa using h0)]
    rw [e]
    rw [h0] at hr
    refine c8 (rl := []) d7 Tryz.func27 rfl (rs := [.tmp 4, .tmp 5]) rfl Tryz.ntmps27 (by simp) ?_
    repeat' (first | ((repeat ((fail_if_success (refine hK _ ?_)); clear hK K)); refine hK _ ?_; clear hK K) | ((first | refine b9 fun K1 q8 => ?_ | refine b7 fun A B hA hB => ?_); simp only [S1, simprocAttr, I4]; first | refine q8 _ ?_; clear q8 K1 | (refine hB ?_; clear hA hB A B) | (apply d4 E30; exact (hr _); refine q8 _ ?_; clear q8 K1) | (apply d4 E32; exact (hc _); refine q8 _ ?_; clear q8 K1)) | refine b6 fun K hK => ?_ | ((first | apply b8 | apply b5 | apply c9 | apply d3); try simp only [NB, simprocAttr]))
    all_goals simp only [S1, simprocAttr, ENB, I4]
  · have e : L3 ns fl l = ([], A3 ns fl l) := by unfold L3; rw [if_pos h0]
    have f0 : (A3 ns fl l != 0) = true := by simp [h0]
    rw [e]
    refine c8 (rl := []) d7 Tryz.func27 rfl (rs := [.tmp 4, .tmp 5]) rfl Tryz.ntmps27 (by simp) ?_
    repeat' (first | ((repeat ((fail_if_success (refine hK _ ?_)); clear hK K)); refine hK _ ?_; clear hK K) | ((first | refine b9 fun K1 q8 => ?_ | refine b7 fun A B hA hB => ?_); simp only [S1, simprocAttr, I4, f0]; first | refine q8 _ ?_; clear q8 K1 | (refine hA ?_; clear hA hB A B) | (apply d4 E30; exact (hr _); refine q8 _ ?_; clear q8 K1)) | refine b6 fun K hK => ?_ | ((first | apply b8 | apply b5 | apply d3); try simp only [NB, simprocAttr]))
    all_goals simp only [S1, simprocAttr, ENB, I4]
    all_goals rfl
theorem oa {ns : List Nd} {fl : List Fl} (nk : NetOk ns fl) {l : List Sv} (h49 : A7 l) (hl : l.length ≤ 8000000) (h : Heap) :
    d5 Tryz.prog gW 28 [G4 ns fl, B1 l] h (fun r h' => r = aCl (L3 ns fl l) ∧ h' = h) := by
  have hr := fun h => fz nk h49 hl h
  have hc := fun h => dh nk h49 hl h
  by_cases h0 : A3 ns fl l = 0
  · have e : L3 ns fl l = x8 ns fl l := by unfold L3; rw [if_neg (by simpa using h0)]
    rw [e]
    rw [h0] at hr
    refine c8 (rl := []) d7 Tryz.func28 rfl (rs := [.cell 4 36]) rfl Tryz.ntmps28 (by simp) ?_
    repeat' (first | ((repeat ((fail_if_success (refine hK _ ?_)); clear hK K)); refine hK _ ?_; clear hK K) | ((first | refine b9 fun K1 q8 => ?_ | refine b7 fun A B hA hB => ?_); simp only [S1, simprocAttr, I4]; first | refine q8 _ ?_; clear q8 K1 | (refine hB ?_; clear hA hB A B) | (apply d4 E33; exact (hr _); refine q8 _ ?_; clear q8 K1) | (apply d4 E35; exact (hc _); refine q8 _ ?_; clear q8 K1)) | refine b6 fun K hK => ?_ | ((first | apply b8 | apply b5 | apply c9 | apply d3); try simp only [NB, simprocAttr]))
    all_goals simp only [S1, simprocAttr, ENB, I4]
  · have e : L3 ns fl l = ([], A3 ns fl l) := by unfold L3; rw [if_pos h0]
    have f0 : (A3 ns fl l != 0) = true := by simp [h0]
    rw [e]
    refine c8 (rl := []) d7 Tryz.func28 rfl (rs := [.cell 4 36]) rfl Tryz.ntmps28 (by simp) ?_
    repeat' (first | ((repeat ((fail_if_success (refine hK _ ?_)); clear hK K)); refine hK _ ?_; clear hK K) | ((first | refine b9 fun K1 q8 => ?_ | refine b7 fun A B hA hB => ?_); simp only [S1, simprocAttr, I4, f0]; first | refine q8 _ ?_; clear q8 K1 | (refine hA ?_; clear hA hB A B) | (apply d4 E33; exact (hr _); refine q8 _ ?_; clear q8 K1)) | refine b6 fun K hK => ?_ | ((first | apply b8 | apply b5 | apply d3); try simp only [NB, simprocAttr]))
    all_goals simp only [S1, simprocAttr, ENB, I4]
    all_goals rfl
end
section
attribute [local irreducible] awp n9 k8 l8 o5 m9
def z53 : List PV := List.replicate 53 (.int .i64 0)
end
section
def R7 := And.intro T2 (And.intro T3 (And.intro T4 (And.intro T25 (And.intro T26 (And.intro T28 (And.intro T31 (And.intro T34 (And.intro T36 (And.intro T41 (And.intro T44 (And.intro T55 (And.intro T57 (And.intro T58 (And.intro T62 (And.intro T65 (And.intro T89 T92))))))))))))))))
attribute [local irreducible] awp n9 k8 l8 o5 m9
theorem mC (ns : List Nd) (fl : List Fl) : (A9 ns fl).1.length = 49 := by
  unfold A9
  split
  · rfl
  · simp [zS]
theorem qq {s : Sv} (h : s.length = 49) : A7 [s] := fun t ht => by rw [List.mem_singleton] at ht; rw [ht]; exact h
theorem iE {ns : List Nd} {fl : List Fl} (nk : NetOk ns fl) (h : Heap) :
    d5 Tryz.prog gW 15 [G4 ns fl] h (fun r h' => r = .tup [B1 (G6 ns fl).1, .i (G6 ns fl).2] ∧ h' = h) := by
  have hst := fun h => fj nk h
  have hzl : (zS.map AV.i).length = 49 := by rw [List.length_map]; rfl
  have hem : (zS.map AV.i).isEmpty = false := rfl
  by_cases h0 : (D3 ns fl).1 = 0
  case neg =>
    have e : G6 ns fl = ([], 4) := by unfold G6; rw [if_pos h0]
    have es : A9 ns fl = (zS, 4) := by unfold A9; rw [if_pos h0]
    have hzz : u5 (zS.map AV.i) 0 (zS.map AV.i) = zS.map AV.i := m3 (n := 49) (by rw [List.length_map]; rfl) _ hzl
    rw [e]
    rw [es] at hst
    refine c8 (rl := []) d7 Tryz.func15 rfl (rs := [.tmp 2, .tmp 3]) rfl Tryz.ntmps15 (by simp) ?_
    repeat' (first | ((repeat ((fail_if_success (refine hK _ ?_)); clear hK K)); refine hK _ ?_; clear hK K) | ((first | refine b9 fun K1 q8 => ?_ | refine b7 fun A B hA hB => ?_); simp only [S1, simprocAttr, R7, TSz, i9, i7, j5, hem, hzz, d9, d8, e9, List.length_map]; first | refine q8 _ ?_; clear q8 K1 | (refine hA ?_; clear hA hB A B) | (apply d4 E36; exact (hst _); refine q8 _ ?_; clear q8 K1)) | refine b6 fun K hK => ?_ | ((first | apply b8 | apply b5 | apply d3); try simp only [NB, simprocAttr]))
    all_goals simp only [S1, simprocAttr, ENB, R7]
    all_goals rfl
  have e : G6 ns fl = x8 ns fl [(A9 ns fl).1] := by unfold G6; rw [if_neg (by simpa using h0)]
  have hs2 : (A9 ns fl).2 = 0 := by unfold A9; rw [if_neg (by simpa using h0)]
  have hs1 := mC ns fl
  rw [e]
  rw [hs2] at hst
  generalize (A9 ns fl).1 = s at *
  have hso0 : u5 (zS.map AV.i) 0 (s.map AV.i) = s.map AV.i := m3 (n := 49) (by rw [List.length_map, hs1]) _ hzl
  have s49 : (s.map AV.i).take 49 = s.map AV.i := List.take_of_length_le (by rw [List.length_map, hs1]; exact Nat.le_refl _)
  have hpv := P8 s
  have hch := N1 49 (s.map (PV.int .i64)) (by rw [List.length_map, hs1])
  have hti : (s.map (PV.int .i64)).take 49 = s.map (PV.int .i64) := List.take_of_length_le (by rw [List.length_map, hs1]; exact Nat.le_refl _)
  have hc := fun h => bf nk (qq hs1) (by simp) h
  refine c8 (rl := []) d7 Tryz.func15 rfl (rs := [.tmp 2, .tmp 3]) rfl Tryz.ntmps15 (by simp) ?_
  repeat' (first | ((repeat ((fail_if_success (refine hK _ ?_)); clear hK K)); refine hK _ ?_; clear hK K) | ((first | refine b9 fun K1 q8 => ?_ | refine b7 fun A B hA hB => ?_); simp only [S1, simprocAttr, R7, hs1, hso0, s49, hpv, hch, hti, TSz, i9, i7, j5, hem, d9, d8, e9, List.length_map]; first | refine q8 _ ?_; clear q8 K1 | (refine hB ?_; clear hA hB A B) | (apply d4 E36; exact (hst _); refine q8 _ ?_; clear q8 K1) | (apply d4 E32; exact (hc _); refine q8 _ ?_; clear q8 K1)) | refine b6 fun K hK => ?_ | ((first | apply b8 | apply b5 | apply c9 | apply d3); try simp only [NB, simprocAttr]))
  all_goals simp only [S1, simprocAttr, ENB, R7]
noncomputable def y1 (ns : List Nd) (fl : List Fl) (l : List Sv) (x : Lb) : List Sv := l.flatMap fun s => am ns fl s x
noncomputable def u9 (ns : List Nd) (fl : List Fl) (l : List Sv) (x : Lb) : List Sv × Int := if A3 ns fl l ≠ 0 then ([], A3 ns fl l) else if x.1 = 0 then ([], 1) else x8 ns fl (y1 ns fl l x)
theorem kN {ns : List Nd} {fl : List Fl} {l : List Sv} {j : Nat} {s : Sv} (h : l[j]? = some s) (x : Lb) : y1 ns fl (l.take (j + 1)) x = y1 ns fl (l.take j) x ++ am ns fl s x := by
  unfold y1
  rw [List.take_add_one, h, List.flatMap_append]; simp
theorem W4 {ns : List Nd} {fl : List Fl} {l : List Sv} (h : A7 l) (x : Lb) : A7 (y1 ns fl l x) := fun t ht => by
  unfold y1 at ht
  obtain ⟨s, hs, ht⟩ := List.mem_flatMap.mp ht
  exact cJ (h s hs) x t ht
theorem cq (ns : List Nd) (fl : List Fl) (x : Lb) : ∀ l : List Sv, (y1 ns fl l x).length ≤ l.length * 2500
  | [] => by simp [y1]
  | s :: l => by
    have h1 := cq ns fl x l
    have h2 := fx ns fl s x
    unfold y1 at h1 ⊢
    rw [List.flatMap_cons, List.length_append, List.length_cons]; omega
theorem bg (l m : List Sv) : q7 (l ++ m) = q7 l ++ q7 m := by unfold q7; rw [List.flatMap_append]
theorem bh (l : List Sv) : ((l.map eSt).flatMap id).map AV.p = q7 l := by
  unfold q7 eSt
  induction l with
  | nil => rfl
  | cons s l ih => rw [List.map_cons, List.flatMap_cons, List.map_append, ih, List.flatMap_cons]; congr 1; exact u0 s
theorem mD {l : List Sv} (h : A7 l) : (l.map eSt).all (fun r => r.length == 49) = true := by
  rw [List.all_eq_true]
  intro r hr
  obtain ⟨s, hs, rfl⟩ := List.mem_map.mp hr
  simpa using jg h s hs
noncomputable def dQ (ns : List Nd) (fl : List Fl) (l : List Sv) (x : Lb) : Nat := ((l.map fun s => am ns fl s x).filter fun m => m.length ≠ 0).length
theorem mF {ns : List Nd} {fl : List Fl} {l : List Sv} {j : Nat} {s : Sv} (h : l[j]? = some s) (x : Lb) : dQ ns fl (l.take (j + 1)) x = dQ ns fl (l.take j) x + if (am ns fl s x).length = 0 then 0 else 1 := by
  unfold dQ
  rw [List.take_add_one, h, List.map_append, List.filter_append, List.length_append]
  congr 1
  by_cases hc : (am ns fl s x).length = 0
  · have : am ns fl s x = [] := List.eq_nil_of_length_eq_zero hc
    simp [this]
  · have : am ns fl s x ≠ [] := fun e => hc (by rw [e]; rfl)
    simp [this]
theorem iF {ns : List Nd} {fl : List Fl} (nk : NetOk ns fl) {l : List Sv} (h49 : A7 l) (hl : l.length ≤ 2000) (x : Lb) (h : Heap) :
    d5 Tryz.prog gW 11 [G4 ns fl, B1 l, aL x] h (fun r h' => r = .tup [B1 (u9 ns fl l x).1, .i (u9 ns fl l x).2] ∧ h' = h) := by
  have hr := fun h => fy nk h49 (by omega) h
  have hzl : (zS.map AV.i).length = 49 := by rw [List.length_map]; rfl
  have hem : (zS.map AV.i).isEmpty = false := rfl
  by_cases h0 : A3 ns fl l = 0
  case neg =>
    have e : u9 ns fl l x = ([], A3 ns fl l) := by unfold u9; rw [if_pos h0]
    have f0 : (A3 ns fl l != 0) = true := by simp [h0]
    rw [e]
    refine c8 (rl := []) d7 Tryz.func11 rfl (rs := [.tmp 6, .tmp 7]) rfl Tryz.ntmps11 (by simp) ?_
    repeat' (first | ((repeat ((fail_if_success (refine hK _ ?_)); clear hK K)); refine hK _ ?_; clear hK K) | ((first | refine b9 fun K1 q8 => ?_ | refine b7 fun A B hA hB => ?_); simp only [S1, simprocAttr, R7, f0]; first | refine q8 _ ?_; clear q8 K1 | (refine hA ?_; clear hA hB A B) | (apply d4 E30; exact (hr _); refine q8 _ ?_; clear q8 K1)) | refine b6 fun K hK => ?_ | ((first | apply b8 | apply b5 | apply d3); try simp only [NB, simprocAttr]))
    all_goals simp only [S1, simprocAttr, ENB, R7]
    all_goals rfl
  rw [h0] at hr
  by_cases h1 : x.1 = 0
  · have e : u9 ns fl l x = ([], 1) := by unfold u9; rw [if_neg (by simpa using h0), if_pos h1]
    have f1 : (x.1 == 0) = true := by simp [h1]
    rw [e]
    refine c8 (rl := []) d7 Tryz.func11 rfl (rs := [.tmp 6, .tmp 7]) rfl Tryz.ntmps11 (by simp) ?_
    repeat' (first | ((repeat ((fail_if_success (refine hK _ ?_)); clear hK K)); refine hK _ ?_; clear hK K) | ((first | refine b9 fun K1 q8 => ?_ | refine b7 fun A B hA hB => ?_); simp only [S1, simprocAttr, R7, f1]; first | refine q8 _ ?_; clear q8 K1 | ((first | refine hA ?_ | refine hB ?_); clear hA hB A B) | (apply d4 E30; exact (hr _); refine q8 _ ?_; clear q8 K1)) | refine b6 fun K hK => ?_ | ((first | apply b8 | apply b5 | apply c9 | apply d3); try simp only [NB, simprocAttr]))
    all_goals simp only [S1, simprocAttr, ENB, R7]
    all_goals rfl
  have e : u9 ns fl l x = x8 ns fl (y1 ns fl l x) := by unfold u9; rw [if_neg (by simpa using h0), if_neg h1]
  have f1 : (x.1 == 0) = false := by simp [h1]
  have hlw := cq ns fl x l
  have hc := fun h => bf nk (l := y1 ns fl l x) (W4 h49 x) (by omega) h
  rw [e]
  refine c8 (rl := []) d7 Tryz.func11 rfl (rs := [.tmp 6, .tmp 7]) rfl Tryz.ntmps11 (by simp) ?_
  repeat' (first | (apply b8; (try simp only [NB]); ((repeat ((fail_if_success (refine hK _ ?_)); clear hK K)); refine hK _ ?_; clear hK K)) | (refine b9 fun K1 q8 => ?_; simp only [S1, simprocAttr, R7]; refine q8 _ ?_; clear q8 K1) | (refine b6 (x := Code.region _ _ _) fun K hK => ?_) | (apply b5; try simp only [NB, simprocAttr]; (try ((repeat ((fail_if_success (refine hK _ ?_)); clear hK K)); refine hK _ ?_; clear hK K))))
  refine b6 fun K hK => ?_
  repeat' (first | (apply b8; (try simp only [NB]); ((repeat ((fail_if_success (refine hK _ ?_)); clear hK K)); refine hK _ ?_; clear hK K)) | ((first | refine b9 fun K1 q8 => ?_ | refine b7 fun A B hA hB => ?_); simp only [S1, simprocAttr, R7]; first | refine q8 _ ?_; clear q8 K1 | (refine hB ?_; clear hA hB A B) | (apply d4 E30; exact (hr _); refine q8 _ ?_; clear q8 K1)) | (refine b6 (x := Code.region _ _ _) fun K hK => ?_) | ((first | apply b5 | apply c9); try simp only [NB, simprocAttr]; (try ((repeat ((fail_if_success (refine hK _ ?_)); clear hK K)); refine hK _ ?_; clear hK K))))
  refine b6 fun K hK => ?_
  repeat' (first | (apply b8; (try simp only [NB]); ((repeat ((fail_if_success (refine hK _ ?_)); clear hK K)); refine hK _ ?_; clear hK K)) | ((first | refine b9 fun K1 q8 => ?_ | refine b7 fun A B hA hB => ?_); simp only [S1, simprocAttr, R7, f1]; first | refine q8 _ ?_; clear q8 K1 | (refine hB ?_; clear hA hB A B)) | (refine b6 (x := Code.region _ _ _) fun K hK => ?_) | ((first | apply b5 | apply c9); try simp only [NB, simprocAttr]; (try ((repeat ((fail_if_success (refine hK _ ?_)); clear hK K)); refine hK _ ?_; clear hK K))))
  refine gH ⟨frL [(9, B1 (y1 ns fl l x)), (3, .ptr h.length 0 0)], 39, h ++ [some ⟨0, x6 ns fl⟩]⟩ (fun K hK => ?_) ?_
  · repeat' (first | ((repeat ((fail_if_success (refine hK _ ?_)); clear hK K)); refine hK _ ?_; clear hK K) | (refine b9 fun K1 q8 => ?_; simp only [S1, simprocAttr, R7, List.length_map]; refine q8 _ ?_; clear q8 K1) | refine b6 fun K hK => ?_ | ((first | apply b8 | apply b5 | apply c7); try simp only [NB, simprocAttr]))
    refine C0 l.length 39 (fun j => [(23, .i j), (22, .i l.length), (21, B1 l), (9, .ref (h.length + 2) (dQ ns fl (l.take j) x) 0 49 (y1 ns fl (l.take j) x).length), (3, .ptr h.length 0 0), (5, .ptr (h.length + 1) 0 0)])
      (fun j => [some ⟨0, x6 ns fl⟩, some ⟨0, [.i x.1, .i x.2.1, .i x.2.2]⟩, some ⟨dQ ns fl (l.take j) x, q7 (y1 ns fl (l.take j) x)⟩]) (fun j => True) ?_ trivial fun j hj hp K hK => ?_
    · refine (o6.adopt 9 49 rfl).trans (Sub.ghost ⟨rfl, ⟨[], by simp [q7, y1, dQ]⟩, ?_, ⟨trivial, trivial, trivial⟩, ⟨trivial, trivial, trivial, trivial⟩, trivial, trivial⟩)
      simp only [G8, s4, D0, frL, List.length_cons, List.length_nil]
      simp [y1, dQ]
    rcases Nat.lt_or_ge j l.length with hlt | hge
    · obtain ⟨s, hx⟩ : ∃ k, l[j]? = some k := ⟨_, List.getElem?_eq_getElem hlt⟩
      have hs : s.length = 49 := h49 s (List.mem_of_getElem? hx)
      have hxr : (l.map eSt)[j]? = some (s.map (PV.int .i64)) := by rw [List.getElem?_map, hx]; rfl
      have jl : (j : Int) < (l.length : Int) := by omega
      have j0 : (0 : Int) ≤ (j : Int) := by omega
      have hnx : IntKind.i64.wrap ((j : Int) + 1) = ((j + 1 : Nat) : Int) := by rw [IntWalk.i64_in _ (by omega)]; omega
      have s49 : (s.map AV.i).take 49 = s.map AV.i := List.take_of_length_le (by rw [List.length_map, hs]; exact Nat.le_refl _)
      have hso : u5 (zS.map AV.i) 0 (s.map AV.i) = s.map AV.i := m3 (n := 49) (by rw [List.length_map, hs]) _ hzl
      have hsm := u0 s
      have hne := J3 hs
      have hled := fun h => mA nk hs x h
      have es := kN (ns := ns) (fl := fl) hx x
      have eg := mF (ns := ns) (fl := fl) hx x
      have hm49 := cJ (ns := ns) (fl := fl) hs x
      have hml := fx ns fl s x
      have ho := W4 (ns := ns) (fl := fl) (l := l.take j) (fun t ht => h49 t (List.mem_of_mem_take ht)) x
      have hol := cq ns fl x (l.take j)
      rw [List.length_take] at hol
      have hjm : min j l.length * 2500 ≤ 2000 * 2500 := Nat.mul_le_mul_right _ (by omega)
      generalize am ns fl s x = more at *
      generalize dQ ns fl (l.take j) x = gn at *
      generalize y1 ns fl (l.take j) x = o at *
      have hfl := C6 ho
      have hra := mD hm49
      have hrf := bh more
      have hfa := bg o more
      by_cases hk : more.length = 0
      · obtain rfl := List.eq_nil_of_length_eq_zero hk
        simp only [List.length_nil, if_true, Nat.add_zero] at eg
        rw [List.append_nil] at es
        repeat' (first | ((repeat ((fail_if_success (refine hK _ ?_)); clear hK K)); refine hK _ ?_; clear hK K) | ((first | refine b9 fun K1 q8 => ?_ | refine b7 fun A B hA hB => ?_); simp only [S1, simprocAttr, R7, jl, j0, hnx, hxr, hs, hzl, hem, s49, hso, hsm, hne, hfl, TSz, i9, i7, j5, d9, d8, e9, List.all_nil, List.flatMap_nil, List.length_map]; first | refine q8 _ ?_; clear q8 K1 | (refine hA ?_; clear hA hB A B) | (apply d4 E31; exact (hled _); refine q8 _ ?_; clear q8 K1)) | refine b6 fun K hK => ?_ | ((first | apply b8 | apply b5 | apply c7 | apply c9); try simp only [NB, simprocAttr]))
        all_goals refine ⟨hlt, trivial, ?_⟩
        all_goals simp only [es, eg]
        all_goals refine ⟨rfl, ⟨_, rfl⟩, ?_, ⟨trivial, trivial, trivial⟩, ⟨trivial, trivial, trivial, trivial⟩, u7 _ _, trivial⟩
        all_goals clear hjm hol hml hlw hfl
        all_goals simp only [S1, simprocAttr, KNB] <;> (try and_intros) <;> (try assumption) <;> (try trivial) <;> (try omega)
      · rw [if_neg hk] at eg
        have hmax : o.length + more.length ≤ j7 := by unfold j7; omega
        repeat' (first | ((repeat ((fail_if_success (refine hK _ ?_)); clear hK K)); refine hK _ ?_; clear hK K) | ((first | refine b9 fun K1 q8 => ?_ | refine b7 fun A B hA hB => ?_); simp only [S1, simprocAttr, R7, jl, j0, hnx, hxr, hs, hzl, hem, s49, hso, hsm, hne, hfl, hk, hmax, hra, hrf, TSz, i9, i7, j5, d9, d8, e9, List.length_map, List.drop_zero]; first | refine q8 _ ?_; clear q8 K1 | (refine hA ?_; clear hA hB A B) | (apply d4 E31; exact (hled _); refine q8 _ ?_; clear q8 K1)) | refine b6 fun K hK => ?_ | ((first | apply b8 | apply b5 | apply c7 | apply c9); try simp only [NB, simprocAttr]))
        all_goals refine ⟨hlt, trivial, ?_⟩
        all_goals simp only [es, eg, hfa, List.length_append]
        all_goals refine ⟨rfl, ⟨_, rfl⟩, ?_, ⟨trivial, trivial, trivial⟩, ⟨trivial, trivial, trivial, trivial⟩, (by rw [← bg]; exact u7 _ _), trivial⟩
        all_goals clear hjm hol hmax hml hlw hfl
        all_goals simp only [S1, simprocAttr, KNB] <;> (try and_intros) <;> (try assumption) <;> (try trivial) <;> (try omega)
    · obtain rfl : j = l.length := by omega
      rw [List.take_length]
      have ho := W4 (ns := ns) (fl := fl) h49 x
      repeat' (first | ((repeat ((fail_if_success (refine hK _ ?_)); clear hK K)); refine hK _ ?_; clear hK K) | ((first | refine b9 fun K1 q8 => ?_ | refine b7 fun A B hA hB => ?_); simp only [S1, simprocAttr, R7, Int.lt_irrefl]; first | refine q8 _ ?_; clear q8 K1 | (refine hB ?_; clear hA hB A B)) | refine b6 fun K hK => ?_ | ((first | apply b8 | apply b5 | apply f9); try simp only [NB, simprocAttr]))
      have hfz : ∀ r ∈ (y1 ns fl l x).map eSt, r.length = 49 := fun r hr => by obtain ⟨s, hs, rfl⟩ := List.mem_map.mp hr; exact jg ho s hs
      have hcz : q7 (y1 ns fl l x) = (((y1 ns fl l x).map eSt).flatMap id).map AV.p ++ [] := by rw [bh, List.append_nil]
      have hlz : (y1 ns fl l x).length = ((y1 ns fl l x).map eSt).length := (List.length_map ..).symm
      have hbz : ∀ A B C : Option Blk, (h ++ [A, B, C])[h.length + 2]? = some C := fun A B C => by rw [n5]; rfl
      have hsz : ∀ A B C : Option Blk, (h ++ [A, B, C]).set (h.length + 2) none = h ++ ([A] ++ [B, none]) := fun A B C => by rw [T6]; rfl
      all_goals refine (o6.freeze (k := 9) (b := h.length + 2) (sz := 49) (n := (y1 ns fl l x).length) (rows := (y1 ns fl l x).map eSt) (bk := ⟨dQ ns fl l x, q7 (y1 ns fl l x)⟩) (rest := []) rfl (hbz _ _ _) hlz hfz (by omega) hcz).trans (Sub.ghost ⟨rfl, ⟨_, hsz _ _ _⟩, ?_, ⟨trivial, trivial, trivial⟩, trivial⟩)
      all_goals simp only [S1, simprocAttr, KNB] <;> (try and_intros) <;> (try assumption) <;> (try trivial) <;> (try omega)
  repeat' (first | ((repeat ((fail_if_success (refine hK _ ?_)); clear hK K)); refine hK _ ?_; clear hK K) | (refine b9 fun K1 q8 => ?_; simp only [S1, simprocAttr, R7]; first | refine q8 _ ?_; clear q8 K1 | (apply d4 E32; exact (hc _); refine q8 _ ?_; clear q8 K1)) | refine b6 fun K hK => ?_ | ((first | apply b8 | apply b5 | apply d3); try simp only [NB, simprocAttr]))
  all_goals simp only [S1, simprocAttr, ENB, R7]
end
section
def an := And.intro T2 (And.intro T3 (And.intro T4 (And.intro T25 (And.intro T26 (And.intro T28 (And.intro T31 (And.intro T34 (And.intro T36 (And.intro T41 (And.intro T44 (And.intro T55 (And.intro T57 (And.intro T58 (And.intro T62 (And.intro T65 (And.intro T89 T92))))))))))))))))
attribute [local irreducible] awp n9 k8 l8 o5 m9
theorem ob {ns : List Nd} {fl : List Fl} (nk : NetOk ns fl) {l : List Sv} (h49 : A7 l) (hl : l.length ≤ 2000) (x : Lb) (h : Heap) :
    d5 Tryz.prog gW 12 [G4 ns fl, B1 l, aL x] h (fun r h' => r = aCl (u9 ns fl l x) ∧ h' = h) := by
  have hr := fun h => fz nk h49 (by omega) h
  have hzl : (zS.map AV.i).length = 49 := by rw [List.length_map]; rfl
  have hem : (zS.map AV.i).isEmpty = false := rfl
  by_cases h0 : A3 ns fl l = 0
  case neg =>
    have e : u9 ns fl l x = ([], A3 ns fl l) := by unfold u9; rw [if_pos h0]
    have f0 : (A3 ns fl l != 0) = true := by simp [h0]
    rw [e]
    refine c8 (rl := []) d7 Tryz.func12 rfl (rs := [.cell 6 36]) rfl Tryz.ntmps12 (by simp) ?_
    repeat' (first | ((repeat ((fail_if_success (refine hK _ ?_)); clear hK K)); refine hK _ ?_; clear hK K) | ((first | refine b9 fun K1 q8 => ?_ | refine b7 fun A B hA hB => ?_); simp only [S1, simprocAttr, an, f0]; first | refine q8 _ ?_; clear q8 K1 | (refine hA ?_; clear hA hB A B) | (apply d4 E33; exact (hr _); refine q8 _ ?_; clear q8 K1)) | refine b6 fun K hK => ?_ | ((first | apply b8 | apply b5 | apply d3); try simp only [NB, simprocAttr]))
    all_goals simp only [S1, simprocAttr, ENB, an]
    all_goals rfl
  rw [h0] at hr
  by_cases h1 : x.1 = 0
  · have e : u9 ns fl l x = ([], 1) := by unfold u9; rw [if_neg (by simpa using h0), if_pos h1]
    have f1 : (x.1 == 0) = true := by simp [h1]
    rw [e]
    refine c8 (rl := []) d7 Tryz.func12 rfl (rs := [.cell 6 36]) rfl Tryz.ntmps12 (by simp) ?_
    repeat' (first | ((repeat ((fail_if_success (refine hK _ ?_)); clear hK K)); refine hK _ ?_; clear hK K) | ((first | refine b9 fun K1 q8 => ?_ | refine b7 fun A B hA hB => ?_); simp only [S1, simprocAttr, an, f1]; first | refine q8 _ ?_; clear q8 K1 | ((first | refine hA ?_ | refine hB ?_); clear hA hB A B) | (apply d4 E33; exact (hr _); refine q8 _ ?_; clear q8 K1)) | refine b6 fun K hK => ?_ | ((first | apply b8 | apply b5 | apply c9 | apply d3); try simp only [NB, simprocAttr]))
    all_goals simp only [S1, simprocAttr, ENB, an]
    all_goals rfl
  have e : u9 ns fl l x = x8 ns fl (y1 ns fl l x) := by unfold u9; rw [if_neg (by simpa using h0), if_neg h1]
  have f1 : (x.1 == 0) = false := by simp [h1]
  have hlw := cq ns fl x l
  have hc := fun h => dh nk (l := y1 ns fl l x) (W4 h49 x) (by omega) h
  rw [e]
  refine c8 (rl := []) d7 Tryz.func12 rfl (rs := [.cell 6 36]) rfl Tryz.ntmps12 (by simp) ?_
  repeat' (first | (apply b8; (try simp only [NB]); ((repeat ((fail_if_success (refine hK _ ?_)); clear hK K)); refine hK _ ?_; clear hK K)) | (refine b9 fun K1 q8 => ?_; simp only [S1, simprocAttr, an]; first | refine q8 _ ?_; clear q8 K1 | (apply d4 E33; exact (hr _); refine q8 _ ?_; clear q8 K1)) | (refine b6 (x := Code.region _ _ _) fun K hK => ?_) | (apply b5; try simp only [NB, simprocAttr]; (try ((repeat ((fail_if_success (refine hK _ ?_)); clear hK K)); refine hK _ ?_; clear hK K))))
  refine b6 fun K hK => ?_
  repeat' (first | (apply b8; (try simp only [NB]); ((repeat ((fail_if_success (refine hK _ ?_)); clear hK K)); refine hK _ ?_; clear hK K)) | ((first | refine b9 fun K1 q8 => ?_ | refine b7 fun A B hA hB => ?_); simp only [S1, simprocAttr, an]; first | refine q8 _ ?_; clear q8 K1 | (refine hB ?_; clear hA hB A B)) | (refine b6 (x := Code.region _ _ _) fun K hK => ?_) | ((first | apply b5 | apply c9); try simp only [NB, simprocAttr]; (try ((repeat ((fail_if_success (refine hK _ ?_)); clear hK K)); refine hK _ ?_; clear hK K))))
  refine b6 fun K hK => ?_
  repeat' (first | (apply b8; (try simp only [NB]); ((repeat ((fail_if_success (refine hK _ ?_)); clear hK K)); refine hK _ ?_; clear hK K)) | ((first | refine b9 fun K1 q8 => ?_ | refine b7 fun A B hA hB => ?_); simp only [S1, simprocAttr, an, f1]; first | refine q8 _ ?_; clear q8 K1 | (refine hB ?_; clear hA hB A B)) | (refine b6 (x := Code.region _ _ _) fun K hK => ?_) | ((first | apply b5 | apply c9); try simp only [NB, simprocAttr]; (try ((repeat ((fail_if_success (refine hK _ ?_)); clear hK K)); refine hK _ ?_; clear hK K))))
  refine gH ⟨frL [(8, B1 (y1 ns fl l x)), (3, .ptr h.length 0 0), (6, .ptr (h.length + 2) 0 0)], 38, h ++ [some ⟨0, x6 ns fl⟩, some ⟨0, [.i x.1, .i x.2.1, .i x.2.2]⟩, some ⟨0, [.p .nils, .i 0]⟩]⟩ (fun K hK => ?_) ?_
  · repeat' (first | ((repeat ((fail_if_success (refine hK _ ?_)); clear hK K)); refine hK _ ?_; clear hK K) | (refine b9 fun K1 q8 => ?_; simp only [S1, simprocAttr, an, List.length_map]; refine q8 _ ?_; clear q8 K1) | refine b6 fun K hK => ?_ | ((first | apply b8 | apply b5 | apply c7); try simp only [NB, simprocAttr]))
    refine C0 l.length 38 (fun j => [(24, .i j), (23, .i l.length), (22, B1 l), (8, .ref (h.length + 3) (dQ ns fl (l.take j) x) 0 49 (y1 ns fl (l.take j) x).length), (3, .ptr h.length 0 0), (5, .ptr (h.length + 1) 0 0), (6, .ptr (h.length + 2) 0 0)])
      (fun j => [some ⟨0, x6 ns fl⟩, some ⟨0, [.i x.1, .i x.2.1, .i x.2.2]⟩, some ⟨0, [.p .nils, .i 0]⟩, some ⟨dQ ns fl (l.take j) x, q7 (y1 ns fl (l.take j) x)⟩]) (fun j => True) ?_ trivial fun j hj hp K hK => ?_
    · refine (o6.adopt 8 49 rfl).trans (Sub.ghost ⟨rfl, ⟨[], by simp [q7, y1, dQ]⟩, ?_, ⟨trivial, trivial, trivial⟩, ⟨trivial, trivial, trivial, trivial⟩, ⟨trivial, trivial, trivial⟩, trivial, trivial⟩)
      simp only [G8, s4, D0, frL, List.length_cons, List.length_nil]
      simp [y1, dQ]
    rcases Nat.lt_or_ge j l.length with hlt | hge
    · obtain ⟨s, hx⟩ : ∃ k, l[j]? = some k := ⟨_, List.getElem?_eq_getElem hlt⟩
      have hs : s.length = 49 := h49 s (List.mem_of_getElem? hx)
      have hxr : (l.map eSt)[j]? = some (s.map (PV.int .i64)) := by rw [List.getElem?_map, hx]; rfl
      have jl : (j : Int) < (l.length : Int) := by omega
      have j0 : (0 : Int) ≤ (j : Int) := by omega
      have hnx : IntKind.i64.wrap ((j : Int) + 1) = ((j + 1 : Nat) : Int) := by rw [IntWalk.i64_in _ (by omega)]; omega
      have s49 : (s.map AV.i).take 49 = s.map AV.i := List.take_of_length_le (by rw [List.length_map, hs]; exact Nat.le_refl _)
      have hso : u5 (zS.map AV.i) 0 (s.map AV.i) = s.map AV.i := m3 (n := 49) (by rw [List.length_map, hs]) _ hzl
      have hsm := u0 s
      have hne := J3 hs
      have hled := fun h => kM nk hs x h
      have es := kN (ns := ns) (fl := fl) hx x
      have eg := mF (ns := ns) (fl := fl) hx x
      have hm49 := cJ (ns := ns) (fl := fl) hs x
      have hml := fx ns fl s x
      have ho := W4 (ns := ns) (fl := fl) (l := l.take j) (fun t ht => h49 t (List.mem_of_mem_take ht)) x
      have hol := cq ns fl x (l.take j)
      rw [List.length_take] at hol
      have hjm : min j l.length * 2500 ≤ 2000 * 2500 := Nat.mul_le_mul_right _ (by omega)
      generalize am ns fl s x = more at *
      generalize dQ ns fl (l.take j) x = gn at *
      generalize y1 ns fl (l.take j) x = o at *
      have hfl := C6 ho
      have hra := mD hm49
      have hrf := bh more
      have hfa := bg o more
      by_cases hk : more.length = 0
      · obtain rfl := List.eq_nil_of_length_eq_zero hk
        simp only [List.length_nil, if_true, Nat.add_zero] at eg
        rw [List.append_nil] at es
        repeat' (first | ((repeat ((fail_if_success (refine hK _ ?_)); clear hK K)); refine hK _ ?_; clear hK K) | ((first | refine b9 fun K1 q8 => ?_ | refine b7 fun A B hA hB => ?_); simp only [S1, simprocAttr, an, jl, j0, hnx, hxr, hs, hzl, hem, s49, hso, hsm, hne, hfl, TRz, i9, i7, j5, d9, d8, e9, List.all_nil, List.flatMap_nil, List.length_map]; first | refine q8 _ ?_; clear q8 K1 | (refine hA ?_; clear hA hB A B) | (apply d4 E34; exact (hled _); refine q8 _ ?_; clear q8 K1)) | refine b6 fun K hK => ?_ | ((first | apply b8 | apply b5 | apply c7 | apply c9); try simp only [NB, simprocAttr]))
        all_goals refine ⟨hlt, trivial, ?_⟩
        all_goals simp only [es, eg]
        all_goals refine ⟨rfl, ⟨_, rfl⟩, ?_, ⟨trivial, trivial, trivial⟩, ⟨trivial, trivial, trivial, trivial⟩, ⟨trivial, trivial, trivial⟩, u7 _ _, trivial⟩
        all_goals clear hjm hol hml hlw hfl
        all_goals simp only [S1, simprocAttr, KNB] <;> (try and_intros) <;> (try assumption) <;> (try trivial) <;> (try omega)
      · rw [if_neg hk] at eg
        have hmax : o.length + more.length ≤ j7 := by unfold j7; omega
        repeat' (first | ((repeat ((fail_if_success (refine hK _ ?_)); clear hK K)); refine hK _ ?_; clear hK K) | ((first | refine b9 fun K1 q8 => ?_ | refine b7 fun A B hA hB => ?_); simp only [S1, simprocAttr, an, jl, j0, hnx, hxr, hs, hzl, hem, s49, hso, hsm, hne, hfl, hk, hmax, hra, hrf, TRz, i9, i7, j5, d9, d8, e9, List.length_map, List.drop_zero]; first | refine q8 _ ?_; clear q8 K1 | (refine hA ?_; clear hA hB A B) | (apply d4 E34; exact (hled _); refine q8 _ ?_; clear q8 K1)) | refine b6 fun K hK => ?_ | ((first | apply b8 | apply b5 | apply c7 | apply c9); try simp only [NB, simprocAttr]))
        all_goals refine ⟨hlt, trivial, ?_⟩
        all_goals simp only [es, eg, hfa, List.length_append]
        all_goals refine ⟨rfl, ⟨_, rfl⟩, ?_, ⟨trivial, trivial, trivial⟩, ⟨trivial, trivial, trivial, trivial⟩, ⟨trivial, trivial, trivial⟩, (by rw [← bg]; exact u7 _ _), trivial⟩
        all_goals clear hjm hol hmax hml hlw hfl
        all_goals simp only [S1, simprocAttr, KNB] <;> (try and_intros) <;> (try assumption) <;> (try trivial) <;> (try omega)
    · obtain rfl : j = l.length := by omega
      rw [List.take_length]
      have ho := W4 (ns := ns) (fl := fl) h49 x
      repeat' (first | ((repeat ((fail_if_success (refine hK _ ?_)); clear hK K)); refine hK _ ?_; clear hK K) | ((first | refine b9 fun K1 q8 => ?_ | refine b7 fun A B hA hB => ?_); simp only [S1, simprocAttr, an, Int.lt_irrefl]; first | refine q8 _ ?_; clear q8 K1 | (refine hB ?_; clear hA hB A B)) | refine b6 fun K hK => ?_ | ((first | apply b8 | apply b5 | apply f9); try simp only [NB, simprocAttr]))
      have hfz : ∀ r ∈ (y1 ns fl l x).map eSt, r.length = 49 := fun r hr => by obtain ⟨s, hs, rfl⟩ := List.mem_map.mp hr; exact jg ho s hs
      have hcz : q7 (y1 ns fl l x) = (((y1 ns fl l x).map eSt).flatMap id).map AV.p ++ [] := by rw [bh, List.append_nil]
      have hlz : (y1 ns fl l x).length = ((y1 ns fl l x).map eSt).length := (List.length_map ..).symm
      have hbz : ∀ A B C D : Option Blk, (h ++ [A, B, C, D])[h.length + 3]? = some D := fun A B C D => by rw [n5]; rfl
      have hsz : ∀ A B C D : Option Blk, (h ++ [A, B, C, D]).set (h.length + 3) none = h ++ ([A, B, C] ++ [none]) := fun A B C D => by rw [T6]; rfl
      all_goals refine (o6.freeze (k := 8) (b := h.length + 3) (sz := 49) (n := (y1 ns fl l x).length) (rows := (y1 ns fl l x).map eSt) (bk := ⟨dQ ns fl l x, q7 (y1 ns fl l x)⟩) (rest := []) rfl (hbz _ _ _ _) hlz hfz (by omega) hcz).trans (Sub.ghost ⟨rfl, ⟨_, hsz _ _ _ _⟩, ?_, ⟨trivial, trivial, trivial⟩, ⟨trivial, trivial, trivial, trivial⟩, ⟨trivial, trivial, trivial⟩, trivial⟩)
      all_goals simp only [S1, simprocAttr, KNB] <;> (try and_intros) <;> (try assumption) <;> (try trivial) <;> (try omega)
  repeat' (first | ((repeat ((fail_if_success (refine hK _ ?_)); clear hK K)); refine hK _ ?_; clear hK K) | (refine b9 fun K1 q8 => ?_; simp only [S1, simprocAttr, an]; first | refine q8 _ ?_; clear q8 K1 | (apply d4 E35; exact (hc _); refine q8 _ ?_; clear q8 K1)) | refine b6 fun K hK => ?_ | ((first | apply b8 | apply b5 | apply d3); try simp only [NB, simprocAttr]))
  all_goals simp only [S1, simprocAttr, ENB, an]
end
section
def Y5 := And.intro T2 (And.intro T3 (And.intro T4 (And.intro T25 (And.intro T26 (And.intro T28 (And.intro T31 (And.intro T34 (And.intro T36 (And.intro T41 (And.intro T44 (And.intro T57 (And.intro T58 (And.intro T89 T92)))))))))))))
attribute [local irreducible] awp n9 k8 l8 o5 m9
def eL (x : Lb) : List PV := [.int .i64 x.1, .int .i64 x.2.1, .int .i64 x.2.2]
abbrev aLs (l : List Lb) : AV := .p (.sl (l.map eL))
theorem oc {l : List Lb} {j : Nat} {x : Lb} (h : l[j]? = some x) : (l.map eL)[j]? = some [.int .i64 x.1, .int .i64 x.2.1, .int .i64 x.2.2] := by simp [h, eL]
noncomputable def qr (ns : List Nd) (fl : List Fl) : List Lb → Nat → List Sv → Int × Int
  | [], j, _ => (j, 0)
  | x :: r, j, c => if x.1 = 0 then (j, 0) else if (u9 ns fl c x).2 ≠ 0 then (0, (u9 ns fl c x).2) else if (u9 ns fl c x).1 = [] then (j, 0) else qr ns fl r (j + 1) (u9 ns fl c x).1
noncomputable def U2 (ns : List Nd) (fl : List Fl) (l : List Lb) : Int × Int := if (G6 ns fl).2 ≠ 0 then (0, (G6 ns fl).2) else qr ns fl l 0 (G6 ns fl).1
theorem dR (ns : List Nd) (fl : List Fl) (l : List Sv) : (x8 ns fl l).1.length ≤ 1500 := by
  unfold x8
  split
  · assumption
  · simp
theorem dS {ns : List Nd} {fl : List Fl} {l : List Sv} (h : A7 l) : A7 (x8 ns fl l).1 := by
  unfold x8
  split
  · exact rY (P := fun s => s.length = 49) (fun s hs t ht => cJ hs _ t ht) h
  · exact fun s hs => by cases hs
theorem mG (ns : List Nd) (fl : List Fl) (l : List Sv) (x : Lb) : (u9 ns fl l x).1.length ≤ 1500 := by
  unfold u9
  split
  · simp
  · split
    · simp
    · exact dR _ _ _
theorem mH {ns : List Nd} {fl : List Fl} {l : List Sv} (h : A7 l) (x : Lb) : A7 (u9 ns fl l x).1 := by
  unfold u9
  split
  · exact fun s hs => by cases hs
  · split
    · exact fun s hs => by cases hs
    · exact dS (W4 h x)
theorem uT (ns : List Nd) (fl : List Fl) : (G6 ns fl).1.length ≤ 1500 := by
  unfold G6
  split
  · simp
  · exact dR _ _ _
theorem uU (ns : List Nd) (fl : List Fl) : A7 (G6 ns fl).1 := by
  unfold G6
  split
  · exact fun s hs => by cases hs
  · exact dS (qq (mC ns fl))
structure Qac where
  j : Nat
  c : List Sv
  e : Int
theorem lw {ns : List Nd} {fl : List Fl} (nk : NetOk ns fl) {l : List Lb} (hl : l.length ≤ 1000) (h : Heap) :
    d5 Tryz.prog gW 20 [G4 ns fl, aLs l] h (fun r h' => r = .tup [.i (U2 ns fl l).1, .i (U2 ns fl l).2] ∧ h' = h) := by
  have hbg := fun h => iE nk h
  have hb49 := uU ns fl
  have hble := uT ns fl
  have hac : U2 ns fl l = if (G6 ns fl).2 ≠ 0 then (0, (G6 ns fl).2) else qr ns fl l 0 (G6 ns fl).1 := rfl
  obtain ⟨c0, e0, hce⟩ : ∃ c e, G6 ns fl = (c, e) := ⟨_, _, rfl⟩
  rw [hce] at hbg hb49 hble hac
  simp only at hbg hb49 hble hac
  refine c8 (rl := []) d7 Tryz.func20 rfl (rs := [.tmp 4, .tmp 5]) rfl Tryz.ntmps20 (by simp) ?_
  repeat' (first | ((repeat ((fail_if_success (refine hK _ ?_)); clear hK K)); refine hK _ ?_; clear hK K) | (refine b9 fun K1 q8 => ?_; simp only [S1, simprocAttr, Y5, List.length_map]; first | refine q8 _ ?_; clear q8 K1 | (apply d4 E15; exact (hbg _); refine q8 _ ?_; clear q8 K1)) | refine b6 fun K hK => ?_ | ((first | apply b8 | apply b5 | apply c7); try simp only [NB, simprocAttr]))
  refine K3 (σ := Qac) (fun q => l.length - q.j) 50 (fun q => [(17, .i q.j), (16, .i l.length), (15, aLs l), (1, aLs l), (6, B1 q.c), (7, .i q.e), (2, .ptr h.length 0 0)]) (fun q => [some ⟨0, x6 ns fl⟩])
    (fun q => q.j ≤ l.length ∧ A7 q.c ∧ q.c.length ≤ 1500 ∧ U2 ns fl l = if q.e ≠ 0 then (0, q.e) else qr ns fl (l.drop q.j) q.j q.c) ⟨0, c0, e0⟩ ?_ ⟨Nat.zero_le _, hb49, hble, hac⟩ fun q hp K hK => ?_
  · refine ⟨rfl, ⟨_, rfl⟩, ?_, ⟨trivial, trivial, trivial⟩, trivial⟩
    simp only [S1, simprocAttr, KNB] <;> (try and_intros) <;> (try assumption) <;> (try trivial) <;> (try omega)
  clear hac hble hb49 hce hbg
  obtain ⟨j, c, e⟩ := q
  obtain ⟨hj, c49, cle, hac⟩ := hp
  simp only at hj c49 cle hac hK ⊢
  rcases Nat.lt_or_ge j l.length with hlt | hge
  · obtain ⟨x, hx⟩ : ∃ k, l[j]? = some k := ⟨_, List.getElem?_eq_getElem hlt⟩
    have hd : l.drop j = x :: l.drop (j + 1) := by rw [List.drop_eq_getElem_cons hlt, (List.getElem?_eq_some_iff.mp hx).2]
    have jl : (j : Int) < (l.length : Int) := by omega
    have j0 : (0 : Int) ≤ (j : Int) := by omega
    have hnx : IntKind.i64.wrap ((j : Int) + 1) = ((j + 1 : Nat) : Int) := by rw [IntWalk.i64_in _ (by omega)]; omega
    by_cases he : e = 0
    case neg =>
      have f0 : (e != 0) = true := by simp [he]
      rw [if_pos he] at hac
      rw [hac]
      repeat' (first | ((repeat ((fail_if_success (refine hK _ ?_)); clear hK K)); refine hK _ ?_; clear hK K) | ((first | refine b9 fun K1 q8 => ?_ | refine b7 fun A B hA hB => ?_); simp only [S1, simprocAttr, Y5, jl, j0, oc hx, f0, d8, e9, List.length_map]; first | refine q8 _ ?_; clear q8 K1 | (refine hA ?_; clear hA hB A B)) | refine b6 fun K hK => ?_ | ((first | apply b8 | apply b5 | apply c7 | apply c9 | apply d3); try simp only [NB, simprocAttr]))
      all_goals simp only [S1, simprocAttr, ENB, Y5]
    subst he
    rw [if_neg (by simp), hd] at hac
    by_cases h1 : x.1 = 0
    · have f1 : (x.1 == 0) = true := by simp [h1]
      have e1 : U2 ns fl l = ((j : Int), 0) := by rw [hac]; unfold qr; rw [if_pos h1]
      rw [e1]
      repeat' (first | ((repeat ((fail_if_success (refine hK _ ?_)); clear hK K)); refine hK _ ?_; clear hK K) | ((first | refine b9 fun K1 q8 => ?_ | refine b7 fun A B hA hB => ?_); simp only [S1, simprocAttr, Y5, jl, j0, oc hx, f1, d8, e9, List.length_map]; first | refine q8 _ ?_; clear q8 K1 | ((first | refine hA ?_ | refine hB ?_); clear hA hB A B)) | refine b6 fun K hK => ?_ | ((first | apply b8 | apply b5 | apply c7 | apply c9 | apply d3); try simp only [NB, simprocAttr]))
      all_goals simp only [S1, simprocAttr, ENB, Y5]
    have f1 : (x.1 == 0) = false := by simp [h1]
    have haf := fun h => iF nk c49 (by omega) x h
    have ha49 := mH (ns := ns) (fl := fl) c49 x
    have hale := mG ns fl c x
    have e1 : U2 ns fl l = if (u9 ns fl c x).2 ≠ 0 then (0, (u9 ns fl c x).2) else if (u9 ns fl c x).1 = [] then ((j : Int), 0) else qr ns fl (l.drop (j + 1)) (j + 1) (u9 ns fl c x).1 := by
      rw [hac]; conv => lhs; unfold qr
      rw [if_neg h1]
    obtain ⟨c', e', hce⟩ : ∃ c1 e1, u9 ns fl c x = (c1, e1) := ⟨_, _, rfl⟩
    rw [hce] at haf ha49 hale e1
    simp only at haf ha49 hale e1
    by_cases h2 : e' = 0
    · subst h2
      rw [if_neg (by simp)] at e1
      by_cases h3 : c' = []
      · subst h3
        rw [if_pos rfl] at e1
        rw [e1]
        repeat' (first | ((repeat ((fail_if_success (refine hK _ ?_)); clear hK K)); refine hK _ ?_; clear hK K) | ((first | refine b9 fun K1 q8 => ?_ | refine b7 fun A B hA hB => ?_); simp only [S1, simprocAttr, Y5, jl, j0, oc hx, f1, d8, e9, List.length_map]; first | refine q8 _ ?_; clear q8 K1 | ((first | refine hA ?_ | refine hB ?_); clear hA hB A B) | (apply d4 E11; exact (haf _); refine q8 _ ?_; clear q8 K1)) | refine b6 fun K hK => ?_ | ((first | apply b8 | apply b5 | apply c7 | apply c9 | apply d3); try simp only [NB, simprocAttr]))
        all_goals simp only [S1, simprocAttr, ENB, Y5]
      · rw [if_neg h3] at e1
        have f3 : ((c'.length : Int) == 0) = false := by
          have : c'.length ≠ 0 := fun e => h3 (List.eq_nil_of_length_eq_zero e)
          simp; omega
        repeat' (first | ((repeat ((fail_if_success (refine hK _ ?_)); clear hK K)); refine hK _ ?_; clear hK K) | ((first | refine b9 fun K1 q8 => ?_ | refine b7 fun A B hA hB => ?_); simp only [S1, simprocAttr, Y5, jl, j0, hnx, oc hx, f1, f3, d8, e9, List.length_map]; first | refine q8 _ ?_; clear q8 K1 | ((first | refine hA ?_ | refine hB ?_); clear hA hB A B) | (apply d4 E11; exact (haf _); refine q8 _ ?_; clear q8 K1)) | refine b6 fun K hK => ?_ | ((first | apply b8 | apply b5 | apply c7 | apply c9); try simp only [NB, simprocAttr]))
        all_goals refine ⟨⟨j + 1, c', 0⟩, by simp only; omega, ⟨by simp only; omega, ha49, hale, by simp only; rw [if_neg (by simp)]; exact e1⟩, ?_⟩
        all_goals refine ⟨rfl, ⟨_, rfl⟩, ?_, ⟨trivial, trivial, trivial⟩, trivial⟩
        all_goals simp only [S1, simprocAttr, KNB] <;> (try and_intros) <;> (try assumption) <;> (try trivial) <;> (try omega)
    · have f2 : (e' == 0) = false := by simp [h2]
      rw [if_pos h2] at e1
      by_cases h3 : c' = []
      · subst h3
        repeat' (first | ((repeat ((fail_if_success (refine hK _ ?_)); clear hK K)); refine hK _ ?_; clear hK K) | ((first | refine b9 fun K1 q8 => ?_ | refine b7 fun A B hA hB => ?_); simp only [S1, simprocAttr, Y5, jl, j0, hnx, oc hx, f1, f2, d8, e9, List.length_map]; first | refine q8 _ ?_; clear q8 K1 | ((first | refine hA ?_ | refine hB ?_); clear hA hB A B) | (apply d4 E11; exact (haf _); refine q8 _ ?_; clear q8 K1)) | refine b6 fun K hK => ?_ | ((first | apply b8 | apply b5 | apply c7 | apply c9); try simp only [NB, simprocAttr]))
        all_goals refine ⟨⟨j + 1, [], e'⟩, by simp only; omega, ⟨by simp only; omega, ha49, hale, by simp only; rw [if_pos h2]; exact e1⟩, ?_⟩
        all_goals refine ⟨rfl, ⟨_, rfl⟩, ?_, ⟨trivial, trivial, trivial⟩, trivial⟩
        all_goals simp only [S1, simprocAttr, KNB] <;> (try and_intros) <;> (try assumption) <;> (try trivial) <;> (try omega)
      · have f3 : ((c'.length : Int) == 0) = false := by
          have : c'.length ≠ 0 := fun e => h3 (List.eq_nil_of_length_eq_zero e)
          simp; omega
        repeat' (first | ((repeat ((fail_if_success (refine hK _ ?_)); clear hK K)); refine hK _ ?_; clear hK K) | ((first | refine b9 fun K1 q8 => ?_ | refine b7 fun A B hA hB => ?_); simp only [S1, simprocAttr, Y5, jl, j0, hnx, oc hx, f1, f3, d8, e9, List.length_map]; first | refine q8 _ ?_; clear q8 K1 | ((first | refine hA ?_ | refine hB ?_); clear hA hB A B) | (apply d4 E11; exact (haf _); refine q8 _ ?_; clear q8 K1)) | refine b6 fun K hK => ?_ | ((first | apply b8 | apply b5 | apply c7 | apply c9); try simp only [NB, simprocAttr]))
        all_goals refine ⟨⟨j + 1, c', e'⟩, by simp only; omega, ⟨by simp only; omega, ha49, hale, by simp only; rw [if_pos h2]; exact e1⟩, ?_⟩
        all_goals refine ⟨rfl, ⟨_, rfl⟩, ?_, ⟨trivial, trivial, trivial⟩, trivial⟩
        all_goals simp only [S1, simprocAttr, KNB] <;> (try and_intros) <;> (try assumption) <;> (try trivial) <;> (try omega)
  · obtain rfl : j = l.length := by omega
    by_cases he : e = 0
    · subst he
      rw [if_neg (by simp), List.drop_length] at hac
      have e1 : U2 ns fl l = ((l.length : Int), 0) := by rw [hac]; rfl
      repeat' (first | ((repeat ((fail_if_success (refine hK _ ?_)); clear hK K)); refine hK _ ?_; clear hK K) | ((first | refine b9 fun K1 q8 => ?_ | refine b7 fun A B hA hB => ?_); simp only [S1, simprocAttr, Y5, Int.lt_irrefl, List.length_map]; first | refine q8 _ ?_; clear q8 K1 | (refine hB ?_; clear hA hB A B)) | refine b6 fun K hK => ?_ | ((first | apply b8 | apply b5 | apply f9 | apply c9 | apply d3); try simp only [NB, simprocAttr]))
      all_goals simp only [S1, simprocAttr, ENB, Y5]
      all_goals rw [e1]
    · have f0 : (e != 0) = true := by simp [he]
      rw [if_pos he] at hac
      repeat' (first | ((repeat ((fail_if_success (refine hK _ ?_)); clear hK K)); refine hK _ ?_; clear hK K) | ((first | refine b9 fun K1 q8 => ?_ | refine b7 fun A B hA hB => ?_); simp only [S1, simprocAttr, Y5, Int.lt_irrefl, f0, List.length_map]; first | refine q8 _ ?_; clear q8 K1 | ((first | refine hA ?_ | refine hB ?_); clear hA hB A B)) | refine b6 fun K hK => ?_ | ((first | apply b8 | apply b5 | apply f9 | apply d3); try simp only [NB, simprocAttr]))
      all_goals simp only [S1, simprocAttr, ENB, Y5]
      all_goals rw [hac]
end
section
def K7 := And.intro T2 (And.intro T3 (And.intro T4 (And.intro T28 (And.intro T41 T44))))
attribute [local irreducible] awp n9 k8 l8 o5 m9
variable {G : Nat → Option (List PV)}
theorem bi (x : Int) (h : Heap) : d5 Tryz.prog G 94 [.i x] h (fun r h' => r = .b false ∧ h' = h) := by
  have hx : (x != x) = false := by simp
  refine c8 (rl := []) d7 Tryz.func94 rfl (rs := [.tmp 2]) rfl Tryz.ntmps94 (by simp) ?_
  repeat' (first | ((repeat ((fail_if_success (refine hK _ ?_)); clear hK K)); refine hK _ ?_; clear hK K) | (refine b9 fun K1 q8 => ?_; simp only [S1, simprocAttr, K7, hx]; refine q8 _ ?_; clear q8 K1) | refine b6 fun K hK => ?_ | ((first | apply b8 | apply b5 | apply d3); try simp only [NB, simprocAttr]))
  all_goals simp only [S1, simprocAttr, ENB, K7]
theorem kO (x y : Int) (h : Heap) : d5 Tryz.prog G 63 [.i x, .i y] h (fun r h' => r = .i (O0 x y) ∧ h' = h) := by
  by_cases h1 : x < y
  · have e : O0 x y = -1 := by unfold O0; rw [if_pos h1]
    rw [e]
    refine c8 (rl := []) d7 Tryz.func63 rfl (rs := [.tmp 4]) rfl Tryz.ntmps63 (by simp) ?_
    repeat' (first | ((repeat ((fail_if_success (refine hK _ ?_)); clear hK K)); refine hK _ ?_; clear hK K) | ((first | refine b9 fun K1 q8 => ?_ | refine b7 fun A B hA hB => ?_); simp only [S1, simprocAttr, K7, h1]; first | refine q8 _ ?_; clear q8 K1 | ((first | refine hA ?_ | refine hB ?_); clear hA hB A B) | (apply d4 E94; exact (bi _ _); refine q8 _ ?_; clear q8 K1)) | refine b6 fun K hK => ?_ | ((first | apply b8 | apply b5 | apply c9 | apply d3); try simp only [NB, simprocAttr]))
    all_goals simp only [S1, simprocAttr, ENB, K7]
  · by_cases h2 : y < x
    · have e : O0 x y = 1 := by unfold O0; rw [if_neg h1, if_pos h2]
      rw [e]
      refine c8 (rl := []) d7 Tryz.func63 rfl (rs := [.tmp 4]) rfl Tryz.ntmps63 (by simp) ?_
      repeat' (first | ((repeat ((fail_if_success (refine hK _ ?_)); clear hK K)); refine hK _ ?_; clear hK K) | ((first | refine b9 fun K1 q8 => ?_ | refine b7 fun A B hA hB => ?_); simp only [S1, simprocAttr, K7, h1, h2]; first | refine q8 _ ?_; clear q8 K1 | ((first | refine hA ?_ | refine hB ?_); clear hA hB A B) | (apply d4 E94; exact (bi _ _); refine q8 _ ?_; clear q8 K1)) | refine b6 fun K hK => ?_ | ((first | apply b8 | apply b5 | apply c9 | apply d3); try simp only [NB, simprocAttr]))
      all_goals simp only [S1, simprocAttr, ENB, K7]
    · have e : O0 x y = 0 := by unfold O0; rw [if_neg h1, if_neg h2]
      rw [e]
      refine c8 (rl := []) d7 Tryz.func63 rfl (rs := [.tmp 4]) rfl Tryz.ntmps63 (by simp) ?_
      repeat' (first | ((repeat ((fail_if_success (refine hK _ ?_)); clear hK K)); refine hK _ ?_; clear hK K) | ((first | refine b9 fun K1 q8 => ?_ | refine b7 fun A B hA hB => ?_); simp only [S1, simprocAttr, K7, h1, h2]; first | refine q8 _ ?_; clear q8 K1 | (refine hB ?_; clear hA hB A B) | (apply d4 E94; exact (bi _ _); refine q8 _ ?_; clear q8 K1)) | refine b6 fun K hK => ?_ | ((first | apply b8 | apply b5 | apply c9 | apply d3); try simp only [NB, simprocAttr]))
      all_goals simp only [S1, simprocAttr, ENB, K7]
theorem uV (l : List Int) (hl : l.length ≤ 100) (h : Heap) : d5 Tryz.prog G 62 [.p (.sl (l.map fun n => [.int .i64 n]))] h (fun r h' => r = .i (kE l) ∧ h' = h) := by
  refine c8 (rl := []) d7 Tryz.func62 rfl (rs := [.tmp 2]) rfl Tryz.ntmps62 (by simp) ?_
  repeat' (first | ((repeat ((fail_if_success (refine hK _ ?_)); clear hK K)); refine hK _ ?_; clear hK K) | (refine b9 fun K1 q8 => ?_; simp only [S1, simprocAttr, K7, List.length_map]; refine q8 _ ?_; clear q8 K1) | refine b6 fun K hK => ?_ | ((first | apply b8 | apply b5 | apply c7); try simp only [NB, simprocAttr]))
  refine o9 l.length 18 (fun j => [(8, .i j), (7, .i l.length), (6, .p (.sl (l.map fun n => [.int .i64 n]))), (3, .i 0)]) (fun j => []) (fun j => kE l = kE (l.drop j)) ?_ rfl fun j hj hp K hK => ?_
  · (refine ⟨rfl, (by first | exact ⟨_, rfl⟩ | exact ⟨[], by simp⟩), ?_, ?_⟩ <;> simp only [S1, simprocAttr, KNB] <;> (try and_intros) <;> (try assumption) <;> (try trivial) <;> (try omega))
  rcases Nat.lt_or_ge j l.length with hlt | hge
  · obtain ⟨y, hy⟩ : ∃ y, l[j]? = some y := ⟨_, List.getElem?_eq_getElem hlt⟩
    have hx : (l.map fun n => [PV.int .i64 n])[j]? = some [.int .i64 y] := by rw [List.getElem?_map, hy]; rfl
    have jl : (j : Int) < (l.length : Int) := by omega
    have j0 : (0 : Int) ≤ (j : Int) := by omega
    have hnx : IntKind.i64.wrap ((j : Int) + 1) = ((j + 1 : Nat) : Int) := by rw [IntWalk.i64_in _ (by omega)]; omega
    have hd : kE (l.drop j) = if y = 0 then kE (l.drop (j + 1)) else y := by
      rw [List.drop_eq_getElem_cons hlt, (List.getElem?_eq_some_iff.mp hy).2]; rfl
    by_cases hz : y = 0
    · subst hz
      have hb : ((0 : Int) != 0) = false := rfl
      repeat' (first | ((repeat ((fail_if_success (refine hK _ ?_)); clear hK K)); refine hK _ ?_; clear hK K) | ((first | refine b9 fun K1 q8 => ?_ | refine b7 fun A B hA hB => ?_); simp only [S1, simprocAttr, K7, jl, j0, hx, hnx, hb, List.length_map]; first | refine q8 _ ?_; clear q8 K1 | ((first | refine hA ?_ | refine hB ?_); clear hA hB A B)) | refine b6 fun K hK => ?_ | ((first | apply b8 | apply b5 | apply c7 | apply c9); try simp only [NB, simprocAttr]))
      all_goals refine ⟨hlt, ?_, ?_⟩
      all_goals first | (rw [hp, hd]; rfl) | (refine ⟨rfl, (by first | exact ⟨_, rfl⟩ | exact ⟨[], by simp⟩), ?_, ?_⟩ <;> simp only [S1, simprocAttr, KNB] <;> (try and_intros) <;> (try assumption) <;> (try trivial) <;> (try omega))
    · have hb : (y != 0) = true := by simpa using hz
      rw [if_neg hz] at hd
      repeat' (first | ((repeat ((fail_if_success (refine hK _ ?_)); clear hK K)); refine hK _ ?_; clear hK K) | ((first | refine b9 fun K1 q8 => ?_ | refine b7 fun A B hA hB => ?_); simp only [S1, simprocAttr, K7, jl, j0, hx, hnx, hb, List.length_map]; first | refine q8 _ ?_; clear q8 K1 | (refine hA ?_; clear hA hB A B)) | refine b6 fun K hK => ?_ | ((first | apply b8 | apply b5 | apply c7 | apply c9 | apply d3); try simp only [NB, simprocAttr]))
      all_goals simp only [S1, simprocAttr, ENB, K7]
      all_goals rw [hp, hd]
      all_goals trivial
  · obtain rfl : j = l.length := by omega
    repeat' (first | ((repeat ((fail_if_success (refine hK _ ?_)); clear hK K)); refine hK _ ?_; clear hK K) | ((first | refine b9 fun K1 q8 => ?_ | refine b7 fun A B hA hB => ?_); simp only [S1, simprocAttr, K7, Int.lt_irrefl]; first | refine q8 _ ?_; clear q8 K1 | (refine hB ?_; clear hA hB A B)) | refine b6 fun K hK => ?_ | ((first | apply b8 | apply b5 | apply f9 | apply d3); try simp only [NB, simprocAttr]))
    all_goals simp only [S1, simprocAttr, ENB, K7]
    rw [List.drop_length] at hp
    simp [hp, kE]
theorem kP (x y : Lb) (h : Heap) : d5 Tryz.prog G 40 [aL x, aL y] h (fun r h' => r = .i (iy x y) ∧ h' = h) := by
  have ho := fun h => uV (G := G) [O0 x.1 y.1, O0 x.2.1 y.2.1, O0 x.2.2 y.2.2] (by simp) h
  have ec : iy x y = kE [O0 x.1 y.1, O0 x.2.1 y.2.1, O0 x.2.2 y.2.2] := rfl
  rw [← ec] at ho
  refine c8 (rl := []) d7 Tryz.func40 rfl (rs := [.tmp 4]) rfl Tryz.ntmps40 (by simp) ?_
  repeat' (first | ((repeat ((fail_if_success (refine hK _ ?_)); clear hK K)); refine hK _ ?_; clear hK K) | ((first | refine b9 fun K1 q8 => ?_ | refine j9 fun K1 q8 => ?_); simp only [S1, simprocAttr, K7]; first | refine q8 _ ?_; clear q8 K1 | (apply j4 E63; exact (kO _ _ _); refine q8 _ ?_; clear q8 K1) | (apply j4 E62; exact (ho _); refine q8 _ ?_; clear q8 K1)) | refine b6 fun K hK => ?_ | ((first | apply b8 | apply i5 | apply b5 | refine i6 ?_ | apply d3); try simp only [NB, simprocAttr]))
  all_goals simp only [S1, simprocAttr, ENB, K7]
theorem qs (x y : Lb) (h : Heap) : d5 Tryz.prog G 26 [aL x, aL y] h (fun r h' => r = .b (decide (ltL x y)) ∧ h' = h) := by
  by_cases h1 : x.1 = y.1
  · have f1 : (x.1 != y.1) = false := by simp [h1]
    by_cases h2 : x.2.1 = y.2.1
    · have f2 : (x.2.1 != y.2.1) = false := by simp [h2]
      have e : decide (ltL x y) = decide (x.2.2 < y.2.2) := decide_eq_decide.mpr (by unfold ltL; omega)
      rw [e]
      refine c8 (rl := []) d7 Tryz.func26 rfl (rs := [.tmp 4]) rfl Tryz.ntmps26 (by simp) ?_
      repeat' (first | ((repeat ((fail_if_success (refine hK _ ?_)); clear hK K)); refine hK _ ?_; clear hK K) | ((first | refine b9 fun K1 q8 => ?_ | refine b7 fun A B hA hB => ?_); simp only [S1, simprocAttr, K7, f1, f2]; first | refine q8 _ ?_; clear q8 K1 | (refine hB ?_; clear hA hB A B)) | refine b6 fun K hK => ?_ | ((first | apply b8 | apply b5 | apply c9 | apply d3); try simp only [NB, simprocAttr]))
      all_goals simp only [S1, simprocAttr, ENB, K7]
    · have f2 : (x.2.1 != y.2.1) = true := by simp [h2]
      have e : decide (ltL x y) = decide (x.2.1 < y.2.1) := decide_eq_decide.mpr (by unfold ltL; omega)
      rw [e]
      refine c8 (rl := []) d7 Tryz.func26 rfl (rs := [.tmp 4]) rfl Tryz.ntmps26 (by simp) ?_
      repeat' (first | ((repeat ((fail_if_success (refine hK _ ?_)); clear hK K)); refine hK _ ?_; clear hK K) | ((first | refine b9 fun K1 q8 => ?_ | refine b7 fun A B hA hB => ?_); simp only [S1, simprocAttr, K7, f1, f2]; first | refine q8 _ ?_; clear q8 K1 | ((first | refine hA ?_ | refine hB ?_); clear hA hB A B)) | refine b6 fun K hK => ?_ | ((first | apply b8 | apply b5 | apply c9 | apply d3); try simp only [NB, simprocAttr]))
      all_goals simp only [S1, simprocAttr, ENB, K7]
  · have f1 : (x.1 != y.1) = true := by simp [h1]
    have e : decide (ltL x y) = decide (x.1 < y.1) := decide_eq_decide.mpr (by unfold ltL; omega)
    rw [e]
    refine c8 (rl := []) d7 Tryz.func26 rfl (rs := [.tmp 4]) rfl Tryz.ntmps26 (by simp) ?_
    repeat' (first | ((repeat ((fail_if_success (refine hK _ ?_)); clear hK K)); refine hK _ ?_; clear hK K) | ((first | refine b9 fun K1 q8 => ?_ | refine b7 fun A B hA hB => ?_); simp only [S1, simprocAttr, K7, f1]; first | refine q8 _ ?_; clear q8 K1 | (refine hA ?_; clear hA hB A B)) | refine b6 fun K hK => ?_ | ((first | apply b8 | apply b5 | apply d3); try simp only [NB, simprocAttr]))
    all_goals simp only [S1, simprocAttr, ENB, K7]
end
section
def iG := And.intro T2 (And.intro T3 (And.intro T4 (And.intro T28 (And.intro T41 T44))))
attribute [local irreducible] awp n9 k8 l8 o5 m9
variable {G : Nat → Option (List PV)}
def cLs (l : List Lb) : List AV := (l.flatMap uD).map AV.i
theorem U3 : ∀ l : List Lb, (cLs l).length = l.length * 3
  | [] => rfl
  | x :: l => by
    have := U3 l
    unfold cLs at this ⊢
    rw [List.flatMap_cons, List.map_append, List.length_append, this, List.length_cons]
    show 3 + l.length * 3 = _
    omega
theorem ao (x : Lb) (l : List Lb) : cLs (x :: l) = .i x.1 :: .i x.2.1 :: .i x.2.2 :: cLs l := rfl
theorem fA (l m : List Lb) : cLs (l ++ m) = cLs l ++ cLs m := by unfold cLs; rw [List.flatMap_append, List.map_append]
theorem kQ : ∀ (j : Nat) (l : List Lb), (cLs l).drop (j * 3) = cLs (l.drop j)
  | 0, l => by simp
  | j + 1, [] => by simp [cLs]
  | j + 1, x :: l => by
    rw [List.drop_succ_cons, ← kQ j l, ao, show (j + 1) * 3 = j * 3 + 1 + 1 + 1 by omega]; rfl
theorem oe {l : List Lb} {j : Nat} {x : Lb} (h : l[j]? = some x) : (cLs l).drop (j * 3) = .i x.1 :: .i x.2.1 :: .i x.2.2 :: cLs (l.drop (j + 1)) := by
  rw [kQ, List.drop_eq_getElem_cons (List.getElem?_eq_some_iff.mp h).1, (List.getElem?_eq_some_iff.mp h).2, ao]
theorem qu (j : Nat) (l : List Lb) : (cLs l).take (j * 3) = cLs (l.take j) := by
  induction j generalizing l with
  | zero => simp [cLs]
  | succ j ih =>
    cases l with
    | nil => simp [cLs]
    | cons x l => rw [List.take_succ_cons, ao, ao, ← ih, show (j + 1) * 3 = j * 3 + 1 + 1 + 1 by omega]; rfl
theorem xa {l : List Lb} {j : Nat} (h : j < l.length) (x : Lb) : u5 (cLs l) (j * 3) [.i x.1, .i x.2.1, .i x.2.2] = cLs (l.set j x) := by
  have h3 : (cLs l).length = l.length * 3 := U3 l
  have e1 : u5 (cLs l) (j * 3) [AV.i x.1, AV.i x.2.1, AV.i x.2.2] = (cLs l).take (j * 3) ++ ([AV.i x.1, AV.i x.2.1, AV.i x.2.2] ++ (cLs l).drop (j * 3 + 3)) := by
    rw [ak _ _ _ (by rw [h3]; simp; omega)]
    simp
  rw [e1, qu, show j * 3 + 3 = (j + 1) * 3 by omega, kQ, List.set_eq_take_append_cons_drop, if_pos h, fA, ao]
  rfl
theorem U4 (l : List Lb) (n : Nat) : o4 n (cLs l) := g9 _ _
theorem dT : ∀ (p : List Lb) (z y : Lb), F2 (p ++ [z] ++ [y]) = F2 (p ++ [z]) ++ if z = y then [] else [y]
  | [], z, y => by
    simp only [List.nil_append, List.cons_append]
    unfold F2
    split
    · rename_i e; simp [F2, e]
    · simp [F2]
  | [a], z, y => by
    have := dT [] z y
    simp only [List.nil_append, List.cons_append] at this ⊢
    unfold F2
    split
    · exact this
    · rw [this]; rfl
  | a :: b :: p, z, y => by
    have := dT (b :: p) z y
    simp only [List.cons_append] at this ⊢
    unfold F2
    split
    · exact this
    · rw [this]; rfl
theorem kR {l : List Lb} {m : Nat} {z y : Lb} (hz : l[m]? = some z) (hy : l[m + 1]? = some y) : F2 (l.take (m + 2)) = F2 (l.take (m + 1)) ++ if z = y then [] else [y] := by
  have e1 : l.take (m + 1) = l.take m ++ [z] := by rw [List.take_add_one, hz]; rfl
  have e2 : l.take (m + 2) = l.take m ++ [z] ++ [y] := by rw [List.take_add_one, hy, e1]; rfl
  rw [e2, e1, dT]
theorem U5 (by' : Nat) (z : Option (List PV)) (fs : List (Nat × Nat × Nat)) (a b c : AV) (r : List AV) : O8 ⟨.struct fs, 3, by', z⟩ (a :: b :: c :: r) = some (.agg [a, b, c]) := by
  unfold O8; simp [TI.isAgg]
structure Qcp where
  j : Nat
  k : Nat
  cur : List Lb
theorem Bo (m : Nat) : (List.replicate m [AV.i 0, AV.i 0, AV.i 0]).flatMap id = cLs (List.replicate m (0, 0, 0)) := by
  induction m with
  | zero => rfl
  | succ m ih => rw [List.replicate_succ, List.replicate_succ, List.flatMap_cons, ih, ao]; rfl
def bF (h : Heap) (b g : Nat) (l : List Lb) : Heap := h.set b (some ⟨g, cLs l⟩)
theorem fB (h : Heap) (b g : Nat) (l : List Lb) : (bF h b g l).length = h.length := by simp [bF]
theorem mI {h : Heap} {b : Nat} (hb : b < h.length) (g : Nat) (l : List Lb) : (bF h b g l)[b]? = some (some ⟨g, cLs l⟩) := by unfold bF; rw [List.getElem?_set_self hb]
theorem qv (h : Heap) (b g : Nat) (l m : List Lb) : (bF h b g l).set b (some ⟨g, cLs m⟩) = bF h b g m := by unfold bF; rw [List.set_set]
theorem uW (h : Heap) (b g : Nat) (l : List Lb) : (bF h b g l).length = h.length ∧ ∀ (c : Nat) (bk : Blk), (bF h b g l)[c]? = some (some bk) → h[c]? = some (some bk) ∨ o4 h.length bk.cells := by
  refine ⟨fB _ _ _ _, fun c bk hc => ?_⟩
  unfold bF at hc
  rw [List.getElem?_set] at hc
  split at hc
  · split at hc
    · cases hc; exact .inr (U4 _ _)
    · cases hc
  · exact .inl hc
theorem mJ {h : Heap} {b g : Nat} {l : List Lb} (hb : h[b]? = some (some ⟨g, cLs l⟩)) : bF h b g l = h := by
  have hbl : b < h.length := j6 hb
  apply List.ext_getElem?
  intro i
  unfold bF
  rw [List.getElem?_set]
  split
  · rename_i e; subst e; first | exact hb.symm | (rw [if_pos hbl]; exact hb.symm)
  · rfl
theorem lx {l : List Lb} (hl : l.length ≤ 16000000) {h : Heap} {b g : Nat} (hb : h[b]? = some (some ⟨g, cLs l⟩)) :
    d5 Tryz.prog G 41 [.ref b g 0 3 l.length] h (fun r h' => r = .ref b g 0 3 (F2 l).length ∧ h' = bF h b g (F2 l ++ List.replicate (l.length - (F2 l).length) (0, 0, 0))) := by
  have hbl : b < h.length := j6 hb
  have hself := mJ hb
  have hcl := U3 l
  have hnt := Tryz.ntmps41
  by_cases h2 : l.length < 2
  · have e : F2 l = l := by
      match l, h2 with
      | [], _ => rfl
      | [x], _ => rfl
    have f2 : (l.length : Int) < 2 := by omega
    rw [e, Nat.sub_self, List.replicate_zero, List.append_nil, hself]
    refine Sim.evoKeep (rl := []) d7 Tryz.func41 rfl (by rw [hnt]; simp) ?_
    rw [hnt]
    repeat' (first | ((repeat ((fail_if_success (refine hK _ ?_)); clear hK K)); refine hK _ ?_; clear hK K) | ((first | refine b9 fun K1 q8 => ?_ | refine b7 fun A B hA hB => ?_); simp only [S1, simprocAttr, iG, f2]; first | refine q8 _ ?_; clear q8 K1 | (refine hA ?_; clear hA hB A B)) | refine b6 fun K hK => ?_ | ((first | apply b8 | apply b5 | apply d3); try simp only [NB, simprocAttr]))
    all_goals exact ⟨.inr trivial, eP (t := 2) rfl (Nat.le_refl _) ⟨rfl, rfl⟩⟩
  have f2 : ¬ (l.length : Int) < 2 := by omega
  refine Sim.evoKeep (rl := []) d7 Tryz.func41 rfl (by rw [hnt]; simp) ?_
  rw [hnt]
  repeat' (first | ((repeat ((fail_if_success (refine hK _ ?_)); clear hK K)); refine hK _ ?_; clear hK K) | ((first | refine b9 fun K1 q8 => ?_ | refine b7 fun A B hA hB => ?_); simp only [S1, simprocAttr, iG, f2]; first | refine q8 _ ?_; clear q8 K1 | (refine hB ?_; clear hA hB A B)) | refine b6 fun K hK => ?_ | ((first | apply b8 | apply b5 | apply c7 | apply c9); try simp only [NB, simprocAttr]))
  refine K3 (σ := Nat) (fun k => l.length - k) 61 (fun k => [(3, .i k), (0, .ref b g 0 3 l.length)]) (fun k => []) (fun k => 1 ≤ k ∧ k ≤ l.length ∧ F2 (l.take k) = l.take k) 1 ?_ ⟨by omega, by omega, by
    match l with
    | [] => rfl
    | [x] => rfl
    | x :: y :: r => rfl⟩ fun k hp K hK => ?_
  · (refine ⟨rfl, (by first | exact ⟨_, rfl⟩ | exact ⟨[], by simp⟩), ?_, ?_⟩ <;> simp only [S1, simprocAttr, KNB] <;> (try and_intros) <;> (try assumption) <;> (try trivial) <;> (try omega))
  obtain ⟨k1, kn, hon⟩ := hp
  rcases Nat.lt_or_ge k l.length with hlt | hge
  · obtain ⟨y, hy⟩ : ∃ y, l[k]? = some y := ⟨_, List.getElem?_eq_getElem hlt⟩
    obtain ⟨z, hz⟩ : ∃ z, l[k - 1]? = some z := ⟨_, List.getElem?_eq_getElem (by omega)⟩
    have hkk : k - 1 + 1 = k := by omega
    have hon2 := kR (m := k - 1) hz (by rw [hkk]; exact hy)
    rw [show k - 1 + 2 = k + 1 by omega, hkk, hon] at hon2
    have kl : (k : Int) < (l.length : Int) := by omega
    have k0 : (0 : Int) ≤ (k : Int) := by omega
    have hnk : IntKind.i64.wrap ((k : Int) + 1) = ((k + 1 : Nat) : Int) := by rw [IntWalk.i64_in _ (by omega)]; omega
    have hpk : IntKind.i64.wrap ((k : Int) - 1) = ((k - 1 : Nat) : Int) := by rw [IntWalk.i64_in _ (by omega)]; omega
    have kp0 : (0 : Int) ≤ ((k - 1 : Nat) : Int) := by omega
    have kpl : ((k - 1 : Nat) : Int) < (l.length : Int) := by omega
    have hdy := oe hy
    have hdz := oe hz
    have heq := uR y z
    have heq : y8 true [.p (.int .i64 y.1), .p (.int .i64 y.2.1), .p (.int .i64 y.2.2)] [.p (.int .i64 z.1), .p (.int .i64 z.2.1), .p (.int .i64 z.2.2)] = some (decide (y = z)) := heq
    by_cases hyz : y = z
    case neg =>
      rw [decide_eq_false hyz] at heq
      rw [if_neg (fun e => hyz e.symm)] at hon2
      have hon3 : F2 (l.take (k + 1)) = l.take (k + 1) := by rw [hon2, List.take_add_one, hy]; rfl
      repeat' (first | ((repeat ((fail_if_success (refine hK _ ?_)); clear hK K)); refine hK _ ?_; clear hK K) | ((first | refine b9 fun K1 q8 => ?_ | refine j9 fun K1 q8 => ?_ | refine b7 fun A B hA hB => ?_); simp only [S1, simprocAttr, iG, kl, k0, hnk, hpk, kp0, kpl, hb, hdy, hdz, heq, eqA, W28, U5]; first | refine q8 _ ?_; clear q8 K1 | ((first | refine hA ?_ | refine hB ?_); clear hA hB A B)) | refine b6 fun K hK => ?_ | ((first | apply b8 | apply i5 | apply b5 | refine i6 ?_ | apply c7 | apply c9); try simp only [NB, simprocAttr]))
      all_goals refine ⟨k + 1, by omega, ⟨by omega, by omega, hon3⟩, ?_⟩
      all_goals (refine ⟨rfl, (by first | exact ⟨_, rfl⟩ | exact ⟨[], by simp⟩), ?_, ?_⟩ <;> simp only [S1, simprocAttr, KNB] <;> (try and_intros) <;> (try assumption) <;> (try trivial) <;> (try omega))
    rw [decide_eq_true hyz] at heq
    rw [if_pos hyz.symm, List.append_nil] at hon2
    have hsl : k ≤ l.length := kn
    have hnl : (l.take k).length = k := by rw [List.length_take]; omega
    repeat' (first | ((repeat ((fail_if_success (refine hK _ ?_)); clear hK K)); refine hK _ ?_; clear hK K) | ((first | refine b9 fun K1 q8 => ?_ | refine j9 fun K1 q8 => ?_ | refine b7 fun A B hA hB => ?_); simp only [S1, simprocAttr, iG, kl, k0, hnk, hpk, kp0, kpl, hsl, Nat.le_refl, hb, hdy, hdz, heq, eqA, W28, U5]; first | refine q8 _ ?_; clear q8 K1 | (refine hA ?_; clear hA hB A B)) | refine b6 fun K hK => ?_ | ((first | apply b8 | apply i5 | apply b5 | refine i6 ?_ | apply c7 | apply c9); try simp only [NB, simprocAttr]))
    refine ss (σ := Qcp) (fun q => l.length - k - q.j) 61 (fun q => bF h b g q.cur) (fun q => [(5, .i q.j), (4, .ref b g (k * 3) 3 (l.length - k)), (3, .i q.k), (0, .ref b g 0 3 l.length)]) (fun q => [])
      (fun q => 1 ≤ q.j ∧ k + q.j ≤ l.length ∧ q.cur.length = l.length ∧ q.k = (F2 (l.take (k + q.j))).length ∧ q.k + 1 ≤ k + q.j ∧ q.cur.take q.k = F2 (l.take (k + q.j)) ∧ ∀ i, k + q.j - 1 ≤ i → q.cur[i]? = l[i]?) ⟨1, k, l⟩ (fun q => uW h b g q.cur) ?_ ?_ fun q hp K hK => ?_
    · simp only [hself]
      (refine ⟨rfl, (by first | exact ⟨_, rfl⟩ | exact ⟨[], by simp⟩), ?_, ?_⟩ <;> simp only [S1, simprocAttr, KNB] <;> (try and_intros) <;> (try assumption) <;> (try trivial) <;> (try omega))
    · exact ⟨Nat.le_refl _, by show k + 1 ≤ _; omega, rfl, by show k = (F2 (l.take (k + 1))).length; rw [hon2, hnl], Nat.le_refl _, hon2.symm, fun i _ => rfl⟩
    obtain ⟨j, kk, cur⟩ := q
    obtain ⟨p1, p2, p3, p4, p5, p6, p7⟩ := hp
    simp only at p1 p2 p3 p4 p5 p6 p7 hK ⊢
    rw [List.append_nil]
    have hg := mI hbl g cur
    have hcc := U3 cur
    have kk0 : (0 : Int) ≤ (kk : Int) := by omega
    rcases Nat.lt_or_ge (k + j) l.length with hlj | hgj
    · obtain ⟨y2, hy2⟩ : ∃ y, l[k + j]? = some y := ⟨_, List.getElem?_eq_getElem hlj⟩
      obtain ⟨z2, hz2⟩ : ∃ z, l[k + j - 1]? = some z := ⟨_, List.getElem?_eq_getElem (by omega)⟩
      have hjj : k + j - 1 + 1 = k + j := by omega
      have ho := kR (m := k + j - 1) hz2 (by rw [hjj]; exact hy2)
      rw [show k + j - 1 + 2 = k + j + 1 by omega, hjj] at ho
      have cy := (p7 (k + j) (by omega)).trans hy2
      have cz := (p7 (k + j - 1) (Nat.le_refl _)).trans hz2
      have jl : (j : Int) < ((l.length - k : Nat) : Int) := by omega
      have j0 : (0 : Int) ≤ (j : Int) := by omega
      have hnj : IntKind.i64.wrap ((j : Int) + 1) = ((j + 1 : Nat) : Int) := by rw [IntWalk.i64_in _ (by omega)]; omega
      have hpj : IntKind.i64.wrap ((j : Int) - 1) = ((j - 1 : Nat) : Int) := by rw [IntWalk.i64_in _ (by omega)]; omega
      have jp0 : (0 : Int) ≤ ((j - 1 : Nat) : Int) := by omega
      have jpl : ((j - 1 : Nat) : Int) < ((l.length - k : Nat) : Int) := by omega
      have kkl : (kk : Int) < (l.length : Int) := by omega
      have hnkk : IntKind.i64.wrap ((kk : Int) + 1) = ((kk + 1 : Nat) : Int) := by rw [IntWalk.i64_in _ (by omega)]; omega
      have hdy := oe cy
      have hdz := oe cz
      have ey : k * 3 + j * 3 = (k + j) * 3 := by omega
      have ez : k * 3 + (j - 1) * 3 = (k + j - 1) * 3 := by omega
      have heq := uR y2 z2
      have heq : y8 true [.p (.int .i64 y2.1), .p (.int .i64 y2.2.1), .p (.int .i64 y2.2.2)] [.p (.int .i64 z2.1), .p (.int .i64 z2.2.1), .p (.int .i64 z2.2.2)] = some (decide (y2 = z2)) := heq
      by_cases hyz2 : y2 = z2
      · rw [decide_eq_true hyz2] at heq
        rw [if_pos hyz2.symm, List.append_nil] at ho
        repeat' (first | ((repeat ((fail_if_success (refine hK _ ?_)); clear hK K)); refine hK _ ?_; clear hK K) | ((first | refine b9 fun K1 q8 => ?_ | refine j9 fun K1 q8 => ?_ | refine b7 fun A B hA hB => ?_); simp only [S1, simprocAttr, iG, jl, j0, hnj, hpj, jp0, jpl, ey, ez, hg, hdy, hdz, heq, eqA, W28, U5]; first | refine q8 _ ?_; clear q8 K1 | ((first | refine hA ?_ | refine hB ?_); clear hA hB A B)) | refine b6 fun K hK => ?_ | ((first | apply b8 | apply i5 | apply b5 | refine i6 ?_ | apply c7 | apply c9); try simp only [NB, simprocAttr]))
        all_goals refine ⟨⟨j + 1, kk, cur⟩, by simp only; omega, ⟨by simp only; omega, by simp only; omega, p3, by simp only; rw [← Nat.add_assoc, ho]; exact p4, by simp only; omega, by simp only; rw [← Nat.add_assoc, ho]; exact p6, fun i hi => p7 i (by simp only at hi; omega)⟩, ?_⟩
        all_goals refine ⟨rfl, ⟨[], by simp⟩, ?_, trivial⟩
        all_goals simp only [fB]
        all_goals simp only [S1, simprocAttr, KNB] <;> (try and_intros) <;> (try assumption) <;> (try trivial) <;> (try omega)
      · rw [decide_eq_false hyz2] at heq
        rw [if_neg (fun e => hyz2 e.symm)] at ho
        have hov := xa (l := cur) (j := kk) (by omega) y2
        have hst := qv h b g cur (cur.set kk y2)
        have hsl3 : kk * 3 + 3 ≤ cur.length * 3 := by omega
        repeat' (first | ((repeat ((fail_if_success (refine hK _ ?_)); clear hK K)); refine hK _ ?_; clear hK K) | ((first | refine b9 fun K1 q8 => ?_ | refine j9 fun K1 q8 => ?_ | refine b7 fun A B hA hB => ?_); simp only [S1, simprocAttr, iG, jl, j0, hnj, hpj, jp0, jpl, kkl, kk0, hnkk, ey, ez, hg, hdy, hdz, heq, hov, hst, hcc, hsl3, eqA, W28, U5]; first | refine q8 _ ?_; clear q8 K1 | (refine hA ?_; clear hA hB A B)) | refine b6 fun K hK => ?_ | ((first | apply b8 | apply i5 | apply b5 | refine i6 ?_ | apply c7 | apply c9); try simp only [NB, simprocAttr]))
        all_goals refine ⟨⟨j + 1, kk + 1, cur.set kk y2⟩, by simp only; omega, ⟨by simp only; omega, by simp only; omega, by simp only [List.length_set]; exact p3, by simp only; rw [← Nat.add_assoc, ho, List.length_append, ← p4]; rfl, by simp only; omega, by
            simp only
            rw [← Nat.add_assoc, ho, ← p6, List.take_add_one, List.getElem?_set_self (by omega), List.take_set_of_le (Nat.le_refl _)]; rfl, fun i hi => by
            simp only at hi ⊢
            rw [List.getElem?_set_ne (by omega)]
            exact p7 i (by omega)⟩, ?_⟩
        all_goals refine ⟨rfl, ⟨[], by simp only [List.append_nil]; rw [← hst, ← hov]; rfl⟩, ?_, trivial⟩
        all_goals simp only [fB]
        all_goals simp only [S1, simprocAttr, KNB] <;> (try and_intros) <;> (try assumption) <;> (try trivial) <;> (try omega)
    · have hjn : k + j = l.length := by omega
      rw [hjn, List.take_length] at p4 p6
      have jl : ¬ (j : Int) < ((l.length - k : Nat) : Int) := by omega
      have kkl : kk ≤ l.length := by omega
      have hnz : ¬ l.length - kk = 0 := by omega
      have hfit : kk * 3 + (l.length - kk) * 3 ≤ cur.length * 3 := by rw [p3]; omega
      have hct := qu kk cur
      rw [p6] at hct
      have hdr : (cLs cur).drop (kk * 3 + (l.length - kk) * 3) = [] := List.drop_of_length_le (by rw [hcc]; omega)
      have hzr := Bo (l.length - kk)
      have hst := qv h b g cur (F2 l ++ List.replicate (l.length - kk) (0, 0, 0))
      rw [fA] at hst
      have hg2 := mI hbl g (F2 l ++ List.replicate (l.length - kk) (0, 0, 0))
      repeat' (first | ((repeat ((fail_if_success (refine hK _ ?_)); clear hK K)); refine hK _ ?_; clear hK K) | ((first | refine b9 fun K1 q8 => ?_ | refine b7 fun A B hA hB => ?_); simp only [S1, simprocAttr, iG, jl, kk0, kkl, hnz, hfit, hct, hdr, hzr, hst, hcc, hg, hg2, Nat.le_refl, Nat.zero_le, Nat.sub_zero, Nat.zero_mul, L4]; first | refine q8 _ ?_; clear q8 K1 | (refine hB ?_; clear hA hB A B)) | refine b6 fun K hK => ?_ | ((first | apply b8 | apply b5 | apply f9 | apply d3); try simp only [NB, simprocAttr]))
      all_goals exact ⟨.inr trivial, eP (t := 2) rfl (by rw [fB]; exact Nat.le_refl _) ⟨by rw [p4], by rw [p4]⟩⟩
  · obtain rfl : k = l.length := by omega
    rw [List.take_length] at hon
    repeat' (first | ((repeat ((fail_if_success (refine hK _ ?_)); clear hK K)); refine hK _ ?_; clear hK K) | ((first | refine b9 fun K1 q8 => ?_ | refine b7 fun A B hA hB => ?_); simp only [S1, simprocAttr, iG, Int.lt_irrefl]; first | refine q8 _ ?_; clear q8 K1 | (refine hB ?_; clear hA hB A B)) | refine b6 fun K hK => ?_ | ((first | apply b8 | apply b5 | apply f9 | apply d3); try simp only [NB, simprocAttr]))
    all_goals exact ⟨.inr trivial, eP (t := 2) rfl (by simp) ⟨by rw [hon], by rw [hon, Nat.sub_self, List.replicate_zero, List.append_nil, hself]⟩⟩
end
section
def di := And.intro T2 (And.intro T3 (And.intro T4 (And.intro T25 (And.intro T26 (And.intro T28 (And.intro T34 (And.intro T41 (And.intro T44 (And.intro T57 (And.intro T58 (And.intro T62 (And.intro T65 (And.intro T89 T92)))))))))))))
attribute [local irreducible] awp n9 k8 l8 o5 m9
variable {G : Nat → Option (List PV)}
theorem yv {h : Heap} {n fuel b g m : Nat} {l : List Lb} {rest : List AV} (hm : m = l.length) (hb : r8 h b g = some (cLs l ++ rest)) (hn : n ≤ b) : pur h n (fuel + 1) (.ref b g 0 3 m) = some (.sl (l.map eL)) := by
  subst hm
  have hch : ∀ l : List Lb, B9 3 l.length ((l.flatMap uD).map (PV.int .i64)) = l.map eL := by
    intro l
    induction l with
    | nil => rfl
    | cons x l ih =>
      rw [List.length_cons, B9, List.flatMap_cons, List.map_append, List.take_left' (by rfl), List.drop_left' (by rfl), ih]; rfl
  unfold pur
  by_cases h0 : l.length = 0
  · rw [if_pos h0]; have := List.eq_nil_of_length_eq_zero h0; subst this; rfl
  · rw [if_neg h0, hb]
    have e : (cLs l).length = l.length * 3 := U3 l
    have hle : l.length * 3 ≤ (cLs l ++ rest).length := by rw [List.length_append, e]; omega
    simp only [hn, true_and, Nat.zero_add, hle, if_true, List.drop_zero]
    rw [List.take_left' e]
    unfold cLs
    rw [O1]
    simp only [Option.map_some, hch]
theorem kS {P : Program} {h : Heap} {K : AV → Prop} {x : Exit} {s : St} (hx : x = .normal ∨ x = .ret) {t b g m : Nat} {l : List Lb} {rest : List AV} (hm : m = l.length) (hf : s.fr t = some (.ref b g 0 3 m))
    (hb : r8 s.heap b g = some (cLs l ++ rest)) (hn : h.length ≤ b) (ht : s.heap.take h.length = h) (hle : h.length ≤ s.heap.length) (hk : K (aLs l)) : iR P [.tmp t] h K x s := by
  have key : W6 P [.tmp t] h K s := by
    unfold W6
    simp only [P6, P5, H8, hf, F7, E6, yv hm hb hn, Option.map_some]
    exact ⟨ht, hle, hk⟩
  rcases hx with rfl | rfl <;> exact key
def Z5 (x : Lb) (l : List Lb) : List Lb × Bool := l.foldl (fun a y => let d := a.2 || decide (y = x); if d = false ∧ ltL x y then (a.1 ++ [x, y], true) else (a.1 ++ [y], d)) ([], false)
theorem uX {x : Lb} {l : List Lb} {j : Nat} {y : Lb} (h : l[j]? = some y) : Z5 x (l.take (j + 1)) = if ((Z5 x (l.take j)).2 || decide (y = x)) = false ∧ ltL x y then ((Z5 x (l.take j)).1 ++ [x, y], true) else ((Z5 x (l.take j)).1 ++ [y], (Z5 x (l.take j)).2 || decide (y = x)) := by
  conv => lhs; unfold Z5
  rw [List.take_add_one, h, List.foldl_append]; rfl
theorem yw (x : Lb) : ∀ l : List Lb, (Z5 x l).1.length ≤ 2 * l.length := by
  intro l
  have : ∀ (l : List Lb) (a : List Lb × Bool), (l.foldl (fun a y => let d := a.2 || decide (y = x); if d = false ∧ ltL x y then (a.1 ++ [x, y], true) else (a.1 ++ [y], d)) a).1.length ≤ a.1.length + 2 * l.length := by
    intro l
    induction l with
    | nil => intro a; simp
    | cons y l ih =>
      intro a
      rw [List.foldl_cons]
      refine Nat.le_trans (ih _) ?_
      simp only
      split <;> simp <;> omega
  simpa [Z5] using this l ([], false)
theorem kT (x : Lb) : ∀ (l : List Lb) (acc : List Lb), l.Pairwise ltL → (l.foldl (fun a y => let d := a.2 || decide (y = x); if d = false ∧ ltL x y then (a.1 ++ [x, y], true) else (a.1 ++ [y], d)) (acc, true)).1 = acc ++ l ∧ (l.foldl (fun a y => let d := a.2 || decide (y = x); if d = false ∧ ltL x y then (a.1 ++ [x, y], true) else (a.1 ++ [y], d)) (acc, true)).2 = true
  | [], acc, _ => by simp
  | y :: l, acc, h => by
    have := kT x l (acc ++ [y]) (List.pairwise_cons.mp h).2
    rw [List.foldl_cons]
    simp only [Bool.true_or, Bool.true_eq_false, false_and, if_false]
    simpa using this
theorem mK (x : Lb) : ∀ (l : List Lb) (acc : List Lb), l.Pairwise ltL → (let r := l.foldl (fun a y => let d := a.2 || decide (y = x); if d = false ∧ ltL x y then (a.1 ++ [x, y], true) else (a.1 ++ [y], d)) (acc, false); if r.2 = true then r.1 else r.1 ++ [x]) = acc ++ O6 x l
  | [], acc, _ => by simp [O6]
  | y :: l, acc, h => by
    rw [List.foldl_cons]
    simp only [Bool.false_or]
    have hl := (List.pairwise_cons.mp h).2
    by_cases e : y = x
    · subst e
      obtain ⟨q1, q2⟩ := kT y l (acc ++ [y]) hl
      have hn : ¬ ltL y y := tj y
      simp only [decide_true, Bool.true_eq_false, false_and, if_false]
      rw [q1, q2]
      unfold O6
      simp [hn]
    · have de : decide (y = x) = false := decide_eq_false e
      by_cases hx : ltL x y
      · obtain ⟨q1, q2⟩ := kT x l (acc ++ [x, y]) hl
        simp only [de, hx, and_self, if_true]
        rw [q1, q2]
        unfold O6
        simp [hx]
      · have ih := mK x l (acc ++ [y]) hl
        simp only [de, hx, and_false, if_false]
        have e2 : O6 x (y :: l) = y :: O6 x l := by
          rw [O6, if_neg hx, if_neg (fun e' => e e'.symm)]
        have e3 : acc ++ y :: O6 x l = acc ++ [y] ++ O6 x l := by simp
        rw [e2, e3]
        exact ih
theorem yx {x : Lb} {l : List Lb} (h : l.Pairwise ltL) : O6 x l = if (Z5 x l).2 = true then (Z5 x l).1 else (Z5 x l).1 ++ [x] := by
  have := mK x l [] h
  simp only [List.nil_append] at this
  exact this.symm
theorem qw {x : Lb} {l : List Lb} {j : Nat} (hl : l.length ≤ 5000000) : (Z5 x (l.take j)).1.length + 2 ≤ 15000000 := by
  have := yw x (l.take j)
  rw [List.length_take] at this
  omega
theorem O2 (l : List Lb) (x : Lb) : cLs (l ++ [x]) = cLs l ++ [.i x.1, .i x.2.1, .i x.2.2] := by rw [fA]; rfl
theorem mL (l : List Lb) (x y : Lb) : cLs (l ++ [x, y]) = cLs l ++ [.i x.1, .i x.2.1, .i x.2.2, .i y.1, .i y.2.1, .i y.2.2] := by rw [fA]; rfl
theorem uY {x : Lb} {l : List Lb} (hs : l.Pairwise ltL) (hl : l.length ≤ 5000000) (h : Heap) :
    d5 Tryz.prog G 37 [aLs l, aL x] h (fun r h' => r = aLs (O6 x l) ∧ h' = h) := by
  have hput := yx (x := x) hs
  refine c8 (rl := []) d7 Tryz.func37 rfl (rs := [.tmp 4]) rfl Tryz.ntmps37 (by simp) ?_
  refine b6 fun K hK => ?_
  repeat' (first | (apply b8; (try simp only [NB]); ((repeat ((fail_if_success (refine hK _ ?_)); clear hK K)); refine hK _ ?_; clear hK K)) | (refine b9 fun K1 q8 => ?_; simp only [S1, simprocAttr, di]; refine q8 _ ?_; clear q8 K1) | (apply b5; try simp only [NB, simprocAttr]; (try ((repeat ((fail_if_success (refine hK _ ?_)); clear hK K)); refine hK _ ?_; clear hK K))))
  refine b6 fun K hK => ?_
  repeat' (first | (apply b8; (try simp only [NB]); ((repeat ((fail_if_success (refine hK _ ?_)); clear hK K)); refine hK _ ?_; clear hK K)) | (refine b9 fun K1 q8 => ?_; simp only [S1, simprocAttr, di]; refine q8 _ ?_; clear q8 K1) | (apply b5; try simp only [NB, simprocAttr]; (try ((repeat ((fail_if_success (refine hK _ ?_)); clear hK K)); refine hK _ ?_; clear hK K))))
  refine b6 fun K hK => ?_
  repeat' (first | (apply b8; (try simp only [NB]); ((repeat ((fail_if_success (refine hK _ ?_)); clear hK K)); refine hK _ ?_; clear hK K)) | (refine b9 fun K1 q8 => ?_; simp only [S1, simprocAttr, di]; refine q8 _ ?_; clear q8 K1) | (apply b5; try simp only [NB, simprocAttr]; (try ((repeat ((fail_if_success (refine hK _ ?_)); clear hK K)); refine hK _ ?_; clear hK K))))
  repeat' (first | ((repeat ((fail_if_success (refine hK _ ?_)); clear hK K)); refine hK _ ?_; clear hK K) | (refine b9 fun K1 q8 => ?_; simp only [S1, simprocAttr, di, List.length_map]; refine q8 _ ?_; clear q8 K1) | refine b6 fun K hK => ?_ | ((first | apply b8 | apply b5 | apply c7); try simp only [NB, simprocAttr]))
  refine C0 l.length 41 (fun j => [(11, .i j), (10, .i l.length), (9, aLs l), (6, .b (Z5 x (l.take j)).2), (5, .ref (h.length + 1) (Z5 x (l.take j)).1.length 0 3 (Z5 x (l.take j)).1.length), (3, .ptr h.length 0 0)])
    (fun j => [some ⟨0, [.i x.1, .i x.2.1, .i x.2.2]⟩, some ⟨(Z5 x (l.take j)).1.length, cLs (Z5 x (l.take j)).1⟩]) (fun j => True) ?_ trivial fun j hj hp K hK => ?_
  · refine (o6.adopt 5 3 rfl).trans (Sub.ghost ⟨rfl, ⟨[], by simp [cLs, Z5]⟩, ?_, ⟨trivial, trivial, trivial, trivial⟩, trivial, trivial⟩)
    simp only [G8, s4, D0, frL, List.length_cons, List.length_nil]
    simp [Z5]
  rcases Nat.lt_or_ge j l.length with hlt | hge
  · obtain ⟨y, hy⟩ : ∃ y, l[j]? = some y := ⟨_, List.getElem?_eq_getElem hlt⟩
    have hxr := oc hy
    have es := uX (x := x) hy
    have hmx := qw (x := x) (j := j) hl
    have jl : (j : Int) < (l.length : Int) := by omega
    have j0 : (0 : Int) ≤ (j : Int) := by omega
    have hnx : IntKind.i64.wrap ((j : Int) + 1) = ((j + 1 : Nat) : Int) := by rw [IntWalk.i64_in _ (by omega)]; omega
    have heq := uR y x
    have heq : y8 true [.p (.int .i64 y.1), .p (.int .i64 y.2.1), .p (.int .i64 y.2.2)] [.p (.int .i64 x.1), .p (.int .i64 x.2.1), .p (.int .i64 x.2.2)] = some (decide (y = x)) := heq
    have hless := fun h => qs (G := G) x y h
    generalize Z5 x (l.take j) = od at *
    obtain ⟨o, d⟩ := od
    simp only at es hmx ⊢
    have hol := U3 o
    have hm1 : o.length + 1 ≤ j7 := by unfold j7; omega
    have hm2 : o.length + 1 + 1 ≤ j7 := by unfold j7; omega
    have hfl : (cLs o ++ [AV.i x.1, AV.i x.2.1, AV.i x.2.2]).length = (o.length + 1) * 3 := by rw [← O2, U3, List.length_append]; rfl
    by_cases hyx : y = x
    · rw [decide_eq_true hyx] at heq es
      simp only [Bool.or_true, Bool.true_eq_false, false_and, if_false] at es
      repeat' (first | ((repeat ((fail_if_success (refine hK _ ?_)); clear hK K)); refine hK _ ?_; clear hK K) | ((first | refine b9 fun K1 q8 => ?_ | refine b7 fun A B hA hB => ?_); simp only [S1, simprocAttr, di, jl, j0, hnx, hxr, heq, hol, hm1, eqA, W28, U5, List.length_map, Nat.mul_one]; first | refine q8 _ ?_; clear q8 K1 | ((first | refine hA ?_ | refine hB ?_); clear hA hB A B)) | refine b6 fun K hK => ?_ | ((first | apply b8 | apply b5 | apply c7 | apply c9); try simp only [NB, simprocAttr]))
      all_goals refine ⟨hlt, trivial, ?_⟩
      all_goals simp only [es, O2, List.length_append, List.length_cons, List.length_nil, Nat.zero_add]
      all_goals refine ⟨rfl, ⟨_, rfl⟩, ?_, ⟨trivial, trivial, trivial, trivial⟩, (by rw [← O2]; exact U4 _ _), trivial⟩
      all_goals simp only [S1, simprocAttr, KNB] <;> (try and_intros) <;> (try assumption) <;> (try trivial) <;> (try omega)
    rw [decide_eq_false hyx] at heq es
    rw [Bool.or_false] at es
    by_cases hd : d = true
    · subst hd
      simp only [Bool.true_eq_false, false_and, if_false] at es
      repeat' (first | ((repeat ((fail_if_success (refine hK _ ?_)); clear hK K)); refine hK _ ?_; clear hK K) | ((first | refine b9 fun K1 q8 => ?_ | refine b7 fun A B hA hB => ?_); simp only [S1, simprocAttr, di, jl, j0, hnx, hxr, heq, hol, hm1, eqA, W28, U5, List.length_map, Nat.mul_one]; first | refine q8 _ ?_; clear q8 K1 | ((first | refine hA ?_ | refine hB ?_); clear hA hB A B)) | refine b6 fun K hK => ?_ | ((first | apply b8 | apply b5 | apply c7 | apply c9); try simp only [NB, simprocAttr]))
      all_goals refine ⟨hlt, trivial, ?_⟩
      all_goals simp only [es, O2, List.length_append, List.length_cons, List.length_nil, Nat.zero_add]
      all_goals refine ⟨rfl, ⟨_, rfl⟩, ?_, ⟨trivial, trivial, trivial, trivial⟩, (by rw [← O2]; exact U4 _ _), trivial⟩
      all_goals simp only [S1, simprocAttr, KNB] <;> (try and_intros) <;> (try assumption) <;> (try trivial) <;> (try omega)
    obtain rfl : d = false := by simpa using hd
    by_cases hx : ltL x y
    · rw [decide_eq_true hx] at hless
      simp only [hx, and_self, if_true] at es
      repeat' (first | ((repeat ((fail_if_success (refine hK _ ?_)); clear hK K)); refine hK _ ?_; clear hK K) | ((first | refine b9 fun K1 q8 => ?_ | refine b7 fun A B hA hB => ?_); simp only [S1, simprocAttr, di, jl, j0, hnx, hxr, heq, hol, hm1, hm2, hfl, eqA, W28, U5, List.length_map, Nat.mul_one]; first | refine q8 _ ?_; clear q8 K1 | ((first | refine hA ?_ | refine hB ?_); clear hA hB A B) | (apply d4 E26; exact (hless _); refine q8 _ ?_; clear q8 K1)) | refine b6 fun K hK => ?_ | ((first | apply b8 | apply b5 | apply c7 | apply c9); try simp only [NB, simprocAttr]))
      all_goals refine ⟨hlt, trivial, ?_⟩
      all_goals simp only [es, mL, List.length_append, List.length_cons, List.length_nil, Nat.zero_add, Nat.reduceAdd]
      all_goals refine ⟨rfl, ⟨_, rfl⟩, ?_, ⟨trivial, trivial, trivial, trivial⟩, (by rw [← mL]; exact U4 _ _), trivial⟩
      all_goals simp only [S1, simprocAttr, KNB] <;> (try and_intros) <;> (try assumption) <;> (try trivial) <;> (try omega)
    · rw [decide_eq_false hx] at hless
      simp only [hx, and_false, if_false] at es
      repeat' (first | ((repeat ((fail_if_success (refine hK _ ?_)); clear hK K)); refine hK _ ?_; clear hK K) | ((first | refine b9 fun K1 q8 => ?_ | refine b7 fun A B hA hB => ?_); simp only [S1, simprocAttr, di, jl, j0, hnx, hxr, heq, hol, hm1, eqA, W28, U5, List.length_map, Nat.mul_one]; first | refine q8 _ ?_; clear q8 K1 | ((first | refine hA ?_ | refine hB ?_); clear hA hB A B) | (apply d4 E26; exact (hless _); refine q8 _ ?_; clear q8 K1)) | refine b6 fun K hK => ?_ | ((first | apply b8 | apply b5 | apply c7 | apply c9); try simp only [NB, simprocAttr]))
      all_goals refine ⟨hlt, trivial, ?_⟩
      all_goals simp only [es, O2, List.length_append, List.length_cons, List.length_nil, Nat.zero_add]
      all_goals refine ⟨rfl, ⟨_, rfl⟩, ?_, ⟨trivial, trivial, trivial, trivial⟩, (by rw [← O2]; exact U4 _ _), trivial⟩
      all_goals simp only [S1, simprocAttr, KNB] <;> (try and_intros) <;> (try assumption) <;> (try trivial) <;> (try omega)
  · obtain rfl : j = l.length := by omega
    have hmx := qw (x := x) (j := l.length) hl
    rw [List.take_length] at hmx ⊢
    generalize Z5 x l = od at *
    obtain ⟨o, d⟩ := od
    simp only at hput hmx ⊢
    have hol := U3 o
    have hm1 : o.length + 1 ≤ j7 := by unfold j7; omega
    cases d with
    | true =>
      rw [if_pos rfl] at hput
      repeat' (first | ((repeat ((fail_if_success (refine hK _ ?_)); clear hK K)); refine hK _ ?_; clear hK K) | ((first | refine b9 fun K1 q8 => ?_ | refine b7 fun A B hA hB => ?_); simp only [S1, simprocAttr, di, Int.lt_irrefl]; first | refine q8 _ ?_; clear q8 K1 | (refine hB ?_; clear hA hB A B)) | refine b6 fun K hK => ?_ | ((first | apply b8 | apply b5 | apply f9 | apply c9 | apply d3); try simp only [NB, simprocAttr]))
      all_goals exact kS (rest := []) (.inr rfl) rfl rfl (by simp only [r8, n5, List.getElem?_cons_succ, List.getElem?_cons_zero, if_true, List.append_nil]) (by omega) (by simp) (by simp) (by rw [hput])
    | false =>
      rw [if_neg (by decide)] at hput
      repeat' (first | ((repeat ((fail_if_success (refine hK _ ?_)); clear hK K)); refine hK _ ?_; clear hK K) | ((first | refine b9 fun K1 q8 => ?_ | refine b7 fun A B hA hB => ?_); simp only [S1, simprocAttr, di, Int.lt_irrefl, hol, hm1, List.length_map, Nat.mul_one]; first | refine q8 _ ?_; clear q8 K1 | ((first | refine hA ?_ | refine hB ?_); clear hA hB A B)) | refine b6 fun K hK => ?_ | ((first | apply b8 | apply b5 | apply f9 | apply d3); try simp only [NB, simprocAttr]))
      all_goals exact kS (l := o ++ [x]) (rest := []) (.inr rfl) (by rw [List.length_append]; rfl) rfl (by simp only [r8, n5, List.getElem?_cons_succ, List.getElem?_cons_zero, if_true, List.append_nil, O2]) (by omega) (by simp) (by simp) (by rw [hput])
end
section
def W5 := And.intro T2 (And.intro T3 (And.intro T4 (And.intro T25 (And.intro T26 (And.intro T28 (And.intro T34 (And.intro T41 (And.intro T44 (And.intro T57 (And.intro T58 (And.intro T62 (And.intro T65 (And.intro T89 T92)))))))))))))
attribute [local irreducible] awp n9 k8 l8 o5 m9
def K8 (sl : List Sp) : List Lb := (sl.filter fun y => y.lk ≠ 0).map dP
noncomputable def B8 (ns : List Nd) (fl : List Fl) (l : List Sv) : List Lb := l.flatMap fun s => K8 (p9 ns fl s)
theorem kU {sl : List Sp} {j : Nat} {y : Sp} (h : sl[j]? = some y) : K8 (sl.take (j + 1)) = K8 (sl.take j) ++ if y.lk = 0 then [] else [dP y] := by
  unfold K8
  rw [List.take_add_one, h, List.filter_append, List.map_append]
  congr 1
  by_cases hc : y.lk = 0 <;> simp [hc]
theorem kV (sl : List Sp) (j : Nat) : (K8 (sl.take j)).length ≤ sl.length := by
  unfold K8
  rw [List.length_map]
  exact Nat.le_trans (List.length_filter_le _ _) (by rw [List.length_take]; omega)
theorem kW {ns : List Nd} {fl : List Fl} {l : List Sv} {j : Nat} {s : Sv} (h : l[j]? = some s) : B8 ns fl (l.take (j + 1)) = B8 ns fl (l.take j) ++ K8 (p9 ns fl s) := by
  unfold B8
  rw [List.take_add_one, h, List.flatMap_append]; simp
theorem ap (ns : List Nd) (fl : List Fl) : ∀ l : List Sv, (B8 ns fl l).length ≤ l.length * 2500
  | [] => by simp [B8]
  | s :: l => by
    have h1 := ap ns fl l
    have h2 := kV (p9 ns fl s) (p9 ns fl s).length
    rw [List.take_length] at h2
    have h3 := M6 (ns := ns) (fl := fl) (S := s)
    unfold B8 at h1 ⊢
    rw [List.flatMap_cons, List.length_append, List.length_cons]; omega
theorem su (l : List Lb) (x : Lb) : I3 (l ++ [x]) = O6 x (I3 l) := by unfold I3; rw [List.foldl_append]; rfl
theorem qx (x : Lb) : ∀ l : List Lb, (O6 x l).length ≤ l.length + 1
  | [] => by simp [O6]
  | y :: l => by
    have := qx x l
    unfold O6
    split
    · simp
    · split <;> simp <;> omega
theorem gJ (l : List Lb) : (I3 l).length ≤ l.length := by
  have key : ∀ (l acc : List Lb), (l.foldl (fun a x => O6 x a) acc).length ≤ acc.length + l.length := by
    intro l
    induction l with
    | nil => intro acc; simp
    | cons x l ih =>
      intro acc
      have := ih (O6 x acc)
      have := qx x acc
      rw [List.foldl_cons, List.length_cons]; omega
  simpa [I3] using key l []
theorem og (l : List Lb) : (I3 l).Pairwise ltL := (gA l [] List.Pairwise.nil).1
theorem dj {ns : List Nd} {fl : List Fl} (nk : NetOk ns fl) {l : List Sv} (h49 : A7 l) (hl : l.length ≤ 1500) (h : Heap) :
    d5 Tryz.prog gW 17 [G4 ns fl, B1 l] h (fun r h' => r = aLs (I3 (B8 ns fl l)) ∧ h' = h) := by
  have hzl : (zS.map AV.i).length = 49 := by rw [List.length_map]; rfl
  have hem : (zS.map AV.i).isEmpty = false := rfl
  refine c8 (rl := []) d7 Tryz.func17 rfl (rs := [.tmp 4]) rfl Tryz.ntmps17 (by simp) ?_
  repeat' (first | ((repeat ((fail_if_success (refine hK _ ?_)); clear hK K)); refine hK _ ?_; clear hK K) | (refine b9 fun K1 q8 => ?_; simp only [S1, simprocAttr, W5, List.length_map]; refine q8 _ ?_; clear q8 K1) | refine b6 fun K hK => ?_ | ((first | apply b8 | apply b5 | apply c7); try simp only [NB, simprocAttr]))
  refine C0 l.length 35 (fun j => [(12, .i j), (11, .i l.length), (10, B1 l), (5, aLs (I3 (B8 ns fl (l.take j)))), (2, .ptr h.length 0 0)])
    (fun j => [some ⟨0, x6 ns fl⟩]) (fun j => True) ?_ trivial fun j hj hp K hK => ?_
  · have hsz : ∀ A : Option Blk, ((h ++ [A]) ++ [some (⟨0, []⟩ : Blk)]).set (h ++ [A]).length none = h ++ ([A] ++ [none]) := fun A => by rw [List.set_append_right _ _ (Nat.le_refl _), Nat.sub_self, List.append_assoc]; rfl
    refine (o6.adopt 5 3 rfl).trans ((o6.freeze (k := 5) (b := (h ++ [some (⟨0, x6 ns fl⟩ : Blk)]).length) (sz := 3) (n := 0) (rows := []) (bk := ⟨0, []⟩) (rest := []) rfl (List.getElem?_concat_length ..) rfl (fun r hr => by cases hr) (by omega) rfl).trans (Sub.ghost ⟨rfl, ⟨[none], hsz _⟩, ?_, ⟨trivial, trivial, trivial⟩, trivial⟩))
    simp only [G8, s4, D0, frL, List.length_cons, List.length_nil]
    simp [I3, B8]
  rcases Nat.lt_or_ge j l.length with hlt | hge
  · obtain ⟨s, hx⟩ : ∃ k, l[j]? = some k := ⟨_, List.getElem?_eq_getElem hlt⟩
    have hs : s.length = 49 := h49 s (List.mem_of_getElem? hx)
    have hxr : (l.map eSt)[j]? = some (s.map (PV.int .i64)) := by rw [List.getElem?_map, hx]; rfl
    have jl : (j : Int) < (l.length : Int) := by omega
    have j0 : (0 : Int) ≤ (j : Int) := by omega
    have hnx : IntKind.i64.wrap ((j : Int) + 1) = ((j + 1 : Nat) : Int) := by rw [IntWalk.i64_in _ (by omega)]; omega
    have s49 : (s.map AV.i).take 49 = s.map AV.i := List.take_of_length_le (by rw [List.length_map, hs]; exact Nat.le_refl _)
    have hso : u5 (zS.map AV.i) 0 (s.map AV.i) = s.map AV.i := m3 (n := 49) (by rw [List.length_map, hs]) _ hzl
    have hsm := u0 s
    have hne := J3 hs
    have hst := fun h => fh nk hs h
    have hto := Q2 (ns := ns) (fl := fl) hs
    have hln := M6 (ns := ns) (fl := fl) (S := s)
    have es := kW (ns := ns) (fl := fl) hx
    have hol := ap ns fl (l.take j)
    rw [List.length_take] at hol
    have hol : (B8 ns fl (l.take j)).length ≤ 3750000 := by omega
    generalize B8 ns fl (l.take j) = o at *
    generalize p9 ns fl s = sl at *
    repeat' (first | ((repeat ((fail_if_success (refine hK _ ?_)); clear hK K)); refine hK _ ?_; clear hK K) | ((first | refine b9 fun K1 q8 => ?_ | refine b7 fun A B hA hB => ?_); simp only [S1, simprocAttr, W5, jl, j0, hnx, hxr, hs, hzl, hem, s49, hso, hsm, hne, TRz, i9, i7, j5, d9, d8, e9, List.length_map]; first | refine q8 _ ?_; clear q8 K1 | (refine hA ?_; clear hA hB A B) | (apply d4 E24; exact (hst _); refine q8 _ ?_; clear q8 K1)) | refine b6 fun K hK => ?_ | ((first | apply b8 | apply b5 | apply c7 | apply c9); try simp only [NB, simprocAttr]))
    refine o9 sl.length 35 (fun i => [(20, .i i), (19, .i sl.length), (18, rT sl), (12, .i j), (11, .i l.length), (10, B1 l), (5, aLs (I3 (o ++ K8 (sl.take i)))), (2, .ptr h.length 0 0)])
      (fun i => [some ⟨0, x6 ns fl⟩]) (fun i => True) ?_ trivial fun i hi hp2 K hK => ?_
    · refine ⟨rfl, ⟨_, rfl⟩, ?_, ⟨trivial, trivial, trivial⟩, trivial⟩
      simp only [G8, s4, D0, frL, List.length_cons, List.length_nil]
      simp [K8]
    rcases Nat.lt_or_ge i sl.length with hlt2 | hge2
    · obtain ⟨y, hy⟩ : ∃ y, sl[i]? = some y := ⟨_, List.getElem?_eq_getElem hlt2⟩
      have hxy : (sl.map eSp)[i]? = some ((cSp y).map (PV.int .i64)) := by rw [List.getElem?_map, hy]; rfl
      have hyl := hto y (List.mem_of_getElem? hy)
      have e2 := kU hy
      have hle := kV sl i
      have jl2 : (i : Int) < (sl.length : Int) := by omega
      have j02 : (0 : Int) ≤ (i : Int) := by omega
      have hnx2 : IntKind.i64.wrap ((i : Int) + 1) = ((i + 1 : Nat) : Int) := by rw [IntWalk.i64_in _ (by omega)]; omega
      have y54 : (cSp y).length = 54 := E4 hyl
      have ymm := (u0 (cSp y)).trans (nH y)
      have yov := D4 hyl
      have yt49 : (y.to.map AV.i).take 49 = y.to.map AV.i := List.take_of_length_le (by rw [List.length_map, hyl]; exact Nat.le_refl _)
      have hput := fun h => uY (G := gW) (x := dP y) (og (o ++ K8 (sl.take i))) (by have := gJ (o ++ K8 (sl.take i)); rw [List.length_append] at this; omega) h
      by_cases hc : y.lk = 0
      · have f0 : (y.lk != 0) = false := by simp [hc]
        rw [if_pos hc, List.append_nil] at e2
        repeat' (first | ((repeat ((fail_if_success (refine hK _ ?_)); clear hK K)); refine hK _ ?_; clear hK K) | ((first | refine b9 fun K1 q8 => ?_ | refine b7 fun A B hA hB => ?_); simp only [S1, simprocAttr, W5, jl2, j02, hnx2, hxy, hyl, y54, ymm, yov, yt49, f0, d9, d8, e9, List.length_map]; first | refine q8 _ ?_; clear q8 K1 | ((first | refine hA ?_ | refine hB ?_); clear hA hB A B)) | refine b6 fun K hK => ?_ | ((first | apply b8 | apply b5 | apply c7 | apply c9); try simp only [NB, simprocAttr]))
        all_goals refine ⟨hlt2, trivial, ?_⟩
        all_goals simp only [e2]
        all_goals (refine ⟨rfl, (by first | exact ⟨_, rfl⟩ | exact ⟨[], by simp⟩), ?_, ?_⟩ <;> simp only [S1, simprocAttr, KNB] <;> (try and_intros) <;> (try assumption) <;> (try trivial) <;> (try omega))
      · have f0 : (y.lk != 0) = true := by simp [hc]
        rw [if_neg hc] at e2
        rw [← su, List.append_assoc, ← e2] at hput
        repeat' (first | ((repeat ((fail_if_success (refine hK _ ?_)); clear hK K)); refine hK _ ?_; clear hK K) | ((first | refine b9 fun K1 q8 => ?_ | refine b7 fun A B hA hB => ?_); simp only [S1, simprocAttr, W5, jl2, j02, hnx2, hxy, hyl, y54, ymm, yov, yt49, f0, d9, d8, e9, List.length_map]; first | refine q8 _ ?_; clear q8 K1 | (refine hA ?_; clear hA hB A B) | (apply d4 E37; exact (hput _); refine q8 _ ?_; clear q8 K1)) | refine b6 fun K hK => ?_ | ((first | apply b8 | apply b5 | apply c7 | apply c9); try simp only [NB, simprocAttr]))
        all_goals refine ⟨hlt2, trivial, ?_⟩
        all_goals (refine ⟨rfl, (by first | exact ⟨_, rfl⟩ | exact ⟨[], by simp⟩), ?_, ?_⟩ <;> simp only [S1, simprocAttr, KNB] <;> (try and_intros) <;> (try assumption) <;> (try trivial) <;> (try omega))
    · obtain rfl : i = sl.length := by omega
      rw [List.take_length, ← es]
      repeat' (first | ((repeat ((fail_if_success (refine hK _ ?_)); clear hK K)); refine hK _ ?_; clear hK K) | ((first | refine b9 fun K1 q8 => ?_ | refine b7 fun A B hA hB => ?_); simp only [S1, simprocAttr, W5, hnx, Int.lt_irrefl]; first | refine q8 _ ?_; clear q8 K1 | (refine hB ?_; clear hA hB A B)) | refine b6 fun K hK => ?_ | ((first | apply b8 | apply b5 | apply f9); try simp only [NB, simprocAttr]))
      all_goals refine ⟨hlt, trivial, ?_⟩
      all_goals (refine ⟨rfl, (by first | exact ⟨_, rfl⟩ | exact ⟨[], by simp⟩), ?_, ?_⟩ <;> simp only [S1, simprocAttr, KNB] <;> (try and_intros) <;> (try assumption) <;> (try trivial) <;> (try omega))
  · obtain rfl : j = l.length := by omega
    rw [List.take_length]
    repeat' (first | ((repeat ((fail_if_success (refine hK _ ?_)); clear hK K)); refine hK _ ?_; clear hK K) | ((first | refine b9 fun K1 q8 => ?_ | refine b7 fun A B hA hB => ?_); simp only [S1, simprocAttr, W5, Int.lt_irrefl]; first | refine q8 _ ?_; clear q8 K1 | (refine hB ?_; clear hA hB A B)) | refine b6 fun K hK => ?_ | ((first | apply b8 | apply b5 | apply f9 | apply d3); try simp only [NB, simprocAttr]))
    all_goals simp only [S1, simprocAttr, ENB, W5]
theorem iI {G : Nat → Option (List PV)} (a b : List Lb) (ha : a.length ≤ 5000000) (hb : b.length ≤ 5000000) (h : Heap) :
    d5 Tryz.prog G 18 [aLs a, aLs b] h (fun r h' => r = .b (decide (a = b)) ∧ h' = h) := by
  refine c8 (rl := []) d7 Tryz.func18 rfl (rs := [.tmp 4]) rfl Tryz.ntmps18 (by simp) ?_
  repeat' (first | ((repeat ((fail_if_success (refine hK _ ?_)); clear hK K)); refine hK _ ?_; clear hK K) | (refine b9 fun K1 q8 => ?_; simp only [S1, simprocAttr, W5, List.length_map]; refine q8 _ ?_; clear q8 K1) | refine b6 fun K hK => ?_ | ((first | apply b8 | apply b5 | apply c7); try simp only [NB, simprocAttr]))
  refine o9 a.length 32 (fun j => [(8, .i j), (7, .i a.length), (0, aLs a), (1, aLs b)])
    (fun j => []) (fun j => a.take j = b.take j) ?_ rfl fun j hj hp K hK => ?_
  · (refine ⟨rfl, (by first | exact ⟨_, rfl⟩ | exact ⟨[], by simp⟩), ?_, ?_⟩ <;> simp only [S1, simprocAttr, KNB] <;> (try and_intros) <;> (try assumption) <;> (try trivial) <;> (try omega))
  rcases Nat.lt_or_ge j a.length with hlt | hge
  · obtain ⟨x, hx⟩ : ∃ k, a[j]? = some k := ⟨_, List.getElem?_eq_getElem hlt⟩
    have hxr := oc hx
    have jl : (j : Int) < (a.length : Int) := by omega
    have j0 : (0 : Int) ≤ (j : Int) := by omega
    have hnx : IntKind.i64.wrap ((j : Int) + 1) = ((j + 1 : Nat) : Int) := by rw [IntWalk.i64_in _ (by omega)]; omega
    rcases Nat.lt_or_ge j b.length with hlb | hgb
    case inr =>
      have jb : ¬ (j : Int) < (b.length : Int) := by omega
      have hne : decide (a = b) = false := decide_eq_false (fun e => by subst e; omega)
      rw [hne]
      have jb2 : decide ((b.length : Int) ≤ (j : Int)) = true := decide_eq_true (by omega)
      repeat' (first | ((repeat ((fail_if_success (refine hK _ ?_)); clear hK K)); refine hK _ ?_; clear hK K) | ((first | refine b9 fun K1 q8 => ?_ | refine j9 fun K1 q8 => ?_ | refine b7 fun A B hA hB => ?_); simp only [S1, simprocAttr, W5, jl, j0, jb2, List.length_map]; first | refine q8 _ ?_; clear q8 K1 | (refine hA ?_; clear hA hB A B)) | refine b6 fun K hK => ?_ | ((first | apply b8 | apply i5 | apply b5 | refine i6 ?_ | apply c7 | apply c9 | apply d3); try simp only [NB, simprocAttr]))
      all_goals simp only [S1, simprocAttr, ENB, W5]
    obtain ⟨y, hy⟩ : ∃ k, b[j]? = some k := ⟨_, List.getElem?_eq_getElem hlb⟩
    have hyr := oc hy
    have jb : (j : Int) < (b.length : Int) := by omega
    have jb2 : decide ((b.length : Int) ≤ (j : Int)) = false := decide_eq_false (by omega)
    have heq := uR x y
    have heq : y8 true [.p (.int .i64 x.1), .p (.int .i64 x.2.1), .p (.int .i64 x.2.2)] [.p (.int .i64 y.1), .p (.int .i64 y.2.1), .p (.int .i64 y.2.2)] = some (decide (x = y)) := heq
    by_cases hxy : x = y
    · rw [decide_eq_true hxy] at heq
      repeat' (first | ((repeat ((fail_if_success (refine hK _ ?_)); clear hK K)); refine hK _ ?_; clear hK K) | ((first | refine b9 fun K1 q8 => ?_ | refine j9 fun K1 q8 => ?_ | refine b7 fun A B hA hB => ?_); simp only [S1, simprocAttr, W5, jl, j0, jb, jb2, hnx, hxr, hyr, heq, eqA, W28, List.length_map]; first | refine q8 _ ?_; clear q8 K1 | ((first | refine hA ?_ | refine hB ?_); clear hA hB A B)) | refine b6 fun K hK => ?_ | ((first | apply b8 | apply i5 | apply b5 | refine i6 ?_ | apply c7 | apply c9); try simp only [NB, simprocAttr]))
      all_goals refine ⟨hlt, by rw [List.take_add_one, List.take_add_one, hp, hx, hy, hxy], ?_⟩
      all_goals (refine ⟨rfl, (by first | exact ⟨_, rfl⟩ | exact ⟨[], by simp⟩), ?_, ?_⟩ <;> simp only [S1, simprocAttr, KNB] <;> (try and_intros) <;> (try assumption) <;> (try trivial) <;> (try omega))
    · rw [decide_eq_false hxy] at heq
      have hne : decide (a = b) = false := decide_eq_false (fun e => by subst e; rw [hx] at hy; cases hy; exact hxy rfl)
      rw [hne]
      repeat' (first | ((repeat ((fail_if_success (refine hK _ ?_)); clear hK K)); refine hK _ ?_; clear hK K) | ((first | refine b9 fun K1 q8 => ?_ | refine j9 fun K1 q8 => ?_ | refine b7 fun A B hA hB => ?_); simp only [S1, simprocAttr, W5, jl, j0, jb, jb2, hnx, hxr, hyr, heq, eqA, W28, List.length_map]; first | refine q8 _ ?_; clear q8 K1 | (refine hA ?_; clear hA hB A B)) | refine b6 fun K hK => ?_ | ((first | apply b8 | apply i5 | apply b5 | refine i6 ?_ | apply c7 | apply c9 | apply d3); try simp only [NB, simprocAttr]))
      all_goals simp only [S1, simprocAttr, ENB, W5]
  · obtain rfl : j = a.length := by omega
    rw [List.take_length] at hp
    have he : ((a.length : Int) == (b.length : Int)) = decide (a = b) := by
      by_cases e : a.length = b.length
      · rw [e, List.take_length] at hp
        rw [decide_eq_true hp, hp]; simp
      · rw [decide_eq_false (fun e' => e (by rw [e']))]
        simp; omega
    repeat' (first | ((repeat ((fail_if_success (refine hK _ ?_)); clear hK K)); refine hK _ ?_; clear hK K) | ((first | refine b9 fun K1 q8 => ?_ | refine b7 fun A B hA hB => ?_); simp only [S1, simprocAttr, W5, Int.lt_irrefl, he, List.length_map]; first | refine q8 _ ?_; clear q8 K1 | (refine hB ?_; clear hA hB A B)) | refine b6 fun K hK => ?_ | ((first | apply b8 | apply b5 | apply f9 | apply d3); try simp only [NB, simprocAttr]))
    all_goals simp only [S1, simprocAttr, ENB, W5]
end
section
abbrev Sm (n : Int) : Prop := -2000 ≤ n ∧ n ≤ 2000
theorem xb (t : Tm) (v : Int → Int) (k : Int) : Sm (U1 t v k) := by
  unfold U1 D2 R8
  constructor <;> (repeat' split) <;> simp
theorem zP {t : Tm} {v : Int → Int} (hv : ∀ i, Num (v i)) : Sm (P9 t v).2 := by
  unfold P9
  split
  · exact xb _ _ _
  · rename_i e
    obtain ⟨g1, g2, g3⟩ := ai (by simpa using e)
    have := (I2 hv g1).2.2
    constructor <;> simp only <;> omega
theorem zQ {t : Tm} {v : Int → Int} (hv : ∀ i, Num (v i)) : Sm (O5 t v).2 := by
  unfold O5
  split
  · exact xb _ _ _
  · rename_i e
    obtain ⟨g1, g2, g3⟩ := ai (by simpa using e)
    have := (I2 hv g1).2.2
    constructor <;> simp only <;> omega
theorem oh {fl : List Fl} {v : Int → Int} (hv : ∀ i, Num (v i)) : ∀ {outs : List Int} {x : Int × Int}, chF fl v outs = some x → Sm x.2
  | [], x, h => by cases h
  | f :: r, x, h => by
    unfold chF at h
    split at h
    · exact oh hv h
    · split at h
      · exact oh hv h
      · split at h
        · cases h; exact zQ hv
        · split at h
          · cases h; constructor <;> simp
          · exact oh hv h
theorem uZ {fl : List Fl} {v : Int → Int} (hv : ∀ i, Num (v i)) (outs : List Int) : Sm (r9 fl v outs).2 := by
  unfold r9
  cases h : chF fl v outs with
  | none => constructor <;> simp
  | some x => exact oh hv h
def LbS (y : Sp) : Prop := Sm y.lk ∧ Sm y.ln ∧ Sm y.la
theorem O3 {S : List Int} {x : Sp} {fr to : List Int} (hx : LbS x) : ∀ y ∈ o8 S x fr to, LbS y := by
  intro y hy
  unfold o8 at hy
  split at hy
  · cases hy
  · split at hy
    · cases hy
    · rw [List.mem_singleton] at hy; subst hy; exact hx
theorem qy {ns : List Nd} {fl : List Fl} {S : List Int} {node arg c : Int} (hc : Sm c) (fr : List Int) : ∀ y ∈ s7 ns fl S node arg c fr, LbS y := by
  have h3 : LbS ⟨node, arg, 3, c, 0, S.set (44 + (ndA ns c).toNat) (qAt S (ndA ns c) - 1)⟩ := ⟨⟨by show (-2000 : Int) ≤ 3; decide, by show (3 : Int) ≤ 2000; decide⟩, hc, ⟨by show (-2000 : Int) ≤ 0; decide, by show (0 : Int) ≤ 2000; decide⟩⟩
  have h4 : LbS ⟨node, arg, 4, c, 0, S⟩ := ⟨⟨by show (-2000 : Int) ≤ 4; decide, by show (4 : Int) ≤ 2000; decide⟩, hc, ⟨by show (-2000 : Int) ≤ 0; decide, by show (0 : Int) ≤ 2000; decide⟩⟩
  intro y hy
  unfold s7 at hy
  split at hy
  · split at hy
    · cases hy
    · exact O3 h3 y hy
  · exact O3 h4 y hy
theorem cr {n a k l c : Int} {S : List Int} (h1 : Sm k) (h2 : Sm l) (h3 : Sm c) : LbS ⟨n, a, k, l, c, S⟩ := ⟨h1, h2, h3⟩
theorem Z6 {n : Int} (h : (decide (-2000 ≤ n) && decide (n ≤ 2000)) = true) : Sm n := by
  simp only [Bool.and_eq_true, decide_eq_true_eq] at h; exact h
theorem yy {ns : List Nd} {fl : List Fl} {S : List Int} (rt : Right ns fl) (hr : RestOk S) {i : Nat} {k : Nd} (hc : ns[i]? = some k) : ∀ y ∈ n8 ns fl S i k, LbS y := by
  have hi : Sm (i : Int) := by
    have := (List.getElem?_eq_some_iff.mp hc).1
    have := rt.n
    constructor <;> omega
  have hv := yh hr
  have z : Sm 0 := Z6 rfl
  intro y hy
  unfold n8 at hy
  split at hy
  · unfold fe at hy
    split at hy
    · exact O3 (cr (Z6 rfl) z z) y hy
    · exact O3 (cr z z z) y hy
  split at hy
  · unfold P0 at hy
    split at hy
    · cases hy
    split at hy
    · rcases List.mem_append.mp hy with hy | hy
      · exact O3 (cr (Z6 rfl) hi z) y hy
      · exact O3 (cr (Z6 rfl) hi (Z6 rfl)) y hy
    split at hy
    · rw [List.mem_singleton] at hy; subst hy
      exact cr (Z6 rfl) hi (zP hv)
    · exact O3 (cr (Z6 rfl) hi z) y hy
  split at hy
  · unfold Q0 at hy
    split at hy
    · obtain ⟨f, _, hy⟩ := List.mem_flatMap.mp hy
      exact O3 (cr z z z) y hy
    split at hy
    · cases hy
    split at hy
    · rw [List.mem_singleton] at hy; subst hy
      exact cr (Z6 rfl) hi (uZ hv _)
    · exact O3 (cr z z z) y hy
  split at hy
  · exact O3 (cr z z z) y hy
  split at hy
  · rename_i h7
    obtain ⟨f, hf, hy⟩ := List.mem_flatMap.mp hy
    obtain ⟨c, k', e, hc', _⟩ := (rt.ar7 hc h7).2.2 f hf
    have := (List.getElem?_eq_some_iff.mp hc').1
    have := rt.n
    rw [e] at hy
    exact qy (by constructor <;> omega) _ y hy
  split at hy
  · exact qy hi _ y hy
  · cases hy
theorem qz {ns : List Nd} {fl : List Fl} {S : List Int} (rt : Right ns fl) (hr : RestOk S) : ∀ j, ∀ y ∈ w7 ns fl S j, LbS y
  | 0, y, hy => by cases hy
  | j + 1, y, hy => by
    unfold w7 at hy
    rcases List.mem_append.mp hy with hy | hy
    · exact qz rt hr j y hy
    · split at hy
      · rename_i k hk; exact yy rt hr hk y hy
      · cases hy
theorem qA {ns : List Nd} {S : List Int} : ∀ m, m ≤ 4 → ∀ y ∈ p8 ns S m, LbS y
  | 0, _, y, hy => by cases hy
  | m + 1, hm, y, hy => by
    unfold p8 at hy
    rcases List.mem_append.mp hy with hy | hy
    · exact qA m (by omega) y hy
    · unfold K6 at hy
      split at hy
      · exact O3 (cr (Z6 rfl) (Z6 rfl) (by constructor <;> omega)) y hy
      · cases hy
theorem xc {ns : List Nd} {fl : List Fl} {S : List Int} (hS : S.length = 49) : ∀ y ∈ p9 ns fl S, LbS y := by
  intro y hy
  unfold p9 at hy
  split at hy
  · cases hy
  · rename_i h0
    rw [not_or] at h0
    obtain ⟨h1, h2⟩ := fg (by simpa using h0.1)
    have rt := Right.of h1
    have hr := (zI hS h2).2
    rcases List.mem_append.mp hy with hy | hy
    · exact qz rt hr _ y hy
    · exact qA 4 (Nat.le_refl _) y hy
theorem gK {n : Int} (h : Sm n) : t7 .i64 n := by
  have hmin : IntKind.i64.min = -9223372036854775808 := by decide
  have hmax : IntKind.i64.max = 9223372036854775807 := by decide
  unfold t7
  rw [hmin, hmax]
  omega
theorem xd {ns : List Nd} {fl : List Fl} {l : List Sv} (h49 : A7 l) : ∀ x ∈ B8 ns fl l, Sm x.1 ∧ Sm x.2.1 ∧ Sm x.2.2 := by
  intro x hx
  unfold B8 K8 at hx
  obtain ⟨s, hs, hx⟩ := List.mem_flatMap.mp hx
  obtain ⟨y, hy, rfl⟩ := List.mem_map.mp hx
  exact xc (h49 s hs) y (List.mem_filter.mp hy).1
end
end Go.Proofs.YtbbmfemplmelhaaGreatDoor.AM
