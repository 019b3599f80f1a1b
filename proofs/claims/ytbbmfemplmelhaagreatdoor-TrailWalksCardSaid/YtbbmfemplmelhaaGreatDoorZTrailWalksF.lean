/- Proved here, in parts, for one law: contracts of the functions that the laws call, and the plain facts behind them. Conditions: none. -/
import Derived.Test.YtbbmfemplmelhaaGreatDoorZTrailWalksE
set_option linter.unusedVariables false
set_option linter.unusedSimpArgs false
set_option linter.defProp false
set_option maxRecDepth 4000
set_option maxHeartbeats 4000000
namespace Go.Proofs.YtbbmfemplmelhaaGreatDoor.AM
open Go Go.Proofs
section
def ci := And.intro T2 (And.intro T3 (And.intro T4 (And.intro T22 (And.intro T25 (And.intro T28 (And.intro T31 (And.intro T41 (And.intro T57 (And.intro T58 (And.intro T77 (And.intro T92 (And.intro fP (And.intro mZ (And.intro iI (And.intro iJ (And.intro na jB))))))))))))))))
attribute [local irreducible] awp n8 k3 l8 o4 m8
theorem sn {h : Heap} {b lb : Nat} {ns : List Nd} {fl : List Fl} {S : List Int} {l : List Sp} (ok : GmOk h b lb S l) (m : Sp) (L : Heap) {f : FuncId} (hE : g8 Tryz.prog f) {caps : List AV} (hcap : n9 (h.length + L.length) caps) {chg : List Int → List Int} (hlen : ∀ T : List Int, T.length = 49 → (chg T).length = 49)
    (hC : ∀ (A : Option Blk) (T : List Int), T.length = 49 → T.drop 40 = S.drop 40 → d5 Tryz.prog gW f (.ptr (h.length + L.length + 1) 0 0 :: caps) (l6 h b lb ns fl S l ++ (L ++ [A, some ⟨0, T.map AV.i⟩])) (fun r h' => r = .undef ∧ h' = l6 h b lb ns fl S l ++ (L ++ [A, some ⟨0, (chg T).map AV.i⟩]))) :
    d5 Tryz.prog gW 82 [.ptr b 0 0, aMv m, .p .nils, .p .nils, .fn f caps] (l6 h b lb ns fl S l ++ L) (fun r h' => r = .undef ∧ h' = l6 h b lb ns fl S (l ++ stF S m chg [] []) ++ L) := by
  have := V9 (G := gW) (ns := ns) (fl := fl) ok m [] [] ⟨by simp, by simp⟩ ⟨by simp, by simp⟩ L hE hcap hlen hC
  refine d5.nrm ?_
  simp only [R0, bK, nrm]
  exact this
theorem ym {h : Heap} {b lb : Nat} {ns : List Nd} {fl : List Fl} {S : List Int} {l : List Sp} {a : Nat} (ha : a < 4) {q : Int} (hq : S[44 + a]? = some q) (hq0 : 0 ≤ q ∧ q ≤ 3) (A : Option Blk) (T : List Int) (hT : T.length = 49) (hd : T.drop 40 = S.drop 40) :
    d5 Tryz.prog gW 83 [.ptr (h.length + 1 + 1) 0 0, .ptr h.length 0 0] (l6 h b lb ns fl S l ++ ([some ⟨0, [.i a]⟩] ++ [A, some ⟨0, T.map AV.i⟩]))
    (fun r h' => r = .undef ∧ h' = l6 h b lb ns fl S l ++ ([some ⟨0, [.i a]⟩] ++ [A, some ⟨0, (T.set (44 + a) (q + 1)).map AV.i⟩])) := by
  have hqT : T[44 + a]? = some q := by
    have e : (T.drop 40)[4 + a]? = (S.drop 40)[4 + a]? := by rw [hd]
    rw [List.getElem?_drop, List.getElem?_drop, show 40 + (4 + a) = 44 + a by omega] at e
    rw [e, hq]
  have := sh (G := gW) (H := l6 h b lb ns fl S l ++ ([some ⟨0, [.i a]⟩] ++ [A, some ⟨0, T.map AV.i⟩])) (c := h.length + 2) (r := h.length) (gc := 0) (gr := 0) (by rw [u5]; rfl) hT ha (by rw [A2]; rfl) hqT hq0
  rw [y9] at this
  exact this
theorem fk {ns : List Nd} {fl : List Fl} (nk : NetOk ns fl) {S : List Int} (hS : S.length = 49) (h : Heap) :
    d5 Tryz.prog gW 59 [G9 ns fl, aS S] h (fun r h' => r = rR (p8 ns fl S) ∧ h' = h) := by
  have hne := J1 hS
  have hck := fun h => dI nk hS h
  have dm := L5 (I1 hS (k := 48) (by omega))
  have emd : S.getD 48 0 = mdS S := rfl
  rw [emd] at dm
  have t49 : ((S.map AV.i).drop 0).take 49 = S.map AV.i := by rw [List.drop_zero]; exact List.take_of_length_le (by rw [List.length_map, hS]; exact Nat.le_refl _)
  have t49' : (S.map AV.i).take 49 = S.map AV.i := by rwa [List.drop_zero] at t49
  by_cases h0 : stC ns fl S = 0
  case neg =>
    have e : p8 ns fl S = [] := by unfold p8; rw [if_pos (.inl h0)]
    have f0 : (stC ns fl S != 0) = true := by simp [h0]
    rw [e]
    refine c8 (rl := []) d9 Tryz.func59 rfl (rs := [.tmp 4]) rfl Tryz.ntmps59 (by simp) ?_
    repeat' (first | ((repeat ((fail_if_success (refine hK _ ?_)); clear hK K)); refine hK _ ?_; clear hK K) | ((first | refine b9 fun K1 q7 => ?_ | refine b7 fun A B hA hB => ?_); simp only [S1, simprocAttr, ci, TSz, i8, h9, j3, f0, hne, hS, d7, t49', dm, d8, e9, List.length_map]; first | refine q7 _ ?_; clear q7 K1 | (refine hA ?_; clear hA hB A B) | (apply d4 E51; exact (hck _); refine q7 _ ?_; clear q7 K1)) | refine b6 fun K hK => ?_ | ((first | apply b8 | apply b5 | apply d3); try simp only [NB, simprocAttr]))
    all_goals simp only [S1, simprocAttr, ENB, ci]
    all_goals rfl
  have f0 : (stC ns fl S != 0) = false := by simp [h0]
  by_cases h1 : mdS S = 0
  case neg =>
    have e : p8 ns fl S = [] := by unfold p8; rw [if_pos (.inr h1)]
    have f1 : (mdS S != 0) = true := by simp [h1]
    rw [e]
    refine c8 (rl := []) d9 Tryz.func59 rfl (rs := [.tmp 4]) rfl Tryz.ntmps59 (by simp) ?_
    repeat' (first | ((repeat ((fail_if_success (refine hK _ ?_)); clear hK K)); refine hK _ ?_; clear hK K) | ((first | refine b9 fun K1 q7 => ?_ | refine b7 fun A B hA hB => ?_); simp only [S1, simprocAttr, ci, TSz, i8, h9, j3, f0, f1, hne, hS, d7, t49', dm, d8, e9, List.length_map]; first | refine q7 _ ?_; clear q7 K1 | (refine hA ?_; clear hA hB A B) | (apply d4 E51; exact (hck _); refine q7 _ ?_; clear q7 K1)) | refine b6 fun K hK => ?_ | ((first | apply b8 | apply b5 | apply d3); try simp only [NB, simprocAttr]))
    all_goals simp only [S1, simprocAttr, ENB, ci]
    all_goals rfl
  have f1 : (mdS S != 0) = false := by simp [h1]
  have e : p8 ns fl S = w4 ns fl S ns.length ++ o9 ns S 4 := by unfold p8; rw [if_neg (by simp [h0, h1])]
  rw [e]
  refine c8 (rl := []) d9 Tryz.func59 rfl (rs := [.tmp 4]) rfl Tryz.ntmps59 (by simp) ?_
  have ov2 := pX hS
  repeat' (first | ((repeat ((fail_if_success (refine hK _ ?_)); clear hK K)); refine hK _ ?_; clear hK K) | ((first | refine b9 fun K1 q7 => ?_ | refine b7 fun A B hA hB => ?_); simp only [S1, simprocAttr, ci, TSz, i8, h9, j3, f0, f1, hne, hS, ov2, d7, t49', dm, d8, e9, List.length_map, List.drop_succ_cons, List.drop_zero, List.all_append]; first | refine q7 _ ?_; clear q7 K1 | (refine hB ?_; clear hA hB A B) | (apply d4 E51; exact (hck _); refine q7 _ ?_; clear q7 K1)) | refine b6 fun K hK => ?_ | ((first | apply b8 | apply b5 | apply c7 | apply c9); try simp only [NB, simprocAttr]))
  obtain ⟨hn0, hok⟩ := eZ h0
  have rt := Right.of hn0
  have st := wx hS hok
  have hn := rt.n
  have hf := rt.f
  have hnl : ∀ j, j ≤ ns.length → (w4 ns fl S j).length ≤ 2400 := fun j hj => Nat.le_trans (aP ns fl S hf j) (by omega)
  have gok : ∀ l : List Sp, (∀ y ∈ l, y.to.length = 49) → l.length ≤ 3000 → GmOk (h ++ [some ⟨0, w8 ns fl⟩, some ⟨0, S.map AV.i⟩, none, none]) (h.length + 2) (h.length + 3) S l :=
    fun l h1 h2 => ⟨by simp, by simp, by omega, st.held, h1, by omega⟩
  have hnode : ∀ (l : List Sp), (∀ y ∈ l, y.to.length = 49) → l.length ≤ 3000 → ∀ (c : Nat) (k : Nd), ns[c]? = some k → d5 Tryz.prog gW 80 [.ptr (h.length + 2) 0 0, .i c] (h ++ [some ⟨0, w8 ns fl⟩, some ⟨0, S.map AV.i⟩, gmB ns fl S (h.length + 3) l, spB l])
      (fun r h' => r = .undef ∧ h' = h ++ [some ⟨0, w8 ns fl⟩, some ⟨0, S.map AV.i⟩, gmB ns fl S (h.length + 3) (l ++ n7 ns fl S c k), spB (l ++ n7 ns fl S c k)]) := by
    intro l h1 h2 c k hc
    have := qh nk rt (gok l h1 h2) st (by omega) c hc
    have e1 := X8 h (some ⟨0, w8 ns fl⟩) (some ⟨0, S.map AV.i⟩) none none [] ns fl S l
    have e2 := X8 h (some ⟨0, w8 ns fl⟩) (some ⟨0, S.map AV.i⟩) none none [] ns fl S (l ++ n7 ns fl S c k)
    rw [List.append_nil] at e1 e2
    rwa [e1, e2] at this
  refine B5 ns.length 57 (fun j => [(25, .i j), (24, .i ns.length), (5, .ptr (h.length + 2) 0 0), (3, .ptr (h.length + 1) 0 0), (2, .ptr h.length 0 0)])
    (fun j => [some ⟨0, w8 ns fl⟩, some ⟨0, S.map AV.i⟩, gmB ns fl S (h.length + 3) (w4 ns fl S j), spB (w4 ns fl S j)]) (fun j => True) ?_ trivial fun j hj hp K hK => ?_
  · refine (o5.game hS rfl).trans (Sub.ghost ⟨rfl, ⟨[], by simp only [List.append_nil]; rfl⟩, ?_, ⟨trivial, trivial, trivial⟩, g9 _ _, D6 (by simp), g9 _ _, trivial⟩)
    simp only [S1, simprocAttr, KNB] <;> (try and_intros) <;> (try assumption) <;> (try trivial) <;> (try omega)
  rcases Nat.lt_or_ge j ns.length with hlt | hge
  · obtain ⟨k, hx⟩ : ∃ k, ns[j]? = some k := ⟨_, List.getElem?_eq_getElem hlt⟩
    have ej : w4 ns fl S (j + 1) = w4 ns fl S j ++ n7 ns fl S j k := by rw [w4, hx]
    have hnd := hnode (w4 ns fl S j) (U6 hS j) (by have := hnl j hj; omega) j k hx
    repeat' (first | ((repeat ((fail_if_success (refine hK _ ?_)); clear hK K)); refine hK _ ?_; clear hK K) | ((first | refine b9 fun K1 q7 => ?_ | refine b7 fun A B hA hB => ?_); simp only [S1, simprocAttr, ci, W4 hlt, K3 nk.n hlt]; first | refine q7 _ ?_; clear q7 K1 | (refine hA ?_; clear hA hB A B) | (apply d4 E80; exact hnd; refine q7 _ ?_; clear q7 K1)) | refine b6 fun K hK => ?_ | ((first | apply b8 | apply b5 | apply c7 | apply c9); try simp only [NB, simprocAttr]))
    all_goals refine ⟨hlt, trivial, ?_⟩
    all_goals simp only [ej]
    all_goals refine ⟨rfl, ⟨_, rfl⟩, ?_, ⟨trivial, trivial, trivial⟩, g9 _ _, D6 (by simp), g9 _ _, trivial⟩
    all_goals simp only [S1, simprocAttr, KNB] <;> (try and_intros) <;> (try assumption) <;> (try trivial) <;> (try omega)
  obtain rfl : j = ns.length := by omega
  have ar44 : ((S.map AV.i).drop 44).take 4 = ((S.drop 44).take 4).map AV.i := by rw [List.map_take, List.map_drop]
  have l4 : ((S.drop 44).take 4).length = 4 := by simp [hS]
  repeat' (first | ((repeat ((fail_if_success (refine hK _ ?_)); clear hK K)); refine hK _ ?_; clear hK K) | ((first | refine b9 fun K1 q7 => ?_ | refine b7 fun A B hA hB => ?_); simp only [S1, simprocAttr, ci, TSz, i8, dB, ar44, hS, d8, e9, List.length_map, List.length_drop, List.length_take]; first | refine q7 _ ?_; clear q7 K1 | (refine hB ?_; clear hA hB A B)) | refine b6 fun K hK => ?_ | ((first | apply b8 | apply b5 | apply c7 | apply f9); try simp only [NB, simprocAttr]))
  have hl0 : ∀ y ∈ w4 ns fl S ns.length, y.to.length = 49 := U6 hS ns.length
  have hl1 : (w4 ns fl S ns.length).length ≤ 2400 := hnl _ (Nat.le_refl _)
  generalize w4 ns fl S ns.length = l0 at *
  have hlm : ∀ m, m ≤ 4 → (l0 ++ o9 ns S m).length ≤ 2500 := fun m hm => by
    rw [List.length_append]; have := aR ns S m; omega
  have htm : ∀ m, ∀ y ∈ l0 ++ o9 ns S m, y.to.length = 49 := fun m y hy => (List.mem_append.mp hy).elim (hl0 y) (cD hS m y)
  refine o8 4 57 (fun m => [(34, .i m), (33, .agg (((S.drop 44).take 4).map AV.i)), (5, .ptr (h.length + 2) 0 0), (3, .ptr (h.length + 1) 0 0), (2, .ptr h.length 0 0)])
    (fun m => [some ⟨0, w8 ns fl⟩, some ⟨0, S.map AV.i⟩, gmB ns fl S (h.length + 3) (l0 ++ o9 ns S m), spB (l0 ++ o9 ns S m)]) (fun m => True) ?_ trivial fun m hm hp K hK => ?_
  · have s0 : o9 ns S 0 = [] := rfl
    simp only [s0, List.append_nil]
    refine ⟨rfl, ⟨[], by simp only [List.append_nil]⟩, ?_, ⟨trivial, trivial, trivial⟩, g9 _ _, D6 (by simp), g9 _ _, trivial⟩
    simp only [S1, simprocAttr, KNB] <;> (try and_intros) <;> (try assumption) <;> (try trivial) <;> (try omega)
    all_goals exact g9 _ _
  rcases Nat.lt_or_ge m 4 with hlt | hge
  · have m0 : (0 : Int) ≤ (m : Int) := by omega
    have m4 : (m : Int) < 4 := by omega
    obtain ⟨hq, q0, q3⟩ := st.q hlt
    have hq4 : ((S.drop 44).take 4)[m]? = some (qAt S m) := by rw [List.getElem?_take_of_lt hlt, List.getElem?_drop]; exact hq
    have hdq := L5 hq4
    have hw9 := fun h => nT (G := gW) ns fl nk.n m hlt h
    have es : o9 ns S (m + 1) = o9 ns S m ++ K4 ns S m := rfl
    cases ew : cC ns m with
    | false =>
      rw [ew] at hw9
      have hs : K4 ns S m = [] := by unfold K4; rw [if_neg (by simp [ew])]
      repeat' (first | ((repeat ((fail_if_success (refine hK _ ?_)); clear hK K)); refine hK _ ?_; clear hK K) | ((first | refine b9 fun K1 q7 => ?_ | refine b7 fun A B hA hB => ?_); simp only [S1, simprocAttr, ci, m0, m4, P7 (n := 4) (by omega) hlt, hdq, l4, List.length_map, Nat.mul_one]; first | refine q7 _ ?_; clear q7 K1 | ((first | refine hA ?_ | refine hB ?_); clear hA hB A B) | (apply d4 E81; exact (hw9 _); refine q7 _ ?_; clear q7 K1)) | refine b6 fun K hK => ?_ | ((first | apply b8 | apply b5 | apply c7 | apply c9); try simp only [NB, simprocAttr]))
      all_goals refine ⟨hlt, trivial, ?_⟩
      all_goals simp only [es, hs, List.append_nil]
      all_goals refine ⟨rfl, ⟨_, rfl⟩, ?_, ⟨trivial, trivial, trivial⟩, g9 _ _, D6 (by simp), g9 _ _, trivial⟩
      all_goals simp only [S1, simprocAttr, KNB] <;> (try and_intros) <;> (try assumption) <;> (try trivial) <;> (try omega)
      all_goals exact g9 _ _
    | true =>
      rw [ew] at hw9
      by_cases h3 : qAt S (m : Int) < 3
      · have h3' : decide (qAt S (m : Int) < 3) = true := decide_eq_true h3
        have hs : K4 ns S m = o7 S ⟨-1, m, 5, 0, m, S.set (44 + m) (qAt S m + 1)⟩ [] [] := by unfold K4; rw [if_pos ⟨ew, h3⟩]
        generalize qAt S (m : Int) = q at *
        have em := H4 hS (m := ⟨-1, m, 5, 0, m, S⟩) (Chg.set hS (k := 44 + m) (by omega) (q + 1)) (fr := []) (to := []) ⟨by simp, by simp⟩ ⟨by simp, by simp⟩
        simp only at em
        have hadd : d5 Tryz.prog gW 82 [.ptr (h.length + 2) 0 0, aMv ⟨-1, m, 5, 0, m, S⟩, .p .nils, .p .nils, .fn 83 [.ptr (h.length + 4) 0 0]] (h ++ (some ⟨0, w8 ns fl⟩ :: some ⟨0, S.map AV.i⟩ :: gmB ns fl S (h.length + 3) (l0 ++ o9 ns S m) :: spB (l0 ++ o9 ns S m) :: [some ⟨0, [.i m]⟩]))
            (fun r h' => r = .undef ∧ h' = h ++ (some ⟨0, w8 ns fl⟩ :: some ⟨0, S.map AV.i⟩ :: gmB ns fl S (h.length + 3) (l0 ++ o9 ns S m ++ K4 ns S m) :: spB (l0 ++ o9 ns S m ++ K4 ns S m) :: [some ⟨0, [.i m]⟩])) := by
          have := sn (ns := ns) (fl := fl) (gok _ (htm m) (by have := hlm m (by omega); omega)) ⟨-1, m, 5, 0, m, S⟩ [some ⟨0, [.i m]⟩] E83 (caps := [.ptr (h.length + 4) 0 0]) ⟨by simp [r9], trivial⟩ (chg := fun T => T.set (44 + m) (q + 1)) (fun T hT => by rw [List.length_set, hT])
            (fun A T hT hd => by
              have := ym (h := h ++ [some ⟨0, w8 ns fl⟩, some ⟨0, S.map AV.i⟩, none, none]) (b := h.length + 2) (lb := h.length + 3) (ns := ns) (fl := fl) (S := S) (l := l0 ++ o9 ns S m) hlt hq ⟨q0, q3⟩ A T hT hd
              simpa using this)
          rw [em, ← hs] at this
          rwa [X8, X8] at this
        repeat' (first | ((repeat ((fail_if_success (refine hK _ ?_)); clear hK K)); refine hK _ ?_; clear hK K) | ((first | refine b9 fun K1 q7 => ?_ | refine b7 fun A B hA hB => ?_); simp only [S1, simprocAttr, ci, m0, m4, P7 (n := 4) (by omega) hlt, hdq, l4, h3', List.length_map, Nat.mul_one]; first | refine q7 _ ?_; clear q7 K1 | (refine hA ?_; clear hA hB A B) | (apply d4 E81; exact (hw9 _); refine q7 _ ?_; clear q7 K1) | (apply d4 E82; exact hadd; refine q7 _ ?_; clear q7 K1)) | refine b6 fun K hK => ?_ | ((first | apply b8 | apply b5 | apply c7 | apply c9); try simp only [NB, simprocAttr]))
        all_goals refine ⟨hlt, trivial, ?_⟩
        all_goals simp only [es, ← List.append_assoc]
        all_goals refine ⟨rfl, ⟨_, by simp only [List.append_assoc, List.cons_append, List.nil_append]; rfl⟩, ?_, ⟨trivial, trivial, trivial⟩, g9 _ _, D6 (by simp), g9 _ _, trivial⟩
        all_goals simp only [S1, simprocAttr, KNB] <;> (try and_intros) <;> (try assumption) <;> (try trivial) <;> (try omega)
        all_goals exact g9 _ _
      · have h3' : decide (qAt S (m : Int) < 3) = false := decide_eq_false h3
        have hs : K4 ns S m = [] := by unfold K4; rw [if_neg (by simp [h3])]
        repeat' (first | ((repeat ((fail_if_success (refine hK _ ?_)); clear hK K)); refine hK _ ?_; clear hK K) | ((first | refine b9 fun K1 q7 => ?_ | refine b7 fun A B hA hB => ?_); simp only [S1, simprocAttr, ci, m0, m4, P7 (n := 4) (by omega) hlt, hdq, l4, h3', List.length_map, Nat.mul_one]; first | refine q7 _ ?_; clear q7 K1 | ((first | refine hA ?_ | refine hB ?_); clear hA hB A B) | (apply d4 E81; exact (hw9 _); refine q7 _ ?_; clear q7 K1)) | refine b6 fun K hK => ?_ | ((first | apply b8 | apply b5 | apply c7 | apply c9); try simp only [NB, simprocAttr]))
        all_goals refine ⟨hlt, trivial, ?_⟩
        all_goals simp only [es, hs, List.append_nil]
        all_goals refine ⟨rfl, ⟨_, rfl⟩, ?_, ⟨trivial, trivial, trivial⟩, g9 _ _, D6 (by simp), g9 _ _, trivial⟩
        all_goals simp only [S1, simprocAttr, KNB] <;> (try and_intros) <;> (try assumption) <;> (try trivial) <;> (try omega)
        all_goals exact g9 _ _
  obtain rfl : m = 4 := by omega
  have hz := htm 4
  have hrf := aH (ns := ns) (fl := fl) (lb := h.length + 3) (n := (l0 ++ o9 ns S 4).length) hS
  rw [List.length_append] at hrf
  repeat' (first | ((repeat ((fail_if_success (refine hK _ ?_)); clear hK K)); refine hK _ ?_; clear hK K) | ((first | refine b9 fun K1 q7 => ?_ | refine b7 fun A B hA hB => ?_); simp only [S1, simprocAttr, ci, gmB, hrf]; first | refine q7 _ ?_; clear q7 K1 | (refine hB ?_; clear hA hB A B)) | refine b6 fun K hK => ?_ | ((first | apply b8 | apply b5 | apply f9 | apply d3); try simp only [NB, simprocAttr]))
  rw [show rR (l0 ++ o9 ns S 4) = .p (.sl ((l0 ++ o9 ns S 4).map nR)) from congrArg (fun x => AV.p (.sl x)) (ke hz).symm]
  exact fW pY te (.inr rfl) (l := l0 ++ o9 ns S 4) (List.length_append).symm rfl (by simp only [spB, wy hz, r7, m9, List.getElem?_cons_succ, List.getElem?_cons_zero, List.length_append, if_true]) (by omega) (by simp) (by simp) rfl
end
section
def bi := And.intro T2 (And.intro T3 (And.intro T4 (And.intro T22 (And.intro T25 (And.intro T28 (And.intro T31 (And.intro T41 (And.intro T57 (And.intro T58 (And.intro T77 (And.intro T89 (And.intro T92 (And.intro fP mZ)))))))))))))
attribute [local irreducible] awp n8 k3 l8 o4 m8
theorem Q1 {ns : List Nd} {fl : List Fl} {S : List Int} (hS : S.length = 49) : ∀ y ∈ p8 ns fl S, y.to.length = 49 := by
  intro y hy
  unfold p8 at hy
  split at hy
  · cases hy
  · rcases List.mem_append.mp hy with h | h
    · exact U6 hS _ y h
    · exact cD hS _ y h
theorem M3 {ns : List Nd} {fl : List Fl} {S : List Int} : (p8 ns fl S).length ≤ 2500 := by
  unfold p8
  split
  · simp
  · rename_i h0
    rw [not_or] at h0
    have rt := Right.of (eZ (by simpa using h0.1)).1
    have hn := rt.n
    have hf := rt.f
    have h1 := aP ns fl S hf ns.length
    have h2 := aR ns S 4
    rw [List.length_append]
    have : 100 * ns.length ≤ 100 * 24 := Nat.mul_le_mul_left _ hn
    omega
def cMv (y : Sp) : List Int := [y.node, y.arg, y.lk, y.ln, y.la]
def eMv (y : Sp) : List PV := (cMv y).map (PV.int .i64)
def kw (l : List Sp) : List Int := l.flatMap cMv
abbrev zG (l : List Sp) : AV := .p (.sl (l.map eMv))
theorem yn (y : Sp) : (eMv y).length = 5 := rfl
theorem zH (y : Sp) : ∀ x ∈ eMv y, x ≠ .nils := by
  intro x hx
  obtain ⟨n, _, rfl⟩ := List.mem_map.mp hx
  exact fun e => by cases e
theorem zI (l : List Sp) : (kw l).map AV.i = (X3 eMv l).map AV.p := by
  unfold X3 kw eMv
  rw [List.map_flatMap, List.map_flatMap]
  congr 1
theorem qi : ∀ l : List Sp, (kw l).length = l.length * 5
  | [] => rfl
  | x :: r => by
    have := qi r
    unfold kw at this ⊢
    rw [List.flatMap_cons, List.length_append, this, List.length_cons]; simp [cMv] <;> omega
theorem uL {l : List Sp} {j : Nat} {y : Sp} (h : l[j]? = some y) : kw (l.take (j + 1)) = kw (l.take j) ++ [y.node, y.arg, y.lk, y.ln, y.la] := by
  unfold kw
  rw [List.take_add_one, h, List.flatMap_append]
  simp [cMv]
theorem iv {ns : List Nd} {fl : List Fl} (nk : NetOk ns fl) {S : List Int} (hS : S.length = 49) (h : Heap) :
    d5 Tryz.prog gW 38 [G9 ns fl, aS S] h (fun r h' => r = zG (p8 ns fl S) ∧ h' = h) := by
  have hne := J1 hS
  have hst := fun h => fk nk hS h
  have hto := Q1 (ns := ns) (fl := fl) hS
  have hln := M3 (ns := ns) (fl := fl) (S := S)
  have t49' : (S.map AV.i).take 49 = S.map AV.i := List.take_of_length_le (by rw [List.length_map, hS]; exact Nat.le_refl _)
  refine c8 (rl := []) d9 Tryz.func38 rfl (rs := [.tmp 4]) rfl Tryz.ntmps38 (by simp) ?_
  repeat' (first | ((repeat ((fail_if_success (refine hK _ ?_)); clear hK K)); refine hK _ ?_; clear hK K) | (refine b9 fun K1 q7 => ?_; simp only [S1, simprocAttr, bi, TSz, i8, h9, j3, hne, hS, d7, t49', d8, e9, List.length_map]; first | refine q7 _ ?_; clear q7 K1 | (apply d4 E59; exact (hst _); refine q7 _ ?_; clear q7 K1)) | refine b6 fun K hK => ?_ | ((first | apply b8 | apply b5 | apply c7); try simp only [NB, simprocAttr]))
  clear hst
  generalize p8 ns fl S = sl at *
  refine B5 sl.length 23 (fun j => [(12, .i j), (11, .i sl.length), (10, rR sl), (5, .ref (h.length + 2) j 0 5 j)])
    (fun j => [some ⟨0, w8 ns fl⟩, some ⟨0, S.map AV.i⟩, some ⟨j, (kw (sl.take j)).map AV.i⟩]) (fun j => True) ?_ trivial fun j hj hp K hK => ?_
  · refine (o5.adopt 5 5 rfl).trans (Sub.ghost ⟨rfl, ⟨[], by simp [kw]⟩, ?_, ⟨trivial, trivial, trivial⟩, g9 _ _, g9 _ _, trivial⟩)
    simp only [G7, r9, C9, frL, List.length_cons, List.length_nil]
    simp
  rcases Nat.lt_or_ge j sl.length with hlt | hge
  · obtain ⟨y, hy⟩ : ∃ y, sl[j]? = some y := ⟨_, List.getElem?_eq_getElem hlt⟩
    have hxy : (sl.map eSp)[j]? = some ((cSp y).map (PV.int .i64)) := by rw [List.getElem?_map, hy]; rfl
    have hyl := hto y (List.mem_of_getElem? hy)
    have jl : (j : Int) < (sl.length : Int) := by omega
    have j0 : (0 : Int) ≤ (j : Int) := by omega
    have hnx : IntKind.i64.wrap ((j : Int) + 1) = ((j + 1 : Nat) : Int) := by rw [IntWalk.i64_in _ (by omega)]; omega
    have y54 : (cSp y).length = 54 := E3 hyl
    have ymm := (t7 (cSp y)).trans (nB y)
    have yov := D2 hyl
    have yt49 : (y.to.map AV.i).take 49 = y.to.map AV.i := List.take_of_length_le (by rw [List.length_map, hyl]; exact Nat.le_refl _)
    have hmax : j + 1 ≤ j6 := by unfold j6; omega
    have hcl : (kw (sl.take j)).length = j * 5 := by rw [qi, List.length_take, Nat.min_eq_left (by omega)]
    have hcs := uL hy
    repeat' (first | ((repeat ((fail_if_success (refine hK _ ?_)); clear hK K)); refine hK _ ?_; clear hK K) | ((first | refine b9 fun K1 q7 => ?_ | refine b7 fun A B hA hB => ?_); simp only [S1, simprocAttr, bi, jl, j0, hxy, hnx, y54, ymm, yov, yt49, hyl, hmax, hcl, d8, e9, d7, List.length_map, Nat.mul_one]; first | refine q7 _ ?_; clear q7 K1 | (refine hA ?_; clear hA hB A B)) | refine b6 fun K hK => ?_ | ((first | apply b8 | apply b5 | apply c7 | apply c9); try simp only [NB, simprocAttr]))
    all_goals refine ⟨hlt, trivial, ?_⟩
    all_goals simp only [hcs, List.map_append, List.map_cons, List.map_nil]
    all_goals refine ⟨rfl, ⟨_, rfl⟩, ?_, ⟨trivial, trivial, trivial⟩, g9 _ _, (by have := g9 (h.length + 3) (kw (sl.take j) ++ [y.node, y.arg, y.lk, y.ln, y.la]); simpa using this), trivial⟩
    all_goals simp only [S1, simprocAttr, KNB] <;> (try and_intros) <;> (try assumption) <;> (try trivial) <;> (try omega)
  · obtain rfl : j = sl.length := by omega
    repeat' (first | ((repeat ((fail_if_success (refine hK _ ?_)); clear hK K)); refine hK _ ?_; clear hK K) | ((first | refine b9 fun K1 q7 => ?_ | refine b7 fun A B hA hB => ?_); simp only [S1, simprocAttr, bi, Int.lt_irrefl]; first | refine q7 _ ?_; clear q7 K1 | (refine hB ?_; clear hA hB A B)) | refine b6 fun K hK => ?_ | ((first | apply b8 | apply b5 | apply f9 | apply d3); try simp only [NB, simprocAttr]))
    exact fW yn zH (.inr rfl) (l := sl) rfl rfl (by simp only [zI, List.take_length, r7, m9, List.getElem?_cons_succ, List.getElem?_cons_zero, if_true]) (by omega) (by simp) (by simp) rfl
def zSp : Sp := ⟨0, 0, 0, 0, 0, zS⟩
noncomputable def doG (ns : List Nd) (fl : List Fl) (S : List Int) (i : Int) : Sp × Int :=
  if stC ns fl S ≠ 0 then (zSp, stC ns fl S) else if i < 0 then (zSp, 6) else match (p8 ns fl S)[i.toNat]? with | some y => (y, 0) | none => (zSp, 6)
abbrev aLb (y : Sp) : AV := .agg [.i y.lk, .i y.ln, .i y.la]
theorem wT {ns : List Nd} {fl : List Fl} (nk : NetOk ns fl) {S : List Int} (hS : S.length = 49) (i : Int) (h : Heap) :
    d5 Tryz.prog gW 52 [G9 ns fl, aS S, .i i] h (fun r h' => r = .tup [aS (doG ns fl S i).1.to, aLb (doG ns fl S i).1, .i (doG ns fl S i).2] ∧ h' = h) := by
  have hne := J1 hS
  have hst := fun h => fk nk hS h
  have hck := fun h => dI nk hS h
  have hto := Q1 (ns := ns) (fl := fl) hS
  have t49' : (S.map AV.i).take 49 = S.map AV.i := List.take_of_length_le (by rw [List.length_map, hS]; exact Nat.le_refl _)
  have hzl : (zS.map AV.i).length = 49 := by rw [List.length_map]; rfl
  have hem : (zS.map AV.i).isEmpty = false := rfl
  have hzz : t8 (zS.map AV.i) 0 (zS.map AV.i) = zS.map AV.i := l9 (n := 49) (by rw [List.length_map]; rfl) _ hzl
  have hzt : (zS.map AV.i).take 49 = zS.map AV.i := List.take_of_length_le (by rw [hzl]; exact Nat.le_refl _)
  by_cases h0 : stC ns fl S = 0
  case neg =>
    have f0 : (stC ns fl S != 0) = true := by simp [h0]
    have e : doG ns fl S i = (zSp, stC ns fl S) := by unfold doG; rw [if_pos h0]
    rw [e]
    refine c8 (rl := []) d9 Tryz.func52 rfl (rs := [.cell 6 82, .cell 7 28, .tmp 8]) rfl Tryz.ntmps52 (by simp) ?_
    repeat' (first | ((repeat ((fail_if_success (refine hK _ ?_)); clear hK K)); refine hK _ ?_; clear hK K) | ((first | refine b9 fun K1 q7 => ?_ | refine b7 fun A B hA hB => ?_); simp only [S1, simprocAttr, bi, f0, TSz, i8, h9, j3, hem, hzz, hzt, hne, hS, d7, t49', d8, e9, List.length_map]; first | refine q7 _ ?_; clear q7 K1 | (refine hA ?_; clear hA hB A B) | (apply d4 E51; exact (hck _); refine q7 _ ?_; clear q7 K1)) | refine b6 fun K hK => ?_ | ((first | apply b8 | apply b5 | apply d3); try simp only [NB, simprocAttr]))
    all_goals simp only [S1, simprocAttr, ENB, bi, hzt, hzl, List.length_map, j3, TSz, e9, L8, t7]
    all_goals rfl
  have f0 : (stC ns fl S != 0) = false := by simp [h0]
  rw [h0] at hck
  by_cases h1 : i < 0
  · have f1 : decide (i < 0) = true := decide_eq_true h1
    have e : doG ns fl S i = (zSp, 6) := by unfold doG; rw [if_neg (by simpa using h0), if_pos h1]
    rw [e]
    refine c8 (rl := []) d9 Tryz.func52 rfl (rs := [.cell 6 82, .cell 7 28, .tmp 8]) rfl Tryz.ntmps52 (by simp) ?_
    repeat' (first | ((repeat ((fail_if_success (refine hK _ ?_)); clear hK K)); refine hK _ ?_; clear hK K) | ((first | refine b9 fun K1 q7 => ?_ | refine b7 fun A B hA hB => ?_); simp only [S1, simprocAttr, bi, f1, TSz, i8, h9, j3, hem, hzz, hzt, hne, hS, d7, t49', d8, e9, List.length_map]; first | refine q7 _ ?_; clear q7 K1 | ((first | refine hA ?_ | refine hB ?_); clear hA hB A B) | (apply d4 E51; exact (hck _); refine q7 _ ?_; clear q7 K1) | (apply d4 E59; exact (hst _); refine q7 _ ?_; clear q7 K1)) | refine b6 fun K hK => ?_ | ((first | apply b8 | apply b5 | apply c9 | apply d3); try simp only [NB, simprocAttr]))
    all_goals simp only [S1, simprocAttr, ENB, bi, hzt, hzl, List.length_map, j3, TSz, e9, L8, t7]
    all_goals rfl
  have f1 : decide (i < 0) = false := decide_eq_false h1
  obtain ⟨n, rfl⟩ := Int.eq_ofNat_of_zero_le (by omega : 0 ≤ i)
  rcases Nat.lt_or_ge n (p8 ns fl S).length with hlt | hge
  · obtain ⟨y, hy⟩ : ∃ y, (p8 ns fl S)[n]? = some y := ⟨_, List.getElem?_eq_getElem hlt⟩
    have e : doG ns fl S (n : Int) = (y, 0) := by unfold doG; rw [if_neg (by simpa using h0), if_neg h1, Int.toNat_natCast, hy]
    rw [e]
    have hyl := hto y (List.mem_of_getElem? hy)
    generalize p8 ns fl S = sl at *
    have hxy : (sl.map eSp)[n]? = some ((cSp y).map (PV.int .i64)) := by rw [List.getElem?_map, hy]; rfl
    have f2 : decide ((sl.length : Int) ≤ (n : Int)) = false := by simp; omega
    have n0 : (0 : Int) ≤ (n : Int) := by omega
    have y54 : (cSp y).length = 54 := E3 hyl
    have ymm := (t7 (cSp y)).trans (nB y)
    have ycons : (cSp y).map (PV.int .i64) = .int .i64 y.node :: .int .i64 y.arg :: .int .i64 y.lk :: .int .i64 y.ln :: .int .i64 y.la :: y.to.map (PV.int .i64) := rfl
    have yto : (y.to.map (PV.int .i64)).map AV.p = y.to.map AV.i := t7 y.to
    have yt49 : (y.to.map AV.i).take 49 = y.to.map AV.i := List.take_of_length_le (by rw [List.length_map, hyl]; exact Nat.le_refl _)
    have yt49p : (y.to.map (PV.int .i64)).take 49 = y.to.map (PV.int .i64) := List.take_of_length_le (by rw [List.length_map, hyl]; exact Nat.le_refl _)
    have hyz : t8 (zS.map AV.i) 0 (y.to.map AV.i) = y.to.map AV.i := l9 (n := 49) (by rw [List.length_map, hyl]) _ hzl
    refine c8 (rl := []) d9 Tryz.func52 rfl (rs := [.cell 6 82, .cell 7 28, .tmp 8]) rfl Tryz.ntmps52 (by simp) ?_
    repeat' (first | ((first | apply b8 | apply s4); (try simp only [NB])) | ((repeat ((fail_if_success (refine hK _ ?_)); clear hK K)); refine hK _ ?_; clear hK K) | ((first | refine b9 fun K1 q7 => ?_ | refine u9 rfl rfl rfl fun K1 q7 => ?_ | refine b7 fun A B hA hB => ?_); simp only [S1, simprocAttr, bi, f1, f2, n0, hxy, y54, ymm, ycons, yto, yt49, yt49p, hyz, hyl, TSz, i8, h9, j3, hem, hne, hS, d7, t49', d8, e9, LNB]; first | refine q7 _ ?_; clear q7 K1 | (refine hB ?_; clear hA hB A B) | (apply d4 E51; exact (hck _); refine q7 _ ?_; clear q7 K1) | (apply d4 E59; exact (hst _); refine q7 _ ?_; clear q7 K1)) | ((first | refine v6 (v := ?_) rfl rfl rfl rfl (by decide) (fun R1 K1 q7 => ?_) ?_ | refine z7 (v := ?_) rfl rfl rfl (by decide) (fun K1 q7 => ?_) ?_ | refine W8 (v := ?_) rfl rfl rfl (by decide) (fun K1 q7 => ?_) ?_ | refine vB (v := ?_) rfl rfl rfl rfl (by decide) (fun H1 K1 q7 => ?_) ?_); rotate_left; (focus (simp only [S1, simprocAttr, bi, f1, f2, n0, hxy, y54, ymm, ycons, yto, yt49, yt49p, hyz, hyl, TSz, i8, h9, j3, hem, hne, hS, d7, t49', d8, e9, LNB]; (exact q7 _ _ _)))) | (refine s5 rfl rfl rfl ?_) | refine b6 fun K hK => ?_ | (refine q9 (es := []) [0, 1, 2, 3, 4, 5, 6, 7, 8, 9, 10, 11, 12, 13] 0 (fs := [2, 7, 10]) rfl (by kernel_rfl) (by kernel_rfl) ?_) | ((first | apply b5 | apply c9 | apply d3); try simp only [NB, simprocAttr]))
    all_goals simp only [S1, simprocAttr, ENB, bi, yt49, hyl, List.length_map, TSz, e9, L8, t7]
  · have e : doG ns fl S (n : Int) = (zSp, 6) := by unfold doG; rw [if_neg (by simpa using h0), if_neg h1, Int.toNat_natCast, List.getElem?_eq_none hge]
    rw [e]
    generalize p8 ns fl S = sl at *
    have f2 : decide ((sl.length : Int) ≤ (n : Int)) = true := by simp; omega
    refine c8 (rl := []) d9 Tryz.func52 rfl (rs := [.cell 6 82, .cell 7 28, .tmp 8]) rfl Tryz.ntmps52 (by simp) ?_
    repeat' (first | ((repeat ((fail_if_success (refine hK _ ?_)); clear hK K)); refine hK _ ?_; clear hK K) | ((first | refine b9 fun K1 q7 => ?_ | refine b7 fun A B hA hB => ?_); simp only [S1, simprocAttr, bi, f1, f2, TSz, i8, h9, j3, hem, hzz, hzt, hne, hS, d7, t49', d8, e9, List.length_map]; first | refine q7 _ ?_; clear q7 K1 | ((first | refine hA ?_ | refine hB ?_); clear hA hB A B) | (apply d4 E51; exact (hck _); refine q7 _ ?_; clear q7 K1) | (apply d4 E59; exact (hst _); refine q7 _ ?_; clear q7 K1)) | refine b6 fun K hK => ?_ | ((first | apply b8 | apply b5 | apply c9 | apply d3); try simp only [NB, simprocAttr]))
    all_goals simp only [S1, simprocAttr, ENB, bi, hzt, hzl, List.length_map, j3, TSz, e9, L8, t7]
    all_goals rfl
end
section
section
variable {P : Program} {G : Nat → Option (List PV)} {rl : List String} {h : Heap}
theorem gA {x y : Code} {Q : Exit → St → Prop} {s : St} (s1 : St) (h1 : ∀ K : St → Prop, (∀ s', o5 P G h s' s1 → K s') → awp P G rl h x (N3 K Q) s) (h2 : awp P G rl h y Q s1) : awp P G rl h (.seq x y) Q s :=
  sK (fun t => t = s1) (h1 _ fun s' hs => ⟨_, hs, rfl⟩) fun t e => by subst e; exact h2
theorem o5.move {h0 : Heap} {s : St} {b j q m off sz n : Nat} {bk bq bm : Blk} (hb : s.heap[b]? = some (some bk)) (hx : bk.cells[j]? = some (.ref m bm.g off sz n)) (hq : s.heap[q]? = some (some bq)) (hm : s.heap[m]? = some (some bm)) (hbq : b ≠ q) (hbm : b ≠ m) (hqm : q ≠ m) :
    o5 P G h0 s ⟨s.fr, s.nt, ((s.heap.set m none).set q (some ⟨bq.g + 1, bm.cells⟩)).set b (some ⟨bk.g, bk.cells.set j (.ref q (bq.g + 1) off sz n)⟩)⟩ := by
  intro ι a w ι0 w0 hS hs he
  have hbl : b < s.heap.length := j4 hb
  have hql : q < s.heap.length := j4 hq
  have hml : m < s.heap.length := j4 hm
  have hne' : bk.cells ≠ [] := by
    intro e
    rw [e] at hx; simp at hx
  obtain ⟨h', hh'⟩ : ∃ h', h' = ((s.heap.set m none).set q (some ⟨bq.g + 1, bm.cells⟩)).set b (some ⟨bk.g, bk.cells.set j (.ref q (bq.g + 1) off sz n)⟩) := ⟨_, rfl⟩
  obtain ⟨ι', hι⟩ : ∃ ι' : Nat → Nat × Nat, ι' = fun i => if i = q then ι m else ι i := ⟨_, rfl⟩
  have hlen : h'.length = s.heap.length := by rw [hh']; simp
  have hlo : ∀ (c : Nat) (bk' : Blk), h'[c]? = some (some bk') → (c = b ∧ bk' = ⟨bk.g, bk.cells.set j (.ref q (bq.g + 1) off sz n)⟩) ∨ (c = q ∧ bk' = ⟨bq.g + 1, bm.cells⟩) ∨ (c ≠ b ∧ c ≠ q ∧ c ≠ m ∧ s.heap[c]? = some (some bk')) := by
    intro c bk' hc
    rw [hh', List.getElem?_set] at hc
    split at hc
    · rename_i e
      split at hc
      · exact .inl ⟨e.symm, (Option.some.inj (Option.some.inj hc)).symm⟩
      · cases hc
    · rename_i e1
      rw [List.getElem?_set] at hc
      split at hc
      · rename_i e
        split at hc
        · exact .inr (.inl ⟨e.symm, (Option.some.inj (Option.some.inj hc)).symm⟩)
        · cases hc
      · rename_i e2
        rw [List.getElem?_set] at hc
        split at hc
        · (try split at hc) <;> cases hc
        · rename_i e3
          exact .inr (.inr ⟨fun e => e1 e.symm, fun e => e2 e.symm, fun e => e3 e.symm, hc⟩)
  have hιo : ∀ c, c ≠ q → ι' c = ι c := fun c hc => by rw [hι]; simp [hc]
  have hιq : ι' q = ι m := by rw [hι]; simp
  have own_lo : ∀ k, own ι' h' k → own ι s.heap k := by
    rintro k ⟨c, bk', q1, q2, q3⟩
    rcases hlo c bk' q1 with ⟨rfl, rfl⟩ | ⟨rfl, rfl⟩ | ⟨n1, n2, n3, q1⟩
    · exact ⟨c, bk, hb, hne', by rw [← q3, hιo c hbq]⟩
    · exact ⟨m, bm, hm, q2, by rw [← q3, hιq]⟩
    · exact ⟨c, bk', q1, q2, by rw [← q3, hιo c n2]⟩
  have oo : ∀ k, k < w.heap.size → ¬ own ι s.heap k → w.heap[k]? = w.heap[k]? ∧ ¬ own ι' h' k := fun k _ ho => ⟨rfl, fun e => ho (own_lo k e)⟩
  have lv : ∀ (c g : Nat), (∀ bk : Blk, s.heap[c]? = some (some bk) → g ≤ bk.g) → A5 h' c g → c ≠ q ∧ c ≠ m ∧ A5 s.heap c g ∧ (∀ bk : Blk, s.heap[c]? = some (some bk) → bk.cells ≠ [] → ∃ bk' : Blk, h'[c]? = some (some bk') ∧ bk'.cells ≠ []) := by
    rintro c g hg ⟨bk', q1, q2⟩
    rcases hlo c bk' q1 with ⟨rfl, rfl⟩ | ⟨rfl, rfl⟩ | ⟨n1, n2, n3, q3⟩
    · refine ⟨hbq, hbm, ⟨bk, hb, q2⟩, fun bk1 hk1 hk2 => ⟨_, q1, ?_⟩⟩
      rw [hb] at hk1; cases hk1
      rw [ne_eq, ← List.length_eq_zero_iff, List.length_set, List.length_eq_zero_iff]; exact hne'
    · have := hg bq hq
      simp only at q2
      omega
    · exact ⟨n2, n3, ⟨bk', q3, q2⟩, fun bk1 hk1 hk2 => ⟨bk', q1, by rw [q3] at hk1; cases hk1; exact hk2⟩⟩
  have gg : ∀ (c g : Nat), (∀ bk : Blk, s.heap[c]? = some (some bk) → g ≤ bk.g) → ∀ bk : Blk, h'[c]? = some (some bk) → g ≤ bk.g := by
    intro c g hg bk' q1
    rcases hlo c bk' q1 with ⟨rfl, rfl⟩ | ⟨rfl, rfl⟩ | ⟨n1, n2, n3, q3⟩
    · exact hg bk hb
    · have := hg bq hq
      simp only; omega
    · exact hg bk' q3
  have vr : ∀ x v, VRel ι s.heap w x v → VRel ι' h' w x v := by
    intro x v hx
    induction hx with
    | p x v hx => exact .p _ _ (hx.mono (Nat.le_refl _) oo)
    | agg cells vs hl hv ih => exact .agg _ _ hl ih
    | tup cells vs hl hv ih => exact .tup _ _ hl ih
    | fn f cells vs hl hv ih => exact .fn _ _ _ hl ih
    | ref c g off sz len A cc hn hb0 hg hv =>
      refine .ref _ _ _ _ _ _ _ hn (by rw [hlen]; exact hb0) (gg c g hg) fun hl => ?_
      obtain ⟨l1, l2, l3, l4⟩ := lv c g hg hl
      rw [hιo c l1]
      rcases hv l3 with hz | ⟨hA, hle, ⟨bk0, q0, hn0⟩, hcs⟩
      · exact .inl hz
      · exact .inr ⟨hA, hle, l4 bk0 q0 hn0, hcs⟩
    | ptr c g off A hb0 hg hv =>
      refine .ptr _ _ _ _ (by rw [hlen]; exact hb0) (gg c g hg) fun hl => ?_
      obtain ⟨l1, l2, l3, l4⟩ := lv c g hg hl
      rw [hιo c l1]
      exact hv l3
    | pin cells blk off hv => exact .pin _ _ _ (hv.mono (Nat.le_refl _) oo)
    | mref c g r hb0 hg hv =>
      refine .mref _ _ _ (by rw [hlen]; exact hb0) (gg c g hg) fun hl => ?_
      obtain ⟨l1, l2, l3, l4⟩ := lv c g hg hl
      rw [hιo c l1]
      exact hv l3
  have hq' : h'[q]? = some (some ⟨bq.g + 1, bm.cells⟩) := by
    rw [hh', List.getElem?_set_ne hbq, List.getElem?_set_self (by simpa using hql)]
  have vm : ∀ v, VRel ι s.heap w (.ref m bm.g off sz n) v → VRel ι' h' w (.ref q (bq.g + 1) off sz n) v := by
    intro v hv
    cases hv with
    | ref _ _ _ _ _ A cc hn hb0 hg hv =>
      refine .ref _ _ _ _ _ _ _ hn (by rw [hlen]; exact hql) (fun bk hk => by rw [hq'] at hk; cases hk; exact Nat.le_refl _) fun _ => ?_
      rw [hιq]
      rcases hv ⟨bm, hm, rfl⟩ with hz | ⟨hA, hle, ⟨bk0, q0, hn0⟩, hcs⟩
      · exact .inl hz
      · rw [hm] at q0; cases q0
        exact .inr ⟨hA, hle, ⟨_, hq', hn0⟩, hcs⟩
  rw [← hh']
  refine ⟨ι', ⟨⟨⟨fun c bk' hc hne => ?_, fun c c' k k' q1 q2 n1 n2 e => ?_⟩, fun g cells hg => (hs.hS.gr g cells hg).mono (Nat.le_refl _) oo⟩, fun k y hy => ?_, hs.nt, hs.df⟩, ?_⟩
  · rcases hlo c bk' hc with ⟨rfl, rfl⟩ | ⟨rfl, rfl⟩ | ⟨e1, e2, e3, hc⟩
    · have hB := hs.hS.hr.blk c bk hb hne'
      rcases hB with ⟨cs, ty, p1, p2, p3⟩ | ⟨es, e1, _⟩
      case inr =>
        rw [e1] at hx
        cases j with
        | zero => simp at hx
        | succ j => simp at hx
      refine .inl ⟨cs, ty, by rw [hιo c hbq]; exact p1, by rw [hιo c hbq]; simpa using p2, fun i y hy => ?_⟩
      rw [hιo c hbq]
      simp only [List.getElem?_set] at hy
      split at hy
      · rename_i e; subst e
        split at hy
        · cases hy
          obtain ⟨v, r1, r2⟩ := p3 j _ hx
          exact ⟨v, r1, vm v r2⟩
        · cases hy
      · obtain ⟨v, r1, r2⟩ := p3 i y hy
        exact ⟨v, r1, vr _ _ r2⟩
    · have := (hs.hS.hr.blk m bm hm hne).keep (b' := c) (ι' := ι') (h' := h') (w' := w) hιq rfl (fun y _ v hv => vr _ _ hv) (Nat.le_refl _) oo
      rcases this with ⟨cs, ty, p1, p2, p3⟩ | ⟨es, e1, p1, p2, p3⟩
      · exact .inl ⟨cs, ty, p1, p2, p3⟩
      · exact .inr ⟨es, e1, p1, p2, p3⟩
    · exact (hs.hS.hr.blk c bk' hc hne).keep (hιo c e2) rfl (fun y _ v hv => vr _ _ hv) (Nat.le_refl _) oo
  · have back : ∀ (c : Nat) (k : Blk), h'[c]? = some (some k) → k.cells ≠ [] → ∃ (d : Nat) (k0 : Blk), s.heap[d]? = some (some k0) ∧ k0.cells ≠ [] ∧ (ι' c).1 = (ι d).1 ∧ d = (if c = q then m else c) := by
      intro c k q1 n1
      rcases hlo c k q1 with ⟨rfl, rfl⟩ | ⟨rfl, rfl⟩ | ⟨e1, e2, e3, hc⟩
      · exact ⟨c, bk, hb, hne', by rw [hιo c hbq], by rw [if_neg hbq]⟩
      · exact ⟨m, bm, hm, n1, by rw [hιq], by rw [if_pos rfl]⟩
      · exact ⟨c, k, hc, n1, by rw [hιo c e2], by rw [if_neg e2]⟩
    obtain ⟨d, k0, a1, a2, a3, a4⟩ := back c k q1 n1
    obtain ⟨d', k1, b1, b2, b3, b4⟩ := back c' k' q2 n2
    have hd := hs.hS.hr.inj d d' k0 k1 a1 b1 a2 b2 (by rw [← a3, ← b3]; exact e)
    have nm : ∀ (c : Nat) (k : Blk), h'[c]? = some (some k) → c ≠ m := by
      intro c k q1
      rcases hlo c k q1 with ⟨rfl, _⟩ | ⟨rfl, _⟩ | ⟨_, _, e3, _⟩
      · exact hbm
      · exact hqm
      · exact e3
    have m1 := nm c k q1
    have m2 := nm c' k' q2
    rw [hd, b4] at a4
    split at a4 <;> split at a4 <;> omega
  · obtain ⟨v, p1, p2⟩ := hs.fr k y hy
    exact ⟨v, p1, vr _ _ p2⟩
  · refine ⟨he.size, fun k hk ho => ⟨(he.keep k hk ho).1, fun e => (he.keep k hk ho).2 (own_lo k e)⟩, by show _ ≤ h'.length; rw [hlen]; exact he.len, fun c bk' hc hk => ?_, he.os, he.output, he.tape, he.drawn⟩
    rcases hlo c bk' hk with ⟨rfl, rfl⟩ | ⟨rfl, rfl⟩ | ⟨e1, e2, e3, hk⟩
    · obtain ⟨bk0, a1, a2, a3⟩ := he.gens c bk hc hb
      refine ⟨bk0, a1, a2, fun e => ?_⟩
      obtain ⟨b1, b2, b3⟩ := a3 e
      exact ⟨by rw [hιo c hbq]; exact b1, fun _ => by rw [ne_eq, ← List.length_eq_zero_iff, List.length_set, List.length_eq_zero_iff]; exact hne', b3⟩
    · obtain ⟨bk0, a1, a2, a3⟩ := he.gens c bq hc hq
      exact ⟨bk0, a1, by simp only; omega, fun e => by simp only at e; omega⟩
    · obtain ⟨bk0, a1, a2, a3⟩ := he.gens c bk' hc hk
      refine ⟨bk0, a1, a2, fun e => ?_⟩
      obtain ⟨b1, b2, b3⟩ := a3 e
      exact ⟨by rw [hιo c e2]; exact b1, b2, b3⟩
theorem o5.freeze {h0 : Heap} {s : St} {k b sz n : Nat} {bk : Blk} {rows : List (List PV)} {rest : List AV} (hk : s.fr k = some (.ref b bk.g 0 sz n)) (hb : s.heap[b]? = some (some bk)) (hn : n = rows.length) (hrows : ∀ r ∈ rows, r.length = sz) (hsz : sz ≠ 0)
    (hc : bk.cells = (rows.flatMap id).map AV.p ++ rest) :
    o5 P G h0 s ⟨upd s.fr k (.p (.sl rows)), s.nt, s.heap.set b none⟩ := by
  intro ι a w ι0 w0 hS hs he
  have hbl : b < s.heap.length := j4 hb
  obtain ⟨h', hh'⟩ : ∃ h', h' = s.heap.set b none := ⟨_, rfl⟩
  have hlen : h'.length = s.heap.length := by rw [hh']; simp
  have hlo : ∀ (c : Nat) (bk' : Blk), h'[c]? = some (some bk') → c ≠ b ∧ s.heap[c]? = some (some bk') := by
    intro c bk' hc
    rw [hh', List.getElem?_set] at hc
    split at hc
    · (try split at hc) <;> cases hc
    · rename_i e; exact ⟨fun e' => e e'.symm, hc⟩
  have hhi : ∀ (c : Nat), c ≠ b → h'[c]? = s.heap[c]? := fun c hc => by rw [hh', List.getElem?_set_ne (fun e => hc e.symm)]
  have own_lo : ∀ k, own ι h' k → own ι s.heap k := by
    rintro k ⟨c, bk', q1, q2, q3⟩
    exact ⟨c, bk', (hlo c bk' q1).2, q2, q3⟩
  have oo : ∀ k, k < w.heap.size → ¬ own ι s.heap k → w.heap[k]? = w.heap[k]? ∧ ¬ own ι h' k := fun k _ ho => ⟨rfl, fun e => ho (own_lo k e)⟩
  have lv : ∀ (c g : Nat), A5 h' c g → c ≠ b ∧ A5 s.heap c g := by
    rintro c g ⟨bk', q1, q2⟩
    obtain ⟨n1, q3⟩ := hlo c bk' q1
    exact ⟨n1, bk', q3, q2⟩
  have gg : ∀ (c g : Nat), (∀ bk : Blk, s.heap[c]? = some (some bk) → g ≤ bk.g) → ∀ bk : Blk, h'[c]? = some (some bk) → g ≤ bk.g := fun c g hg bk' q1 => hg bk' (hlo c bk' q1).2
  have vr : ∀ x v, VRel ι s.heap w x v → VRel ι h' w x v := by
    intro x v hx
    induction hx with
    | p x v hx => exact .p _ _ (hx.mono (Nat.le_refl _) oo)
    | agg cells vs hl hv ih => exact .agg _ _ hl ih
    | tup cells vs hl hv ih => exact .tup _ _ hl ih
    | fn f cells vs hl hv ih => exact .fn _ _ _ hl ih
    | ref c g off sz len A cc hn hb0 hg hv =>
      refine .ref _ _ _ _ _ _ _ hn (by rw [hlen]; exact hb0) (gg c g hg) fun hl => ?_
      obtain ⟨l1, l3⟩ := lv c g hl
      rcases hv l3 with hz | ⟨hA, hle, ⟨bk0, q0, hn0⟩, hcs⟩
      · exact .inl hz
      · exact .inr ⟨hA, hle, ⟨bk0, by rw [hhi c l1]; exact q0, hn0⟩, hcs⟩
    | ptr c g off A hb0 hg hv =>
      refine .ptr _ _ _ _ (by rw [hlen]; exact hb0) (gg c g hg) fun hl => ?_
      obtain ⟨l1, l3⟩ := lv c g hl
      exact hv l3
    | pin cells blk off hv => exact .pin _ _ _ (hv.mono (Nat.le_refl _) oo)
    | mref c g r hb0 hg hv =>
      refine .mref _ _ _ (by rw [hlen]; exact hb0) (gg c g hg) fun hl => ?_
      obtain ⟨l1, l3⟩ := lv c g hl
      exact hv l3
  obtain ⟨v, hv1, hv2⟩ := hs.fr k _ hk
  have hnew : VRel ι h' w (.p (.sl rows)) v := by
    obtain ⟨A, c, rfl, hn64, hcase⟩ := hv2.ref_inv ⟨bk, hb, rfl⟩
    by_cases h0 : rows = []
    · subst h0; subst hn
      exact .p _ _ (.slz A c)
    rcases hcase with ⟨hz, _⟩ | ⟨rfl, hle, ⟨bk0, hq0, hne⟩, cs0, ty1, fr1, hcc, hfit⟩
    · rw [hn] at hz; exact absurd (List.eq_nil_of_length_eq_zero hz) h0
    rw [hb] at hq0; cases hq0
    obtain ⟨c0, ty0, hc0, hl0, hv0⟩ := (hs.hS.hr.blk b _ hb hne).cells hcc
    subst hn
    have hnown : ¬ own ι h' (ι b).1 := by
      rintro ⟨d, bk', q1, q2, q3⟩
      obtain ⟨n1, q4⟩ := hlo d bk' q1
      exact n1 (hs.hS.hr.inj d b bk' bk q4 hb q2 hne q3)
    have key : ∀ i j x, P1 rows i j = some x → ∃ u, c0[(ι b).2 + (i * sz + j)]? = some u ∧ VRel ι s.heap w (.p x) u := by
      intro i j x hx
      have hj : j < sz := by
        unfold P1 at hx
        cases hr : rows[i]? with
        | none => rw [hr] at hx; simp at hx
        | some r =>
          rw [hr] at hx
          have h1 := hrows r (List.mem_of_getElem? hr)
          have h2 := j4 (show r[j]? = some x from hx)
          omega
      have hf := dU rows hrows i j hj
      rw [hx] at hf
      refine hv0 _ _ ?_
      rw [hc, List.getElem?_append_left (by rw [List.length_map]; exact j4 hf), List.getElem?_map, hf]; rfl
    refine .p _ _ (.sl rows (ι b).1 ((ι b).2 + 0) c sz (fun i j => (c0[(ι b).2 + (i * sz + j)]?).getD undef) hle hn64 hnown (sy hc0) hrows (fun i j x hx => ?_) (fun i j x hx => ?_))
    · obtain ⟨u, q1, q2⟩ := key i j x hx
      rw [Nat.add_zero, q1]
      unfold World.cell?
      simp only [hc0, q1]; rfl
    · obtain ⟨u, q1, q2⟩ := key i j x hx
      rw [q1]
      cases q2 with
      | p _ _ q2 => exact q2.mono (Nat.le_refl _) oo
  rw [← hh']
  refine ⟨ι, ⟨⟨⟨fun c bk' hc hne => ?_, fun c c' k k' q1 q2 n1 n2 e => ?_⟩, fun g cells hg => (hs.hS.gr g cells hg).mono (Nat.le_refl _) oo⟩, fun j y hy => ?_, hs.nt, hs.df⟩, ?_⟩
  · exact (hs.hS.hr.blk c bk' (hlo c bk' hc).2 hne).keep rfl rfl (fun y _ v hv => vr _ _ hv) (Nat.le_refl _) oo
  · exact hs.hS.hr.inj c c' k k' (hlo c k q1).2 (hlo c' k' q2).2 n1 n2 e
  · simp only [upd] at hy
    split at hy
    · rename_i e; subst e; cases hy
      exact ⟨v, hv1, hnew⟩
    · obtain ⟨u, p1, p2⟩ := hs.fr j y hy
      exact ⟨u, p1, vr _ _ p2⟩
  · refine ⟨he.size, fun k hk ho => ⟨(he.keep k hk ho).1, fun e => (he.keep k hk ho).2 (own_lo k e)⟩, by show _ ≤ h'.length; rw [hlen]; exact he.len, fun c bk' hc hk => ?_, he.os, he.output, he.tape, he.drawn⟩
    obtain ⟨e1, e2⟩ := hlo c bk' hk
    obtain ⟨bk0, a1, a2, a3⟩ := he.gens c bk' hc e2
    exact ⟨bk0, a1, a2, a3⟩
theorem sq {σ : Type} {c : Code} {Q : Exit → St → Prop} {s : St} (m : σ → Nat) (nt : Nat) (H : σ → Heap) (l : σ → List (Nat × AV)) (L : σ → List (Option Blk)) (p : σ → Prop) (x0 : σ)
    (hH : ∀ x, (H x).length = h.length ∧ ∀ (b : Nat) (bk : Blk), (H x)[b]? = some (some bk) → h[b]? = some (some bk) ∨ n9 h.length bk.cells) (hi : Sub (H x0) s (l x0) (L x0) nt) (hp : p x0)
    (hb : ∀ x, p x → ∀ K : St → Prop, (∀ s', (∃ y, m y < m x ∧ p y ∧ Sub (H y) s' (l y) (L y) nt) → K s') → awp P G rl h c (N3 K Q) ⟨frL (l x), nt, H x ++ L x⟩) : awp P G rl h (.loop c) Q s := by
  refine bI (fun n s => ∃ x, p x ∧ n = m x ∧ s = ⟨frL (l x), nt, H x ++ L x⟩) (m x0) _ (hi.ghostH (hH x0).1 (hH x0).2) ⟨x0, hp, rfl, rfl⟩ fun n s hI => ?_
  obtain ⟨x, h1, rfl, rfl⟩ := hI
  refine hb x h1 _ fun s' hs => ?_
  obtain ⟨y, h2, h3, h4⟩ := hs
  exact ⟨m y, _, h2, h4.ghostH (hH y).1 (hH y).2, y, h3, rfl, rfl⟩
end
end
section
def bj := And.intro T2 (And.intro T3 (And.intro T4 (And.intro T25 (And.intro T26 (And.intro T41 (And.intro T57 (And.intro T58 (And.intro T89 (And.intro T92 yP)))))))))
attribute [local irreducible] awp n8 k3 l8 o4 m8
variable {G : Nat → Option (List PV)}
def eSt (S : Sv) : List PV := S.map (PV.int .i64)
abbrev B6 (l : List Sv) : AV := .p (.sl (l.map eSt))
def q6 (l : List Sv) : List AV := l.flatMap (·.map AV.i)
def mkE (s : Sv) : List Int × Bool := (s, true)
def B7 (l : List Sv) : Prop := ∀ s ∈ l, s.length = 49
theorem C5 : ∀ {l : List Sv}, B7 l → (q6 l).length = l.length * 49
  | [], _ => rfl
  | s :: l, h => by
    have := C5 (l := l) fun t ht => h t (by simp [ht])
    unfold q6 at this ⊢
    rw [List.flatMap_cons, List.length_append, this, List.length_map, h s (by simp), List.length_cons]; omega
theorem F3 (l : List Sv) (s : Sv) : q6 (l ++ [s]) = q6 l ++ s.map AV.i := by
  unfold q6; rw [List.flatMap_append]; simp
theorem u6 (l : List Sv) (n : Nat) : n9 n (q6 l) := by
  unfold q6
  rw [← List.map_flatMap]
  exact g9 _ _
theorem ky : ∀ {l : List Sv} (j : Nat), B7 l → (q6 l).drop (j * 49) = q6 (l.drop j)
  | l, 0, _ => by simp
  | [], j + 1, _ => by simp [q6]
  | s :: l, j + 1, h => by
    have := ky (l := l) j fun t ht => h t (by simp [ht])
    have hs : (s.map AV.i).length = 49 := by rw [List.length_map]; exact h s (by simp)
    rw [List.drop_succ_cons, ← this]
    unfold q6
    rw [List.flatMap_cons, show (j + 1) * 49 = 49 + j * 49 by omega, ← List.drop_drop, List.drop_left' hs]
theorem dL {l : List Sv} {j : Nat} {s : Sv} (h : B7 l) (hs : l[j]? = some s) : ((q6 l).drop (j * 49)).take 49 = s.map AV.i := by
  rw [ky j h, List.drop_eq_getElem_cons (List.getElem?_eq_some_iff.mp hs).1, (List.getElem?_eq_some_iff.mp hs).2]
  have e : q6 (s :: l.drop (j + 1)) = s.map AV.i ++ q6 (l.drop (j + 1)) := by unfold q6; rw [List.flatMap_cons]
  rw [e, List.take_left' (by rw [List.length_map]; exact h s (List.mem_of_getElem? hs))]
theorem mn : ∀ l : List Int, dh (l.map AV.i) = some l
  | [] => rfl
  | x :: r => by simp only [List.map_cons, dh, mn r, Option.map_some]
theorem tu {s : Sv} : ∀ {l : List Sv}, s ∈ l → iY (l.map mkE) s = some true
  | [], h => by cases h
  | t :: l, h => by
    unfold iY
    rw [List.map_cons, List.find?_cons]
    by_cases e : t = s
    · subst e; simp [mkE]
    · have : ((mkE t).1 == s) = false := by simpa [mkE] using e
      rw [this]
      have hl : s ∈ l := by
        rcases List.mem_cons.mp h with h | h
        · exact absurd h.symm e
        · exact h
      exact tu hl
theorem qj {s : Sv} : ∀ {l : List Sv}, s ∉ l → iY (l.map mkE) s = none
  | [], h => rfl
  | t :: l, h => by
    unfold iY
    rw [List.map_cons, List.find?_cons]
    have e : t ≠ s := fun e => h (by simp [e])
    have : ((mkE t).1 == s) = false := by simpa [mkE] using e
    rw [this]
    exact qj fun h' => h (by simp [h'])
theorem Ar {l : List Sv} (h : B7 l) : ((l.map mkE).all fun e => e.1.length == 49) = true := by
  rw [List.all_eq_true]
  intro e he
  obtain ⟨s, hs, rfl⟩ := List.mem_map.mp he
  simp [mkE, h s hs]
theorem Q2 {out more : List Sv} (h1 : B7 out) (h2 : B7 more) : B7 (C4 out more) := fun s hs => by
  rcases (fb _ _).mp hs with h | h
  · exact h1 s h
  · exact h2 s h
def R9 (h : Heap) (out : List Sv) : Heap := h ++ [some ⟨0, [.mp (out.map mkE)]⟩, some ⟨0, [.mref h.length 0]⟩, some ⟨0, [.ref (h.length + 3) out.length 0 49 out.length]⟩, some ⟨out.length, q6 out⟩]
theorem H5 (h : Heap) (out : List Sv) : (R9 h out).length = h.length + 4 := by simp [R9]
theorem mo (h : Heap) (out out' : List Sv) : ∀ (b : Nat) (bk : Blk), (R9 h out)[b]? = some (some bk) → (R9 h out')[b]? = some (some bk) ∨ n9 (R9 h out').length bk.cells := by
  intro b bk hb
  rw [H5]
  unfold R9 at hb ⊢
  rcases Nat.lt_or_ge b h.length with hl | hl
  · rw [List.getElem?_append_left hl] at hb ⊢
    exact .inl hb
  · rw [List.getElem?_append_right hl] at hb
    right
    obtain ⟨i, hi⟩ : ∃ i, b - h.length = i := ⟨_, rfl⟩
    rw [hi] at hb
    match i, hb with
    | 0, hb => simp at hb; subst hb; exact ⟨trivial, trivial⟩
    | 1, hb => simp at hb; subst hb; exact ⟨by simp [r9], trivial⟩
    | 2, hb => simp at hb; subst hb; exact ⟨by simp [r9], trivial⟩
    | 3, hb => simp at hb; subst hb; exact u6 _ _
    | i + 4, hb => simp at hb
theorem kz (h : Heap) {out more : List Sv} (h1 : B7 out) (h2 : B7 more) (hn : out.length + more.length ≤ 16000000) :
    d5 Tryz.prog G 74 [B6 more, .ptr (h.length + 1) 0 0, .ptr (h.length + 2) 0 0] (R9 h out) (fun r h' => r = .undef ∧ h' = R9 h (C4 out more)) := by
  have hzl : (zS.map AV.i).length = 49 := by rw [List.length_map]; rfl
  have hem : (zS.map AV.i).isEmpty = false := rfl
  refine i3 (rl := []) d9 Tryz.func74 rfl (rs := []) rfl Tryz.ntmps74 (by simp) ?_
  repeat' (first | ((repeat ((fail_if_success (refine hK _ ?_)); clear hK K)); refine hK _ ?_; clear hK K) | (refine b9 fun K1 q7 => ?_; simp only [S1, simprocAttr, bj, List.length_map]; refine q7 _ ?_; clear q7 K1) | refine b6 fun K hK => ?_ | ((first | apply b8 | apply b5 | apply c7); try simp only [NB, simprocAttr]))
  refine Q8 more.length 23 (fun j => R9 h (C4 out (more.take j))) (fun j => [(8, .i j), (7, .i more.length), (6, B6 more), (1, .ptr (h.length + 1) 0 0), (2, .ptr (h.length + 2) 0 0)]) (fun j => []) (fun j => True)
    (fun j => ⟨by rw [H5, H5], mo h _ _⟩) ?_ trivial fun j hj hp K hK => ?_
  · refine ⟨rfl, ⟨[], by simp [C4]⟩, ?_, trivial⟩
    simp only [H5]
    simp only [S1, simprocAttr, KNB] <;> (try and_intros) <;> (try assumption) <;> (try trivial) <;> (try omega)
  rw [List.append_nil]
  rcases Nat.lt_or_ge j more.length with hlt | hge
  · obtain ⟨s, hx⟩ : ∃ k, more[j]? = some k := ⟨_, List.getElem?_eq_getElem hlt⟩
    have hs : s.length = 49 := h2 s (List.mem_of_getElem? hx)
    have hxr : (more.map eSt)[j]? = some (s.map (PV.int .i64)) := by rw [List.getElem?_map, hx]; rfl
    have es := gi (out := out) hx
    have ho : B7 (C4 out (more.take j)) := Q2 h1 fun t ht => h2 t (List.mem_of_mem_take ht)
    have hol := (R5 (more.take j) out).1
    rw [List.length_take] at hol
    have jl : (j : Int) < (more.length : Int) := by omega
    have j0 : (0 : Int) ≤ (j : Int) := by omega
    have hnx : IntKind.i64.wrap ((j : Int) + 1) = ((j + 1 : Nat) : Int) := by rw [IntWalk.i64_in _ (by omega)]; omega
    have t49' : (s.map AV.i).take 49 = s.map AV.i := List.take_of_length_le (by rw [List.length_map, hs]; exact Nat.le_refl _)
    have hso : t8 (zS.map AV.i) 0 (s.map AV.i) = s.map AV.i := l9 (n := 49) (by rw [List.length_map, hs]) _ hzl
    have hsm := t7 s
    have hne := J1 hs
    generalize C4 out (more.take j) = o at *
    have hio := mn s
    have ha := Ar ho
    have hmax : o.length + 1 ≤ j6 := by unfold j6; omega
    have hfl := C5 ho
    have hpk : ∀ L : Heap, R9 h o ++ L = h ++ ([some ⟨0, [.mp (o.map mkE)]⟩, some ⟨0, [.mref h.length 0]⟩, some ⟨0, [.ref (h.length + 3) o.length 0 49 o.length]⟩, some ⟨o.length, q6 o⟩] ++ L) := fun L => by unfold R9; rw [List.append_assoc]
    have hpk0 : R9 h o = h ++ [some ⟨0, [.mp (o.map mkE)]⟩, some ⟨0, [.mref h.length 0]⟩, some ⟨0, [.ref (h.length + 3) o.length 0 49 o.length]⟩, some ⟨o.length, q6 o⟩] := rfl
    by_cases hin : s ∈ o
    · have hg := tu hin
      have ea : Z1 o s = o := by unfold Z1; rw [if_pos hin]
      rw [ea] at es
      rw [hpk0]
      repeat' (first | ((repeat ((fail_if_success (refine hK _ ?_)); clear hK K)); refine hK _ ?_; clear hK K) | ((first | refine b9 fun K1 q7 => ?_ | refine b7 fun A B hA hB => ?_); simp only [S1, simprocAttr, bj, jl, j0, hnx, hxr, hs, hzl, hem, t49', hso, hsm, hne, hio, ha, hg, dR, zT, zU, zV, TSz, i8, h9, j3, d7, d8, e9, List.length_map, Option.getD_some]; first | refine q7 _ ?_; clear q7 K1 | ((first | refine hA ?_ | refine hB ?_); clear hA hB A B)) | refine b6 fun K hK => ?_ | ((first | apply b8 | apply b5 | apply c7 | apply c9); try simp only [NB, simprocAttr]))
      all_goals refine ⟨hlt, trivial, ?_⟩
      all_goals refine ⟨rfl, ⟨_, by rw [es, hpk0, List.append_assoc]; rfl⟩, ?_, trivial⟩
      all_goals simp only [H5]
      all_goals simp only [S1, simprocAttr, KNB] <;> (try and_intros) <;> (try assumption) <;> (try trivial) <;> (try omega)
    · have hg := qj hin
      have ea : Z1 o s = o ++ [s] := by unfold Z1; rw [if_neg hin]
      rw [ea] at es
      have hpk1 : R9 h (o ++ [s]) = h ++ [some ⟨0, [.mp (o.map mkE ++ [(s, true)])]⟩, some ⟨0, [.mref h.length 0]⟩, some ⟨0, [.ref (h.length + 3) (o.length + 1) 0 49 (o.length + 1)]⟩, some ⟨o.length + 1, q6 o ++ s.map AV.i⟩] := by
        unfold R9; rw [F3, List.map_append, List.length_append]; rfl
      have hpv := N6 s
      have hch := J9 49 (s.map (PV.int .i64)) (by rw [List.length_map, hs])
      have hti : (s.map (PV.int .i64)).take 49 = s.map (PV.int .i64) := List.take_of_length_le (by rw [List.length_map, hs]; exact Nat.le_refl _)
      rw [hpk0]
      repeat' (first | ((repeat ((fail_if_success (refine hK _ ?_)); clear hK K)); refine hK _ ?_; clear hK K) | ((first | refine b9 fun K1 q7 => ?_ | refine b7 fun A B hA hB => ?_); simp only [S1, simprocAttr, bj, jl, j0, hnx, hxr, hs, hzl, hem, t49', hso, hsm, hne, hio, ha, hg, hmax, hfl, hpv, hch, hti, dR, ao, zT, zU, zV, TSz, i8, h9, j3, d7, d8, e9, List.length_map, Option.getD_none, List.drop_zero]; first | refine q7 _ ?_; clear q7 K1 | (refine hA ?_; clear hA hB A B)) | refine b6 fun K hK => ?_ | ((first | apply b8 | apply b5 | apply c7 | apply c9); try simp only [NB, simprocAttr]))
      all_goals refine ⟨hlt, trivial, ?_⟩
      all_goals refine ⟨rfl, ⟨_, by rw [es, hpk1, List.append_assoc]; rfl⟩, ?_, trivial⟩
      all_goals simp only [H5]
      all_goals simp only [S1, simprocAttr, KNB] <;> (try and_intros) <;> (try assumption) <;> (try trivial) <;> (try omega)
  · obtain rfl : j = more.length := by omega
    have hfin : ∀ (b : Nat) (bk : Blk), (R9 h (C4 out more))[b]? = some (some bk) → (R9 h out)[b]? = some (some bk) ∨ ∀ x, x ∈ bk.cells → AVlt (R9 h out).length x := fun b bk hb => by
      rcases mo h (C4 out more) out b bk hb with h' | h'
      · exact .inl h'
      · right
        rw [H5] at h' ⊢
        exact L4 _ h'
    have htk : (R9 h (C4 out more)).take (R9 h out).length = R9 h (C4 out more) := List.take_of_length_le (by rw [H5, H5]; exact Nat.le_refl _)
    have hle : (R9 h out).length ≤ (R9 h (C4 out more)).length := by rw [H5, H5]; exact Nat.le_refl _
    rw [List.take_length]
    repeat' (first | ((repeat ((fail_if_success (refine hK _ ?_)); clear hK K)); refine hK _ ?_; clear hK K) | ((first | refine b9 fun K1 q7 => ?_ | refine b7 fun A B hA hB => ?_); simp only [S1, simprocAttr, bj, Int.lt_irrefl]; first | refine q7 _ ?_; clear q7 K1 | (refine hB ?_; clear hA hB A B)) | refine b6 fun K hK => ?_ | ((first | apply b8 | apply b5 | apply f9); try simp only [NB, simprocAttr]))
    all_goals simp only [z8, y4, P6, P5, I2, F8, E5, G3, pur, L3, htk, S1, simprocAttr, Nat.le_add_right, Nat.le_refl]
    all_goals exact ⟨hle, hfin⟩
theorem iV {l : List Sv} (h : B7 l) : ∀ s ∈ l, (eSt s).length = 49 := fun s hs => by unfold eSt; rw [List.length_map]; exact h s hs
theorem gB : ∀ {l : List Sv}, B7 l → B4 49 l.length (l.flatMap eSt) = l.map eSt
  | [], _ => rfl
  | s :: r, h => by
    have ih := gB (l := r) fun t ht => h t (by simp [ht])
    have hs : (eSt s).length = 49 := iV h s (by simp)
    rw [List.length_cons, B4, List.flatMap_cons, List.take_left' hs, List.drop_left' hs, ih]; rfl
theorem qk (h : Heap) (n fuel : Nat) (l : List Sv) : L3 h n fuel (q6 l) = some (l.flatMap eSt) := by
  unfold q6 eSt
  rw [← List.map_flatMap, ← List.map_flatMap]
  exact L8 h n fuel _
theorem tv {h : Heap} {n fuel b g m : Nat} {l : List Sv} (h49 : B7 l) (hm : m = l.length) (hb : r7 h b g = some (q6 l)) (hn : n ≤ b) : pur h n (fuel + 1) (.ref b g 0 49 m) = some (.sl (l.map eSt)) := by
  subst hm
  unfold pur
  by_cases h0 : l.length = 0
  · rw [if_pos h0]; have := List.eq_nil_of_length_eq_zero h0; subst this; rfl
  · rw [if_neg h0, hb]
    have e : (q6 l).length = l.length * 49 := C5 h49
    simp only [hn, true_and, Nat.zero_add, e, Nat.le_refl, if_true, List.drop_zero]
    rw [List.take_of_length_le (by rw [e]; exact Nat.le_refl _), qk]
    simp only [Option.map_some, gB h49]
theorem kA {P : Program} {h : Heap} {K : AV → Prop} {x : Exit} {s : St} (hx : x = .normal ∨ x = .ret) {t b g m : Nat} {l : List Sv} (h49 : B7 l) (hm : m = l.length) (hf : s.fr t = some (.ref b g 0 49 m))
    (hb : r7 s.heap b g = some (q6 l)) (hn : h.length ≤ b) (ht : s.heap.take h.length = h) (hle : h.length ≤ s.heap.length) (hk : K (B6 l)) : iG P [.tmp t] h K x s := by
  have key : W3 P [.tmp t] h K s := by
    unfold W3
    simp only [P6, P5, I2, hf, F8, E5, tv h49 hm hb hn, Option.map_some]
    exact ⟨ht, hle, hk⟩
  rcases hx with rfl | rfl <;> exact key
theorem uM {P : Program} {h : Heap} {K : AV → Prop} {x : Exit} {s : St} (hx : x = .normal ∨ x = .ret) {t t2 b g m : Nat} {l : List Sv} {y : Bool} (h49 : B7 l) (hm : m = l.length) (hf : s.fr t = some (.ref b g 0 49 m)) (hf2 : s.fr t2 = some (.b y))
    (hb : r7 s.heap b g = some (q6 l)) (hn : h.length ≤ b) (ht : s.heap.take h.length = h) (hle : h.length ≤ s.heap.length) (hk : K (.tup [B6 l, .b y])) : iG P [.tmp t, .tmp t2] h K x s := by
  have key : W3 P [.tmp t, .tmp t2] h K s := by
    unfold W3
    simp only [P6, P5, I2, hf, hf2, F8, G3, E5, tv h49 hm hb hn, pur, Option.map_some]
    exact ⟨ht, hle, hk⟩
  rcases hx with rfl | rfl <;> exact key
structure Qsp where
  i : Nat
  out : List Sv
theorem nU {f : FuncId} (hE : g8 Tryz.prog f) {caps : List AV} {h : Heap} (hcap : n9 h.length caps) {nx : Sv → List Sv} (hnx49 : ∀ s, s.length = 49 → B7 (nx s)) (hnl : ∀ s, (nx s).length ≤ 2500)
    (hnx : ∀ s, s.length = 49 → ∀ L : Heap, d5 Tryz.prog G f (aS s :: caps) (h ++ L) (fun r h' => r = B6 (nx s) ∧ h' = h ++ L)) {l : List Sv} (h49 : B7 l) (hl : l.length ≤ 8000000) :
    d5 Tryz.prog G 53 [B6 l, .i 1500, .fn f caps] h (fun r h' => r = .tup [B6 (E1 nx 1500 l), .b (decide ((E1 nx 1500 l).length ≤ 1500))] ∧ h' = h) := by
  have hadd0 := kz (G := G) h (out := []) (more := l) (fun s hs => by cases hs) h49 (by simp; omega)
  have hp0 : h ++ [some ⟨0, [.mp []]⟩, some ⟨0, [.mref h.length 0]⟩, some ⟨0, [.ref (h.length + 3) 0 0 49 0]⟩, some ⟨0, []⟩] = R9 h [] := rfl
  refine c8 (rl := []) d9 Tryz.func53 rfl (rs := [.tmp 6, .tmp 7]) rfl Tryz.ntmps53 (by simp) ?_
  refine b6 fun K hK => ?_
  repeat' (first | (apply b8; (try simp only [NB]); ((repeat ((fail_if_success (refine hK _ ?_)); clear hK K)); refine hK _ ?_; clear hK K)) | (refine b9 fun K1 q7 => ?_; simp only [S1, simprocAttr, bj, yP]; refine q7 _ ?_; clear q7 K1) | (apply b5; try simp only [NB, simprocAttr]; (try ((repeat ((fail_if_success (refine hK _ ?_)); clear hK K)); refine hK _ ?_; clear hK K))))
  refine b6 fun K hK => ?_
  repeat' (first | (apply b8; (try simp only [NB]); ((repeat ((fail_if_success (refine hK _ ?_)); clear hK K)); refine hK _ ?_; clear hK K)) | (refine b9 fun K1 q7 => ?_; simp only [S1, simprocAttr, bj, yP]; refine q7 _ ?_; clear q7 K1) | (apply b5; try simp only [NB, simprocAttr]; (try ((repeat ((fail_if_success (refine hK _ ?_)); clear hK K)); refine hK _ ?_; clear hK K))))
  refine gA ⟨frL [(8, .ptr (h.length + 1) 0 0), (9, .ptr (h.length + 2) 0 0), (0, B6 l), (1, .i 1500), (2, .fn f caps)], 42, R9 h []⟩ (fun K hK => ?_) ?_
  · repeat' (first | ((repeat ((fail_if_success (refine hK _ ?_)); clear hK K)); refine hK _ ?_; clear hK K) | (refine b9 fun K1 q7 => ?_; simp only [S1, simprocAttr, bj]; refine q7 _ ?_; clear q7 K1) | ((first | apply b8 | apply b5); try simp only [NB, simprocAttr]))
    refine (o5.adoptCell 49 (b := h.length + 2) (j := 0) (bk := ⟨0, [.p .nils]⟩) (by simp [m9]) rfl (by omega)).trans (Sub.ghost ⟨rfl, ⟨[], by simp [q6, T5]⟩, ?_, ?_⟩)
    · have hc4 := D9 (Nat.le_add_right h.length 4) caps hcap
      simp only [S1, simprocAttr, KNB] <;> (try and_intros) <;> (try assumption) <;> (try trivial) <;> (try omega)
      all_goals exact hc4
    · exact ⟨⟨trivial, trivial⟩, ⟨by simp [r9], trivial⟩, ⟨by simp [r9], trivial⟩, trivial, trivial⟩
  have hEa := E74
  repeat' (first | ((repeat ((fail_if_success (refine hK _ ?_)); clear hK K)); refine hK _ ?_; clear hK K) | (refine b9 fun K1 q7 => ?_; simp only [S1, simprocAttr, bj, H5]; first | refine q7 _ ?_; clear q7 K1 | (apply d4 E74; exact hadd0; refine q7 _ ?_; clear q7 K1)) | refine b6 fun K hK => ?_ | ((first | apply b8 | apply b5 | apply c7); try simp only [NB, simprocAttr]))
  refine jK (σ := Qsp) (fun q => 1501 - q.i) 42 (fun q => [(11, .i q.i), (10, .fn 74 [.ptr (h.length + 1) 0 0, .ptr (h.length + 2) 0 0]), (9, .ptr (h.length + 2) 0 0), (1, .i 1500), (2, .fn f caps)])
    (fun q => [some ⟨0, [.mp (q.out.map mkE)]⟩, some ⟨0, [.mref h.length 0]⟩, some ⟨0, [.ref (h.length + 3) q.out.length 0 49 q.out.length]⟩, some ⟨q.out.length, q6 q.out⟩])
    (fun q => q.i ≤ 1501 ∧ B7 q.out ∧ q.out.length ≤ 8000000 ∧ E1 nx 1500 l = M2 nx 1500 (1501 - q.i) q.i q.out) ⟨0, C4 [] l⟩ ?_ ?_ fun q hp K hK => ?_
  · refine Sub.ghost ⟨rfl, ⟨[], by rw [List.append_nil]; rfl⟩, ?_, ?_⟩
    · have hc4 := D9 (Nat.le_add_right h.length 4) caps hcap
      simp only [S1, simprocAttr, KNB] <;> (try and_intros) <;> (try assumption) <;> (try trivial) <;> (try omega)
      all_goals exact hc4
    · exact ⟨⟨trivial, trivial⟩, ⟨by simp [r9], trivial⟩, ⟨by simp [r9], trivial⟩, u6 _ _, trivial⟩
  · refine ⟨by show 0 ≤ 1501; omega, Q2 (fun s hs => by cases hs) h49, ?_, rfl⟩
    have := (R5 l []).1
    simp only [List.length_nil, Nat.zero_add] at this
    show (C4 [] l).length ≤ 8000000
    omega
  obtain ⟨i, out⟩ := q
  obtain ⟨p1, p2, p3, p4⟩ := hp
  simp only at p1 p2 p3 p4 hK ⊢
  have hpk : h ++ [some ⟨0, [.mp (out.map mkE)]⟩, some ⟨0, [.mref h.length 0]⟩, some ⟨0, [.ref (h.length + 3) out.length 0 49 out.length]⟩, some ⟨out.length, q6 out⟩] = R9 h out := rfl
  have hfl := C5 p2
  have i0 : (0 : Int) ≤ (i : Int) := by omega
  have hnx1 : IntKind.i64.wrap ((i : Int) + 1) = ((i + 1 : Nat) : Int) := by rw [IntWalk.i64_in _ (by omega)]; omega
  have hend : ∀ {fr : Nat → Option AV} (y : Bool), E1 nx 1500 l = out → fr 6 = some (.ref (h.length + 3) out.length 0 49 out.length) → fr 7 = some (.b y) → y = decide (out.length ≤ 1500) → iG Tryz.prog [.tmp 6, .tmp 7] h (fun r => r = .tup [B6 (E1 nx 1500 l), .b (decide ((E1 nx 1500 l).length ≤ 1500))]) .ret
      ⟨fr, 42, h ++ [some ⟨0, [.mp (out.map mkE)]⟩, some ⟨0, [.mref h.length 0]⟩, some ⟨0, [.ref (h.length + 3) out.length 0 49 out.length]⟩, some ⟨out.length, q6 out⟩]⟩ := fun y e1 e2 e3 e4 => by
    rw [e1, ← e4]
    exact uM (.inr rfl) (t := 6) (t2 := 7) p2 rfl e2 e3 (by simp [r7, m9]) (Nat.le_add_right _ _) (by simp) (by simp) rfl
  by_cases hlt : i < out.length
  · have hi : (i : Int) < (out.length : Int) := by omega
    obtain ⟨s, hx⟩ : ∃ k, out[i]? = some k := ⟨_, List.getElem?_eq_getElem hlt⟩
    by_cases hmost : out.length ≤ 1500
    · have hm : (out.length : Int) ≤ 1500 := by omega
      have hs : s.length = 49 := p2 s (List.mem_of_getElem? hx)
      have hft := dL p2 hx
      have hle : 49 ≤ out.length * 49 - i * 49 := by omega
      have hn1 := hnx s hs [some ⟨0, [.mp (out.map mkE)]⟩, some ⟨0, [.mref h.length 0]⟩, some ⟨0, [.ref (h.length + 3) out.length 0 49 out.length]⟩, some ⟨out.length, q6 out⟩]
      have hnl1 := hnl s
      have ha1 := kz (G := G) h p2 (hnx49 s hs) (by omega)
      have hEa := E74
      have hao := (R5 (nx s) out).1
      have p4' : E1 nx 1500 l = M2 nx 1500 (1501 - (i + 1)) (i + 1) (C4 out (nx s)) := by
        rw [p4]
        obtain ⟨k, hk⟩ : ∃ k, 1501 - i = k + 1 := ⟨1500 - i, by omega⟩
        rw [hk, show 1501 - (i + 1) = k by omega]
        conv => lhs; unfold M2
        rw [hx]; simp only; rw [if_pos hmost]
      repeat' (first | ((repeat ((fail_if_success (refine hK _ ?_)); clear hK K)); refine hK _ ?_; clear hK K) | ((first | refine b9 fun K1 q7 => ?_ | refine b7 fun A B hA hB => ?_); simp only [S1, simprocAttr, bj, hi, hm, i0, hnx1, hft, hle, hfl, TSz, d7, d8, e9, List.length_map, List.length_drop]; first | refine q7 _ ?_; clear q7 K1 | (refine hA ?_; clear hA hB A B) | (apply d4 hE; exact hn1; refine q7 _ ?_; clear q7 K1) | (apply d4 E74; exact ha1; refine q7 _ ?_; clear q7 K1)) | refine b6 fun K hK => ?_ | ((first | apply b8 | apply b5 | apply c7 | apply c9); try simp only [NB, simprocAttr]))
      all_goals refine ⟨⟨i + 1, C4 out (nx s)⟩, by simp only; omega, ⟨by simp only; omega, Q2 p2 (hnx49 s hs), by simp only; omega, p4'⟩, ?_⟩
      all_goals refine ⟨rfl, ⟨[], by rw [List.append_nil]; rfl⟩, ?_, ?_⟩
      · have hc4 := D9 (Nat.le_add_right h.length 4) caps hcap
        simp only [S1, simprocAttr, KNB] <;> (try and_intros) <;> (try assumption) <;> (try trivial) <;> (try omega)
        all_goals exact hc4
      · exact ⟨⟨trivial, trivial⟩, ⟨by simp [r9], trivial⟩, ⟨by simp [r9], trivial⟩, u6 _ _, trivial⟩
    · have hm : ¬ (out.length : Int) ≤ 1500 := by omega
      have e : E1 nx 1500 l = out := by
        rw [p4]
        cases hq : 1501 - i with
        | zero => rfl
        | succ f => unfold M2; rw [hx]; simp only; rw [if_neg hmost]
      repeat' (first | ((repeat ((fail_if_success (refine hK _ ?_)); clear hK K)); refine hK _ ?_; clear hK K) | ((first | refine b9 fun K1 q7 => ?_ | refine j8 fun K1 q7 => ?_ | refine b7 fun A B hA hB => ?_); simp only [S1, simprocAttr, bj, hi, hm, List.length_map]; first | refine q7 _ ?_; clear q7 K1 | (refine hB ?_; clear hA hB A B)) | refine b6 fun K hK => ?_ | ((first | apply b8 | apply i5 | apply b5 | refine i6 ?_ | apply f9 | apply d3); try simp only [NB, simprocAttr]))
      all_goals exact hend false e rfl rfl (by simp [hmost])
  · have hi : ¬ (i : Int) < (out.length : Int) := by omega
    have e : E1 nx 1500 l = out := by
      rw [p4]
      cases hq : 1501 - i with
      | zero => rfl
      | succ f => unfold M2; rw [List.getElem?_eq_none (by omega)]
    by_cases hmost : out.length ≤ 1500
    · have hm : (out.length : Int) ≤ 1500 := by omega
      repeat' (first | ((repeat ((fail_if_success (refine hK _ ?_)); clear hK K)); refine hK _ ?_; clear hK K) | ((first | refine b9 fun K1 q7 => ?_ | refine j8 fun K1 q7 => ?_ | refine b7 fun A B hA hB => ?_); simp only [S1, simprocAttr, bj, hi, hm, List.length_map]; first | refine q7 _ ?_; clear q7 K1 | (refine hB ?_; clear hA hB A B)) | refine b6 fun K hK => ?_ | ((first | apply b8 | apply i5 | apply b5 | refine i6 ?_ | apply f9 | apply d3); try simp only [NB, simprocAttr]))
      all_goals exact hend true e rfl rfl (by simp [hmost])
    · have hm : ¬ (out.length : Int) ≤ 1500 := by omega
      repeat' (first | ((repeat ((fail_if_success (refine hK _ ?_)); clear hK K)); refine hK _ ?_; clear hK K) | ((first | refine b9 fun K1 q7 => ?_ | refine j8 fun K1 q7 => ?_ | refine b7 fun A B hA hB => ?_); simp only [S1, simprocAttr, bj, hi, hm, List.length_map]; first | refine q7 _ ?_; clear q7 K1 | (refine hB ?_; clear hA hB A B)) | refine b6 fun K hK => ?_ | ((first | apply b8 | apply i5 | apply b5 | refine i6 ?_ | apply f9 | apply d3); try simp only [NB, simprocAttr]))
      all_goals exact hend false e rfl rfl (by simp [hmost])
end
section
theorem wU {fuel : Nat} {xs : List PV} (h : Ty Tryz.prog fuel 41 xs) : ∃ l : List Int, nF Tryz.prog 41 xs = aI l := by
  obtain ⟨m, rows, _, rfl, hr⟩ := eO T41 h
  obtain ⟨l, _, _, hl⟩ := sZ T3 rows hr
  exact ⟨l, by rw [ta T41, hl]; simp [TI.isAgg, eI]⟩
end
section
attribute [local irreducible] awp n8 k3 l8 o4 m8
theorem TRz : k4 Tryz.prog 60 = some ⟨.struct [(0, 40, 57), (40, 4, 58), (44, 4, 58), (48, 1, 3)], 49, 392, some z49⟩ := by rw [T60]; rfl
theorem ql {S : List Int} (hS : S.length = 49) (c : List AV) (hc : c.length = 49) : (t8 (t8 (t8 c 0 ((S.take 40).map AV.i)) 40 (((S.drop 40).take 4).map AV.i)) 44 (((S.drop 44).take 4).map AV.i)).set 48 (.p (.int .i64 (mdS S))) = S.map AV.i := by
  have l1 : ((S.take 40).map AV.i).length = 40 := by simp [hS]
  have l2 : (((S.drop 40).take 4).map AV.i).length = 4 := by simp [hS]
  have l3 : (((S.drop 44).take 4).map AV.i).length = 4 := by simp [hS]
  have eS : S.map AV.i = (S.take 40).map AV.i ++ (((S.drop 40).take 4).map AV.i ++ (((S.drop 44).take 4).map AV.i ++ [.p (.int .i64 (mdS S))])) := by
    have h1 : S = S.take 40 ++ ((S.drop 40).take 4 ++ ((S.drop 44).take 4 ++ [mdS S])) := by
      have a1 : S.drop 48 = [mdS S] := by
        rw [List.drop_eq_getElem_cons (by omega), List.drop_of_length_le (by omega)]
        congr 1
        have := I1 hS (k := 48) (by omega)
        rw [List.getElem?_eq_getElem (by omega)] at this
        exact Option.some.inj this
      have a2 : S.drop 44 = (S.drop 44).take 4 ++ [mdS S] := by
        rw [← a1, show S.drop 48 = (S.drop 44).drop 4 by rw [List.drop_drop], List.take_append_drop]
      have a3 : S.drop 40 = (S.drop 40).take 4 ++ ((S.drop 44).take 4 ++ [mdS S]) := by
        rw [← a2, show S.drop 44 = (S.drop 40).drop 4 by rw [List.drop_drop], List.take_append_drop]
      rw [← a3, List.take_append_drop]
    conv => lhs; rw [h1]
    simp only [List.map_append, List.map_cons, List.map_nil]
  generalize (S.take 40).map AV.i = A at *
  generalize ((S.drop 40).take 4).map AV.i = B at *
  generalize ((S.drop 44).take 4).map AV.i = C at *
  have o1 : t8 c 0 A = A ++ c.drop 40 := by rw [ah _ c 0 (by omega)]; simp [l1]
  have o2 : t8 (A ++ c.drop 40) 40 B = A ++ (B ++ c.drop 44) := by
    rw [ah _ _ 40 (by rw [List.length_append, List.length_drop]; omega)]
    rw [List.take_left' l1, l2, List.drop_append, l1, List.drop_of_length_le (by omega), List.drop_drop, List.append_assoc]; rfl
  have o3 : t8 (A ++ (B ++ c.drop 44)) 44 C = A ++ (B ++ (C ++ c.drop 48)) := by
    have l4 : (A ++ B).length = 44 := by rw [List.length_append]; omega
    rw [← List.append_assoc, ah _ _ 44 (by rw [List.length_append, List.length_drop]; omega)]
    rw [List.take_left' l4, l3, List.drop_append, l4, List.drop_of_length_le (by omega), List.drop_drop, List.append_assoc, List.append_assoc]; rfl
  rw [o1, o2, o3, eS]
  have l5 : (A ++ (B ++ C)).length = 48 := by rw [List.length_append, List.length_append]; omega
  have c1 : ∃ x, c.drop 48 = [x] := List.length_eq_one_iff.mp (by rw [List.length_drop]; omega)
  obtain ⟨x, hx⟩ := c1
  rw [hx, show A ++ (B ++ (C ++ [x])) = (A ++ (B ++ C)) ++ [x] by simp only [List.append_assoc], List.set_append_right _ _ (by omega), l5]
  simp only [List.append_assoc]; rfl
end
section
def bl := And.intro T2 (And.intro T3 (And.intro T4 (And.intro T25 (And.intro T26 (And.intro T28 (And.intro T31 (And.intro T34 (And.intro T41 (And.intro T57 (And.intro T58 (And.intro T62 (And.intro T65 (And.intro T89 T92)))))))))))))
attribute [local irreducible] awp n8 k3 l8 o4 m8
def dM (y : Sp) : Lb := (y.lk, y.ln, y.la)
abbrev aL (x : Lb) : AV := .agg [.i x.1, .i x.2.1, .i x.2.2]
def O6 (sl : List Sp) (x : Lb) : List Sv := (sl.filter fun y => dM y = x).map (·.to)
noncomputable def aj (ns : List Nd) (fl : List Fl) (S : Sv) (x : Lb) : List Sv := O6 (p8 ns fl S) x
theorem mq {sl : List Sp} {j : Nat} {y : Sp} (h : sl[j]? = some y) (x : Lb) : O6 (sl.take (j + 1)) x = O6 (sl.take j) x ++ if dM y = x then [y.to] else [] := by
  unfold O6
  rw [List.take_add_one, h, List.filter_append, List.map_append]
  congr 1
  by_cases hc : dM y = x <;> simp [hc]
theorem nV (sl : List Sp) (j : Nat) (x : Lb) : (O6 (sl.take j) x).length ≤ sl.length := by
  unfold O6
  rw [List.length_map]
  exact Nat.le_trans (List.length_filter_le _ _) (by rw [List.length_take]; omega)
theorem fo {sl : List Sp} (h : ∀ y ∈ sl, y.to.length = 49) (x : Lb) : B7 (O6 sl x) := fun s hs => by
  unfold O6 at hs
  obtain ⟨y, hy, rfl⟩ := List.mem_map.mp hs
  exact h y (List.mem_filter.mp hy).1
theorem uN (a b : Lb) : y7 true [AV.i a.1, AV.i a.2.1, AV.i a.2.2] [AV.i b.1, AV.i b.2.1, AV.i b.2.2] = some (decide (a = b)) := by
  simp only [y7]
  obtain ⟨a1, a2, a3⟩ := a
  obtain ⟨b1, b2, b3⟩ := b
  by_cases h1 : a1 = b1 <;> by_cases h2 : a2 = b2 <;> by_cases h3 : a3 = b3 <;> simp [h1, h2, h3]
theorem mr {ns : List Nd} {fl : List Fl} (nk : NetOk ns fl) {S : Sv} (hS : S.length = 49) (x : Lb) (h : Heap) :
    d5 Tryz.prog gW 31 [G9 ns fl, aS S, aL x] h (fun r h' => r = B6 (aj ns fl S x) ∧ h' = h) := by
  have hne := J1 hS
  have hmv := fun h => iv nk hS h
  have hto := Q1 (ns := ns) (fl := fl) hS
  have hln := M3 (ns := ns) (fl := fl) (S := S)
  have hzl : (zS.map AV.i).length = 49 := by rw [List.length_map]; rfl
  have hem : (zS.map AV.i).isEmpty = false := rfl
  have t49' : (S.map AV.i).take 49 = S.map AV.i := List.take_of_length_le (by rw [List.length_map, hS]; exact Nat.le_refl _)
  have hdo : ∀ (j : Nat) (y : Sp), (p8 ns fl S)[j]? = some y → ∀ h, d5 Tryz.prog gW 52 [G9 ns fl, aS S, .i j] h (fun r h' => r = .tup [aS y.to, aLb y, .i 0] ∧ h' = h) := by
    intro j y hy h
    have h0 : stC ns fl S = 0 := by
      rcases Classical.em (stC ns fl S = 0) with e | e
      · exact e
      · exfalso
        have : p8 ns fl S = [] := by unfold p8; rw [if_pos (.inl e)]
        rw [this] at hy; simp at hy
    have := wT nk hS (j : Int) h
    have e : doG ns fl S (j : Int) = (y, 0) := by unfold doG; rw [if_neg (by simpa using h0), if_neg (by omega), Int.toNat_natCast, hy]
    rw [e] at this
    exact this
  refine c8 (rl := []) d9 Tryz.func31 rfl (rs := [.tmp 6]) rfl Tryz.ntmps31 (by simp) ?_
  refine b6 fun K hK => ?_
  repeat' (first | (apply b8; (try simp only [NB]); ((repeat ((fail_if_success (refine hK _ ?_)); clear hK K)); refine hK _ ?_; clear hK K)) | (refine b9 fun K1 q7 => ?_; simp only [S1, simprocAttr, bl, hne, hS, d7]; refine q7 _ ?_; clear q7 K1) | (apply b5; try simp only [NB, simprocAttr]; (try ((repeat ((fail_if_success (refine hK _ ?_)); clear hK K)); refine hK _ ?_; clear hK K))))
  refine b6 fun K hK => ?_
  repeat' (first | (apply b8; (try simp only [NB]); ((repeat ((fail_if_success (refine hK _ ?_)); clear hK K)); refine hK _ ?_; clear hK K)) | (refine b9 fun K1 q7 => ?_; simp only [S1, simprocAttr, bl]; refine q7 _ ?_; clear q7 K1) | (apply b5; try simp only [NB, simprocAttr]; (try ((repeat ((fail_if_success (refine hK _ ?_)); clear hK K)); refine hK _ ?_; clear hK K))))
  refine b6 fun K hK => ?_
  repeat' (first | ((repeat ((fail_if_success (refine hK _ ?_)); clear hK K)); refine hK _ ?_; clear hK K) | (refine b9 fun K1 q7 => ?_; simp only [S1, simprocAttr, bl, TSz, i8, hne, hS, d7, t49', d8, e9, List.length_map]; first | refine q7 _ ?_; clear q7 K1 | (apply d4 E38; exact (hmv _); refine q7 _ ?_; clear q7 K1)) | refine b6 fun K hK => ?_ | ((first | apply b8 | apply b5 | apply c7); try simp only [NB, simprocAttr]))
  have hW : aj ns fl S x = O6 (p8 ns fl S) x := rfl
  clear hmv
  generalize p8 ns fl S = sl at *
  refine B5 sl.length 40 (fun j => [(17, .i j), (16, .i sl.length), (15, zG sl), (7, .ref (h.length + 3) (O6 (sl.take j) x).length 0 49 (O6 (sl.take j) x).length), (3, .ptr h.length 0 0), (4, .ptr (h.length + 1) 0 0), (5, .ptr (h.length + 2) 0 0)])
    (fun j => [some ⟨0, w8 ns fl⟩, some ⟨0, S.map AV.i⟩, some ⟨0, [.i x.1, .i x.2.1, .i x.2.2]⟩, some ⟨(O6 (sl.take j) x).length, q6 (O6 (sl.take j) x)⟩]) (fun j => True) ?_ trivial fun j hj hp K hK => ?_
  · refine (o5.adopt 7 49 rfl).trans (Sub.ghost ⟨rfl, ⟨[], by simp [q6, O6]⟩, ?_, ⟨trivial, trivial, trivial⟩, g9 _ _, ⟨trivial, trivial, trivial, trivial⟩, trivial, trivial⟩)
    simp only [G7, r9, C9, frL, List.length_cons, List.length_nil]
    simp [O6]
  rcases Nat.lt_or_ge j sl.length with hlt | hge
  · obtain ⟨y, hy⟩ : ∃ y, sl[j]? = some y := ⟨_, List.getElem?_eq_getElem hlt⟩
    have hxy : (sl.map eMv)[j]? = some [.int .i64 y.node, .int .i64 y.arg, .int .i64 y.lk, .int .i64 y.ln, .int .i64 y.la] := by rw [List.getElem?_map, hy]; rfl
    have hyl := hto y (List.mem_of_getElem? hy)
    have es := mq hy x
    have hle := nV sl j x
    have ho49 := fo (sl := sl.take j) (fun y hy => hto y (List.mem_of_mem_take hy)) x
    have hfl := C5 ho49
    have hmax : (O6 (sl.take j) x).length + 1 ≤ j6 := by unfold j6; omega
    have jl : (j : Int) < (sl.length : Int) := by omega
    have j0 : (0 : Int) ≤ (j : Int) := by omega
    have hnx : IntKind.i64.wrap ((j : Int) + 1) = ((j + 1 : Nat) : Int) := by rw [IntWalk.i64_in _ (by omega)]; omega
    have heq := uN (dM y) x
    have heq : y7 true [.p (.int .i64 y.lk), .p (.int .i64 y.ln), .p (.int .i64 y.la)] [.p (.int .i64 x.1), .p (.int .i64 x.2.1), .p (.int .i64 x.2.2)] = some (decide (dM y = x)) := heq
    by_cases hc : dM y = x
    · rw [decide_eq_true hc] at heq
      rw [if_pos hc] at es
      have hd := hdo j y hy
      have yt49 : (y.to.map AV.i).take 49 = y.to.map AV.i := List.take_of_length_le (by rw [List.length_map, hyl]; exact Nat.le_refl _)
      have hyz : t8 (zS.map AV.i) 0 (y.to.map AV.i) = y.to.map AV.i := l9 (n := 49) (by rw [List.length_map, hyl]) _ hzl
      have hey : (y.to.map AV.i).isEmpty = false := J1 hyl
      have hpv := N6 y.to
      have hch := J9 49 (y.to.map (PV.int .i64)) (by rw [List.length_map, hyl])
      have hti : (y.to.map (PV.int .i64)).take 49 = y.to.map (PV.int .i64) := List.take_of_length_le (by rw [List.length_map, hyl]; exact Nat.le_refl _)
      have hmm := t7 y.to
      have hfa := F3 (O6 (sl.take j) x) y.to
      repeat' (first | ((repeat ((fail_if_success (refine hK _ ?_)); clear hK K)); refine hK _ ?_; clear hK K) | ((first | refine b9 fun K1 q7 => ?_ | refine b7 fun A B hA hB => ?_); simp only [S1, simprocAttr, bl, jl, j0, hxy, hnx, hyl, hzl, hem, yt49, hyz, hey, hpv, hch, hti, hmm, hfl, hmax, heq, eqA, W28, TSz, i8, h9, j3, hne, hS, d7, t49', d8, e9, List.length_map, Nat.mul_one]; first | refine q7 _ ?_; clear q7 K1 | (refine hA ?_; clear hA hB A B) | (apply d4 E52; exact (hd _); refine q7 _ ?_; clear q7 K1)) | refine b6 fun K hK => ?_ | ((first | apply b8 | apply b5 | apply c7 | apply c9); try simp only [NB, simprocAttr]))
      all_goals refine ⟨hlt, trivial, ?_⟩
      all_goals simp only [es, hfa, List.length_append, List.length_cons, List.length_nil, Nat.zero_add]
      all_goals refine ⟨rfl, ⟨_, rfl⟩, ?_, ⟨trivial, trivial, trivial⟩, g9 _ _, ⟨trivial, trivial, trivial, trivial⟩, (by rw [← F3]; exact u6 _ _), trivial⟩
      all_goals simp only [S1, simprocAttr, KNB] <;> (try and_intros) <;> (try assumption) <;> (try trivial) <;> (try omega)
    · rw [decide_eq_false hc] at heq
      rw [if_neg hc, List.append_nil] at es
      repeat' (first | ((repeat ((fail_if_success (refine hK _ ?_)); clear hK K)); refine hK _ ?_; clear hK K) | ((first | refine b9 fun K1 q7 => ?_ | refine b7 fun A B hA hB => ?_); simp only [S1, simprocAttr, bl, jl, j0, hxy, hnx, hyl, heq, eqA, W28, d8, e9, List.length_map, Nat.mul_one]; first | refine q7 _ ?_; clear q7 K1 | ((first | refine hA ?_ | refine hB ?_); clear hA hB A B)) | refine b6 fun K hK => ?_ | ((first | apply b8 | apply b5 | apply c7 | apply c9); try simp only [NB, simprocAttr]))
      all_goals refine ⟨hlt, trivial, ?_⟩
      all_goals simp only [es]
      all_goals refine ⟨rfl, ⟨_, rfl⟩, ?_, ⟨trivial, trivial, trivial⟩, g9 _ _, ⟨trivial, trivial, trivial, trivial⟩, u6 _ _, trivial⟩
      all_goals simp only [S1, simprocAttr, KNB] <;> (try and_intros) <;> (try assumption) <;> (try trivial) <;> (try omega)
  · obtain rfl : j = sl.length := by omega
    have h49 := fo hto x
    repeat' (first | ((repeat ((fail_if_success (refine hK _ ?_)); clear hK K)); refine hK _ ?_; clear hK K) | ((first | refine b9 fun K1 q7 => ?_ | refine b7 fun A B hA hB => ?_); simp only [S1, simprocAttr, bl, Int.lt_irrefl]; first | refine q7 _ ?_; clear q7 K1 | (refine hB ?_; clear hA hB A B)) | refine b6 fun K hK => ?_ | ((first | apply b8 | apply b5 | apply f9 | apply d3); try simp only [NB, simprocAttr]))
    all_goals exact kA (.inr rfl) h49 rfl (by rw [List.take_length]; rfl) (by simp only [List.take_length, r7, m9, List.getElem?_cons_succ, List.getElem?_cons_zero, if_true]) (by omega) (by simp) (by simp) (by rw [hW])
theorem kB {ns : List Nd} {fl : List Fl} (nk : NetOk ns fl) {S : Sv} (hS : S.length = 49) (x : Lb) (h : Heap) :
    d5 Tryz.prog gW 34 [G9 ns fl, aS S, aL x] h (fun r h' => r = B6 (aj ns fl S x) ∧ h' = h) := by
  have hne := J1 hS
  have hmv := fun h => fa nk hS h
  have hto := Q1 (ns := ns) (fl := fl) hS
  have hln := M3 (ns := ns) (fl := fl) (S := S)
  have hzl : (zS.map AV.i).length = 49 := by rw [List.length_map]; rfl
  have hem : (zS.map AV.i).isEmpty = false := rfl
  have t49' : (S.map AV.i).take 49 = S.map AV.i := List.take_of_length_le (by rw [List.length_map, hS]; exact Nat.le_refl _)
  refine c8 (rl := []) d9 Tryz.func34 rfl (rs := [.tmp 6]) rfl Tryz.ntmps34 (by simp) ?_
  refine b6 fun K hK => ?_
  repeat' (first | (apply b8; (try simp only [NB]); ((repeat ((fail_if_success (refine hK _ ?_)); clear hK K)); refine hK _ ?_; clear hK K)) | (refine b9 fun K1 q7 => ?_; simp only [S1, simprocAttr, bl, hne, hS, d7]; refine q7 _ ?_; clear q7 K1) | (apply b5; try simp only [NB, simprocAttr]; (try ((repeat ((fail_if_success (refine hK _ ?_)); clear hK K)); refine hK _ ?_; clear hK K))))
  refine b6 fun K hK => ?_
  repeat' (first | (apply b8; (try simp only [NB]); ((repeat ((fail_if_success (refine hK _ ?_)); clear hK K)); refine hK _ ?_; clear hK K)) | (refine b9 fun K1 q7 => ?_; simp only [S1, simprocAttr, bl]; refine q7 _ ?_; clear q7 K1) | (apply b5; try simp only [NB, simprocAttr]; (try ((repeat ((fail_if_success (refine hK _ ?_)); clear hK K)); refine hK _ ?_; clear hK K))))
  refine b6 fun K hK => ?_
  repeat' (first | ((repeat ((fail_if_success (refine hK _ ?_)); clear hK K)); refine hK _ ?_; clear hK K) | (refine b9 fun K1 q7 => ?_; simp only [S1, simprocAttr, bl, TRz, i8, hne, hS, d7, t49', d8, e9, List.length_map]; first | refine q7 _ ?_; clear q7 K1 | (apply d4 E24; exact (hmv _); refine q7 _ ?_; clear q7 K1)) | refine b6 fun K hK => ?_ | ((first | apply b8 | apply b5 | apply c7); try simp only [NB, simprocAttr]))
  have hW : aj ns fl S x = O6 (p8 ns fl S) x := rfl
  clear hmv
  generalize p8 ns fl S = sl at *
  refine B5 sl.length 29 (fun j => [(14, .i j), (13, .i sl.length), (12, rR sl), (7, .ref (h.length + 3) (O6 (sl.take j) x).length 0 49 (O6 (sl.take j) x).length), (5, .ptr (h.length + 2) 0 0)])
    (fun j => [some ⟨0, w8 ns fl⟩, some ⟨0, S.map AV.i⟩, some ⟨0, [.i x.1, .i x.2.1, .i x.2.2]⟩, some ⟨(O6 (sl.take j) x).length, q6 (O6 (sl.take j) x)⟩]) (fun j => True) ?_ trivial fun j hj hp K hK => ?_
  · refine (o5.adopt 7 49 rfl).trans (Sub.ghost ⟨rfl, ⟨[], by simp [q6, O6]⟩, ?_, ⟨trivial, trivial, trivial⟩, g9 _ _, ⟨trivial, trivial, trivial, trivial⟩, trivial, trivial⟩)
    simp only [G7, r9, C9, frL, List.length_cons, List.length_nil]
    simp [O6]
  rcases Nat.lt_or_ge j sl.length with hlt | hge
  · obtain ⟨y, hy⟩ : ∃ y, sl[j]? = some y := ⟨_, List.getElem?_eq_getElem hlt⟩
    have hxy : (sl.map eSp)[j]? = some ((cSp y).map (PV.int .i64)) := by rw [List.getElem?_map, hy]; rfl
    have hyl := hto y (List.mem_of_getElem? hy)
    have es := mq hy x
    have hle := nV sl j x
    have ho49 := fo (sl := sl.take j) (fun y hy => hto y (List.mem_of_mem_take hy)) x
    have hfl := C5 ho49
    have hmax : (O6 (sl.take j) x).length + 1 ≤ j6 := by unfold j6; omega
    have jl : (j : Int) < (sl.length : Int) := by omega
    have j0 : (0 : Int) ≤ (j : Int) := by omega
    have hnx : IntKind.i64.wrap ((j : Int) + 1) = ((j + 1 : Nat) : Int) := by rw [IntWalk.i64_in _ (by omega)]; omega
    have heq := uN (dM y) x
    have heq : y7 true [.p (.int .i64 y.lk), .p (.int .i64 y.ln), .p (.int .i64 y.la)] [.p (.int .i64 x.1), .p (.int .i64 x.2.1), .p (.int .i64 x.2.2)] = some (decide (dM y = x)) := heq
    have y54 : (cSp y).length = 54 := E3 hyl
    have ymm := (t7 (cSp y)).trans (nB y)
    have ycons : (cSp y).map (PV.int .i64) = .int .i64 y.node :: .int .i64 y.arg :: .int .i64 y.lk :: .int .i64 y.ln :: .int .i64 y.la :: y.to.map (PV.int .i64) := rfl
    have yov := D2 hyl
    have yt49 : (y.to.map AV.i).take 49 = y.to.map AV.i := List.take_of_length_le (by rw [List.length_map, hyl]; exact Nat.le_refl _)
    by_cases hc : dM y = x
    · rw [decide_eq_true hc] at heq
      rw [if_pos hc] at es
      have hyz : t8 (zS.map AV.i) 0 (y.to.map AV.i) = y.to.map AV.i := l9 (n := 49) (by rw [List.length_map, hyl]) _ hzl
      have hpv := N6 y.to
      have hch := J9 49 (y.to.map (PV.int .i64)) (by rw [List.length_map, hyl])
      have hti : (y.to.map (PV.int .i64)).take 49 = y.to.map (PV.int .i64) := List.take_of_length_le (by rw [List.length_map, hyl]; exact Nat.le_refl _)
      have hmm := t7 y.to
      have hfa := F3 (O6 (sl.take j) x) y.to
      repeat' (first | ((repeat ((fail_if_success (refine hK _ ?_)); clear hK K)); refine hK _ ?_; clear hK K) | ((first | refine b9 fun K1 q7 => ?_ | refine b7 fun A B hA hB => ?_); simp only [S1, simprocAttr, bl, jl, j0, hxy, hnx, hyl, hzl, hem, y54, ymm, yov, yt49, hyz, hpv, hch, hti, hmm, hfl, hmax, heq, eqA, W28, TRz, i8, h9, j3, hne, hS, d7, t49', d8, e9, List.length_map, Nat.mul_one]; first | refine q7 _ ?_; clear q7 K1 | (refine hA ?_; clear hA hB A B)) | refine b6 fun K hK => ?_ | ((first | apply b8 | apply b5 | apply c7 | apply c9); try simp only [NB, simprocAttr]))
      all_goals refine ⟨hlt, trivial, ?_⟩
      all_goals simp only [es, hfa, List.length_append, List.length_cons, List.length_nil, Nat.zero_add]
      all_goals refine ⟨rfl, ⟨_, rfl⟩, ?_, ⟨trivial, trivial, trivial⟩, g9 _ _, ⟨trivial, trivial, trivial, trivial⟩, (by rw [← F3]; exact u6 _ _), trivial⟩
      all_goals simp only [S1, simprocAttr, KNB] <;> (try and_intros) <;> (try assumption) <;> (try trivial) <;> (try omega)
    · rw [decide_eq_false hc] at heq
      rw [if_neg hc, List.append_nil] at es
      repeat' (first | ((repeat ((fail_if_success (refine hK _ ?_)); clear hK K)); refine hK _ ?_; clear hK K) | ((first | refine b9 fun K1 q7 => ?_ | refine b7 fun A B hA hB => ?_); simp only [S1, simprocAttr, bl, jl, j0, hxy, hnx, hyl, y54, ymm, yov, yt49, heq, eqA, W28, d7, d8, e9, List.length_map, Nat.mul_one]; first | refine q7 _ ?_; clear q7 K1 | ((first | refine hA ?_ | refine hB ?_); clear hA hB A B)) | refine b6 fun K hK => ?_ | ((first | apply b8 | apply b5 | apply c7 | apply c9); try simp only [NB, simprocAttr]))
      all_goals refine ⟨hlt, trivial, ?_⟩
      all_goals simp only [es]
      all_goals refine ⟨rfl, ⟨_, rfl⟩, ?_, ⟨trivial, trivial, trivial⟩, g9 _ _, ⟨trivial, trivial, trivial, trivial⟩, u6 _ _, trivial⟩
      all_goals simp only [S1, simprocAttr, KNB] <;> (try and_intros) <;> (try assumption) <;> (try trivial) <;> (try omega)
  · obtain rfl : j = sl.length := by omega
    have h49 := fo hto x
    repeat' (first | ((repeat ((fail_if_success (refine hK _ ?_)); clear hK K)); refine hK _ ?_; clear hK K) | ((first | refine b9 fun K1 q7 => ?_ | refine b7 fun A B hA hB => ?_); simp only [S1, simprocAttr, bl, Int.lt_irrefl]; first | refine q7 _ ?_; clear q7 K1 | (refine hB ?_; clear hA hB A B)) | refine b6 fun K hK => ?_ | ((first | apply b8 | apply b5 | apply f9 | apply d3); try simp only [NB, simprocAttr]))
    all_goals exact kA (.inr rfl) h49 rfl (by rw [List.take_length]; rfl) (by simp only [List.take_length, r7, m9, List.getElem?_cons_succ, List.getElem?_cons_zero, if_true]) (by omega) (by simp) (by simp) (by rw [hW])
end
section
def bn := And.intro T2 (And.intro T3 (And.intro T4 (And.intro T25 (And.intro T26 (And.intro T28 (And.intro T31 (And.intro T34 (And.intro T36 (And.intro T41 (And.intro T57 (And.intro T58 (And.intro T62 (And.intro T65 (And.intro T89 T92))))))))))))))
attribute [local irreducible] awp n8 k3 l8 o4 m8
theorem cG {ns : List Nd} {fl : List Fl} {S : Sv} (hS : S.length = 49) (x : Lb) : B7 (aj ns fl S x) := fo (Q1 hS) x
theorem fq (ns : List Nd) (fl : List Fl) (S : Sv) (x : Lb) : (aj ns fl S x).length ≤ 2500 := by
  have := nV (p8 ns fl S) (p8 ns fl S).length x
  rw [List.take_length] at this
  exact Nat.le_trans this M3
noncomputable abbrev nxW (ns : List Nd) (fl : List Fl) (S : Sv) : List Sv := aj ns fl S (0, 0, 0)
theorem lg {ns : List Nd} {fl : List Fl} (nk : NetOk ns fl) {S : Sv} (hS : S.length = 49) {H : Heap} {b : Nat} (hb : H[b]? = some (some ⟨0, w8 ns fl⟩)) (hlt : b < H.length) :
    d5 Tryz.prog gW 54 [aS S, .ptr b 0 0] H (fun r h' => r = B6 (nxW ns fl S) ∧ h' = H) := by
  have hne := J1 hS
  have t49' : (S.map AV.i).take 49 = S.map AV.i := List.take_of_length_le (by rw [List.length_map, hS]; exact Nat.le_refl _)
  have hled := fun h => mr nk hS (0, 0, 0) h
  have hb' : ∀ L : Heap, (H ++ L)[b]? = some (some ⟨0, w8 ns fl⟩) := fun L => by rw [List.getElem?_append_left hlt]; exact hb
  refine c8 (rl := []) d9 Tryz.func54 rfl (rs := [.tmp 3]) rfl Tryz.ntmps54 (by simp) ?_
  repeat' (first | ((repeat ((fail_if_success (refine hK _ ?_)); clear hK K)); refine hK _ ?_; clear hK K) | (refine b9 fun K1 q7 => ?_; simp only [S1, simprocAttr, bn, hb, hb', TSz, i8, hne, hS, d7, t49', d8, e9, List.length_map]; first | refine q7 _ ?_; clear q7 K1 | (apply d4 E31; exact (hled _); refine q7 _ ?_; clear q7 K1)) | refine b6 fun K hK => ?_ | ((first | apply b8 | apply b5 | apply d3); try simp only [NB, simprocAttr]))
  all_goals simp only [S1, simprocAttr, ENB, bn]
noncomputable def A0 (ns : List Nd) (fl : List Fl) (l : List Sv) : List Sv × Int := if (E1 (nxW ns fl) 1500 l).length ≤ 1500 then (E1 (nxW ns fl) 1500 l, 0) else ([], 5)
theorem fu {ns : List Nd} {fl : List Fl} (nk : NetOk ns fl) {l : List Sv} (h49 : B7 l) (hl : l.length ≤ 8000000) (h : Heap) :
    d5 Tryz.prog gW 32 [G9 ns fl, B6 l] h (fun r h' => r = .tup [B6 (A0 ns fl l).1, .i (A0 ns fl l).2] ∧ h' = h) := by
  have hE := E54
  have hsp := nU (G := gW) hE (caps := [.ptr h.length 0 0]) (h := h ++ [some ⟨0, w8 ns fl⟩]) ⟨by simp [r9], trivial⟩ (nx := nxW ns fl) (fun s hs => cG hs _) (fun s => fq _ _ _ _)
    (fun s hs L => lg nk hs (by rw [List.append_assoc, aa]; rfl) (by simp)) h49 hl
  by_cases hc : (E1 (nxW ns fl) 1500 l).length ≤ 1500
  · have e : A0 ns fl l = (E1 (nxW ns fl) 1500 l, 0) := if_pos hc
    rw [e]
    rw [decide_eq_true hc] at hsp
    refine c8 (rl := []) d9 Tryz.func32 rfl (rs := [.tmp 4, .tmp 5]) rfl Tryz.ntmps32 (by simp) ?_
    repeat' (first | ((repeat ((fail_if_success (refine hK _ ?_)); clear hK K)); refine hK _ ?_; clear hK K) | ((first | refine b9 fun K1 q7 => ?_ | refine b7 fun A B hA hB => ?_); simp only [S1, simprocAttr, bn]; first | refine q7 _ ?_; clear q7 K1 | (refine hB ?_; clear hA hB A B) | (apply d4 E53; exact hsp; refine q7 _ ?_; clear q7 K1)) | refine b6 fun K hK => ?_ | ((first | apply b8 | apply b5 | apply c9 | apply d3); try simp only [NB, simprocAttr]))
    all_goals simp only [S1, simprocAttr, ENB, bn]
  · have e : A0 ns fl l = ([], 5) := if_neg hc
    rw [e]
    rw [decide_eq_false hc] at hsp
    refine c8 (rl := []) d9 Tryz.func32 rfl (rs := [.tmp 4, .tmp 5]) rfl Tryz.ntmps32 (by simp) ?_
    repeat' (first | ((repeat ((fail_if_success (refine hK _ ?_)); clear hK K)); refine hK _ ?_; clear hK K) | ((first | refine b9 fun K1 q7 => ?_ | refine b7 fun A B hA hB => ?_); simp only [S1, simprocAttr, bn]; first | refine q7 _ ?_; clear q7 K1 | (refine hA ?_; clear hA hB A B) | (apply d4 E53; exact hsp; refine q7 _ ?_; clear q7 K1)) | refine b6 fun K hK => ?_ | ((first | apply b8 | apply b5 | apply d3); try simp only [NB, simprocAttr]))
    all_goals simp only [S1, simprocAttr, ENB, bn]
    all_goals rfl
theorem ms {l : List Sv} (h49 : B7 l) (hl : l.length ≤ 16000000) {S : Sv} (hS : S.length = 49) {h : Heap} {b g : Nat} (hb : h[b]? = some (some ⟨g, q6 l⟩)) (hlt0 : b < h.length) :
    d5 Tryz.prog gW 55 [.ref b g 0 49 l.length, aS S] h (fun r h' => r = .b (decide (S ∈ l)) ∧ h' = h) := by
  have hne := J1 hS
  have hzl : (zS.map AV.i).length = 49 := by rw [List.length_map]; rfl
  have t49' : (S.map AV.i).take 49 = S.map AV.i := List.take_of_length_le (by rw [List.length_map, hS]; exact Nat.le_refl _)
  have hb' : ∀ L : Heap, (h ++ L)[b]? = some (some ⟨g, q6 l⟩) := fun L => by rw [List.getElem?_append_left hlt0]; exact hb
  have hfl := C5 h49
  refine c8 (rl := []) d9 Tryz.func55 rfl (rs := [.tmp 4]) rfl Tryz.ntmps55 (by simp) ?_
  repeat' (first | ((repeat ((fail_if_success (refine hK _ ?_)); clear hK K)); refine hK _ ?_; clear hK K) | (refine b9 fun K1 q7 => ?_; simp only [S1, simprocAttr, bn, hne, hS, d7, List.length_map]; refine q7 _ ?_; clear q7 K1) | refine b6 fun K hK => ?_ | ((first | apply b8 | apply b5 | apply c7); try simp only [NB, simprocAttr]))
  refine o8 l.length 17 (fun j => [(9, .i j), (8, .i l.length), (7, .ref b g 0 49 l.length), (3, .ptr h.length 0 0)]) (fun j => [some ⟨0, S.map AV.i⟩]) (fun j => S ∉ l.take j) ?_ (by simp) fun j hj hp K hK => ?_
  · refine ⟨rfl, ⟨[], by simp⟩, ?_, g9 _ _, trivial⟩
    simp only [S1, simprocAttr, KNB] <;> (try and_intros) <;> (try assumption) <;> (try trivial) <;> (try omega)
  rcases Nat.lt_or_ge j l.length with hlt | hge
  · obtain ⟨s, hx⟩ : ∃ k, l[j]? = some k := ⟨_, List.getElem?_eq_getElem hlt⟩
    have hs : s.length = 49 := h49 s (List.mem_of_getElem? hx)
    have hft := dL h49 hx
    have hle : 49 ≤ l.length * 49 - j * 49 := by omega
    have jl : (j : Int) < (l.length : Int) := by omega
    have j0 : (0 : Int) ≤ (j : Int) := by omega
    have hnx : IntKind.i64.wrap ((j : Int) + 1) = ((j + 1 : Nat) : Int) := by rw [IntWalk.i64_in _ (by omega)]; omega
    have s49 : (s.map AV.i).take 49 = s.map AV.i := List.take_of_length_le (by rw [List.length_map, hs]; exact Nat.le_refl _)
    have hso : t8 (zS.map AV.i) 0 (s.map AV.i) = s.map AV.i := l9 (n := 49) (by rw [List.length_map, hs]) _ hzl
    have heq := eqI (S := s) (T := S) (by rw [hs, hS])
    by_cases hc : s = S
    · have hbq : (s == S) = true := by simp [hc]
      rw [hbq] at heq
      have hin : decide (S ∈ l) = true := decide_eq_true (hc ▸ List.mem_of_getElem? hx)
      repeat' (first | ((repeat ((fail_if_success (refine hK _ ?_)); clear hK K)); refine hK _ ?_; clear hK K) | ((first | refine b9 fun K1 q7 => ?_ | refine b7 fun A B hA hB => ?_); simp only [S1, simprocAttr, bn, jl, j0, hnx, hb, hb', hfl, hft, hle, hs, hzl, s49, hso, heq, eqA, W60, TRz, i8, h9, j3, hS, t49', d7, d8, e9, List.length_map, List.length_drop]; first | refine q7 _ ?_; clear q7 K1 | (refine hA ?_; clear hA hB A B)) | refine b6 fun K hK => ?_ | ((first | apply b8 | apply b5 | apply c7 | apply c9 | apply d3); try simp only [NB, simprocAttr]))
      all_goals simp only [S1, simprocAttr, ENB, bn]
      all_goals rw [hin]
    · have hbq : (s == S) = false := by simp [hc]
      rw [hbq] at heq
      repeat' (first | ((repeat ((fail_if_success (refine hK _ ?_)); clear hK K)); refine hK _ ?_; clear hK K) | ((first | refine b9 fun K1 q7 => ?_ | refine b7 fun A B hA hB => ?_); simp only [S1, simprocAttr, bn, jl, j0, hnx, hb, hb', hfl, hft, hle, hs, hzl, s49, hso, heq, eqA, W60, TRz, i8, h9, j3, hS, t49', d7, d8, e9, List.length_map, List.length_drop]; first | refine q7 _ ?_; clear q7 K1 | ((first | refine hA ?_ | refine hB ?_); clear hA hB A B)) | refine b6 fun K hK => ?_ | ((first | apply b8 | apply b5 | apply c7 | apply c9); try simp only [NB, simprocAttr]))
      all_goals refine ⟨hlt, ?_, ?_⟩
      · rw [List.take_add_one, hx]
        intro e
        rcases List.mem_append.mp e with e | e
        · exact hp e
        · simp at e; exact hc e.symm
      · refine ⟨rfl, ⟨_, rfl⟩, ?_, g9 _ _, trivial⟩
        simp only [S1, simprocAttr, KNB] <;> (try and_intros) <;> (try assumption) <;> (try trivial) <;> (try omega)
  · obtain rfl : j = l.length := by omega
    rw [List.take_length] at hp
    have hin : decide (S ∈ l) = false := decide_eq_false hp
    repeat' (first | ((repeat ((fail_if_success (refine hK _ ?_)); clear hK K)); refine hK _ ?_; clear hK K) | ((first | refine b9 fun K1 q7 => ?_ | refine b7 fun A B hA hB => ?_); simp only [S1, simprocAttr, bn, Int.lt_irrefl]; first | refine q7 _ ?_; clear q7 K1 | (refine hB ?_; clear hA hB A B)) | refine b6 fun K hK => ?_ | ((first | apply b8 | apply b5 | apply f9 | apply d3); try simp only [NB, simprocAttr]))
    all_goals simp only [S1, simprocAttr, ENB, bn]
    all_goals rw [hin]
end
section
def S8 := And.intro T2 (And.intro T3 (And.intro T4 (And.intro T25 (And.intro T26 (And.intro T28 (And.intro T31 (And.intro T34 (And.intro T36 (And.intro T41 (And.intro T57 (And.intro T58 (And.intro T62 (And.intro T65 (And.intro T89 T92))))))))))))))
attribute [local irreducible] awp n8 k3 l8 o4 m8
abbrev aCl (c : List Sv × Int) : AV := .agg [B6 c.1, .i c.2]
theorem db {ns : List Nd} {fl : List Fl} (nk : NetOk ns fl) {l : List Sv} (h49 : B7 l) (hl : l.length ≤ 8000000) (h : Heap) :
    d5 Tryz.prog gW 35 [G9 ns fl, B6 l] h (fun r h' => r = aCl (A0 ns fl l) ∧ h' = h) := by
  have hzl : (zS.map AV.i).length = 49 := by rw [List.length_map]; rfl
  have hem : (zS.map AV.i).isEmpty = false := rfl
  refine c8 (rl := []) d9 Tryz.func35 rfl (rs := [.cell 4 36]) rfl Tryz.ntmps35 (by simp) ?_
  refine b6 fun K hK => ?_
  repeat' (first | (apply b8; (try simp only [NB]); ((repeat ((fail_if_success (refine hK _ ?_)); clear hK K)); refine hK _ ?_; clear hK K)) | (refine b9 fun K1 q7 => ?_; simp only [S1, simprocAttr, S8]; refine q7 _ ?_; clear q7 K1) | (apply b5; try simp only [NB, simprocAttr]; (try ((repeat ((fail_if_success (refine hK _ ?_)); clear hK K)); refine hK _ ?_; clear hK K))))
  refine b6 fun K hK => ?_
  repeat' (first | (apply b8; (try simp only [NB]); ((repeat ((fail_if_success (refine hK _ ?_)); clear hK K)); refine hK _ ?_; clear hK K)) | (refine b9 fun K1 q7 => ?_; simp only [S1, simprocAttr, S8]; refine q7 _ ?_; clear q7 K1) | (apply b5; try simp only [NB, simprocAttr]; (try ((repeat ((fail_if_success (refine hK _ ?_)); clear hK K)); refine hK _ ?_; clear hK K))))
  refine b6 fun K hK => ?_
  repeat' (first | ((repeat ((fail_if_success (refine hK _ ?_)); clear hK K)); refine hK _ ?_; clear hK K) | (refine b9 fun K1 q7 => ?_; simp only [S1, simprocAttr, S8, List.length_map]; refine q7 _ ?_; clear q7 K1) | refine b6 fun K hK => ?_ | ((first | apply b8 | apply b5 | apply c7); try simp only [NB, simprocAttr]))
  refine B5 l.length 64 (fun j => [(13, .i j), (12, .i l.length), (11, B6 l), (5, .ref (h.length + 2) (C4 [] (l.take j)).length 0 49 (C4 [] (l.take j)).length), (2, .ptr h.length 0 0), (4, .ptr (h.length + 1) 0 0)])
    (fun j => [some ⟨0, w8 ns fl⟩, some ⟨0, [.p .nils, .i 0]⟩, some ⟨(C4 [] (l.take j)).length, q6 (C4 [] (l.take j))⟩]) (fun j => True) ?_ trivial fun j hj hp K hK => ?_
  · refine (o5.adopt 5 49 rfl).trans (Sub.ghost ⟨rfl, ⟨[], by simp [q6, C4]⟩, ?_, ⟨trivial, trivial, trivial⟩, ⟨trivial, trivial, trivial⟩, trivial, trivial⟩)
    simp only [G7, r9, C9, frL, List.length_cons, List.length_nil]
    simp [C4]
  rcases Nat.lt_or_ge j l.length with hlt | hge
  · obtain ⟨s, hx⟩ : ∃ k, l[j]? = some k := ⟨_, List.getElem?_eq_getElem hlt⟩
    have hs : s.length = 49 := h49 s (List.mem_of_getElem? hx)
    have hxr : (l.map eSt)[j]? = some (s.map (PV.int .i64)) := by rw [List.getElem?_map, hx]; rfl
    have es := gi (out := []) hx
    have ho : B7 (C4 [] (l.take j)) := Q2 (fun s hs => by cases hs) fun t ht => h49 t (List.mem_of_mem_take ht)
    have hol := (R5 (l.take j) []).1
    rw [List.length_take] at hol
    simp only [List.length_nil, Nat.zero_add] at hol
    have jl : (j : Int) < (l.length : Int) := by omega
    have j0 : (0 : Int) ≤ (j : Int) := by omega
    have hnx : IntKind.i64.wrap ((j : Int) + 1) = ((j + 1 : Nat) : Int) := by rw [IntWalk.i64_in _ (by omega)]; omega
    have s49 : (s.map AV.i).take 49 = s.map AV.i := List.take_of_length_le (by rw [List.length_map, hs]; exact Nat.le_refl _)
    have hso : t8 (zS.map AV.i) 0 (s.map AV.i) = s.map AV.i := l9 (n := 49) (by rw [List.length_map, hs]) _ hzl
    have hsm := t7 s
    have hne := J1 hs
    generalize C4 [] (l.take j) = o at *
    have hfl := C5 ho
    have hmax : o.length + 1 ≤ j6 := by unfold j6; omega
    have hh := fun L : Heap => ms (h := h ++ ([some ⟨0, w8 ns fl⟩, some ⟨0, [.p .nils, .i 0]⟩, some ⟨o.length, q6 o⟩] ++ L)) (b := h.length + 2) (g := o.length) ho (by omega) hs (by rw [m9]; rfl) (by simp)
    have hh1 := hh [some ⟨0, s.map AV.i⟩]
    by_cases hin : s ∈ o
    · rw [decide_eq_true hin] at hh1
      have ea : Z1 o s = o := by unfold Z1; rw [if_pos hin]
      rw [ea] at es
      repeat' (first | ((repeat ((fail_if_success (refine hK _ ?_)); clear hK K)); refine hK _ ?_; clear hK K) | ((first | refine b9 fun K1 q7 => ?_ | refine b7 fun A B hA hB => ?_); simp only [S1, simprocAttr, S8, jl, j0, hnx, hxr, hs, hzl, hem, s49, hso, hsm, hne, TRz, i8, h9, j3, d7, d8, e9, List.length_map]; first | refine q7 _ ?_; clear q7 K1 | ((first | refine hA ?_ | refine hB ?_); clear hA hB A B) | (apply d4 E55; exact hh1; refine q7 _ ?_; clear q7 K1)) | refine b6 fun K hK => ?_ | ((first | apply b8 | apply b5 | apply c7 | apply c9); try simp only [NB, simprocAttr]))
      all_goals refine ⟨hlt, trivial, ?_⟩
      all_goals simp only [es]
      all_goals refine ⟨rfl, ⟨_, rfl⟩, ?_, ⟨trivial, trivial, trivial⟩, ⟨trivial, trivial, trivial⟩, u6 _ _, trivial⟩
      all_goals simp only [S1, simprocAttr, KNB] <;> (try and_intros) <;> (try assumption) <;> (try trivial) <;> (try omega)
    · rw [decide_eq_false hin] at hh1
      have ea : Z1 o s = o ++ [s] := by unfold Z1; rw [if_neg hin]
      rw [ea] at es
      have hpv := N6 s
      have hch := J9 49 (s.map (PV.int .i64)) (by rw [List.length_map, hs])
      have hti : (s.map (PV.int .i64)).take 49 = s.map (PV.int .i64) := List.take_of_length_le (by rw [List.length_map, hs]; exact Nat.le_refl _)
      have hfa := F3 o s
      repeat' (first | ((repeat ((fail_if_success (refine hK _ ?_)); clear hK K)); refine hK _ ?_; clear hK K) | ((first | refine b9 fun K1 q7 => ?_ | refine b7 fun A B hA hB => ?_); simp only [S1, simprocAttr, S8, jl, j0, hnx, hxr, hs, hzl, hem, s49, hso, hsm, hne, hfl, hmax, hpv, hch, hti, TRz, i8, h9, j3, d7, d8, e9, List.length_map]; first | refine q7 _ ?_; clear q7 K1 | (refine hA ?_; clear hA hB A B) | (apply d4 E55; exact hh1; refine q7 _ ?_; clear q7 K1)) | refine b6 fun K hK => ?_ | ((first | apply b8 | apply b5 | apply c7 | apply c9); try simp only [NB, simprocAttr]))
      all_goals refine ⟨hlt, trivial, ?_⟩
      all_goals simp only [es, hfa, List.length_append, List.length_cons, List.length_nil, Nat.zero_add]
      all_goals refine ⟨rfl, ⟨_, rfl⟩, ?_, ⟨trivial, trivial, trivial⟩, ⟨trivial, trivial, trivial⟩, (by rw [← F3]; exact u6 _ _), trivial⟩
      all_goals simp only [S1, simprocAttr, KNB] <;> (try and_intros) <;> (try assumption) <;> (try trivial) <;> (try omega)
  · obtain rfl : j = l.length := by omega
    rw [List.take_length]
    have ho : B7 (C4 [] l) := Q2 (fun s hs => by cases hs) h49
    have hol := (R5 l []).1
    simp only [List.length_nil, Nat.zero_add] at hol
    have hcw : E1 (nxW ns fl) 1500 l = M2 (nxW ns fl) 1500 1501 0 (C4 [] l) := rfl
    clear hp hge hj
    repeat' (first | ((repeat ((fail_if_success (refine hK _ ?_)); clear hK K)); refine hK _ ?_; clear hK K) | ((first | refine b9 fun K1 q7 => ?_ | refine b7 fun A B hA hB => ?_); simp only [S1, simprocAttr, S8, Int.lt_irrefl]; first | refine q7 _ ?_; clear q7 K1 | (refine hB ?_; clear hA hB A B)) | refine b6 fun K hK => ?_ | ((first | apply b8 | apply b5 | apply c7 | apply f9); try simp only [NB, simprocAttr]))
    refine H7 (σ := Qsp) (fun q => 1501 - q.i) 64 (fun q => [(8, .i q.i), (5, .ref (h.length + 2) q.out.length 0 49 q.out.length), (2, .ptr h.length 0 0), (4, .ptr (h.length + 1) 0 0)])
      (fun q => [some ⟨0, w8 ns fl⟩, some ⟨0, [.p .nils, .i 0]⟩, some ⟨q.out.length, q6 q.out⟩])
      (fun q => q.i ≤ 1501 ∧ B7 q.out ∧ q.out.length ≤ 8000000 ∧ E1 (nxW ns fl) 1500 l = M2 (nxW ns fl) 1500 (1501 - q.i) q.i q.out) ⟨0, C4 [] l⟩ ?_ ?_ fun q hp K hK => ?_
    · refine ⟨rfl, ⟨[], by simp⟩, ?_, ⟨trivial, trivial, trivial⟩, ⟨trivial, trivial, trivial⟩, u6 _ _, trivial⟩
      simp only [S1, simprocAttr, KNB] <;> (try and_intros) <;> (try assumption) <;> (try trivial) <;> (try omega)
    · exact ⟨by show 0 ≤ 1501; omega, ho, by show (C4 [] l).length ≤ 8000000; omega, rfl⟩
    clear ho hol hcw
    obtain ⟨i, out⟩ := q
    obtain ⟨p1, p2, p3, p4⟩ := hp
    simp only at p1 p2 p3 p4 hK ⊢
    have hfl := C5 p2
    have i0 : (0 : Int) ≤ (i : Int) := by omega
    have hnx1 : IntKind.i64.wrap ((i : Int) + 1) = ((i + 1 : Nat) : Int) := by rw [IntWalk.i64_in _ (by omega)]; omega
    by_cases hlt : i < out.length
    · have hi : (i : Int) < (out.length : Int) := by omega
      obtain ⟨s, hx⟩ : ∃ k, out[i]? = some k := ⟨_, List.getElem?_eq_getElem hlt⟩
      by_cases hmost : out.length ≤ 1500
      · have hm : (out.length : Int) ≤ 1500 := by omega
        have hs : s.length = 49 := p2 s (List.mem_of_getElem? hx)
        have hft := dL p2 hx
        have hle : 49 ≤ out.length * 49 - i * 49 := by omega
        have hled := fun h => kB nk hs (0, 0, 0) h
        have hnl1 := fq ns fl s (0, 0, 0)
        have hn49 := cG (ns := ns) (fl := fl) hs (0, 0, 0)
        have p4' : E1 (nxW ns fl) 1500 l = M2 (nxW ns fl) 1500 (1501 - (i + 1)) (i + 1) (C4 out (nxW ns fl s)) := by
          rw [p4]
          obtain ⟨k, hk⟩ : ∃ k, 1501 - i = k + 1 := ⟨1500 - i, by omega⟩
          rw [hk, show 1501 - (i + 1) = k by omega]
          conv => lhs; unfold M2
          rw [hx]; simp only; rw [if_pos hmost]
        have hnn : nxW ns fl s = aj ns fl s (0, 0, 0) := rfl
        rw [hnn] at p4'
        generalize aj ns fl s (0, 0, 0) = more at *
        repeat' (first | ((repeat ((fail_if_success (refine hK _ ?_)); clear hK K)); refine hK _ ?_; clear hK K) | ((first | refine b9 fun K1 q7 => ?_ | refine j8 fun K1 q7 => ?_ | refine b7 fun A B hA hB => ?_); simp only [S1, simprocAttr, S8, hi, hm, i0, hft, hle, hfl, TRz, d7, d8, e9, List.length_map, List.length_drop]; first | refine q7 _ ?_; clear q7 K1 | (refine hA ?_; clear hA hB A B) | (apply j5 E34; exact (hled _); refine q7 _ ?_; clear q7 K1)) | refine b6 fun K hK => ?_ | ((first | apply b8 | apply i5 | apply b5 | refine i6 ?_ | apply c7 | apply c9); try simp only [NB, simprocAttr]))
        refine o8 more.length 64 (fun k => [(45, .i k), (44, .i more.length), (43, B6 more), (8, .i i), (5, .ref (h.length + 2) (C4 out (more.take k)).length 0 49 (C4 out (more.take k)).length), (2, .ptr h.length 0 0), (4, .ptr (h.length + 1) 0 0)])
          (fun k => [some ⟨0, w8 ns fl⟩, some ⟨0, [.p .nils, .i 0]⟩, some ⟨(C4 out (more.take k)).length, q6 (C4 out (more.take k))⟩]) (fun k => True) ?_ trivial fun k hk _ K hK => ?_
        · simp only [List.take_zero, wF]
          refine ⟨rfl, ⟨[], by simp⟩, ?_, ⟨trivial, trivial, trivial⟩, ⟨trivial, trivial, trivial⟩, u6 _ _, trivial⟩
          simp only [S1, simprocAttr, KNB] <;> (try and_intros) <;> (try assumption) <;> (try trivial) <;> (try omega)
        rcases Nat.lt_or_ge k more.length with hlk | hgk
        · obtain ⟨t, hy⟩ : ∃ t, more[k]? = some t := ⟨_, List.getElem?_eq_getElem hlk⟩
          have ht : t.length = 49 := hn49 t (List.mem_of_getElem? hy)
          have hyr : (more.map eSt)[k]? = some (t.map (PV.int .i64)) := by rw [List.getElem?_map, hy]; rfl
          have es := gi (out := out) hy
          have ho : B7 (C4 out (more.take k)) := Q2 p2 fun u hu => hn49 u (List.mem_of_mem_take hu)
          have hol := (R5 (more.take k) out).1
          rw [List.length_take] at hol
          have kl : (k : Int) < (more.length : Int) := by omega
          have k0 : (0 : Int) ≤ (k : Int) := by omega
          have hnk : IntKind.i64.wrap ((k : Int) + 1) = ((k + 1 : Nat) : Int) := by rw [IntWalk.i64_in _ (by omega)]; omega
          have s49 : (t.map AV.i).take 49 = t.map AV.i := List.take_of_length_le (by rw [List.length_map, ht]; exact Nat.le_refl _)
          have hso : t8 (zS.map AV.i) 0 (t.map AV.i) = t.map AV.i := l9 (n := 49) (by rw [List.length_map, ht]) _ hzl
          have hsm := t7 t
          have hne := J1 ht
          generalize C4 out (more.take k) = o at *
          have hfo := C5 ho
          have hmax : o.length + 1 ≤ j6 := by unfold j6; omega
          have hh := fun L : Heap => ms (h := h ++ ([some ⟨0, w8 ns fl⟩, some ⟨0, [.p .nils, .i 0]⟩, some ⟨o.length, q6 o⟩] ++ L)) (b := h.length + 2) (g := o.length) ho (by omega) ht (by rw [m9]; rfl) (by simp)
          have hh1 := hh [some ⟨0, t.map AV.i⟩]
          by_cases hin : t ∈ o
          · rw [decide_eq_true hin] at hh1
            have ea : Z1 o t = o := by unfold Z1; rw [if_pos hin]
            rw [ea] at es
            repeat' (first | ((repeat ((fail_if_success (refine hK _ ?_)); clear hK K)); refine hK _ ?_; clear hK K) | ((first | refine b9 fun K1 q7 => ?_ | refine b7 fun A B hA hB => ?_); simp only [S1, simprocAttr, S8, kl, k0, hnk, hyr, ht, hzl, hem, s49, hso, hsm, hne, TRz, i8, h9, j3, d7, d8, e9, List.length_map]; first | refine q7 _ ?_; clear q7 K1 | ((first | refine hA ?_ | refine hB ?_); clear hA hB A B) | (apply d4 E55; exact hh1; refine q7 _ ?_; clear q7 K1)) | refine b6 fun K hK => ?_ | ((first | apply b8 | apply b5 | apply c7 | apply c9); try simp only [NB, simprocAttr]))
            all_goals refine ⟨hlk, trivial, ?_⟩
            all_goals simp only [es]
            all_goals refine ⟨rfl, ⟨_, rfl⟩, ?_, ⟨trivial, trivial, trivial⟩, ⟨trivial, trivial, trivial⟩, u6 _ _, trivial⟩
            all_goals simp only [S1, simprocAttr, KNB] <;> (try and_intros) <;> (try assumption) <;> (try trivial) <;> (try omega)
          · rw [decide_eq_false hin] at hh1
            have ea : Z1 o t = o ++ [t] := by unfold Z1; rw [if_neg hin]
            rw [ea] at es
            have hpv := N6 t
            have hch := J9 49 (t.map (PV.int .i64)) (by rw [List.length_map, ht])
            have hti : (t.map (PV.int .i64)).take 49 = t.map (PV.int .i64) := List.take_of_length_le (by rw [List.length_map, ht]; exact Nat.le_refl _)
            have hfa := F3 o t
            repeat' (first | ((repeat ((fail_if_success (refine hK _ ?_)); clear hK K)); refine hK _ ?_; clear hK K) | ((first | refine b9 fun K1 q7 => ?_ | refine b7 fun A B hA hB => ?_); simp only [S1, simprocAttr, S8, kl, k0, hnk, hyr, ht, hzl, hem, s49, hso, hsm, hne, hfo, hmax, hpv, hch, hti, TRz, i8, h9, j3, d7, d8, e9, List.length_map]; first | refine q7 _ ?_; clear q7 K1 | (refine hA ?_; clear hA hB A B) | (apply d4 E55; exact hh1; refine q7 _ ?_; clear q7 K1)) | refine b6 fun K hK => ?_ | ((first | apply b8 | apply b5 | apply c7 | apply c9); try simp only [NB, simprocAttr]))
            all_goals refine ⟨hlk, trivial, ?_⟩
            all_goals simp only [es, hfa, List.length_append, List.length_cons, List.length_nil, Nat.zero_add]
            all_goals refine ⟨rfl, ⟨_, rfl⟩, ?_, ⟨trivial, trivial, trivial⟩, ⟨trivial, trivial, trivial⟩, (by rw [← F3]; exact u6 _ _), trivial⟩
            all_goals simp only [S1, simprocAttr, KNB] <;> (try and_intros) <;> (try assumption) <;> (try trivial) <;> (try omega)
        · obtain rfl : k = more.length := by omega
          have hao := (R5 more out).1
          rw [List.take_length]
          repeat' (first | ((repeat ((fail_if_success (refine hK _ ?_)); clear hK K)); refine hK _ ?_; clear hK K) | ((first | refine b9 fun K1 q7 => ?_ | refine b7 fun A B hA hB => ?_); simp only [S1, simprocAttr, S8, Int.lt_irrefl, hnx1]; first | refine q7 _ ?_; clear q7 K1 | (refine hB ?_; clear hA hB A B)) | refine b6 fun K hK => ?_ | ((first | apply b8 | apply b5 | apply f9); try simp only [NB, simprocAttr]))
          all_goals refine ⟨⟨i + 1, C4 out more⟩, by simp only; omega, ⟨by simp only; omega, Q2 p2 hn49, by simp only; omega, p4'⟩, ?_⟩
          all_goals refine ⟨rfl, ⟨_, rfl⟩, ?_, ⟨trivial, trivial, trivial⟩, ⟨trivial, trivial, trivial⟩, u6 _ _, trivial⟩
          all_goals simp only [S1, simprocAttr, KNB] <;> (try and_intros) <;> (try assumption) <;> (try trivial) <;> (try omega)
      · have hm : ¬ (out.length : Int) ≤ 1500 := by omega
        have hm' : (1500 : Int) < (out.length : Int) := by omega
        have e : E1 (nxW ns fl) 1500 l = out := by
          rw [p4]
          cases hq : 1501 - i with
          | zero => rfl
          | succ f => unfold M2; rw [hx]; simp only; rw [if_neg hmost]
        have e2 : A0 ns fl l = ([], 5) := by unfold A0; rw [e, if_neg hmost]
        repeat' (first | ((repeat ((fail_if_success (refine hK _ ?_)); clear hK K)); refine hK _ ?_; clear hK K) | ((first | refine b9 fun K1 q7 => ?_ | refine b7 fun A B hA hB => ?_); simp only [S1, simprocAttr, S8, hi, hm, hm', List.length_map]; first | refine q7 _ ?_; clear q7 K1 | ((first | refine hA ?_ | refine hB ?_); clear hA hB A B)) | refine b6 fun K hK => ?_ | ((first | apply b8 | apply b5 | apply f9 | apply d3); try simp only [NB, simprocAttr]))
        all_goals simp only [S1, simprocAttr, ENB, S8, e2]
        all_goals rfl
    · have hi : ¬ (i : Int) < (out.length : Int) := by omega
      have e : E1 (nxW ns fl) 1500 l = out := by
        rw [p4]
        cases hq : 1501 - i with
        | zero => rfl
        | succ f => unfold M2; rw [List.getElem?_eq_none (by omega)]
      by_cases hmost : out.length ≤ 1500
      · have hm' : ¬ (1500 : Int) < (out.length : Int) := by omega
        have e2 : A0 ns fl l = (out, 0) := by unfold A0; rw [e, if_pos hmost]
        have htk : (q6 out).take (out.length * 49) = q6 out := List.take_of_length_le (by rw [hfl]; exact Nat.le_refl _)
        have hch := gB p2
        have hpu := fun H n f => qk H n f out
        repeat' (first | ((repeat ((fail_if_success (refine hK _ ?_)); clear hK K)); refine hK _ ?_; clear hK K) | ((first | refine b9 fun K1 q7 => ?_ | refine b7 fun A B hA hB => ?_); simp only [S1, simprocAttr, S8, hi, hm', List.length_map]; first | refine q7 _ ?_; clear q7 K1 | (refine hB ?_; clear hA hB A B)) | refine b6 fun K hK => ?_ | ((first | apply b8 | apply b5 | apply f9 | apply c9 | apply d3); try simp only [NB, simprocAttr]))
        all_goals simp only [S1, simprocAttr, ENB, S8, e2, hfl, htk, hch, hpu, Option.map_some]
        all_goals by_cases h0 : out.length = 0
        · obtain rfl := List.eq_nil_of_length_eq_zero h0
          rfl
        · rw [if_neg h0]; rfl
      · have hm' : (1500 : Int) < (out.length : Int) := by omega
        have e2 : A0 ns fl l = ([], 5) := by unfold A0; rw [e, if_neg hmost]
        repeat' (first | ((repeat ((fail_if_success (refine hK _ ?_)); clear hK K)); refine hK _ ?_; clear hK K) | ((first | refine b9 fun K1 q7 => ?_ | refine b7 fun A B hA hB => ?_); simp only [S1, simprocAttr, S8, hi, hm', List.length_map]; first | refine q7 _ ?_; clear q7 K1 | ((first | refine hA ?_ | refine hB ?_); clear hA hB A B)) | refine b6 fun K hK => ?_ | ((first | apply b8 | apply b5 | apply f9 | apply d3); try simp only [NB, simprocAttr]))
        all_goals simp only [S1, simprocAttr, ENB, S8, e2]
        all_goals rfl
end
section
def S9 := And.intro T2 (And.intro T3 (And.intro T4 (And.intro T25 (And.intro T26 (And.intro T28 (And.intro T31 (And.intro T34 (And.intro T36 (And.intro T41 (And.intro T55 (And.intro T57 (And.intro T58 (And.intro T62 (And.intro T65 (And.intro T89 T92)))))))))))))))
attribute [local irreducible] awp n8 k3 l8 o4 m8
noncomputable def W0 (ns : List Nd) (fl : List Fl) : List Sv → Int
  | [] => 0
  | s :: r => if stC ns fl s = 0 then W0 ns fl r else stC ns fl s
noncomputable def F4 (ns : List Nd) (fl : List Fl) (l : List Sv) : Int := if (C0 ns fl).1 ≠ 0 then 4 else W0 ns fl l
theorem iw {ns : List Nd} {fl : List Fl} {l : List Sv} {j : Nat} {s : Sv} (h : l[j]? = some s) : W0 ns fl (l.drop j) = if stC ns fl s = 0 then W0 ns fl (l.drop (j + 1)) else stC ns fl s := by
  rw [List.drop_eq_getElem_cons (List.getElem?_eq_some_iff.mp h).1, (List.getElem?_eq_some_iff.mp h).2]; rfl
theorem nW {ns : List Nd} {fl : List Fl} (nk : NetOk ns fl) {l : List Sv} (h49 : B7 l) (hl : l.length ≤ 8000000) (h : Heap) :
    d5 Tryz.prog gW 30 [G9 ns fl, B6 l] h (fun r h' => r = .i (F4 ns fl l) ∧ h' = h) := by
  have hst := fun h => fc nk h
  have hzl : (zS.map AV.i).length = 49 := by rw [List.length_map]; rfl
  have hem : (zS.map AV.i).isEmpty = false := rfl
  by_cases h0 : (C0 ns fl).1 = 0
  case neg =>
    have e : F4 ns fl l = 4 := by unfold F4; rw [if_pos h0]
    have es : x7 ns fl = (zS, 4) := by unfold x7; rw [if_pos h0]
    have hzz : t8 (zS.map AV.i) 0 (zS.map AV.i) = zS.map AV.i := l9 (n := 49) (by rw [List.length_map]; rfl) _ hzl
    rw [e]
    rw [es] at hst
    refine c8 (rl := []) d9 Tryz.func30 rfl (rs := [.tmp 4]) rfl Tryz.ntmps30 (by simp) ?_
    repeat' (first | ((repeat ((fail_if_success (refine hK _ ?_)); clear hK K)); refine hK _ ?_; clear hK K) | ((first | refine b9 fun K1 q7 => ?_ | refine b7 fun A B hA hB => ?_); simp only [S1, simprocAttr, S9, TSz, i8, h9, j3, hem, hzz, d7, d8, e9, List.length_map]; first | refine q7 _ ?_; clear q7 K1 | (refine hA ?_; clear hA hB A B) | (apply d4 E36; exact (hst _); refine q7 _ ?_; clear q7 K1)) | refine b6 fun K hK => ?_ | ((first | apply b8 | apply b5 | apply d3); try simp only [NB, simprocAttr]))
    all_goals simp only [S1, simprocAttr, ENB, S9]
  have e : F4 ns fl l = W0 ns fl l := by unfold F4; rw [if_neg (by simpa using h0)]
  rw [e]
  have hs2 : (x7 ns fl).2 = 0 := by unfold x7; rw [if_neg (by simpa using h0)]
  have hs1 : (x7 ns fl).1.length = 49 := (wK hs2).1.1
  rw [hs2] at hst
  generalize (x7 ns fl).1 = S0 at *
  have hso0 : t8 (zS.map AV.i) 0 (S0.map AV.i) = S0.map AV.i := l9 (n := 49) (by rw [List.length_map, hs1]) _ hzl
  refine c8 (rl := []) d9 Tryz.func30 rfl (rs := [.tmp 4]) rfl Tryz.ntmps30 (by simp) ?_
  repeat' (first | ((repeat ((fail_if_success (refine hK _ ?_)); clear hK K)); refine hK _ ?_; clear hK K) | ((first | refine b9 fun K1 q7 => ?_ | refine b7 fun A B hA hB => ?_); simp only [S1, simprocAttr, S9, hs1, hso0, TSz, i8, h9, j3, hem, d7, d8, e9, List.length_map]; first | refine q7 _ ?_; clear q7 K1 | (refine hB ?_; clear hA hB A B) | (apply d4 E36; exact (hst _); refine q7 _ ?_; clear q7 K1)) | refine b6 fun K hK => ?_ | ((first | apply b8 | apply b5 | apply c7 | apply c9); try simp only [NB, simprocAttr]))
  refine o8 l.length 31 (fun j => [(20, .i j), (19, .i l.length), (18, B6 l), (2, .ptr h.length 0 0)]) (fun j => [some ⟨0, w8 ns fl⟩]) (fun j => W0 ns fl l = W0 ns fl (l.drop j)) ?_ rfl fun j hj hp K hK => ?_
  · refine ⟨rfl, ⟨_, rfl⟩, ?_, ⟨trivial, trivial, trivial⟩, trivial⟩
    simp only [S1, simprocAttr, KNB] <;> (try and_intros) <;> (try assumption) <;> (try trivial) <;> (try omega)
  rcases Nat.lt_or_ge j l.length with hlt | hge
  · obtain ⟨s, hx⟩ : ∃ k, l[j]? = some k := ⟨_, List.getElem?_eq_getElem hlt⟩
    have hs : s.length = 49 := h49 s (List.mem_of_getElem? hx)
    have hxr : (l.map eSt)[j]? = some (s.map (PV.int .i64)) := by rw [List.getElem?_map, hx]; rfl
    have jl : (j : Int) < (l.length : Int) := by omega
    have j0 : (0 : Int) ≤ (j : Int) := by omega
    have hnx : IntKind.i64.wrap ((j : Int) + 1) = ((j + 1 : Nat) : Int) := by rw [IntWalk.i64_in _ (by omega)]; omega
    have s49 : (s.map AV.i).take 49 = s.map AV.i := List.take_of_length_le (by rw [List.length_map, hs]; exact Nat.le_refl _)
    have hso : t8 (zS.map AV.i) 0 (s.map AV.i) = s.map AV.i := l9 (n := 49) (by rw [List.length_map, hs]) _ hzl
    have hsm := t7 s
    have hck := fun h => dI nk hs h
    rw [iw hx] at hp
    by_cases hc : stC ns fl s = 0
    · rw [if_pos hc] at hp
      rw [hc] at hck
      repeat' (first | ((repeat ((fail_if_success (refine hK _ ?_)); clear hK K)); refine hK _ ?_; clear hK K) | ((first | refine b9 fun K1 q7 => ?_ | refine b7 fun A B hA hB => ?_); simp only [S1, simprocAttr, S9, jl, j0, hnx, hxr, hs, hzl, hem, s49, hso, hsm, TSz, i8, h9, j3, d7, d8, e9, List.length_map]; first | refine q7 _ ?_; clear q7 K1 | ((first | refine hA ?_ | refine hB ?_); clear hA hB A B) | (apply d4 E51; exact (hck _); refine q7 _ ?_; clear q7 K1)) | refine b6 fun K hK => ?_ | ((first | apply b8 | apply b5 | apply c7 | apply c9); try simp only [NB, simprocAttr]))
      all_goals refine ⟨hlt, hp, ?_⟩
      all_goals refine ⟨rfl, ⟨_, rfl⟩, ?_, ⟨trivial, trivial, trivial⟩, trivial⟩
      all_goals simp only [S1, simprocAttr, KNB] <;> (try and_intros) <;> (try assumption) <;> (try trivial) <;> (try omega)
    · rw [if_neg hc] at hp
      have hc' : (stC ns fl s != 0) = true := by simp [hc]
      repeat' (first | ((repeat ((fail_if_success (refine hK _ ?_)); clear hK K)); refine hK _ ?_; clear hK K) | ((first | refine b9 fun K1 q7 => ?_ | refine b7 fun A B hA hB => ?_); simp only [S1, simprocAttr, S9, jl, j0, hnx, hxr, hs, hzl, hem, s49, hso, hsm, hc', TSz, i8, h9, j3, d7, d8, e9, List.length_map]; first | refine q7 _ ?_; clear q7 K1 | (refine hA ?_; clear hA hB A B) | (apply d4 E51; exact (hck _); refine q7 _ ?_; clear q7 K1)) | refine b6 fun K hK => ?_ | ((first | apply b8 | apply b5 | apply c7 | apply c9 | apply d3); try simp only [NB, simprocAttr]))
      all_goals simp only [S1, simprocAttr, ENB, S9]
      all_goals rw [hp]
  · obtain rfl : j = l.length := by omega
    rw [List.drop_length] at hp
    repeat' (first | ((repeat ((fail_if_success (refine hK _ ?_)); clear hK K)); refine hK _ ?_; clear hK K) | ((first | refine b9 fun K1 q7 => ?_ | refine b7 fun A B hA hB => ?_); simp only [S1, simprocAttr, S9, Int.lt_irrefl]; first | refine q7 _ ?_; clear q7 K1 | (refine hB ?_; clear hA hB A B)) | refine b6 fun K hK => ?_ | ((first | apply b8 | apply b5 | apply f9 | apply d3); try simp only [NB, simprocAttr]))
    all_goals simp only [S1, simprocAttr, ENB, S9]
    all_goals rw [hp]; rfl
theorem nX {ns : List Nd} {fl : List Fl} (nk : NetOk ns fl) {l : List Sv} (h49 : B7 l) (hl : l.length ≤ 8000000) (h : Heap) :
    d5 Tryz.prog gW 33 [G9 ns fl, B6 l] h (fun r h' => r = .i (F4 ns fl l) ∧ h' = h) := by
  have hnc := fun h => U0 (G := gW) ns fl nk h
  have hzl : (zS.map AV.i).length = 49 := by rw [List.length_map]; rfl
  have hem : (zS.map AV.i).isEmpty = false := rfl
  by_cases h0 : (C0 ns fl).1 = 0
  case neg =>
    have e : F4 ns fl l = 4 := by unfold F4; rw [if_pos h0]
    have hc' : ((C0 ns fl).1 != 0) = true := by simp [h0]
    rw [e]
    refine c8 (rl := []) d9 Tryz.func33 rfl (rs := [.tmp 4]) rfl Tryz.ntmps33 (by simp) ?_
    repeat' (first | ((repeat ((fail_if_success (refine hK _ ?_)); clear hK K)); refine hK _ ?_; clear hK K) | ((first | refine b9 fun K1 q7 => ?_ | refine b7 fun A B hA hB => ?_); simp only [S1, simprocAttr, S9, hc']; first | refine q7 _ ?_; clear q7 K1 | (refine hA ?_; clear hA hB A B) | (apply d4 E22; exact (hnc _); refine q7 _ ?_; clear q7 K1)) | refine b6 fun K hK => ?_ | ((first | apply b8 | apply b5 | apply d3); try simp only [NB, simprocAttr]))
    all_goals simp only [S1, simprocAttr, ENB, S9]
  have e : F4 ns fl l = W0 ns fl l := by unfold F4; rw [if_neg (by simpa using h0)]
  rw [e]
  have hc0 : ((C0 ns fl).1 != 0) = false := by simp [h0]
  refine c8 (rl := []) d9 Tryz.func33 rfl (rs := [.tmp 4]) rfl Tryz.ntmps33 (by simp) ?_
  repeat' (first | ((repeat ((fail_if_success (refine hK _ ?_)); clear hK K)); refine hK _ ?_; clear hK K) | ((first | refine b9 fun K1 q7 => ?_ | refine b7 fun A B hA hB => ?_); simp only [S1, simprocAttr, S9, hc0, List.length_map]; first | refine q7 _ ?_; clear q7 K1 | (refine hB ?_; clear hA hB A B) | (apply d4 E22; exact (hnc _); refine q7 _ ?_; clear q7 K1)) | refine b6 fun K hK => ?_ | ((first | apply b8 | apply b5 | apply c7 | apply c9); try simp only [NB, simprocAttr]))
  refine o8 l.length 25 (fun j => [(14, .i j), (13, .i l.length), (12, B6 l), (2, .ptr h.length 0 0)]) (fun j => [some ⟨0, w8 ns fl⟩]) (fun j => W0 ns fl l = W0 ns fl (l.drop j)) ?_ rfl fun j hj hp K hK => ?_
  · refine ⟨rfl, ⟨_, rfl⟩, ?_, ⟨trivial, trivial, trivial⟩, trivial⟩
    simp only [S1, simprocAttr, KNB] <;> (try and_intros) <;> (try assumption) <;> (try trivial) <;> (try omega)
  rcases Nat.lt_or_ge j l.length with hlt | hge
  · obtain ⟨s, hx⟩ : ∃ k, l[j]? = some k := ⟨_, List.getElem?_eq_getElem hlt⟩
    have hs : s.length = 49 := h49 s (List.mem_of_getElem? hx)
    have hxr : (l.map eSt)[j]? = some (s.map (PV.int .i64)) := by rw [List.getElem?_map, hx]; rfl
    have jl : (j : Int) < (l.length : Int) := by omega
    have j0 : (0 : Int) ≤ (j : Int) := by omega
    have hnx : IntKind.i64.wrap ((j : Int) + 1) = ((j + 1 : Nat) : Int) := by rw [IntWalk.i64_in _ (by omega)]; omega
    have s49 : (s.map AV.i).take 49 = s.map AV.i := List.take_of_length_le (by rw [List.length_map, hs]; exact Nat.le_refl _)
    have hso : t8 (zS.map AV.i) 0 (s.map AV.i) = s.map AV.i := l9 (n := 49) (by rw [List.length_map, hs]) _ hzl
    have hsm := t7 s
    have hck := fun h => kc nk hs h
    rw [iw hx] at hp
    by_cases hc : stC ns fl s = 0
    · rw [if_pos hc] at hp
      rw [hc] at hck
      repeat' (first | ((repeat ((fail_if_success (refine hK _ ?_)); clear hK K)); refine hK _ ?_; clear hK K) | ((first | refine b9 fun K1 q7 => ?_ | refine b7 fun A B hA hB => ?_); simp only [S1, simprocAttr, S9, jl, j0, hnx, hxr, hs, hzl, hem, s49, hso, hsm, TRz, i8, h9, j3, d7, d8, e9, List.length_map]; first | refine q7 _ ?_; clear q7 K1 | ((first | refine hA ?_ | refine hB ?_); clear hA hB A B) | (apply d4 E48; exact (hck _); refine q7 _ ?_; clear q7 K1)) | refine b6 fun K hK => ?_ | ((first | apply b8 | apply b5 | apply c7 | apply c9); try simp only [NB, simprocAttr]))
      all_goals refine ⟨hlt, hp, ?_⟩
      all_goals refine ⟨rfl, ⟨_, rfl⟩, ?_, ⟨trivial, trivial, trivial⟩, trivial⟩
      all_goals simp only [S1, simprocAttr, KNB] <;> (try and_intros) <;> (try assumption) <;> (try trivial) <;> (try omega)
    · rw [if_neg hc] at hp
      have hc' : (stC ns fl s != 0) = true := by simp [hc]
      repeat' (first | ((repeat ((fail_if_success (refine hK _ ?_)); clear hK K)); refine hK _ ?_; clear hK K) | ((first | refine b9 fun K1 q7 => ?_ | refine b7 fun A B hA hB => ?_); simp only [S1, simprocAttr, S9, jl, j0, hnx, hxr, hs, hzl, hem, s49, hso, hsm, hc', TRz, i8, h9, j3, d7, d8, e9, List.length_map]; first | refine q7 _ ?_; clear q7 K1 | (refine hA ?_; clear hA hB A B) | (apply d4 E48; exact (hck _); refine q7 _ ?_; clear q7 K1)) | refine b6 fun K hK => ?_ | ((first | apply b8 | apply b5 | apply c7 | apply c9 | apply d3); try simp only [NB, simprocAttr]))
      all_goals simp only [S1, simprocAttr, ENB, S9]
      all_goals rw [hp]
  · obtain rfl : j = l.length := by omega
    rw [List.drop_length] at hp
    repeat' (first | ((repeat ((fail_if_success (refine hK _ ?_)); clear hK K)); refine hK _ ?_; clear hK K) | ((first | refine b9 fun K1 q7 => ?_ | refine b7 fun A B hA hB => ?_); simp only [S1, simprocAttr, S9, Int.lt_irrefl]; first | refine q7 _ ?_; clear q7 K1 | (refine hB ?_; clear hA hB A B)) | refine b6 fun K hK => ?_ | ((first | apply b8 | apply b5 | apply f9 | apply d3); try simp only [NB, simprocAttr]))
    all_goals simp only [S1, simprocAttr, ENB, S9]
    all_goals rw [hp]; rfl
noncomputable def B3 (ns : List Nd) (fl : List Fl) : List Sv × Int := if (C0 ns fl).1 ≠ 0 then ([], 4) else A0 ns fl [(x7 ns fl).1]
end
section
def wV := And.intro T2 (And.intro T3 (And.intro T4 (And.intro T25 (And.intro T28 (And.intro T41 (And.intro T57 (And.intro T58 (And.intro T62 T65))))))))
attribute [local irreducible] awp n8 k3 l8 o4 m8
def z53 : List PV := List.replicate 53 (.int .i64 0)
theorem nY {ns : List Nd} {fl : List Fl} (nk : NetOk ns fl) (h0 : (C0 ns fl).1 = 0) (h : Heap) :
    d5 Tryz.prog gW 23 [G9 ns fl] h (fun r h' => r = aS (x7 ns fl).1 ∧ h' = h) := by
  have hzl : (zS.map AV.i).length = 49 := by rw [List.length_map]; rfl
  have hem : (zS.map AV.i).isEmpty = false := rfl
  have hzz : t8 (zS.map AV.i) 0 (zS.map AV.i) = zS.map AV.i := l9 (n := 49) (by rw [List.length_map]; rfl) _ hzl
  have hzt : (zS.map AV.i).take 49 = zS.map AV.i := List.take_of_length_le (by rw [hzl]; exact Nat.le_refl _)
  have rt := Right.of h0
  obtain ⟨s, f, e1, e2, e3⟩ := rt.begin
  have hf := rt.f
  have e : (x7 ns fl).1 = zS.set f 1 := by unfold x7; rw [if_neg (by simpa using h0), e1, e2]; rfl
  rw [e]
  have hs := fun h => gY (G := gW) ns nk.n (fl.map eF) 1 h
  have ho := fun h => s9 (G := gW) (ns.map eN) fl nk.f (s : Int) h
  rw [e1] at hs
  rw [e2] at ho
  have f40 : (f : Int) < 40 := by omega
  have f0' : (0 : Int) ≤ (f : Int) := by omega
  have f49 : f + 1 ≤ 49 := by omega
  have hset := I0 zS f 1
  have hzs : (zS.set f 1).length = 49 := by rw [List.length_set]; rfl
  have hzt2 : ((zS.set f 1).map AV.i).take 49 = (zS.set f 1).map AV.i := List.take_of_length_le (by rw [List.length_map, hzs]; exact Nat.le_refl _)
  have hzz2 : t8 (zS.map AV.i) 0 ((zS.set f 1).map AV.i) = (zS.set f 1).map AV.i := l9 (n := 49) (by rw [List.length_map, hzs]) _ hzl
  have hei : eI (f : Int) = [.int .i64 (f : Int)] := rfl
  have hi0 : (0 : Int) ≤ 0 := Int.le_refl 0
  refine c8 (rl := []) d9 Tryz.func23 rfl (rs := [.cell 2 60]) rfl Tryz.ntmps23 (by simp) ?_
  repeat' (first | ((first | apply b8 | apply s4); (try simp only [NB])) | ((repeat ((fail_if_success (refine hK _ ?_)); clear hK K)); refine hK _ ?_; clear hK K) | ((first | refine b9 fun K1 q7 => ?_ | refine u9 rfl rfl rfl fun K1 q7 => ?_); simp only [S1, simprocAttr, wV, f40, f0', f49, hset, hzs, hzt2, hzz2, hei, hi0, TRz, i8, h9, j3, hem, hzz, hzt, d7, d8, e9, List.length_map, List.getElem?_cons_zero, Nat.mul_one]; refine q7 _ ?_; clear q7 K1) | ((first | refine v6 (v := ?_) rfl rfl rfl rfl (by decide) (fun R1 K1 q7 => ?_) ?_ | refine z7 (v := ?_) rfl rfl rfl (by decide) (fun K1 q7 => ?_) ?_); rotate_left; (focus (simp only [S1, simprocAttr, wV, f40, f0', f49, hset, hzs, hzt2, hzz2, hei, hi0, TRz, i8, h9, j3, hem, hzz, hzt, d7, d8, e9, List.length_map, List.getElem?_cons_zero, Nat.mul_one]; first | (exact q7 _ _ _) | (apply j5 E44; exact (hs _); exact q7 _ _ _) | (apply j5 E47; exact (ho _); exact q7 _ _ _)))) | (refine s5 rfl rfl rfl ?_) | refine b6 fun K hK => ?_ | (refine q9 (es := []) [0, 1, 2, 3, 4, 5, 6, 7, 8] 0 (fs := []) rfl (by kernel_rfl) (by kernel_rfl) ?_) | ((first | apply b5 | apply d3); try simp only [NB, simprocAttr]))
  all_goals simp only [S1, simprocAttr, ENB, wV, hzt2, hzs, List.length_map, j3, TRz, e9, L8, t7]
end
section
def R6 := And.intro T2 (And.intro T3 (And.intro T4 (And.intro T25 (And.intro T26 (And.intro T28 (And.intro T31 (And.intro T34 (And.intro T36 (And.intro T41 (And.intro T44 (And.intro T55 (And.intro T57 (And.intro T58 (And.intro T62 (And.intro T65 (And.intro T89 T92))))))))))))))))
attribute [local irreducible] awp n8 k3 l8 o4 m8
theorem gC (ns : List Nd) (fl : List Fl) : (x7 ns fl).1.length = 49 := by
  unfold x7
  split
  · rfl
  · simp [zS]
theorem kC {s : Sv} (h : s.length = 49) : B7 [s] := fun t ht => by rw [List.mem_singleton] at ht; rw [ht]; exact h
theorem cj {ns : List Nd} {fl : List Fl} (nk : NetOk ns fl) (h : Heap) :
    d5 Tryz.prog gW 15 [G9 ns fl] h (fun r h' => r = .tup [B6 (B3 ns fl).1, .i (B3 ns fl).2] ∧ h' = h) := by
  have hst := fun h => fc nk h
  have hzl : (zS.map AV.i).length = 49 := by rw [List.length_map]; rfl
  have hem : (zS.map AV.i).isEmpty = false := rfl
  by_cases h0 : (C0 ns fl).1 = 0
  case neg =>
    have e : B3 ns fl = ([], 4) := by unfold B3; rw [if_pos h0]
    have es : x7 ns fl = (zS, 4) := by unfold x7; rw [if_pos h0]
    have hzz : t8 (zS.map AV.i) 0 (zS.map AV.i) = zS.map AV.i := l9 (n := 49) (by rw [List.length_map]; rfl) _ hzl
    rw [e]
    rw [es] at hst
    refine c8 (rl := []) d9 Tryz.func15 rfl (rs := [.tmp 2, .tmp 3]) rfl Tryz.ntmps15 (by simp) ?_
    repeat' (first | ((repeat ((fail_if_success (refine hK _ ?_)); clear hK K)); refine hK _ ?_; clear hK K) | ((first | refine b9 fun K1 q7 => ?_ | refine b7 fun A B hA hB => ?_); simp only [S1, simprocAttr, R6, TSz, i8, h9, j3, hem, hzz, d7, d8, e9, List.length_map]; first | refine q7 _ ?_; clear q7 K1 | (refine hA ?_; clear hA hB A B) | (apply d4 E36; exact (hst _); refine q7 _ ?_; clear q7 K1)) | refine b6 fun K hK => ?_ | ((first | apply b8 | apply b5 | apply d3); try simp only [NB, simprocAttr]))
    all_goals simp only [S1, simprocAttr, ENB, R6]
    all_goals rfl
  have e : B3 ns fl = A0 ns fl [(x7 ns fl).1] := by unfold B3; rw [if_neg (by simpa using h0)]
  have hs2 : (x7 ns fl).2 = 0 := by unfold x7; rw [if_neg (by simpa using h0)]
  have hs1 := gC ns fl
  rw [e]
  rw [hs2] at hst
  generalize (x7 ns fl).1 = s at *
  have hso0 : t8 (zS.map AV.i) 0 (s.map AV.i) = s.map AV.i := l9 (n := 49) (by rw [List.length_map, hs1]) _ hzl
  have s49 : (s.map AV.i).take 49 = s.map AV.i := List.take_of_length_le (by rw [List.length_map, hs1]; exact Nat.le_refl _)
  have hpv := N6 s
  have hch := J9 49 (s.map (PV.int .i64)) (by rw [List.length_map, hs1])
  have hti : (s.map (PV.int .i64)).take 49 = s.map (PV.int .i64) := List.take_of_length_le (by rw [List.length_map, hs1]; exact Nat.le_refl _)
  have hc := fun h => fu nk (kC hs1) (by simp) h
  refine c8 (rl := []) d9 Tryz.func15 rfl (rs := [.tmp 2, .tmp 3]) rfl Tryz.ntmps15 (by simp) ?_
  repeat' (first | ((repeat ((fail_if_success (refine hK _ ?_)); clear hK K)); refine hK _ ?_; clear hK K) | ((first | refine b9 fun K1 q7 => ?_ | refine b7 fun A B hA hB => ?_); simp only [S1, simprocAttr, R6, hs1, hso0, s49, hpv, hch, hti, TSz, i8, h9, j3, hem, d7, d8, e9, List.length_map]; first | refine q7 _ ?_; clear q7 K1 | (refine hB ?_; clear hA hB A B) | (apply d4 E36; exact (hst _); refine q7 _ ?_; clear q7 K1) | (apply d4 E32; exact (hc _); refine q7 _ ?_; clear q7 K1)) | refine b6 fun K hK => ?_ | ((first | apply b8 | apply b5 | apply c9 | apply d3); try simp only [NB, simprocAttr]))
  all_goals simp only [S1, simprocAttr, ENB, R6]
noncomputable def x9 (ns : List Nd) (fl : List Fl) (l : List Sv) (x : Lb) : List Sv := l.flatMap fun s => aj ns fl s x
noncomputable def u7 (ns : List Nd) (fl : List Fl) (l : List Sv) (x : Lb) : List Sv × Int := if F4 ns fl l ≠ 0 then ([], F4 ns fl l) else if x.1 = 0 then ([], 1) else A0 ns fl (x9 ns fl l x)
theorem kD {ns : List Nd} {fl : List Fl} {l : List Sv} {j : Nat} {s : Sv} (h : l[j]? = some s) (x : Lb) : x9 ns fl (l.take (j + 1)) x = x9 ns fl (l.take j) x ++ aj ns fl s x := by
  unfold x9
  rw [List.take_add_one, h, List.flatMap_append]; simp
theorem W1 {ns : List Nd} {fl : List Fl} {l : List Sv} (h : B7 l) (x : Lb) : B7 (x9 ns fl l x) := fun t ht => by
  unfold x9 at ht
  obtain ⟨s, hs, ht⟩ := List.mem_flatMap.mp ht
  exact cG (h s hs) x t ht
theorem ck (ns : List Nd) (fl : List Fl) (x : Lb) : ∀ l : List Sv, (x9 ns fl l x).length ≤ l.length * 2500
  | [] => by simp [x9]
  | s :: l => by
    have h1 := ck ns fl x l
    have h2 := fq ns fl s x
    unfold x9 at h1 ⊢
    rw [List.flatMap_cons, List.length_append, List.length_cons]; omega
theorem aY (l m : List Sv) : q6 (l ++ m) = q6 l ++ q6 m := by unfold q6; rw [List.flatMap_append]
theorem aZ (l : List Sv) : ((l.map eSt).flatMap id).map AV.p = q6 l := by
  unfold q6 eSt
  induction l with
  | nil => rfl
  | cons s l ih => rw [List.map_cons, List.flatMap_cons, List.map_append, ih, List.flatMap_cons]; congr 1; exact t7 s
theorem mt {l : List Sv} (h : B7 l) : (l.map eSt).all (fun r => r.length == 49) = true := by
  rw [List.all_eq_true]
  intro r hr
  obtain ⟨s, hs, rfl⟩ := List.mem_map.mp hr
  simpa using iV h s hs
noncomputable def dN (ns : List Nd) (fl : List Fl) (l : List Sv) (x : Lb) : Nat := ((l.map fun s => aj ns fl s x).filter fun m => m.length ≠ 0).length
theorem mu {ns : List Nd} {fl : List Fl} {l : List Sv} {j : Nat} {s : Sv} (h : l[j]? = some s) (x : Lb) : dN ns fl (l.take (j + 1)) x = dN ns fl (l.take j) x + if (aj ns fl s x).length = 0 then 0 else 1 := by
  unfold dN
  rw [List.take_add_one, h, List.map_append, List.filter_append, List.length_append]
  congr 1
  by_cases hc : (aj ns fl s x).length = 0
  · have : aj ns fl s x = [] := List.eq_nil_of_length_eq_zero hc
    simp [this]
  · have : aj ns fl s x ≠ [] := fun e => hc (by rw [e]; rfl)
    simp [this]
theorem iy {ns : List Nd} {fl : List Fl} (nk : NetOk ns fl) {l : List Sv} (h49 : B7 l) (hl : l.length ≤ 2000) (x : Lb) (h : Heap) :
    d5 Tryz.prog gW 11 [G9 ns fl, B6 l, aL x] h (fun r h' => r = .tup [B6 (u7 ns fl l x).1, .i (u7 ns fl l x).2] ∧ h' = h) := by
  have hr := fun h => nW nk h49 (by omega) h
  have hzl : (zS.map AV.i).length = 49 := by rw [List.length_map]; rfl
  have hem : (zS.map AV.i).isEmpty = false := rfl
  by_cases h0 : F4 ns fl l = 0
  case neg =>
    have e : u7 ns fl l x = ([], F4 ns fl l) := by unfold u7; rw [if_pos h0]
    have f0 : (F4 ns fl l != 0) = true := by simp [h0]
    rw [e]
    refine c8 (rl := []) d9 Tryz.func11 rfl (rs := [.tmp 6, .tmp 7]) rfl Tryz.ntmps11 (by simp) ?_
    repeat' (first | ((repeat ((fail_if_success (refine hK _ ?_)); clear hK K)); refine hK _ ?_; clear hK K) | ((first | refine b9 fun K1 q7 => ?_ | refine b7 fun A B hA hB => ?_); simp only [S1, simprocAttr, R6, f0]; first | refine q7 _ ?_; clear q7 K1 | (refine hA ?_; clear hA hB A B) | (apply d4 E30; exact (hr _); refine q7 _ ?_; clear q7 K1)) | refine b6 fun K hK => ?_ | ((first | apply b8 | apply b5 | apply d3); try simp only [NB, simprocAttr]))
    all_goals simp only [S1, simprocAttr, ENB, R6]
    all_goals rfl
  rw [h0] at hr
  by_cases h1 : x.1 = 0
  · have e : u7 ns fl l x = ([], 1) := by unfold u7; rw [if_neg (by simpa using h0), if_pos h1]
    have f1 : (x.1 == 0) = true := by simp [h1]
    rw [e]
    refine c8 (rl := []) d9 Tryz.func11 rfl (rs := [.tmp 6, .tmp 7]) rfl Tryz.ntmps11 (by simp) ?_
    repeat' (first | ((repeat ((fail_if_success (refine hK _ ?_)); clear hK K)); refine hK _ ?_; clear hK K) | ((first | refine b9 fun K1 q7 => ?_ | refine b7 fun A B hA hB => ?_); simp only [S1, simprocAttr, R6, f1]; first | refine q7 _ ?_; clear q7 K1 | ((first | refine hA ?_ | refine hB ?_); clear hA hB A B) | (apply d4 E30; exact (hr _); refine q7 _ ?_; clear q7 K1)) | refine b6 fun K hK => ?_ | ((first | apply b8 | apply b5 | apply c9 | apply d3); try simp only [NB, simprocAttr]))
    all_goals simp only [S1, simprocAttr, ENB, R6]
    all_goals rfl
  have e : u7 ns fl l x = A0 ns fl (x9 ns fl l x) := by unfold u7; rw [if_neg (by simpa using h0), if_neg h1]
  have f1 : (x.1 == 0) = false := by simp [h1]
  have hlw := ck ns fl x l
  have hc := fun h => fu nk (l := x9 ns fl l x) (W1 h49 x) (by omega) h
  rw [e]
  refine c8 (rl := []) d9 Tryz.func11 rfl (rs := [.tmp 6, .tmp 7]) rfl Tryz.ntmps11 (by simp) ?_
  repeat' (first | (apply b8; (try simp only [NB]); ((repeat ((fail_if_success (refine hK _ ?_)); clear hK K)); refine hK _ ?_; clear hK K)) | (refine b9 fun K1 q7 => ?_; simp only [S1, simprocAttr, R6]; refine q7 _ ?_; clear q7 K1) | (refine b6 (x := Code.region _ _ _) fun K hK => ?_) | (apply b5; try simp only [NB, simprocAttr]; (try ((repeat ((fail_if_success (refine hK _ ?_)); clear hK K)); refine hK _ ?_; clear hK K))))
  refine b6 fun K hK => ?_
  repeat' (first | (apply b8; (try simp only [NB]); ((repeat ((fail_if_success (refine hK _ ?_)); clear hK K)); refine hK _ ?_; clear hK K)) | ((first | refine b9 fun K1 q7 => ?_ | refine b7 fun A B hA hB => ?_); simp only [S1, simprocAttr, R6]; first | refine q7 _ ?_; clear q7 K1 | (refine hB ?_; clear hA hB A B) | (apply d4 E30; exact (hr _); refine q7 _ ?_; clear q7 K1)) | (refine b6 (x := Code.region _ _ _) fun K hK => ?_) | ((first | apply b5 | apply c9); try simp only [NB, simprocAttr]; (try ((repeat ((fail_if_success (refine hK _ ?_)); clear hK K)); refine hK _ ?_; clear hK K))))
  refine b6 fun K hK => ?_
  repeat' (first | (apply b8; (try simp only [NB]); ((repeat ((fail_if_success (refine hK _ ?_)); clear hK K)); refine hK _ ?_; clear hK K)) | ((first | refine b9 fun K1 q7 => ?_ | refine b7 fun A B hA hB => ?_); simp only [S1, simprocAttr, R6, f1]; first | refine q7 _ ?_; clear q7 K1 | (refine hB ?_; clear hA hB A B)) | (refine b6 (x := Code.region _ _ _) fun K hK => ?_) | ((first | apply b5 | apply c9); try simp only [NB, simprocAttr]; (try ((repeat ((fail_if_success (refine hK _ ?_)); clear hK K)); refine hK _ ?_; clear hK K))))
  refine gA ⟨frL [(9, B6 (x9 ns fl l x)), (3, .ptr h.length 0 0)], 39, h ++ [some ⟨0, w8 ns fl⟩]⟩ (fun K hK => ?_) ?_
  · repeat' (first | ((repeat ((fail_if_success (refine hK _ ?_)); clear hK K)); refine hK _ ?_; clear hK K) | (refine b9 fun K1 q7 => ?_; simp only [S1, simprocAttr, R6, List.length_map]; refine q7 _ ?_; clear q7 K1) | refine b6 fun K hK => ?_ | ((first | apply b8 | apply b5 | apply c7); try simp only [NB, simprocAttr]))
    refine B5 l.length 39 (fun j => [(23, .i j), (22, .i l.length), (21, B6 l), (9, .ref (h.length + 2) (dN ns fl (l.take j) x) 0 49 (x9 ns fl (l.take j) x).length), (3, .ptr h.length 0 0), (5, .ptr (h.length + 1) 0 0)])
      (fun j => [some ⟨0, w8 ns fl⟩, some ⟨0, [.i x.1, .i x.2.1, .i x.2.2]⟩, some ⟨dN ns fl (l.take j) x, q6 (x9 ns fl (l.take j) x)⟩]) (fun j => True) ?_ trivial fun j hj hp K hK => ?_
    · refine (o5.adopt 9 49 rfl).trans (Sub.ghost ⟨rfl, ⟨[], by simp [q6, x9, dN]⟩, ?_, ⟨trivial, trivial, trivial⟩, ⟨trivial, trivial, trivial, trivial⟩, trivial, trivial⟩)
      simp only [G7, r9, C9, frL, List.length_cons, List.length_nil]
      simp [x9, dN]
    rcases Nat.lt_or_ge j l.length with hlt | hge
    · obtain ⟨s, hx⟩ : ∃ k, l[j]? = some k := ⟨_, List.getElem?_eq_getElem hlt⟩
      have hs : s.length = 49 := h49 s (List.mem_of_getElem? hx)
      have hxr : (l.map eSt)[j]? = some (s.map (PV.int .i64)) := by rw [List.getElem?_map, hx]; rfl
      have jl : (j : Int) < (l.length : Int) := by omega
      have j0 : (0 : Int) ≤ (j : Int) := by omega
      have hnx : IntKind.i64.wrap ((j : Int) + 1) = ((j + 1 : Nat) : Int) := by rw [IntWalk.i64_in _ (by omega)]; omega
      have s49 : (s.map AV.i).take 49 = s.map AV.i := List.take_of_length_le (by rw [List.length_map, hs]; exact Nat.le_refl _)
      have hso : t8 (zS.map AV.i) 0 (s.map AV.i) = s.map AV.i := l9 (n := 49) (by rw [List.length_map, hs]) _ hzl
      have hsm := t7 s
      have hne := J1 hs
      have hled := fun h => mr nk hs x h
      have es := kD (ns := ns) (fl := fl) hx x
      have eg := mu (ns := ns) (fl := fl) hx x
      have hm49 := cG (ns := ns) (fl := fl) hs x
      have hml := fq ns fl s x
      have ho := W1 (ns := ns) (fl := fl) (l := l.take j) (fun t ht => h49 t (List.mem_of_mem_take ht)) x
      have hol := ck ns fl x (l.take j)
      rw [List.length_take] at hol
      have hjm : min j l.length * 2500 ≤ 2000 * 2500 := Nat.mul_le_mul_right _ (by omega)
      generalize aj ns fl s x = more at *
      generalize dN ns fl (l.take j) x = gn at *
      generalize x9 ns fl (l.take j) x = o at *
      have hfl := C5 ho
      have hra := mt hm49
      have hrf := aZ more
      have hfa := aY o more
      by_cases hk : more.length = 0
      · obtain rfl := List.eq_nil_of_length_eq_zero hk
        simp only [List.length_nil, if_true, Nat.add_zero] at eg
        rw [List.append_nil] at es
        repeat' (first | ((repeat ((fail_if_success (refine hK _ ?_)); clear hK K)); refine hK _ ?_; clear hK K) | ((first | refine b9 fun K1 q7 => ?_ | refine b7 fun A B hA hB => ?_); simp only [S1, simprocAttr, R6, jl, j0, hnx, hxr, hs, hzl, hem, s49, hso, hsm, hne, hfl, TSz, i8, h9, j3, d7, d8, e9, List.all_nil, List.flatMap_nil, List.length_map]; first | refine q7 _ ?_; clear q7 K1 | (refine hA ?_; clear hA hB A B) | (apply d4 E31; exact (hled _); refine q7 _ ?_; clear q7 K1)) | refine b6 fun K hK => ?_ | ((first | apply b8 | apply b5 | apply c7 | apply c9); try simp only [NB, simprocAttr]))
        all_goals refine ⟨hlt, trivial, ?_⟩
        all_goals simp only [es, eg]
        all_goals refine ⟨rfl, ⟨_, rfl⟩, ?_, ⟨trivial, trivial, trivial⟩, ⟨trivial, trivial, trivial, trivial⟩, u6 _ _, trivial⟩
        all_goals clear hjm hol hml hlw hfl
        all_goals simp only [S1, simprocAttr, KNB] <;> (try and_intros) <;> (try assumption) <;> (try trivial) <;> (try omega)
      · rw [if_neg hk] at eg
        have hmax : o.length + more.length ≤ j6 := by unfold j6; omega
        repeat' (first | ((repeat ((fail_if_success (refine hK _ ?_)); clear hK K)); refine hK _ ?_; clear hK K) | ((first | refine b9 fun K1 q7 => ?_ | refine b7 fun A B hA hB => ?_); simp only [S1, simprocAttr, R6, jl, j0, hnx, hxr, hs, hzl, hem, s49, hso, hsm, hne, hfl, hk, hmax, hra, hrf, TSz, i8, h9, j3, d7, d8, e9, List.length_map, List.drop_zero]; first | refine q7 _ ?_; clear q7 K1 | (refine hA ?_; clear hA hB A B) | (apply d4 E31; exact (hled _); refine q7 _ ?_; clear q7 K1)) | refine b6 fun K hK => ?_ | ((first | apply b8 | apply b5 | apply c7 | apply c9); try simp only [NB, simprocAttr]))
        all_goals refine ⟨hlt, trivial, ?_⟩
        all_goals simp only [es, eg, hfa, List.length_append]
        all_goals refine ⟨rfl, ⟨_, rfl⟩, ?_, ⟨trivial, trivial, trivial⟩, ⟨trivial, trivial, trivial, trivial⟩, (by rw [← aY]; exact u6 _ _), trivial⟩
        all_goals clear hjm hol hmax hml hlw hfl
        all_goals simp only [S1, simprocAttr, KNB] <;> (try and_intros) <;> (try assumption) <;> (try trivial) <;> (try omega)
    · obtain rfl : j = l.length := by omega
      rw [List.take_length]
      have ho := W1 (ns := ns) (fl := fl) h49 x
      repeat' (first | ((repeat ((fail_if_success (refine hK _ ?_)); clear hK K)); refine hK _ ?_; clear hK K) | ((first | refine b9 fun K1 q7 => ?_ | refine b7 fun A B hA hB => ?_); simp only [S1, simprocAttr, R6, Int.lt_irrefl]; first | refine q7 _ ?_; clear q7 K1 | (refine hB ?_; clear hA hB A B)) | refine b6 fun K hK => ?_ | ((first | apply b8 | apply b5 | apply f9); try simp only [NB, simprocAttr]))
      have hfz : ∀ r ∈ (x9 ns fl l x).map eSt, r.length = 49 := fun r hr => by obtain ⟨s, hs, rfl⟩ := List.mem_map.mp hr; exact iV ho s hs
      have hcz : q6 (x9 ns fl l x) = (((x9 ns fl l x).map eSt).flatMap id).map AV.p ++ [] := by rw [aZ, List.append_nil]
      have hlz : (x9 ns fl l x).length = ((x9 ns fl l x).map eSt).length := (List.length_map ..).symm
      have hbz : ∀ A B C : Option Blk, (h ++ [A, B, C])[h.length + 2]? = some C := fun A B C => by rw [m9]; rfl
      have hsz : ∀ A B C : Option Blk, (h ++ [A, B, C]).set (h.length + 2) none = h ++ ([A] ++ [B, none]) := fun A B C => by rw [T5]; rfl
      all_goals refine (o5.freeze (k := 9) (b := h.length + 2) (sz := 49) (n := (x9 ns fl l x).length) (rows := (x9 ns fl l x).map eSt) (bk := ⟨dN ns fl l x, q6 (x9 ns fl l x)⟩) (rest := []) rfl (hbz _ _ _) hlz hfz (by omega) hcz).trans (Sub.ghost ⟨rfl, ⟨_, hsz _ _ _⟩, ?_, ⟨trivial, trivial, trivial⟩, trivial⟩)
      all_goals simp only [S1, simprocAttr, KNB] <;> (try and_intros) <;> (try assumption) <;> (try trivial) <;> (try omega)
  repeat' (first | ((repeat ((fail_if_success (refine hK _ ?_)); clear hK K)); refine hK _ ?_; clear hK K) | (refine b9 fun K1 q7 => ?_; simp only [S1, simprocAttr, R6]; first | refine q7 _ ?_; clear q7 K1 | (apply d4 E32; exact (hc _); refine q7 _ ?_; clear q7 K1)) | refine b6 fun K hK => ?_ | ((first | apply b8 | apply b5 | apply d3); try simp only [NB, simprocAttr]))
  all_goals simp only [S1, simprocAttr, ENB, R6]
end
section
def P0 := And.intro T2 (And.intro T3 (And.intro T4 (And.intro T25 (And.intro T26 (And.intro T28 (And.intro T31 (And.intro T34 (And.intro T36 (And.intro T41 (And.intro T44 (And.intro T55 (And.intro T57 (And.intro T58 (And.intro T62 (And.intro T65 (And.intro T89 T92))))))))))))))))
attribute [local irreducible] awp n8 k3 l8 o4 m8
theorem nZ {ns : List Nd} {fl : List Fl} (nk : NetOk ns fl) (h : Heap) :
    d5 Tryz.prog gW 16 [G9 ns fl] h (fun r h' => r = aCl (B3 ns fl) ∧ h' = h) := by
  have hnc := fun h => U0 (G := gW) ns fl nk h
  have hzl : (zS.map AV.i).length = 49 := by rw [List.length_map]; rfl
  have hem : (zS.map AV.i).isEmpty = false := rfl
  by_cases h0 : (C0 ns fl).1 = 0
  case neg =>
    have e : B3 ns fl = ([], 4) := by unfold B3; rw [if_pos h0]
    have f0 : ((C0 ns fl).1 != 0) = true := by simp [h0]
    rw [e]
    refine c8 (rl := []) d9 Tryz.func16 rfl (rs := [.cell 2 36]) rfl Tryz.ntmps16 (by simp) ?_
    repeat' (first | ((repeat ((fail_if_success (refine hK _ ?_)); clear hK K)); refine hK _ ?_; clear hK K) | ((first | refine b9 fun K1 q7 => ?_ | refine b7 fun A B hA hB => ?_); simp only [S1, simprocAttr, P0, f0]; first | refine q7 _ ?_; clear q7 K1 | (refine hA ?_; clear hA hB A B) | (apply d4 E22; exact (hnc _); refine q7 _ ?_; clear q7 K1)) | refine b6 fun K hK => ?_ | ((first | apply b8 | apply b5 | apply d3); try simp only [NB, simprocAttr]))
    all_goals simp only [S1, simprocAttr, ENB, P0]
    all_goals rfl
  have e : B3 ns fl = A0 ns fl [(x7 ns fl).1] := by unfold B3; rw [if_neg (by simpa using h0)]
  have f0 : ((C0 ns fl).1 != 0) = false := by simp [h0]
  have hs1 := gC ns fl
  have hst := fun h => nY nk h0 h
  rw [e]
  generalize (x7 ns fl).1 = s at *
  have s49 : (s.map AV.i).take 49 = s.map AV.i := List.take_of_length_le (by rw [List.length_map, hs1]; exact Nat.le_refl _)
  have hso0 : t8 (zS.map AV.i) 0 (s.map AV.i) = s.map AV.i := l9 (n := 49) (by rw [List.length_map, hs1]) _ hzl
  have hpv := N6 s
  have hch := J9 49 (s.map (PV.int .i64)) (by rw [List.length_map, hs1])
  have hti : (s.map (PV.int .i64)).take 49 = s.map (PV.int .i64) := List.take_of_length_le (by rw [List.length_map, hs1]; exact Nat.le_refl _)
  have hc := fun h => db nk (l := [s]) (kC hs1) (by simp) h
  have z49l : z49.length = 49 := rfl
  refine c8 (rl := []) d9 Tryz.func16 rfl (rs := [.cell 2 36]) rfl Tryz.ntmps16 (by simp) ?_
  repeat' (first | ((first | apply b8 | apply s4); (try simp only [NB])) | ((repeat ((fail_if_success (refine hK _ ?_)); clear hK K)); refine hK _ ?_; clear hK K) | ((first | refine b9 fun K1 q7 => ?_ | refine u9 rfl rfl rfl fun K1 q7 => ?_ | refine b7 fun A B hA hB => ?_); simp only [S1, simprocAttr, P0, f0, z49l, hs1, hso0, s49, hpv, hch, hti, TRz, i8, h9, j3, hem, d7, d8, e9, List.length_map]; first | refine q7 _ ?_; clear q7 K1 | (refine hB ?_; clear hA hB A B) | (apply d4 E22; exact (hnc _); refine q7 _ ?_; clear q7 K1)) | ((first | refine v6 (v := ?_) rfl rfl rfl rfl (by decide) (fun R1 K1 q7 => ?_) ?_ | refine vB (v := ?_) rfl rfl rfl rfl (by decide) (fun H1 K1 q7 => ?_) ?_); rotate_left; (focus (simp only [S1, simprocAttr, P0, f0, z49l, hs1, hso0, s49, hpv, hch, hti, TRz, i8, h9, j3, hem, d7, d8, e9, List.length_map]; first | (exact q7 _ _ _) | (apply j5 E23; exact (hst _); exact q7 _ _ _) | (apply j5 E35; exact (hc _); exact q7 _ _ _)))) | (refine s5 rfl rfl rfl ?_) | refine b6 fun K hK => ?_ | (refine q9 (es := []) [0, 1, 2, 3, 4, 5] 0 (fs := [3]) rfl (by kernel_rfl) (by kernel_rfl) ?_) | ((first | apply b5 | apply c9 | apply d3); try simp only [NB, simprocAttr]))
  all_goals simp only [S1, simprocAttr, ENB, P0]
theorem oa {ns : List Nd} {fl : List Fl} (nk : NetOk ns fl) {l : List Sv} (h49 : B7 l) (hl : l.length ≤ 2000) (x : Lb) (h : Heap) :
    d5 Tryz.prog gW 12 [G9 ns fl, B6 l, aL x] h (fun r h' => r = aCl (u7 ns fl l x) ∧ h' = h) := by
  have hr := fun h => nX nk h49 (by omega) h
  have hzl : (zS.map AV.i).length = 49 := by rw [List.length_map]; rfl
  have hem : (zS.map AV.i).isEmpty = false := rfl
  by_cases h0 : F4 ns fl l = 0
  case neg =>
    have e : u7 ns fl l x = ([], F4 ns fl l) := by unfold u7; rw [if_pos h0]
    have f0 : (F4 ns fl l != 0) = true := by simp [h0]
    rw [e]
    refine c8 (rl := []) d9 Tryz.func12 rfl (rs := [.cell 6 36]) rfl Tryz.ntmps12 (by simp) ?_
    repeat' (first | ((repeat ((fail_if_success (refine hK _ ?_)); clear hK K)); refine hK _ ?_; clear hK K) | ((first | refine b9 fun K1 q7 => ?_ | refine b7 fun A B hA hB => ?_); simp only [S1, simprocAttr, P0, f0]; first | refine q7 _ ?_; clear q7 K1 | (refine hA ?_; clear hA hB A B) | (apply d4 E33; exact (hr _); refine q7 _ ?_; clear q7 K1)) | refine b6 fun K hK => ?_ | ((first | apply b8 | apply b5 | apply d3); try simp only [NB, simprocAttr]))
    all_goals simp only [S1, simprocAttr, ENB, P0]
    all_goals rfl
  rw [h0] at hr
  by_cases h1 : x.1 = 0
  · have e : u7 ns fl l x = ([], 1) := by unfold u7; rw [if_neg (by simpa using h0), if_pos h1]
    have f1 : (x.1 == 0) = true := by simp [h1]
    rw [e]
    refine c8 (rl := []) d9 Tryz.func12 rfl (rs := [.cell 6 36]) rfl Tryz.ntmps12 (by simp) ?_
    repeat' (first | ((repeat ((fail_if_success (refine hK _ ?_)); clear hK K)); refine hK _ ?_; clear hK K) | ((first | refine b9 fun K1 q7 => ?_ | refine b7 fun A B hA hB => ?_); simp only [S1, simprocAttr, P0, f1]; first | refine q7 _ ?_; clear q7 K1 | ((first | refine hA ?_ | refine hB ?_); clear hA hB A B) | (apply d4 E33; exact (hr _); refine q7 _ ?_; clear q7 K1)) | refine b6 fun K hK => ?_ | ((first | apply b8 | apply b5 | apply c9 | apply d3); try simp only [NB, simprocAttr]))
    all_goals simp only [S1, simprocAttr, ENB, P0]
    all_goals rfl
  have e : u7 ns fl l x = A0 ns fl (x9 ns fl l x) := by unfold u7; rw [if_neg (by simpa using h0), if_neg h1]
  have f1 : (x.1 == 0) = false := by simp [h1]
  have hlw := ck ns fl x l
  have hc := fun h => db nk (l := x9 ns fl l x) (W1 h49 x) (by omega) h
  rw [e]
  refine c8 (rl := []) d9 Tryz.func12 rfl (rs := [.cell 6 36]) rfl Tryz.ntmps12 (by simp) ?_
  repeat' (first | (apply b8; (try simp only [NB]); ((repeat ((fail_if_success (refine hK _ ?_)); clear hK K)); refine hK _ ?_; clear hK K)) | (refine b9 fun K1 q7 => ?_; simp only [S1, simprocAttr, P0]; first | refine q7 _ ?_; clear q7 K1 | (apply d4 E33; exact (hr _); refine q7 _ ?_; clear q7 K1)) | (refine b6 (x := Code.region _ _ _) fun K hK => ?_) | (apply b5; try simp only [NB, simprocAttr]; (try ((repeat ((fail_if_success (refine hK _ ?_)); clear hK K)); refine hK _ ?_; clear hK K))))
  refine b6 fun K hK => ?_
  repeat' (first | (apply b8; (try simp only [NB]); ((repeat ((fail_if_success (refine hK _ ?_)); clear hK K)); refine hK _ ?_; clear hK K)) | ((first | refine b9 fun K1 q7 => ?_ | refine b7 fun A B hA hB => ?_); simp only [S1, simprocAttr, P0]; first | refine q7 _ ?_; clear q7 K1 | (refine hB ?_; clear hA hB A B)) | (refine b6 (x := Code.region _ _ _) fun K hK => ?_) | ((first | apply b5 | apply c9); try simp only [NB, simprocAttr]; (try ((repeat ((fail_if_success (refine hK _ ?_)); clear hK K)); refine hK _ ?_; clear hK K))))
  refine b6 fun K hK => ?_
  repeat' (first | (apply b8; (try simp only [NB]); ((repeat ((fail_if_success (refine hK _ ?_)); clear hK K)); refine hK _ ?_; clear hK K)) | ((first | refine b9 fun K1 q7 => ?_ | refine b7 fun A B hA hB => ?_); simp only [S1, simprocAttr, P0, f1]; first | refine q7 _ ?_; clear q7 K1 | (refine hB ?_; clear hA hB A B)) | (refine b6 (x := Code.region _ _ _) fun K hK => ?_) | ((first | apply b5 | apply c9); try simp only [NB, simprocAttr]; (try ((repeat ((fail_if_success (refine hK _ ?_)); clear hK K)); refine hK _ ?_; clear hK K))))
  refine gA ⟨frL [(8, B6 (x9 ns fl l x)), (3, .ptr h.length 0 0), (6, .ptr (h.length + 2) 0 0)], 38, h ++ [some ⟨0, w8 ns fl⟩, some ⟨0, [.i x.1, .i x.2.1, .i x.2.2]⟩, some ⟨0, [.p .nils, .i 0]⟩]⟩ (fun K hK => ?_) ?_
  · repeat' (first | ((repeat ((fail_if_success (refine hK _ ?_)); clear hK K)); refine hK _ ?_; clear hK K) | (refine b9 fun K1 q7 => ?_; simp only [S1, simprocAttr, P0, List.length_map]; refine q7 _ ?_; clear q7 K1) | refine b6 fun K hK => ?_ | ((first | apply b8 | apply b5 | apply c7); try simp only [NB, simprocAttr]))
    refine B5 l.length 38 (fun j => [(24, .i j), (23, .i l.length), (22, B6 l), (8, .ref (h.length + 3) (dN ns fl (l.take j) x) 0 49 (x9 ns fl (l.take j) x).length), (3, .ptr h.length 0 0), (5, .ptr (h.length + 1) 0 0), (6, .ptr (h.length + 2) 0 0)])
      (fun j => [some ⟨0, w8 ns fl⟩, some ⟨0, [.i x.1, .i x.2.1, .i x.2.2]⟩, some ⟨0, [.p .nils, .i 0]⟩, some ⟨dN ns fl (l.take j) x, q6 (x9 ns fl (l.take j) x)⟩]) (fun j => True) ?_ trivial fun j hj hp K hK => ?_
    · refine (o5.adopt 8 49 rfl).trans (Sub.ghost ⟨rfl, ⟨[], by simp [q6, x9, dN]⟩, ?_, ⟨trivial, trivial, trivial⟩, ⟨trivial, trivial, trivial, trivial⟩, ⟨trivial, trivial, trivial⟩, trivial, trivial⟩)
      simp only [G7, r9, C9, frL, List.length_cons, List.length_nil]
      simp [x9, dN]
    rcases Nat.lt_or_ge j l.length with hlt | hge
    · obtain ⟨s, hx⟩ : ∃ k, l[j]? = some k := ⟨_, List.getElem?_eq_getElem hlt⟩
      have hs : s.length = 49 := h49 s (List.mem_of_getElem? hx)
      have hxr : (l.map eSt)[j]? = some (s.map (PV.int .i64)) := by rw [List.getElem?_map, hx]; rfl
      have jl : (j : Int) < (l.length : Int) := by omega
      have j0 : (0 : Int) ≤ (j : Int) := by omega
      have hnx : IntKind.i64.wrap ((j : Int) + 1) = ((j + 1 : Nat) : Int) := by rw [IntWalk.i64_in _ (by omega)]; omega
      have s49 : (s.map AV.i).take 49 = s.map AV.i := List.take_of_length_le (by rw [List.length_map, hs]; exact Nat.le_refl _)
      have hso : t8 (zS.map AV.i) 0 (s.map AV.i) = s.map AV.i := l9 (n := 49) (by rw [List.length_map, hs]) _ hzl
      have hsm := t7 s
      have hne := J1 hs
      have hled := fun h => kB nk hs x h
      have es := kD (ns := ns) (fl := fl) hx x
      have eg := mu (ns := ns) (fl := fl) hx x
      have hm49 := cG (ns := ns) (fl := fl) hs x
      have hml := fq ns fl s x
      have ho := W1 (ns := ns) (fl := fl) (l := l.take j) (fun t ht => h49 t (List.mem_of_mem_take ht)) x
      have hol := ck ns fl x (l.take j)
      rw [List.length_take] at hol
      have hjm : min j l.length * 2500 ≤ 2000 * 2500 := Nat.mul_le_mul_right _ (by omega)
      generalize aj ns fl s x = more at *
      generalize dN ns fl (l.take j) x = gn at *
      generalize x9 ns fl (l.take j) x = o at *
      have hfl := C5 ho
      have hra := mt hm49
      have hrf := aZ more
      have hfa := aY o more
      by_cases hk : more.length = 0
      · obtain rfl := List.eq_nil_of_length_eq_zero hk
        simp only [List.length_nil, if_true, Nat.add_zero] at eg
        rw [List.append_nil] at es
        repeat' (first | ((repeat ((fail_if_success (refine hK _ ?_)); clear hK K)); refine hK _ ?_; clear hK K) | ((first | refine b9 fun K1 q7 => ?_ | refine b7 fun A B hA hB => ?_); simp only [S1, simprocAttr, P0, jl, j0, hnx, hxr, hs, hzl, hem, s49, hso, hsm, hne, hfl, TRz, i8, h9, j3, d7, d8, e9, List.all_nil, List.flatMap_nil, List.length_map]; first | refine q7 _ ?_; clear q7 K1 | (refine hA ?_; clear hA hB A B) | (apply d4 E34; exact (hled _); refine q7 _ ?_; clear q7 K1)) | refine b6 fun K hK => ?_ | ((first | apply b8 | apply b5 | apply c7 | apply c9); try simp only [NB, simprocAttr]))
        all_goals refine ⟨hlt, trivial, ?_⟩
        all_goals simp only [es, eg]
        all_goals refine ⟨rfl, ⟨_, rfl⟩, ?_, ⟨trivial, trivial, trivial⟩, ⟨trivial, trivial, trivial, trivial⟩, ⟨trivial, trivial, trivial⟩, u6 _ _, trivial⟩
        all_goals clear hjm hol hml hlw hfl
        all_goals simp only [S1, simprocAttr, KNB] <;> (try and_intros) <;> (try assumption) <;> (try trivial) <;> (try omega)
      · rw [if_neg hk] at eg
        have hmax : o.length + more.length ≤ j6 := by unfold j6; omega
        repeat' (first | ((repeat ((fail_if_success (refine hK _ ?_)); clear hK K)); refine hK _ ?_; clear hK K) | ((first | refine b9 fun K1 q7 => ?_ | refine b7 fun A B hA hB => ?_); simp only [S1, simprocAttr, P0, jl, j0, hnx, hxr, hs, hzl, hem, s49, hso, hsm, hne, hfl, hk, hmax, hra, hrf, TRz, i8, h9, j3, d7, d8, e9, List.length_map, List.drop_zero]; first | refine q7 _ ?_; clear q7 K1 | (refine hA ?_; clear hA hB A B) | (apply d4 E34; exact (hled _); refine q7 _ ?_; clear q7 K1)) | refine b6 fun K hK => ?_ | ((first | apply b8 | apply b5 | apply c7 | apply c9); try simp only [NB, simprocAttr]))
        all_goals refine ⟨hlt, trivial, ?_⟩
        all_goals simp only [es, eg, hfa, List.length_append]
        all_goals refine ⟨rfl, ⟨_, rfl⟩, ?_, ⟨trivial, trivial, trivial⟩, ⟨trivial, trivial, trivial, trivial⟩, ⟨trivial, trivial, trivial⟩, (by rw [← aY]; exact u6 _ _), trivial⟩
        all_goals clear hjm hol hmax hml hlw hfl
        all_goals simp only [S1, simprocAttr, KNB] <;> (try and_intros) <;> (try assumption) <;> (try trivial) <;> (try omega)
    · obtain rfl : j = l.length := by omega
      rw [List.take_length]
      have ho := W1 (ns := ns) (fl := fl) h49 x
      repeat' (first | ((repeat ((fail_if_success (refine hK _ ?_)); clear hK K)); refine hK _ ?_; clear hK K) | ((first | refine b9 fun K1 q7 => ?_ | refine b7 fun A B hA hB => ?_); simp only [S1, simprocAttr, P0, Int.lt_irrefl]; first | refine q7 _ ?_; clear q7 K1 | (refine hB ?_; clear hA hB A B)) | refine b6 fun K hK => ?_ | ((first | apply b8 | apply b5 | apply f9); try simp only [NB, simprocAttr]))
      have hfz : ∀ r ∈ (x9 ns fl l x).map eSt, r.length = 49 := fun r hr => by obtain ⟨s, hs, rfl⟩ := List.mem_map.mp hr; exact iV ho s hs
      have hcz : q6 (x9 ns fl l x) = (((x9 ns fl l x).map eSt).flatMap id).map AV.p ++ [] := by rw [aZ, List.append_nil]
      have hlz : (x9 ns fl l x).length = ((x9 ns fl l x).map eSt).length := (List.length_map ..).symm
      have hbz : ∀ A B C D : Option Blk, (h ++ [A, B, C, D])[h.length + 3]? = some D := fun A B C D => by rw [m9]; rfl
      have hsz : ∀ A B C D : Option Blk, (h ++ [A, B, C, D]).set (h.length + 3) none = h ++ ([A, B, C] ++ [none]) := fun A B C D => by rw [T5]; rfl
      all_goals refine (o5.freeze (k := 8) (b := h.length + 3) (sz := 49) (n := (x9 ns fl l x).length) (rows := (x9 ns fl l x).map eSt) (bk := ⟨dN ns fl l x, q6 (x9 ns fl l x)⟩) (rest := []) rfl (hbz _ _ _ _) hlz hfz (by omega) hcz).trans (Sub.ghost ⟨rfl, ⟨_, hsz _ _ _ _⟩, ?_, ⟨trivial, trivial, trivial⟩, ⟨trivial, trivial, trivial, trivial⟩, ⟨trivial, trivial, trivial⟩, trivial⟩)
      all_goals simp only [S1, simprocAttr, KNB] <;> (try and_intros) <;> (try assumption) <;> (try trivial) <;> (try omega)
  repeat' (first | ((repeat ((fail_if_success (refine hK _ ?_)); clear hK K)); refine hK _ ?_; clear hK K) | (refine b9 fun K1 q7 => ?_; simp only [S1, simprocAttr, P0]; first | refine q7 _ ?_; clear q7 K1 | (apply d4 E35; exact (hc _); refine q7 _ ?_; clear q7 K1)) | refine b6 fun K hK => ?_ | ((first | apply b8 | apply b5 | apply d3); try simp only [NB, simprocAttr]))
  all_goals simp only [S1, simprocAttr, ENB, P0]
end
section
def Y2 := And.intro T2 (And.intro T3 (And.intro T4 (And.intro T25 (And.intro T26 (And.intro T28 (And.intro T31 (And.intro T34 (And.intro T36 (And.intro T41 (And.intro T44 (And.intro T57 (And.intro T58 (And.intro T89 T92)))))))))))))
attribute [local irreducible] awp n8 k3 l8 o4 m8
def eL (x : Lb) : List PV := [.int .i64 x.1, .int .i64 x.2.1, .int .i64 x.2.2]
abbrev aLs (l : List Lb) : AV := .p (.sl (l.map eL))
theorem lh {l : List Lb} {j : Nat} {x : Lb} (h : l[j]? = some x) : (l.map eL)[j]? = some [.int .i64 x.1, .int .i64 x.2.1, .int .i64 x.2.2] := by simp [h, eL]
noncomputable def qm (ns : List Nd) (fl : List Fl) : List Lb → Nat → List Sv → Int × Int
  | [], j, _ => (j, 0)
  | x :: r, j, c => if x.1 = 0 then (j, 0) else if (u7 ns fl c x).2 ≠ 0 then (0, (u7 ns fl c x).2) else if (u7 ns fl c x).1 = [] then (j, 0) else qm ns fl r (j + 1) (u7 ns fl c x).1
noncomputable def U2 (ns : List Nd) (fl : List Fl) (l : List Lb) : Int × Int := if (B3 ns fl).2 ≠ 0 then (0, (B3 ns fl).2) else qm ns fl l 0 (B3 ns fl).1
theorem kE (ns : List Nd) (fl : List Fl) (l : List Sv) : (A0 ns fl l).1.length ≤ 1500 := by
  unfold A0
  split
  · assumption
  · simp
theorem kF {ns : List Nd} {fl : List Fl} {l : List Sv} (h : B7 l) : B7 (A0 ns fl l).1 := by
  unfold A0
  split
  · exact rW (P := fun s => s.length = 49) (fun s hs t ht => cG hs _ t ht) h
  · exact fun s hs => by cases hs
theorem mv (ns : List Nd) (fl : List Fl) (l : List Sv) (x : Lb) : (u7 ns fl l x).1.length ≤ 1500 := by
  unfold u7
  split
  · simp
  · split
    · simp
    · exact kE _ _ _
theorem mw {ns : List Nd} {fl : List Fl} {l : List Sv} (h : B7 l) (x : Lb) : B7 (u7 ns fl l x).1 := by
  unfold u7
  split
  · exact fun s hs => by cases hs
  · split
    · exact fun s hs => by cases hs
    · exact kF (W1 h x)
theorem mA (ns : List Nd) (fl : List Fl) : (B3 ns fl).1.length ≤ 1500 := by
  unfold B3
  split
  · simp
  · exact kE _ _ _
theorem mB (ns : List Nd) (fl : List Fl) : B7 (B3 ns fl).1 := by
  unfold B3
  split
  · exact fun s hs => by cases hs
  · exact kF (kC (gC ns fl))
structure Qac where
  j : Nat
  c : List Sv
  e : Int
theorem li {ns : List Nd} {fl : List Fl} (nk : NetOk ns fl) {l : List Lb} (hl : l.length ≤ 1000) (h : Heap) :
    d5 Tryz.prog gW 20 [G9 ns fl, aLs l] h (fun r h' => r = .tup [.i (U2 ns fl l).1, .i (U2 ns fl l).2] ∧ h' = h) := by
  have hbg := fun h => cj nk h
  have hb49 := mB ns fl
  have hble := mA ns fl
  have hac : U2 ns fl l = if (B3 ns fl).2 ≠ 0 then (0, (B3 ns fl).2) else qm ns fl l 0 (B3 ns fl).1 := rfl
  obtain ⟨c0, e0, hce⟩ : ∃ c e, B3 ns fl = (c, e) := ⟨_, _, rfl⟩
  rw [hce] at hbg hb49 hble hac
  simp only at hbg hb49 hble hac
  refine c8 (rl := []) d9 Tryz.func20 rfl (rs := [.tmp 4, .tmp 5]) rfl Tryz.ntmps20 (by simp) ?_
  repeat' (first | ((repeat ((fail_if_success (refine hK _ ?_)); clear hK K)); refine hK _ ?_; clear hK K) | (refine b9 fun K1 q7 => ?_; simp only [S1, simprocAttr, Y2, List.length_map]; first | refine q7 _ ?_; clear q7 K1 | (apply d4 E15; exact (hbg _); refine q7 _ ?_; clear q7 K1)) | refine b6 fun K hK => ?_ | ((first | apply b8 | apply b5 | apply c7); try simp only [NB, simprocAttr]))
  refine H7 (σ := Qac) (fun q => l.length - q.j) 50 (fun q => [(17, .i q.j), (16, .i l.length), (15, aLs l), (1, aLs l), (6, B6 q.c), (7, .i q.e), (2, .ptr h.length 0 0)]) (fun q => [some ⟨0, w8 ns fl⟩])
    (fun q => q.j ≤ l.length ∧ B7 q.c ∧ q.c.length ≤ 1500 ∧ U2 ns fl l = if q.e ≠ 0 then (0, q.e) else qm ns fl (l.drop q.j) q.j q.c) ⟨0, c0, e0⟩ ?_ ⟨Nat.zero_le _, hb49, hble, hac⟩ fun q hp K hK => ?_
  · refine ⟨rfl, ⟨_, rfl⟩, ?_, ⟨trivial, trivial, trivial⟩, trivial⟩
    simp only [S1, simprocAttr, KNB] <;> (try and_intros) <;> (try assumption) <;> (try trivial) <;> (try omega)
  clear hac hble hb49 hce hbg
  obtain ⟨j, c, e⟩ := q
  obtain ⟨hj, c49, cle, hac⟩ := hp
  simp only at hj c49 cle hac hK ⊢
  rcases Nat.lt_or_ge j l.length with hlt | hge
  · obtain ⟨x, hx⟩ : ∃ k, l[j]? = some k := ⟨_, List.getElem?_eq_getElem hlt⟩
    have hd : l.drop j = x :: l.drop (j + 1) := by rw [List.drop_eq_getElem_cons hlt, (List.getElem?_eq_some_iff.mp hx).2]
    have jl : (j : Int) < (l.length : Int) := by omega
    have j0 : (0 : Int) ≤ (j : Int) := by omega
    have hnx : IntKind.i64.wrap ((j : Int) + 1) = ((j + 1 : Nat) : Int) := by rw [IntWalk.i64_in _ (by omega)]; omega
    by_cases he : e = 0
    case neg =>
      have f0 : (e != 0) = true := by simp [he]
      rw [if_pos he] at hac
      rw [hac]
      repeat' (first | ((repeat ((fail_if_success (refine hK _ ?_)); clear hK K)); refine hK _ ?_; clear hK K) | ((first | refine b9 fun K1 q7 => ?_ | refine b7 fun A B hA hB => ?_); simp only [S1, simprocAttr, Y2, jl, j0, lh hx, f0, d8, e9, List.length_map]; first | refine q7 _ ?_; clear q7 K1 | (refine hA ?_; clear hA hB A B)) | refine b6 fun K hK => ?_ | ((first | apply b8 | apply b5 | apply c7 | apply c9 | apply d3); try simp only [NB, simprocAttr]))
      all_goals simp only [S1, simprocAttr, ENB, Y2]
    subst he
    rw [if_neg (by simp), hd] at hac
    by_cases h1 : x.1 = 0
    · have f1 : (x.1 == 0) = true := by simp [h1]
      have e1 : U2 ns fl l = ((j : Int), 0) := by rw [hac]; unfold qm; rw [if_pos h1]
      rw [e1]
      repeat' (first | ((repeat ((fail_if_success (refine hK _ ?_)); clear hK K)); refine hK _ ?_; clear hK K) | ((first | refine b9 fun K1 q7 => ?_ | refine b7 fun A B hA hB => ?_); simp only [S1, simprocAttr, Y2, jl, j0, lh hx, f1, d8, e9, List.length_map]; first | refine q7 _ ?_; clear q7 K1 | ((first | refine hA ?_ | refine hB ?_); clear hA hB A B)) | refine b6 fun K hK => ?_ | ((first | apply b8 | apply b5 | apply c7 | apply c9 | apply d3); try simp only [NB, simprocAttr]))
      all_goals simp only [S1, simprocAttr, ENB, Y2]
    have f1 : (x.1 == 0) = false := by simp [h1]
    have haf := fun h => iy nk c49 (by omega) x h
    have ha49 := mw (ns := ns) (fl := fl) c49 x
    have hale := mv ns fl c x
    have e1 : U2 ns fl l = if (u7 ns fl c x).2 ≠ 0 then (0, (u7 ns fl c x).2) else if (u7 ns fl c x).1 = [] then ((j : Int), 0) else qm ns fl (l.drop (j + 1)) (j + 1) (u7 ns fl c x).1 := by
      rw [hac]; conv => lhs; unfold qm
      rw [if_neg h1]
    obtain ⟨c', e', hce⟩ : ∃ c1 e1, u7 ns fl c x = (c1, e1) := ⟨_, _, rfl⟩
    rw [hce] at haf ha49 hale e1
    simp only at haf ha49 hale e1
    by_cases h2 : e' = 0
    · subst h2
      rw [if_neg (by simp)] at e1
      by_cases h3 : c' = []
      · subst h3
        rw [if_pos rfl] at e1
        rw [e1]
        repeat' (first | ((repeat ((fail_if_success (refine hK _ ?_)); clear hK K)); refine hK _ ?_; clear hK K) | ((first | refine b9 fun K1 q7 => ?_ | refine b7 fun A B hA hB => ?_); simp only [S1, simprocAttr, Y2, jl, j0, lh hx, f1, d8, e9, List.length_map]; first | refine q7 _ ?_; clear q7 K1 | ((first | refine hA ?_ | refine hB ?_); clear hA hB A B) | (apply d4 E11; exact (haf _); refine q7 _ ?_; clear q7 K1)) | refine b6 fun K hK => ?_ | ((first | apply b8 | apply b5 | apply c7 | apply c9 | apply d3); try simp only [NB, simprocAttr]))
        all_goals simp only [S1, simprocAttr, ENB, Y2]
      · rw [if_neg h3] at e1
        have f3 : ((c'.length : Int) == 0) = false := by
          have : c'.length ≠ 0 := fun e => h3 (List.eq_nil_of_length_eq_zero e)
          simp; omega
        repeat' (first | ((repeat ((fail_if_success (refine hK _ ?_)); clear hK K)); refine hK _ ?_; clear hK K) | ((first | refine b9 fun K1 q7 => ?_ | refine b7 fun A B hA hB => ?_); simp only [S1, simprocAttr, Y2, jl, j0, hnx, lh hx, f1, f3, d8, e9, List.length_map]; first | refine q7 _ ?_; clear q7 K1 | ((first | refine hA ?_ | refine hB ?_); clear hA hB A B) | (apply d4 E11; exact (haf _); refine q7 _ ?_; clear q7 K1)) | refine b6 fun K hK => ?_ | ((first | apply b8 | apply b5 | apply c7 | apply c9); try simp only [NB, simprocAttr]))
        all_goals refine ⟨⟨j + 1, c', 0⟩, by simp only; omega, ⟨by simp only; omega, ha49, hale, by simp only; rw [if_neg (by simp)]; exact e1⟩, ?_⟩
        all_goals refine ⟨rfl, ⟨_, rfl⟩, ?_, ⟨trivial, trivial, trivial⟩, trivial⟩
        all_goals simp only [S1, simprocAttr, KNB] <;> (try and_intros) <;> (try assumption) <;> (try trivial) <;> (try omega)
    · have f2 : (e' == 0) = false := by simp [h2]
      rw [if_pos h2] at e1
      by_cases h3 : c' = []
      · subst h3
        repeat' (first | ((repeat ((fail_if_success (refine hK _ ?_)); clear hK K)); refine hK _ ?_; clear hK K) | ((first | refine b9 fun K1 q7 => ?_ | refine b7 fun A B hA hB => ?_); simp only [S1, simprocAttr, Y2, jl, j0, hnx, lh hx, f1, f2, d8, e9, List.length_map]; first | refine q7 _ ?_; clear q7 K1 | ((first | refine hA ?_ | refine hB ?_); clear hA hB A B) | (apply d4 E11; exact (haf _); refine q7 _ ?_; clear q7 K1)) | refine b6 fun K hK => ?_ | ((first | apply b8 | apply b5 | apply c7 | apply c9); try simp only [NB, simprocAttr]))
        all_goals refine ⟨⟨j + 1, [], e'⟩, by simp only; omega, ⟨by simp only; omega, ha49, hale, by simp only; rw [if_pos h2]; exact e1⟩, ?_⟩
        all_goals refine ⟨rfl, ⟨_, rfl⟩, ?_, ⟨trivial, trivial, trivial⟩, trivial⟩
        all_goals simp only [S1, simprocAttr, KNB] <;> (try and_intros) <;> (try assumption) <;> (try trivial) <;> (try omega)
      · have f3 : ((c'.length : Int) == 0) = false := by
          have : c'.length ≠ 0 := fun e => h3 (List.eq_nil_of_length_eq_zero e)
          simp; omega
        repeat' (first | ((repeat ((fail_if_success (refine hK _ ?_)); clear hK K)); refine hK _ ?_; clear hK K) | ((first | refine b9 fun K1 q7 => ?_ | refine b7 fun A B hA hB => ?_); simp only [S1, simprocAttr, Y2, jl, j0, hnx, lh hx, f1, f3, d8, e9, List.length_map]; first | refine q7 _ ?_; clear q7 K1 | ((first | refine hA ?_ | refine hB ?_); clear hA hB A B) | (apply d4 E11; exact (haf _); refine q7 _ ?_; clear q7 K1)) | refine b6 fun K hK => ?_ | ((first | apply b8 | apply b5 | apply c7 | apply c9); try simp only [NB, simprocAttr]))
        all_goals refine ⟨⟨j + 1, c', e'⟩, by simp only; omega, ⟨by simp only; omega, ha49, hale, by simp only; rw [if_pos h2]; exact e1⟩, ?_⟩
        all_goals refine ⟨rfl, ⟨_, rfl⟩, ?_, ⟨trivial, trivial, trivial⟩, trivial⟩
        all_goals simp only [S1, simprocAttr, KNB] <;> (try and_intros) <;> (try assumption) <;> (try trivial) <;> (try omega)
  · obtain rfl : j = l.length := by omega
    by_cases he : e = 0
    · subst he
      rw [if_neg (by simp), List.drop_length] at hac
      have e1 : U2 ns fl l = ((l.length : Int), 0) := by rw [hac]; rfl
      repeat' (first | ((repeat ((fail_if_success (refine hK _ ?_)); clear hK K)); refine hK _ ?_; clear hK K) | ((first | refine b9 fun K1 q7 => ?_ | refine b7 fun A B hA hB => ?_); simp only [S1, simprocAttr, Y2, Int.lt_irrefl, List.length_map]; first | refine q7 _ ?_; clear q7 K1 | (refine hB ?_; clear hA hB A B)) | refine b6 fun K hK => ?_ | ((first | apply b8 | apply b5 | apply f9 | apply c9 | apply d3); try simp only [NB, simprocAttr]))
      all_goals simp only [S1, simprocAttr, ENB, Y2]
      all_goals rw [e1]
    · have f0 : (e != 0) = true := by simp [he]
      rw [if_pos he] at hac
      repeat' (first | ((repeat ((fail_if_success (refine hK _ ?_)); clear hK K)); refine hK _ ?_; clear hK K) | ((first | refine b9 fun K1 q7 => ?_ | refine b7 fun A B hA hB => ?_); simp only [S1, simprocAttr, Y2, Int.lt_irrefl, f0, List.length_map]; first | refine q7 _ ?_; clear q7 K1 | ((first | refine hA ?_ | refine hB ?_); clear hA hB A B)) | refine b6 fun K hK => ?_ | ((first | apply b8 | apply b5 | apply f9 | apply d3); try simp only [NB, simprocAttr]))
      all_goals simp only [S1, simprocAttr, ENB, Y2]
      all_goals rw [hac]
end
section
def K5 := And.intro T2 (And.intro T3 (And.intro T4 (And.intro T28 (And.intro T41 T44))))
attribute [local irreducible] awp n8 k3 l8 o4 m8
variable {G : Nat → Option (List PV)}
theorem ba (x : Int) (h : Heap) : d5 Tryz.prog G 94 [.i x] h (fun r h' => r = .b false ∧ h' = h) := by
  have hx : (x != x) = false := by simp
  refine c8 (rl := []) d9 Tryz.func94 rfl (rs := [.tmp 2]) rfl Tryz.ntmps94 (by simp) ?_
  repeat' (first | ((repeat ((fail_if_success (refine hK _ ?_)); clear hK K)); refine hK _ ?_; clear hK K) | (refine b9 fun K1 q7 => ?_; simp only [S1, simprocAttr, K5, hx]; refine q7 _ ?_; clear q7 K1) | refine b6 fun K hK => ?_ | ((first | apply b8 | apply b5 | apply d3); try simp only [NB, simprocAttr]))
  all_goals simp only [S1, simprocAttr, ENB, K5]
theorem kG (x y : Int) (h : Heap) : d5 Tryz.prog G 63 [.i x, .i y] h (fun r h' => r = .i (N9 x y) ∧ h' = h) := by
  by_cases h1 : x < y
  · have e : N9 x y = -1 := by unfold N9; rw [if_pos h1]
    rw [e]
    refine c8 (rl := []) d9 Tryz.func63 rfl (rs := [.tmp 4]) rfl Tryz.ntmps63 (by simp) ?_
    repeat' (first | ((repeat ((fail_if_success (refine hK _ ?_)); clear hK K)); refine hK _ ?_; clear hK K) | ((first | refine b9 fun K1 q7 => ?_ | refine b7 fun A B hA hB => ?_); simp only [S1, simprocAttr, K5, h1]; first | refine q7 _ ?_; clear q7 K1 | ((first | refine hA ?_ | refine hB ?_); clear hA hB A B) | (apply d4 E94; exact (ba _ _); refine q7 _ ?_; clear q7 K1)) | refine b6 fun K hK => ?_ | ((first | apply b8 | apply b5 | apply c9 | apply d3); try simp only [NB, simprocAttr]))
    all_goals simp only [S1, simprocAttr, ENB, K5]
  · by_cases h2 : y < x
    · have e : N9 x y = 1 := by unfold N9; rw [if_neg h1, if_pos h2]
      rw [e]
      refine c8 (rl := []) d9 Tryz.func63 rfl (rs := [.tmp 4]) rfl Tryz.ntmps63 (by simp) ?_
      repeat' (first | ((repeat ((fail_if_success (refine hK _ ?_)); clear hK K)); refine hK _ ?_; clear hK K) | ((first | refine b9 fun K1 q7 => ?_ | refine b7 fun A B hA hB => ?_); simp only [S1, simprocAttr, K5, h1, h2]; first | refine q7 _ ?_; clear q7 K1 | ((first | refine hA ?_ | refine hB ?_); clear hA hB A B) | (apply d4 E94; exact (ba _ _); refine q7 _ ?_; clear q7 K1)) | refine b6 fun K hK => ?_ | ((first | apply b8 | apply b5 | apply c9 | apply d3); try simp only [NB, simprocAttr]))
      all_goals simp only [S1, simprocAttr, ENB, K5]
    · have e : N9 x y = 0 := by unfold N9; rw [if_neg h1, if_neg h2]
      rw [e]
      refine c8 (rl := []) d9 Tryz.func63 rfl (rs := [.tmp 4]) rfl Tryz.ntmps63 (by simp) ?_
      repeat' (first | ((repeat ((fail_if_success (refine hK _ ?_)); clear hK K)); refine hK _ ?_; clear hK K) | ((first | refine b9 fun K1 q7 => ?_ | refine b7 fun A B hA hB => ?_); simp only [S1, simprocAttr, K5, h1, h2]; first | refine q7 _ ?_; clear q7 K1 | (refine hB ?_; clear hA hB A B) | (apply d4 E94; exact (ba _ _); refine q7 _ ?_; clear q7 K1)) | refine b6 fun K hK => ?_ | ((first | apply b8 | apply b5 | apply c9 | apply d3); try simp only [NB, simprocAttr]))
      all_goals simp only [S1, simprocAttr, ENB, K5]
theorem uO (l : List Int) (hl : l.length ≤ 100) (h : Heap) : d5 Tryz.prog G 62 [.p (.sl (l.map fun n => [.int .i64 n]))] h (fun r h' => r = .i (kq l) ∧ h' = h) := by
  refine c8 (rl := []) d9 Tryz.func62 rfl (rs := [.tmp 2]) rfl Tryz.ntmps62 (by simp) ?_
  repeat' (first | ((repeat ((fail_if_success (refine hK _ ?_)); clear hK K)); refine hK _ ?_; clear hK K) | (refine b9 fun K1 q7 => ?_; simp only [S1, simprocAttr, K5, List.length_map]; refine q7 _ ?_; clear q7 K1) | refine b6 fun K hK => ?_ | ((first | apply b8 | apply b5 | apply c7); try simp only [NB, simprocAttr]))
  refine o8 l.length 18 (fun j => [(8, .i j), (7, .i l.length), (6, .p (.sl (l.map fun n => [.int .i64 n]))), (3, .i 0)]) (fun j => []) (fun j => kq l = kq (l.drop j)) ?_ rfl fun j hj hp K hK => ?_
  · (refine ⟨rfl, (by first | exact ⟨_, rfl⟩ | exact ⟨[], by simp⟩), ?_, ?_⟩ <;> simp only [S1, simprocAttr, KNB] <;> (try and_intros) <;> (try assumption) <;> (try trivial) <;> (try omega))
  rcases Nat.lt_or_ge j l.length with hlt | hge
  · obtain ⟨y, hy⟩ : ∃ y, l[j]? = some y := ⟨_, List.getElem?_eq_getElem hlt⟩
    have hx : (l.map fun n => [PV.int .i64 n])[j]? = some [.int .i64 y] := by rw [List.getElem?_map, hy]; rfl
    have jl : (j : Int) < (l.length : Int) := by omega
    have j0 : (0 : Int) ≤ (j : Int) := by omega
    have hnx : IntKind.i64.wrap ((j : Int) + 1) = ((j + 1 : Nat) : Int) := by rw [IntWalk.i64_in _ (by omega)]; omega
    have hd : kq (l.drop j) = if y = 0 then kq (l.drop (j + 1)) else y := by
      rw [List.drop_eq_getElem_cons hlt, (List.getElem?_eq_some_iff.mp hy).2]; rfl
    by_cases hz : y = 0
    · subst hz
      have hb : ((0 : Int) != 0) = false := rfl
      repeat' (first | ((repeat ((fail_if_success (refine hK _ ?_)); clear hK K)); refine hK _ ?_; clear hK K) | ((first | refine b9 fun K1 q7 => ?_ | refine b7 fun A B hA hB => ?_); simp only [S1, simprocAttr, K5, jl, j0, hx, hnx, hb, List.length_map]; first | refine q7 _ ?_; clear q7 K1 | ((first | refine hA ?_ | refine hB ?_); clear hA hB A B)) | refine b6 fun K hK => ?_ | ((first | apply b8 | apply b5 | apply c7 | apply c9); try simp only [NB, simprocAttr]))
      all_goals refine ⟨hlt, ?_, ?_⟩
      all_goals first | (rw [hp, hd]; rfl) | (refine ⟨rfl, (by first | exact ⟨_, rfl⟩ | exact ⟨[], by simp⟩), ?_, ?_⟩ <;> simp only [S1, simprocAttr, KNB] <;> (try and_intros) <;> (try assumption) <;> (try trivial) <;> (try omega))
    · have hb : (y != 0) = true := by simpa using hz
      rw [if_neg hz] at hd
      repeat' (first | ((repeat ((fail_if_success (refine hK _ ?_)); clear hK K)); refine hK _ ?_; clear hK K) | ((first | refine b9 fun K1 q7 => ?_ | refine b7 fun A B hA hB => ?_); simp only [S1, simprocAttr, K5, jl, j0, hx, hnx, hb, List.length_map]; first | refine q7 _ ?_; clear q7 K1 | (refine hA ?_; clear hA hB A B)) | refine b6 fun K hK => ?_ | ((first | apply b8 | apply b5 | apply c7 | apply c9 | apply d3); try simp only [NB, simprocAttr]))
      all_goals simp only [S1, simprocAttr, ENB, K5]
      all_goals rw [hp, hd]
      all_goals trivial
  · obtain rfl : j = l.length := by omega
    repeat' (first | ((repeat ((fail_if_success (refine hK _ ?_)); clear hK K)); refine hK _ ?_; clear hK K) | ((first | refine b9 fun K1 q7 => ?_ | refine b7 fun A B hA hB => ?_); simp only [S1, simprocAttr, K5, Int.lt_irrefl]; first | refine q7 _ ?_; clear q7 K1 | (refine hB ?_; clear hA hB A B)) | refine b6 fun K hK => ?_ | ((first | apply b8 | apply b5 | apply f9 | apply d3); try simp only [NB, simprocAttr]))
    all_goals simp only [S1, simprocAttr, ENB, K5]
    rw [List.drop_length] at hp
    simp [hp, kq]
theorem kH (x y : Lb) (h : Heap) : d5 Tryz.prog G 40 [aL x, aL y] h (fun r h' => r = .i (iq x y) ∧ h' = h) := by
  have ho := fun h => uO (G := G) [N9 x.1 y.1, N9 x.2.1 y.2.1, N9 x.2.2 y.2.2] (by simp) h
  have ec : iq x y = kq [N9 x.1 y.1, N9 x.2.1 y.2.1, N9 x.2.2 y.2.2] := rfl
  rw [← ec] at ho
  refine c8 (rl := []) d9 Tryz.func40 rfl (rs := [.tmp 4]) rfl Tryz.ntmps40 (by simp) ?_
  repeat' (first | ((repeat ((fail_if_success (refine hK _ ?_)); clear hK K)); refine hK _ ?_; clear hK K) | ((first | refine b9 fun K1 q7 => ?_ | refine j8 fun K1 q7 => ?_); simp only [S1, simprocAttr, K5]; first | refine q7 _ ?_; clear q7 K1 | (apply j5 E63; exact (kG _ _ _); refine q7 _ ?_; clear q7 K1) | (apply j5 E62; exact (ho _); refine q7 _ ?_; clear q7 K1)) | refine b6 fun K hK => ?_ | ((first | apply b8 | apply i5 | apply b5 | refine i6 ?_ | apply d3); try simp only [NB, simprocAttr]))
  all_goals simp only [S1, simprocAttr, ENB, K5]
theorem qn (x y : Lb) (h : Heap) : d5 Tryz.prog G 26 [aL x, aL y] h (fun r h' => r = .b (decide (ltL x y)) ∧ h' = h) := by
  by_cases h1 : x.1 = y.1
  · have f1 : (x.1 != y.1) = false := by simp [h1]
    by_cases h2 : x.2.1 = y.2.1
    · have f2 : (x.2.1 != y.2.1) = false := by simp [h2]
      have e : decide (ltL x y) = decide (x.2.2 < y.2.2) := decide_eq_decide.mpr (by unfold ltL; omega)
      rw [e]
      refine c8 (rl := []) d9 Tryz.func26 rfl (rs := [.tmp 4]) rfl Tryz.ntmps26 (by simp) ?_
      repeat' (first | ((repeat ((fail_if_success (refine hK _ ?_)); clear hK K)); refine hK _ ?_; clear hK K) | ((first | refine b9 fun K1 q7 => ?_ | refine b7 fun A B hA hB => ?_); simp only [S1, simprocAttr, K5, f1, f2]; first | refine q7 _ ?_; clear q7 K1 | (refine hB ?_; clear hA hB A B)) | refine b6 fun K hK => ?_ | ((first | apply b8 | apply b5 | apply c9 | apply d3); try simp only [NB, simprocAttr]))
      all_goals simp only [S1, simprocAttr, ENB, K5]
    · have f2 : (x.2.1 != y.2.1) = true := by simp [h2]
      have e : decide (ltL x y) = decide (x.2.1 < y.2.1) := decide_eq_decide.mpr (by unfold ltL; omega)
      rw [e]
      refine c8 (rl := []) d9 Tryz.func26 rfl (rs := [.tmp 4]) rfl Tryz.ntmps26 (by simp) ?_
      repeat' (first | ((repeat ((fail_if_success (refine hK _ ?_)); clear hK K)); refine hK _ ?_; clear hK K) | ((first | refine b9 fun K1 q7 => ?_ | refine b7 fun A B hA hB => ?_); simp only [S1, simprocAttr, K5, f1, f2]; first | refine q7 _ ?_; clear q7 K1 | ((first | refine hA ?_ | refine hB ?_); clear hA hB A B)) | refine b6 fun K hK => ?_ | ((first | apply b8 | apply b5 | apply c9 | apply d3); try simp only [NB, simprocAttr]))
      all_goals simp only [S1, simprocAttr, ENB, K5]
  · have f1 : (x.1 != y.1) = true := by simp [h1]
    have e : decide (ltL x y) = decide (x.1 < y.1) := decide_eq_decide.mpr (by unfold ltL; omega)
    rw [e]
    refine c8 (rl := []) d9 Tryz.func26 rfl (rs := [.tmp 4]) rfl Tryz.ntmps26 (by simp) ?_
    repeat' (first | ((repeat ((fail_if_success (refine hK _ ?_)); clear hK K)); refine hK _ ?_; clear hK K) | ((first | refine b9 fun K1 q7 => ?_ | refine b7 fun A B hA hB => ?_); simp only [S1, simprocAttr, K5, f1]; first | refine q7 _ ?_; clear q7 K1 | (refine hA ?_; clear hA hB A B)) | refine b6 fun K hK => ?_ | ((first | apply b8 | apply b5 | apply d3); try simp only [NB, simprocAttr]))
    all_goals simp only [S1, simprocAttr, ENB, K5]
end
section
def iz := And.intro T2 (And.intro T3 (And.intro T4 (And.intro T28 (And.intro T41 T44))))
attribute [local irreducible] awp n8 k3 l8 o4 m8
variable {G : Nat → Option (List PV)}
def cLs (l : List Lb) : List AV := (l.flatMap uA).map AV.i
theorem U3 : ∀ l : List Lb, (cLs l).length = l.length * 3
  | [] => rfl
  | x :: l => by
    have := U3 l
    unfold cLs at this ⊢
    rw [List.flatMap_cons, List.map_append, List.length_append, this, List.length_cons]
    show 3 + l.length * 3 = _
    omega
theorem ak (x : Lb) (l : List Lb) : cLs (x :: l) = .i x.1 :: .i x.2.1 :: .i x.2.2 :: cLs l := rfl
theorem fv (l m : List Lb) : cLs (l ++ m) = cLs l ++ cLs m := by unfold cLs; rw [List.flatMap_append, List.map_append]
theorem kI : ∀ (j : Nat) (l : List Lb), (cLs l).drop (j * 3) = cLs (l.drop j)
  | 0, l => by simp
  | j + 1, [] => by simp [cLs]
  | j + 1, x :: l => by
    rw [List.drop_succ_cons, ← kI j l, ak, show (j + 1) * 3 = j * 3 + 1 + 1 + 1 by omega]; rfl
theorem ob {l : List Lb} {j : Nat} {x : Lb} (h : l[j]? = some x) : (cLs l).drop (j * 3) = .i x.1 :: .i x.2.1 :: .i x.2.2 :: cLs (l.drop (j + 1)) := by
  rw [kI, List.drop_eq_getElem_cons (List.getElem?_eq_some_iff.mp h).1, (List.getElem?_eq_some_iff.mp h).2, ak]
theorem qo (j : Nat) (l : List Lb) : (cLs l).take (j * 3) = cLs (l.take j) := by
  induction j generalizing l with
  | zero => simp [cLs]
  | succ j ih =>
    cases l with
    | nil => simp [cLs]
    | cons x l => rw [List.take_succ_cons, ak, ak, ← ih, show (j + 1) * 3 = j * 3 + 1 + 1 + 1 by omega]; rfl
theorem wW {l : List Lb} {j : Nat} (h : j < l.length) (x : Lb) : t8 (cLs l) (j * 3) [.i x.1, .i x.2.1, .i x.2.2] = cLs (l.set j x) := by
  have h3 : (cLs l).length = l.length * 3 := U3 l
  have e1 : t8 (cLs l) (j * 3) [AV.i x.1, AV.i x.2.1, AV.i x.2.2] = (cLs l).take (j * 3) ++ ([AV.i x.1, AV.i x.2.1, AV.i x.2.2] ++ (cLs l).drop (j * 3 + 3)) := by
    rw [ah _ _ _ (by rw [h3]; simp; omega)]
    simp
  rw [e1, qo, show j * 3 + 3 = (j + 1) * 3 by omega, kI, List.set_eq_take_append_cons_drop, if_pos h, fv, ak]
  rfl
theorem U4 (l : List Lb) (n : Nat) : n9 n (cLs l) := g9 _ _
theorem dO : ∀ (p : List Lb) (z y : Lb), F1 (p ++ [z] ++ [y]) = F1 (p ++ [z]) ++ if z = y then [] else [y]
  | [], z, y => by
    simp only [List.nil_append, List.cons_append]
    unfold F1
    split
    · rename_i e; simp [F1, e]
    · simp [F1]
  | [a], z, y => by
    have := dO [] z y
    simp only [List.nil_append, List.cons_append] at this ⊢
    unfold F1
    split
    · exact this
    · rw [this]; rfl
  | a :: b :: p, z, y => by
    have := dO (b :: p) z y
    simp only [List.cons_append] at this ⊢
    unfold F1
    split
    · exact this
    · rw [this]; rfl
theorem kJ {l : List Lb} {m : Nat} {z y : Lb} (hz : l[m]? = some z) (hy : l[m + 1]? = some y) : F1 (l.take (m + 2)) = F1 (l.take (m + 1)) ++ if z = y then [] else [y] := by
  have e1 : l.take (m + 1) = l.take m ++ [z] := by rw [List.take_add_one, hz]; rfl
  have e2 : l.take (m + 2) = l.take m ++ [z] ++ [y] := by rw [List.take_add_one, hy, e1]; rfl
  rw [e2, e1, dO]
theorem O0 (by' : Nat) (z : Option (List PV)) (fs : List (Nat × Nat × Nat)) (a b c : AV) (r : List AV) : O7 ⟨.struct fs, 3, by', z⟩ (a :: b :: c :: r) = some (.agg [a, b, c]) := by
  unfold O7; simp [TI.isAgg]
structure Qcp where
  j : Nat
  k : Nat
  cur : List Lb
theorem Bh (m : Nat) : (List.replicate m [AV.i 0, AV.i 0, AV.i 0]).flatMap id = cLs (List.replicate m (0, 0, 0)) := by
  induction m with
  | zero => rfl
  | succ m ih => rw [List.replicate_succ, List.replicate_succ, List.flatMap_cons, ih, ak]; rfl
def bu (h : Heap) (b g : Nat) (l : List Lb) : Heap := h.set b (some ⟨g, cLs l⟩)
theorem fw (h : Heap) (b g : Nat) (l : List Lb) : (bu h b g l).length = h.length := by simp [bu]
theorem mC {h : Heap} {b : Nat} (hb : b < h.length) (g : Nat) (l : List Lb) : (bu h b g l)[b]? = some (some ⟨g, cLs l⟩) := by unfold bu; rw [List.getElem?_set_self hb]
theorem qq (h : Heap) (b g : Nat) (l m : List Lb) : (bu h b g l).set b (some ⟨g, cLs m⟩) = bu h b g m := by unfold bu; rw [List.set_set]
theorem uQ (h : Heap) (b g : Nat) (l : List Lb) : (bu h b g l).length = h.length ∧ ∀ (c : Nat) (bk : Blk), (bu h b g l)[c]? = some (some bk) → h[c]? = some (some bk) ∨ n9 h.length bk.cells := by
  refine ⟨fw _ _ _ _, fun c bk hc => ?_⟩
  unfold bu at hc
  rw [List.getElem?_set] at hc
  split at hc
  · split at hc
    · cases hc; exact .inr (U4 _ _)
    · cases hc
  · exact .inl hc
theorem mD {h : Heap} {b g : Nat} {l : List Lb} (hb : h[b]? = some (some ⟨g, cLs l⟩)) : bu h b g l = h := by
  have hbl : b < h.length := j4 hb
  apply List.ext_getElem?
  intro i
  unfold bu
  rw [List.getElem?_set]
  split
  · rename_i e; subst e; first | exact hb.symm | (rw [if_pos hbl]; exact hb.symm)
  · rfl
theorem ll {l : List Lb} (hl : l.length ≤ 16000000) {h : Heap} {b g : Nat} (hb : h[b]? = some (some ⟨g, cLs l⟩)) :
    d5 Tryz.prog G 41 [.ref b g 0 3 l.length] h (fun r h' => r = .ref b g 0 3 (F1 l).length ∧ h' = bu h b g (F1 l ++ List.replicate (l.length - (F1 l).length) (0, 0, 0))) := by
  have hbl : b < h.length := j4 hb
  have hself := mD hb
  have hcl := U3 l
  have hnt := Tryz.ntmps41
  by_cases h2 : l.length < 2
  · have e : F1 l = l := by
      match l, h2 with
      | [], _ => rfl
      | [x], _ => rfl
    have f2 : (l.length : Int) < 2 := by omega
    rw [e, Nat.sub_self, List.replicate_zero, List.append_nil, hself]
    refine Sim.evoKeep (rl := []) d9 Tryz.func41 rfl (by rw [hnt]; simp) ?_
    rw [hnt]
    repeat' (first | ((repeat ((fail_if_success (refine hK _ ?_)); clear hK K)); refine hK _ ?_; clear hK K) | ((first | refine b9 fun K1 q7 => ?_ | refine b7 fun A B hA hB => ?_); simp only [S1, simprocAttr, iz, f2]; first | refine q7 _ ?_; clear q7 K1 | (refine hA ?_; clear hA hB A B)) | refine b6 fun K hK => ?_ | ((first | apply b8 | apply b5 | apply d3); try simp only [NB, simprocAttr]))
    all_goals exact ⟨.inr trivial, eG (t := 2) rfl (Nat.le_refl _) ⟨rfl, rfl⟩⟩
  have f2 : ¬ (l.length : Int) < 2 := by omega
  refine Sim.evoKeep (rl := []) d9 Tryz.func41 rfl (by rw [hnt]; simp) ?_
  rw [hnt]
  repeat' (first | ((repeat ((fail_if_success (refine hK _ ?_)); clear hK K)); refine hK _ ?_; clear hK K) | ((first | refine b9 fun K1 q7 => ?_ | refine b7 fun A B hA hB => ?_); simp only [S1, simprocAttr, iz, f2]; first | refine q7 _ ?_; clear q7 K1 | (refine hB ?_; clear hA hB A B)) | refine b6 fun K hK => ?_ | ((first | apply b8 | apply b5 | apply c7 | apply c9); try simp only [NB, simprocAttr]))
  refine H7 (σ := Nat) (fun k => l.length - k) 61 (fun k => [(3, .i k), (0, .ref b g 0 3 l.length)]) (fun k => []) (fun k => 1 ≤ k ∧ k ≤ l.length ∧ F1 (l.take k) = l.take k) 1 ?_ ⟨by omega, by omega, by
    match l with
    | [] => rfl
    | [x] => rfl
    | x :: y :: r => rfl⟩ fun k hp K hK => ?_
  · (refine ⟨rfl, (by first | exact ⟨_, rfl⟩ | exact ⟨[], by simp⟩), ?_, ?_⟩ <;> simp only [S1, simprocAttr, KNB] <;> (try and_intros) <;> (try assumption) <;> (try trivial) <;> (try omega))
  obtain ⟨k1, kn, hon⟩ := hp
  rcases Nat.lt_or_ge k l.length with hlt | hge
  · obtain ⟨y, hy⟩ : ∃ y, l[k]? = some y := ⟨_, List.getElem?_eq_getElem hlt⟩
    obtain ⟨z, hz⟩ : ∃ z, l[k - 1]? = some z := ⟨_, List.getElem?_eq_getElem (by omega)⟩
    have hkk : k - 1 + 1 = k := by omega
    have hon2 := kJ (m := k - 1) hz (by rw [hkk]; exact hy)
    rw [show k - 1 + 2 = k + 1 by omega, hkk, hon] at hon2
    have kl : (k : Int) < (l.length : Int) := by omega
    have k0 : (0 : Int) ≤ (k : Int) := by omega
    have hnk : IntKind.i64.wrap ((k : Int) + 1) = ((k + 1 : Nat) : Int) := by rw [IntWalk.i64_in _ (by omega)]; omega
    have hpk : IntKind.i64.wrap ((k : Int) - 1) = ((k - 1 : Nat) : Int) := by rw [IntWalk.i64_in _ (by omega)]; omega
    have kp0 : (0 : Int) ≤ ((k - 1 : Nat) : Int) := by omega
    have kpl : ((k - 1 : Nat) : Int) < (l.length : Int) := by omega
    have hdy := ob hy
    have hdz := ob hz
    have heq := uN y z
    have heq : y7 true [.p (.int .i64 y.1), .p (.int .i64 y.2.1), .p (.int .i64 y.2.2)] [.p (.int .i64 z.1), .p (.int .i64 z.2.1), .p (.int .i64 z.2.2)] = some (decide (y = z)) := heq
    by_cases hyz : y = z
    case neg =>
      rw [decide_eq_false hyz] at heq
      rw [if_neg (fun e => hyz e.symm)] at hon2
      have hon3 : F1 (l.take (k + 1)) = l.take (k + 1) := by rw [hon2, List.take_add_one, hy]; rfl
      repeat' (first | ((repeat ((fail_if_success (refine hK _ ?_)); clear hK K)); refine hK _ ?_; clear hK K) | ((first | refine b9 fun K1 q7 => ?_ | refine j8 fun K1 q7 => ?_ | refine b7 fun A B hA hB => ?_); simp only [S1, simprocAttr, iz, kl, k0, hnk, hpk, kp0, kpl, hb, hdy, hdz, heq, eqA, W28, O0]; first | refine q7 _ ?_; clear q7 K1 | ((first | refine hA ?_ | refine hB ?_); clear hA hB A B)) | refine b6 fun K hK => ?_ | ((first | apply b8 | apply i5 | apply b5 | refine i6 ?_ | apply c7 | apply c9); try simp only [NB, simprocAttr]))
      all_goals refine ⟨k + 1, by omega, ⟨by omega, by omega, hon3⟩, ?_⟩
      all_goals (refine ⟨rfl, (by first | exact ⟨_, rfl⟩ | exact ⟨[], by simp⟩), ?_, ?_⟩ <;> simp only [S1, simprocAttr, KNB] <;> (try and_intros) <;> (try assumption) <;> (try trivial) <;> (try omega))
    rw [decide_eq_true hyz] at heq
    rw [if_pos hyz.symm, List.append_nil] at hon2
    have hsl : k ≤ l.length := kn
    have hnl : (l.take k).length = k := by rw [List.length_take]; omega
    repeat' (first | ((repeat ((fail_if_success (refine hK _ ?_)); clear hK K)); refine hK _ ?_; clear hK K) | ((first | refine b9 fun K1 q7 => ?_ | refine j8 fun K1 q7 => ?_ | refine b7 fun A B hA hB => ?_); simp only [S1, simprocAttr, iz, kl, k0, hnk, hpk, kp0, kpl, hsl, Nat.le_refl, hb, hdy, hdz, heq, eqA, W28, O0]; first | refine q7 _ ?_; clear q7 K1 | (refine hA ?_; clear hA hB A B)) | refine b6 fun K hK => ?_ | ((first | apply b8 | apply i5 | apply b5 | refine i6 ?_ | apply c7 | apply c9); try simp only [NB, simprocAttr]))
    refine sq (σ := Qcp) (fun q => l.length - k - q.j) 61 (fun q => bu h b g q.cur) (fun q => [(5, .i q.j), (4, .ref b g (k * 3) 3 (l.length - k)), (3, .i q.k), (0, .ref b g 0 3 l.length)]) (fun q => [])
      (fun q => 1 ≤ q.j ∧ k + q.j ≤ l.length ∧ q.cur.length = l.length ∧ q.k = (F1 (l.take (k + q.j))).length ∧ q.k + 1 ≤ k + q.j ∧ q.cur.take q.k = F1 (l.take (k + q.j)) ∧ ∀ i, k + q.j - 1 ≤ i → q.cur[i]? = l[i]?) ⟨1, k, l⟩ (fun q => uQ h b g q.cur) ?_ ?_ fun q hp K hK => ?_
    · simp only [hself]
      (refine ⟨rfl, (by first | exact ⟨_, rfl⟩ | exact ⟨[], by simp⟩), ?_, ?_⟩ <;> simp only [S1, simprocAttr, KNB] <;> (try and_intros) <;> (try assumption) <;> (try trivial) <;> (try omega))
    · exact ⟨Nat.le_refl _, by show k + 1 ≤ _; omega, rfl, by show k = (F1 (l.take (k + 1))).length; rw [hon2, hnl], Nat.le_refl _, hon2.symm, fun i _ => rfl⟩
    obtain ⟨j, kk, cur⟩ := q
    obtain ⟨p1, p2, p3, p4, p5, p6, p7⟩ := hp
    simp only at p1 p2 p3 p4 p5 p6 p7 hK ⊢
    rw [List.append_nil]
    have hg := mC hbl g cur
    have hcc := U3 cur
    have kk0 : (0 : Int) ≤ (kk : Int) := by omega
    rcases Nat.lt_or_ge (k + j) l.length with hlj | hgj
    · obtain ⟨y2, hy2⟩ : ∃ y, l[k + j]? = some y := ⟨_, List.getElem?_eq_getElem hlj⟩
      obtain ⟨z2, hz2⟩ : ∃ z, l[k + j - 1]? = some z := ⟨_, List.getElem?_eq_getElem (by omega)⟩
      have hjj : k + j - 1 + 1 = k + j := by omega
      have ho := kJ (m := k + j - 1) hz2 (by rw [hjj]; exact hy2)
      rw [show k + j - 1 + 2 = k + j + 1 by omega, hjj] at ho
      have cy := (p7 (k + j) (by omega)).trans hy2
      have cz := (p7 (k + j - 1) (Nat.le_refl _)).trans hz2
      have jl : (j : Int) < ((l.length - k : Nat) : Int) := by omega
      have j0 : (0 : Int) ≤ (j : Int) := by omega
      have hnj : IntKind.i64.wrap ((j : Int) + 1) = ((j + 1 : Nat) : Int) := by rw [IntWalk.i64_in _ (by omega)]; omega
      have hpj : IntKind.i64.wrap ((j : Int) - 1) = ((j - 1 : Nat) : Int) := by rw [IntWalk.i64_in _ (by omega)]; omega
      have jp0 : (0 : Int) ≤ ((j - 1 : Nat) : Int) := by omega
      have jpl : ((j - 1 : Nat) : Int) < ((l.length - k : Nat) : Int) := by omega
      have kkl : (kk : Int) < (l.length : Int) := by omega
      have hnkk : IntKind.i64.wrap ((kk : Int) + 1) = ((kk + 1 : Nat) : Int) := by rw [IntWalk.i64_in _ (by omega)]; omega
      have hdy := ob cy
      have hdz := ob cz
      have ey : k * 3 + j * 3 = (k + j) * 3 := by omega
      have ez : k * 3 + (j - 1) * 3 = (k + j - 1) * 3 := by omega
      have heq := uN y2 z2
      have heq : y7 true [.p (.int .i64 y2.1), .p (.int .i64 y2.2.1), .p (.int .i64 y2.2.2)] [.p (.int .i64 z2.1), .p (.int .i64 z2.2.1), .p (.int .i64 z2.2.2)] = some (decide (y2 = z2)) := heq
      by_cases hyz2 : y2 = z2
      · rw [decide_eq_true hyz2] at heq
        rw [if_pos hyz2.symm, List.append_nil] at ho
        repeat' (first | ((repeat ((fail_if_success (refine hK _ ?_)); clear hK K)); refine hK _ ?_; clear hK K) | ((first | refine b9 fun K1 q7 => ?_ | refine j8 fun K1 q7 => ?_ | refine b7 fun A B hA hB => ?_); simp only [S1, simprocAttr, iz, jl, j0, hnj, hpj, jp0, jpl, ey, ez, hg, hdy, hdz, heq, eqA, W28, O0]; first | refine q7 _ ?_; clear q7 K1 | ((first | refine hA ?_ | refine hB ?_); clear hA hB A B)) | refine b6 fun K hK => ?_ | ((first | apply b8 | apply i5 | apply b5 | refine i6 ?_ | apply c7 | apply c9); try simp only [NB, simprocAttr]))
        all_goals refine ⟨⟨j + 1, kk, cur⟩, by simp only; omega, ⟨by simp only; omega, by simp only; omega, p3, by simp only; rw [← Nat.add_assoc, ho]; exact p4, by simp only; omega, by simp only; rw [← Nat.add_assoc, ho]; exact p6, fun i hi => p7 i (by simp only at hi; omega)⟩, ?_⟩
        all_goals refine ⟨rfl, ⟨[], by simp⟩, ?_, trivial⟩
        all_goals simp only [fw]
        all_goals simp only [S1, simprocAttr, KNB] <;> (try and_intros) <;> (try assumption) <;> (try trivial) <;> (try omega)
      · rw [decide_eq_false hyz2] at heq
        rw [if_neg (fun e => hyz2 e.symm)] at ho
        have hov := wW (l := cur) (j := kk) (by omega) y2
        have hst := qq h b g cur (cur.set kk y2)
        have hsl3 : kk * 3 + 3 ≤ cur.length * 3 := by omega
        repeat' (first | ((repeat ((fail_if_success (refine hK _ ?_)); clear hK K)); refine hK _ ?_; clear hK K) | ((first | refine b9 fun K1 q7 => ?_ | refine j8 fun K1 q7 => ?_ | refine b7 fun A B hA hB => ?_); simp only [S1, simprocAttr, iz, jl, j0, hnj, hpj, jp0, jpl, kkl, kk0, hnkk, ey, ez, hg, hdy, hdz, heq, hov, hst, hcc, hsl3, eqA, W28, O0]; first | refine q7 _ ?_; clear q7 K1 | (refine hA ?_; clear hA hB A B)) | refine b6 fun K hK => ?_ | ((first | apply b8 | apply i5 | apply b5 | refine i6 ?_ | apply c7 | apply c9); try simp only [NB, simprocAttr]))
        all_goals refine ⟨⟨j + 1, kk + 1, cur.set kk y2⟩, by simp only; omega, ⟨by simp only; omega, by simp only; omega, by simp only [List.length_set]; exact p3, by simp only; rw [← Nat.add_assoc, ho, List.length_append, ← p4]; rfl, by simp only; omega, by
            simp only
            rw [← Nat.add_assoc, ho, ← p6, List.take_add_one, List.getElem?_set_self (by omega), List.take_set_of_le (Nat.le_refl _)]; rfl, fun i hi => by
            simp only at hi ⊢
            rw [List.getElem?_set_ne (by omega)]
            exact p7 i (by omega)⟩, ?_⟩
        all_goals refine ⟨rfl, ⟨[], by simp only [List.append_nil]; rw [← hst, ← hov]; rfl⟩, ?_, trivial⟩
        all_goals simp only [fw]
        all_goals simp only [S1, simprocAttr, KNB] <;> (try and_intros) <;> (try assumption) <;> (try trivial) <;> (try omega)
    · have hjn : k + j = l.length := by omega
      rw [hjn, List.take_length] at p4 p6
      have jl : ¬ (j : Int) < ((l.length - k : Nat) : Int) := by omega
      have kkl : kk ≤ l.length := by omega
      have hnz : ¬ l.length - kk = 0 := by omega
      have hfit : kk * 3 + (l.length - kk) * 3 ≤ cur.length * 3 := by rw [p3]; omega
      have hct := qo kk cur
      rw [p6] at hct
      have hdr : (cLs cur).drop (kk * 3 + (l.length - kk) * 3) = [] := List.drop_of_length_le (by rw [hcc]; omega)
      have hzr := Bh (l.length - kk)
      have hst := qq h b g cur (F1 l ++ List.replicate (l.length - kk) (0, 0, 0))
      rw [fv] at hst
      have hg2 := mC hbl g (F1 l ++ List.replicate (l.length - kk) (0, 0, 0))
      repeat' (first | ((repeat ((fail_if_success (refine hK _ ?_)); clear hK K)); refine hK _ ?_; clear hK K) | ((first | refine b9 fun K1 q7 => ?_ | refine b7 fun A B hA hB => ?_); simp only [S1, simprocAttr, iz, jl, kk0, kkl, hnz, hfit, hct, hdr, hzr, hst, hcc, hg, hg2, Nat.le_refl, Nat.zero_le, Nat.sub_zero, Nat.zero_mul, L1]; first | refine q7 _ ?_; clear q7 K1 | (refine hB ?_; clear hA hB A B)) | refine b6 fun K hK => ?_ | ((first | apply b8 | apply b5 | apply f9 | apply d3); try simp only [NB, simprocAttr]))
      all_goals exact ⟨.inr trivial, eG (t := 2) rfl (by rw [fw]; exact Nat.le_refl _) ⟨by rw [p4], by rw [p4]⟩⟩
  · obtain rfl : k = l.length := by omega
    rw [List.take_length] at hon
    repeat' (first | ((repeat ((fail_if_success (refine hK _ ?_)); clear hK K)); refine hK _ ?_; clear hK K) | ((first | refine b9 fun K1 q7 => ?_ | refine b7 fun A B hA hB => ?_); simp only [S1, simprocAttr, iz, Int.lt_irrefl]; first | refine q7 _ ?_; clear q7 K1 | (refine hB ?_; clear hA hB A B)) | refine b6 fun K hK => ?_ | ((first | apply b8 | apply b5 | apply f9 | apply d3); try simp only [NB, simprocAttr]))
    all_goals exact ⟨.inr trivial, eG (t := 2) rfl (by simp) ⟨by rw [hon], by rw [hon, Nat.sub_self, List.replicate_zero, List.append_nil, hself]⟩⟩
end
section
def dc := And.intro T2 (And.intro T3 (And.intro T4 (And.intro T25 (And.intro T26 (And.intro T28 (And.intro T34 (And.intro T41 (And.intro T44 (And.intro T57 (And.intro T58 (And.intro T62 (And.intro T65 (And.intro T89 T92)))))))))))))
attribute [local irreducible] awp n8 k3 l8 o4 m8
variable {G : Nat → Option (List PV)}
theorem yo {h : Heap} {n fuel b g m : Nat} {l : List Lb} {rest : List AV} (hm : m = l.length) (hb : r7 h b g = some (cLs l ++ rest)) (hn : n ≤ b) : pur h n (fuel + 1) (.ref b g 0 3 m) = some (.sl (l.map eL)) := by
  subst hm
  have hch : ∀ l : List Lb, B4 3 l.length ((l.flatMap uA).map (PV.int .i64)) = l.map eL := by
    intro l
    induction l with
    | nil => rfl
    | cons x l ih =>
      rw [List.length_cons, B4, List.flatMap_cons, List.map_append, List.take_left' (by rfl), List.drop_left' (by rfl), ih]; rfl
  unfold pur
  by_cases h0 : l.length = 0
  · rw [if_pos h0]; have := List.eq_nil_of_length_eq_zero h0; subst this; rfl
  · rw [if_neg h0, hb]
    have e : (cLs l).length = l.length * 3 := U3 l
    have hle : l.length * 3 ≤ (cLs l ++ rest).length := by rw [List.length_append, e]; omega
    simp only [hn, true_and, Nat.zero_add, hle, if_true, List.drop_zero]
    rw [List.take_left' e]
    unfold cLs
    rw [L8]
    simp only [Option.map_some, hch]
theorem kK {P : Program} {h : Heap} {K : AV → Prop} {x : Exit} {s : St} (hx : x = .normal ∨ x = .ret) {t b g m : Nat} {l : List Lb} {rest : List AV} (hm : m = l.length) (hf : s.fr t = some (.ref b g 0 3 m))
    (hb : r7 s.heap b g = some (cLs l ++ rest)) (hn : h.length ≤ b) (ht : s.heap.take h.length = h) (hle : h.length ≤ s.heap.length) (hk : K (aLs l)) : iG P [.tmp t] h K x s := by
  have key : W3 P [.tmp t] h K s := by
    unfold W3
    simp only [P6, P5, I2, hf, F8, E5, yo hm hb hn, Option.map_some]
    exact ⟨ht, hle, hk⟩
  rcases hx with rfl | rfl <;> exact key
def Z2 (x : Lb) (l : List Lb) : List Lb × Bool := l.foldl (fun a y => let d := a.2 || decide (y = x); if d = false ∧ ltL x y then (a.1 ++ [x, y], true) else (a.1 ++ [y], d)) ([], false)
theorem uR {x : Lb} {l : List Lb} {j : Nat} {y : Lb} (h : l[j]? = some y) : Z2 x (l.take (j + 1)) = if ((Z2 x (l.take j)).2 || decide (y = x)) = false ∧ ltL x y then ((Z2 x (l.take j)).1 ++ [x, y], true) else ((Z2 x (l.take j)).1 ++ [y], (Z2 x (l.take j)).2 || decide (y = x)) := by
  conv => lhs; unfold Z2
  rw [List.take_add_one, h, List.foldl_append]; rfl
theorem yp (x : Lb) : ∀ l : List Lb, (Z2 x l).1.length ≤ 2 * l.length := by
  intro l
  have : ∀ (l : List Lb) (a : List Lb × Bool), (l.foldl (fun a y => let d := a.2 || decide (y = x); if d = false ∧ ltL x y then (a.1 ++ [x, y], true) else (a.1 ++ [y], d)) a).1.length ≤ a.1.length + 2 * l.length := by
    intro l
    induction l with
    | nil => intro a; simp
    | cons y l ih =>
      intro a
      rw [List.foldl_cons]
      refine Nat.le_trans (ih _) ?_
      simp only
      split <;> simp <;> omega
  simpa [Z2] using this l ([], false)
theorem kL (x : Lb) : ∀ (l : List Lb) (acc : List Lb), l.Pairwise ltL → (l.foldl (fun a y => let d := a.2 || decide (y = x); if d = false ∧ ltL x y then (a.1 ++ [x, y], true) else (a.1 ++ [y], d)) (acc, true)).1 = acc ++ l ∧ (l.foldl (fun a y => let d := a.2 || decide (y = x); if d = false ∧ ltL x y then (a.1 ++ [x, y], true) else (a.1 ++ [y], d)) (acc, true)).2 = true
  | [], acc, _ => by simp
  | y :: l, acc, h => by
    have := kL x l (acc ++ [y]) (List.pairwise_cons.mp h).2
    rw [List.foldl_cons]
    simp only [Bool.true_or, Bool.true_eq_false, false_and, if_false]
    simpa using this
theorem mF (x : Lb) : ∀ (l : List Lb) (acc : List Lb), l.Pairwise ltL → (let r := l.foldl (fun a y => let d := a.2 || decide (y = x); if d = false ∧ ltL x y then (a.1 ++ [x, y], true) else (a.1 ++ [y], d)) (acc, false); if r.2 = true then r.1 else r.1 ++ [x]) = acc ++ O5 x l
  | [], acc, _ => by simp [O5]
  | y :: l, acc, h => by
    rw [List.foldl_cons]
    simp only [Bool.false_or]
    have hl := (List.pairwise_cons.mp h).2
    by_cases e : y = x
    · subst e
      obtain ⟨q1, q2⟩ := kL y l (acc ++ [y]) hl
      have hn : ¬ ltL y y := ti y
      simp only [decide_true, Bool.true_eq_false, false_and, if_false]
      rw [q1, q2]
      unfold O5
      simp [hn]
    · have de : decide (y = x) = false := decide_eq_false e
      by_cases hx : ltL x y
      · obtain ⟨q1, q2⟩ := kL x l (acc ++ [x, y]) hl
        simp only [de, hx, and_self, if_true]
        rw [q1, q2]
        unfold O5
        simp [hx]
      · have ih := mF x l (acc ++ [y]) hl
        simp only [de, hx, and_false, if_false]
        have e2 : O5 x (y :: l) = y :: O5 x l := by
          rw [O5, if_neg hx, if_neg (fun e' => e e'.symm)]
        have e3 : acc ++ y :: O5 x l = acc ++ [y] ++ O5 x l := by simp
        rw [e2, e3]
        exact ih
theorem yq {x : Lb} {l : List Lb} (h : l.Pairwise ltL) : O5 x l = if (Z2 x l).2 = true then (Z2 x l).1 else (Z2 x l).1 ++ [x] := by
  have := mF x l [] h
  simp only [List.nil_append] at this
  exact this.symm
theorem qr {x : Lb} {l : List Lb} {j : Nat} (hl : l.length ≤ 5000000) : (Z2 x (l.take j)).1.length + 2 ≤ 15000000 := by
  have := yp x (l.take j)
  rw [List.length_take] at this
  omega
theorem O1 (l : List Lb) (x : Lb) : cLs (l ++ [x]) = cLs l ++ [.i x.1, .i x.2.1, .i x.2.2] := by rw [fv]; rfl
theorem mG (l : List Lb) (x y : Lb) : cLs (l ++ [x, y]) = cLs l ++ [.i x.1, .i x.2.1, .i x.2.2, .i y.1, .i y.2.1, .i y.2.2] := by rw [fv]; rfl
theorem uT {x : Lb} {l : List Lb} (hs : l.Pairwise ltL) (hl : l.length ≤ 5000000) (h : Heap) :
    d5 Tryz.prog G 37 [aLs l, aL x] h (fun r h' => r = aLs (O5 x l) ∧ h' = h) := by
  have hput := yq (x := x) hs
  refine c8 (rl := []) d9 Tryz.func37 rfl (rs := [.tmp 4]) rfl Tryz.ntmps37 (by simp) ?_
  refine b6 fun K hK => ?_
  repeat' (first | (apply b8; (try simp only [NB]); ((repeat ((fail_if_success (refine hK _ ?_)); clear hK K)); refine hK _ ?_; clear hK K)) | (refine b9 fun K1 q7 => ?_; simp only [S1, simprocAttr, dc]; refine q7 _ ?_; clear q7 K1) | (apply b5; try simp only [NB, simprocAttr]; (try ((repeat ((fail_if_success (refine hK _ ?_)); clear hK K)); refine hK _ ?_; clear hK K))))
  refine b6 fun K hK => ?_
  repeat' (first | (apply b8; (try simp only [NB]); ((repeat ((fail_if_success (refine hK _ ?_)); clear hK K)); refine hK _ ?_; clear hK K)) | (refine b9 fun K1 q7 => ?_; simp only [S1, simprocAttr, dc]; refine q7 _ ?_; clear q7 K1) | (apply b5; try simp only [NB, simprocAttr]; (try ((repeat ((fail_if_success (refine hK _ ?_)); clear hK K)); refine hK _ ?_; clear hK K))))
  refine b6 fun K hK => ?_
  repeat' (first | (apply b8; (try simp only [NB]); ((repeat ((fail_if_success (refine hK _ ?_)); clear hK K)); refine hK _ ?_; clear hK K)) | (refine b9 fun K1 q7 => ?_; simp only [S1, simprocAttr, dc]; refine q7 _ ?_; clear q7 K1) | (apply b5; try simp only [NB, simprocAttr]; (try ((repeat ((fail_if_success (refine hK _ ?_)); clear hK K)); refine hK _ ?_; clear hK K))))
  repeat' (first | ((repeat ((fail_if_success (refine hK _ ?_)); clear hK K)); refine hK _ ?_; clear hK K) | (refine b9 fun K1 q7 => ?_; simp only [S1, simprocAttr, dc, List.length_map]; refine q7 _ ?_; clear q7 K1) | refine b6 fun K hK => ?_ | ((first | apply b8 | apply b5 | apply c7); try simp only [NB, simprocAttr]))
  refine B5 l.length 41 (fun j => [(11, .i j), (10, .i l.length), (9, aLs l), (6, .b (Z2 x (l.take j)).2), (5, .ref (h.length + 1) (Z2 x (l.take j)).1.length 0 3 (Z2 x (l.take j)).1.length), (3, .ptr h.length 0 0)])
    (fun j => [some ⟨0, [.i x.1, .i x.2.1, .i x.2.2]⟩, some ⟨(Z2 x (l.take j)).1.length, cLs (Z2 x (l.take j)).1⟩]) (fun j => True) ?_ trivial fun j hj hp K hK => ?_
  · refine (o5.adopt 5 3 rfl).trans (Sub.ghost ⟨rfl, ⟨[], by simp [cLs, Z2]⟩, ?_, ⟨trivial, trivial, trivial, trivial⟩, trivial, trivial⟩)
    simp only [G7, r9, C9, frL, List.length_cons, List.length_nil]
    simp [Z2]
  rcases Nat.lt_or_ge j l.length with hlt | hge
  · obtain ⟨y, hy⟩ : ∃ y, l[j]? = some y := ⟨_, List.getElem?_eq_getElem hlt⟩
    have hxr := lh hy
    have es := uR (x := x) hy
    have hmx := qr (x := x) (j := j) hl
    have jl : (j : Int) < (l.length : Int) := by omega
    have j0 : (0 : Int) ≤ (j : Int) := by omega
    have hnx : IntKind.i64.wrap ((j : Int) + 1) = ((j + 1 : Nat) : Int) := by rw [IntWalk.i64_in _ (by omega)]; omega
    have heq := uN y x
    have heq : y7 true [.p (.int .i64 y.1), .p (.int .i64 y.2.1), .p (.int .i64 y.2.2)] [.p (.int .i64 x.1), .p (.int .i64 x.2.1), .p (.int .i64 x.2.2)] = some (decide (y = x)) := heq
    have hless := fun h => qn (G := G) x y h
    generalize Z2 x (l.take j) = od at *
    obtain ⟨o, d⟩ := od
    simp only at es hmx ⊢
    have hol := U3 o
    have hm1 : o.length + 1 ≤ j6 := by unfold j6; omega
    have hm2 : o.length + 1 + 1 ≤ j6 := by unfold j6; omega
    have hfl : (cLs o ++ [AV.i x.1, AV.i x.2.1, AV.i x.2.2]).length = (o.length + 1) * 3 := by rw [← O1, U3, List.length_append]; rfl
    by_cases hyx : y = x
    · rw [decide_eq_true hyx] at heq es
      simp only [Bool.or_true, Bool.true_eq_false, false_and, if_false] at es
      repeat' (first | ((repeat ((fail_if_success (refine hK _ ?_)); clear hK K)); refine hK _ ?_; clear hK K) | ((first | refine b9 fun K1 q7 => ?_ | refine b7 fun A B hA hB => ?_); simp only [S1, simprocAttr, dc, jl, j0, hnx, hxr, heq, hol, hm1, eqA, W28, O0, List.length_map, Nat.mul_one]; first | refine q7 _ ?_; clear q7 K1 | ((first | refine hA ?_ | refine hB ?_); clear hA hB A B)) | refine b6 fun K hK => ?_ | ((first | apply b8 | apply b5 | apply c7 | apply c9); try simp only [NB, simprocAttr]))
      all_goals refine ⟨hlt, trivial, ?_⟩
      all_goals simp only [es, O1, List.length_append, List.length_cons, List.length_nil, Nat.zero_add]
      all_goals refine ⟨rfl, ⟨_, rfl⟩, ?_, ⟨trivial, trivial, trivial, trivial⟩, (by rw [← O1]; exact U4 _ _), trivial⟩
      all_goals simp only [S1, simprocAttr, KNB] <;> (try and_intros) <;> (try assumption) <;> (try trivial) <;> (try omega)
    rw [decide_eq_false hyx] at heq es
    rw [Bool.or_false] at es
    by_cases hd : d = true
    · subst hd
      simp only [Bool.true_eq_false, false_and, if_false] at es
      repeat' (first | ((repeat ((fail_if_success (refine hK _ ?_)); clear hK K)); refine hK _ ?_; clear hK K) | ((first | refine b9 fun K1 q7 => ?_ | refine b7 fun A B hA hB => ?_); simp only [S1, simprocAttr, dc, jl, j0, hnx, hxr, heq, hol, hm1, eqA, W28, O0, List.length_map, Nat.mul_one]; first | refine q7 _ ?_; clear q7 K1 | ((first | refine hA ?_ | refine hB ?_); clear hA hB A B)) | refine b6 fun K hK => ?_ | ((first | apply b8 | apply b5 | apply c7 | apply c9); try simp only [NB, simprocAttr]))
      all_goals refine ⟨hlt, trivial, ?_⟩
      all_goals simp only [es, O1, List.length_append, List.length_cons, List.length_nil, Nat.zero_add]
      all_goals refine ⟨rfl, ⟨_, rfl⟩, ?_, ⟨trivial, trivial, trivial, trivial⟩, (by rw [← O1]; exact U4 _ _), trivial⟩
      all_goals simp only [S1, simprocAttr, KNB] <;> (try and_intros) <;> (try assumption) <;> (try trivial) <;> (try omega)
    obtain rfl : d = false := by simpa using hd
    by_cases hx : ltL x y
    · rw [decide_eq_true hx] at hless
      simp only [hx, and_self, if_true] at es
      repeat' (first | ((repeat ((fail_if_success (refine hK _ ?_)); clear hK K)); refine hK _ ?_; clear hK K) | ((first | refine b9 fun K1 q7 => ?_ | refine b7 fun A B hA hB => ?_); simp only [S1, simprocAttr, dc, jl, j0, hnx, hxr, heq, hol, hm1, hm2, hfl, eqA, W28, O0, List.length_map, Nat.mul_one]; first | refine q7 _ ?_; clear q7 K1 | ((first | refine hA ?_ | refine hB ?_); clear hA hB A B) | (apply d4 E26; exact (hless _); refine q7 _ ?_; clear q7 K1)) | refine b6 fun K hK => ?_ | ((first | apply b8 | apply b5 | apply c7 | apply c9); try simp only [NB, simprocAttr]))
      all_goals refine ⟨hlt, trivial, ?_⟩
      all_goals simp only [es, mG, List.length_append, List.length_cons, List.length_nil, Nat.zero_add, Nat.reduceAdd]
      all_goals refine ⟨rfl, ⟨_, rfl⟩, ?_, ⟨trivial, trivial, trivial, trivial⟩, (by rw [← mG]; exact U4 _ _), trivial⟩
      all_goals simp only [S1, simprocAttr, KNB] <;> (try and_intros) <;> (try assumption) <;> (try trivial) <;> (try omega)
    · rw [decide_eq_false hx] at hless
      simp only [hx, and_false, if_false] at es
      repeat' (first | ((repeat ((fail_if_success (refine hK _ ?_)); clear hK K)); refine hK _ ?_; clear hK K) | ((first | refine b9 fun K1 q7 => ?_ | refine b7 fun A B hA hB => ?_); simp only [S1, simprocAttr, dc, jl, j0, hnx, hxr, heq, hol, hm1, eqA, W28, O0, List.length_map, Nat.mul_one]; first | refine q7 _ ?_; clear q7 K1 | ((first | refine hA ?_ | refine hB ?_); clear hA hB A B) | (apply d4 E26; exact (hless _); refine q7 _ ?_; clear q7 K1)) | refine b6 fun K hK => ?_ | ((first | apply b8 | apply b5 | apply c7 | apply c9); try simp only [NB, simprocAttr]))
      all_goals refine ⟨hlt, trivial, ?_⟩
      all_goals simp only [es, O1, List.length_append, List.length_cons, List.length_nil, Nat.zero_add]
      all_goals refine ⟨rfl, ⟨_, rfl⟩, ?_, ⟨trivial, trivial, trivial, trivial⟩, (by rw [← O1]; exact U4 _ _), trivial⟩
      all_goals simp only [S1, simprocAttr, KNB] <;> (try and_intros) <;> (try assumption) <;> (try trivial) <;> (try omega)
  · obtain rfl : j = l.length := by omega
    have hmx := qr (x := x) (j := l.length) hl
    rw [List.take_length] at hmx ⊢
    generalize Z2 x l = od at *
    obtain ⟨o, d⟩ := od
    simp only at hput hmx ⊢
    have hol := U3 o
    have hm1 : o.length + 1 ≤ j6 := by unfold j6; omega
    cases d with
    | true =>
      rw [if_pos rfl] at hput
      repeat' (first | ((repeat ((fail_if_success (refine hK _ ?_)); clear hK K)); refine hK _ ?_; clear hK K) | ((first | refine b9 fun K1 q7 => ?_ | refine b7 fun A B hA hB => ?_); simp only [S1, simprocAttr, dc, Int.lt_irrefl]; first | refine q7 _ ?_; clear q7 K1 | (refine hB ?_; clear hA hB A B)) | refine b6 fun K hK => ?_ | ((first | apply b8 | apply b5 | apply f9 | apply c9 | apply d3); try simp only [NB, simprocAttr]))
      all_goals exact kK (rest := []) (.inr rfl) rfl rfl (by simp only [r7, m9, List.getElem?_cons_succ, List.getElem?_cons_zero, if_true, List.append_nil]) (by omega) (by simp) (by simp) (by rw [hput])
    | false =>
      rw [if_neg (by decide)] at hput
      repeat' (first | ((repeat ((fail_if_success (refine hK _ ?_)); clear hK K)); refine hK _ ?_; clear hK K) | ((first | refine b9 fun K1 q7 => ?_ | refine b7 fun A B hA hB => ?_); simp only [S1, simprocAttr, dc, Int.lt_irrefl, hol, hm1, List.length_map, Nat.mul_one]; first | refine q7 _ ?_; clear q7 K1 | ((first | refine hA ?_ | refine hB ?_); clear hA hB A B)) | refine b6 fun K hK => ?_ | ((first | apply b8 | apply b5 | apply f9 | apply d3); try simp only [NB, simprocAttr]))
      all_goals exact kK (l := o ++ [x]) (rest := []) (.inr rfl) (by rw [List.length_append]; rfl) rfl (by simp only [r7, m9, List.getElem?_cons_succ, List.getElem?_cons_zero, if_true, List.append_nil, O1]) (by omega) (by simp) (by simp) (by rw [hput])
end
section
def W2 := And.intro T2 (And.intro T3 (And.intro T4 (And.intro T25 (And.intro T26 (And.intro T28 (And.intro T34 (And.intro T41 (And.intro T44 (And.intro T57 (And.intro T58 (And.intro T62 (And.intro T65 (And.intro T89 T92)))))))))))))
attribute [local irreducible] awp n8 k3 l8 o4 m8
def K6 (sl : List Sp) : List Lb := (sl.filter fun y => y.lk ≠ 0).map dM
noncomputable def D7 (ns : List Nd) (fl : List Fl) (l : List Sv) : List Lb := l.flatMap fun s => K6 (p8 ns fl s)
theorem kM {sl : List Sp} {j : Nat} {y : Sp} (h : sl[j]? = some y) : K6 (sl.take (j + 1)) = K6 (sl.take j) ++ if y.lk = 0 then [] else [dM y] := by
  unfold K6
  rw [List.take_add_one, h, List.filter_append, List.map_append]
  congr 1
  by_cases hc : y.lk = 0 <;> simp [hc]
theorem kN (sl : List Sp) (j : Nat) : (K6 (sl.take j)).length ≤ sl.length := by
  unfold K6
  rw [List.length_map]
  exact Nat.le_trans (List.length_filter_le _ _) (by rw [List.length_take]; omega)
theorem kO {ns : List Nd} {fl : List Fl} {l : List Sv} {j : Nat} {s : Sv} (h : l[j]? = some s) : D7 ns fl (l.take (j + 1)) = D7 ns fl (l.take j) ++ K6 (p8 ns fl s) := by
  unfold D7
  rw [List.take_add_one, h, List.flatMap_append]; simp
theorem cl (ns : List Nd) (fl : List Fl) : ∀ l : List Sv, (D7 ns fl l).length ≤ l.length * 2500
  | [] => by simp [D7]
  | s :: l => by
    have h1 := cl ns fl l
    have h2 := kN (p8 ns fl s) (p8 ns fl s).length
    rw [List.take_length] at h2
    have h3 := M3 (ns := ns) (fl := fl) (S := s)
    unfold D7 at h1 ⊢
    rw [List.flatMap_cons, List.length_append, List.length_cons]; omega
theorem sr (l : List Lb) (x : Lb) : N0 (l ++ [x]) = O5 x (N0 l) := by unfold N0; rw [List.foldl_append]; rfl
theorem qs (x : Lb) : ∀ l : List Lb, (O5 x l).length ≤ l.length + 1
  | [] => by simp [O5]
  | y :: l => by
    have := qs x l
    unfold O5
    split
    · simp
    · split <;> simp <;> omega
theorem mH (l : List Lb) : (N0 l).length ≤ l.length := by
  have key : ∀ (l acc : List Lb), (l.foldl (fun a x => O5 x a) acc).length ≤ acc.length + l.length := by
    intro l
    induction l with
    | nil => intro acc; simp
    | cons x l ih =>
      intro acc
      have := ih (O5 x acc)
      have := qs x acc
      rw [List.foldl_cons, List.length_cons]; omega
  simpa [N0] using key l []
theorem oc (l : List Lb) : (N0 l).Pairwise ltL := (gj l [] List.Pairwise.nil).1
theorem lm {ns : List Nd} {fl : List Fl} (nk : NetOk ns fl) {l : List Sv} (h49 : B7 l) (hl : l.length ≤ 1500) (h : Heap) :
    d5 Tryz.prog gW 17 [G9 ns fl, B6 l] h (fun r h' => r = aLs (N0 (D7 ns fl l)) ∧ h' = h) := by
  have hzl : (zS.map AV.i).length = 49 := by rw [List.length_map]; rfl
  have hem : (zS.map AV.i).isEmpty = false := rfl
  refine c8 (rl := []) d9 Tryz.func17 rfl (rs := [.tmp 4]) rfl Tryz.ntmps17 (by simp) ?_
  repeat' (first | ((repeat ((fail_if_success (refine hK _ ?_)); clear hK K)); refine hK _ ?_; clear hK K) | (refine b9 fun K1 q7 => ?_; simp only [S1, simprocAttr, W2, List.length_map]; refine q7 _ ?_; clear q7 K1) | refine b6 fun K hK => ?_ | ((first | apply b8 | apply b5 | apply c7); try simp only [NB, simprocAttr]))
  refine B5 l.length 35 (fun j => [(12, .i j), (11, .i l.length), (10, B6 l), (5, aLs (N0 (D7 ns fl (l.take j)))), (2, .ptr h.length 0 0)])
    (fun j => [some ⟨0, w8 ns fl⟩]) (fun j => True) ?_ trivial fun j hj hp K hK => ?_
  · have hsz : ∀ A : Option Blk, ((h ++ [A]) ++ [some (⟨0, []⟩ : Blk)]).set (h ++ [A]).length none = h ++ ([A] ++ [none]) := fun A => by rw [List.set_append_right _ _ (Nat.le_refl _), Nat.sub_self, List.append_assoc]; rfl
    refine (o5.adopt 5 3 rfl).trans ((o5.freeze (k := 5) (b := (h ++ [some (⟨0, w8 ns fl⟩ : Blk)]).length) (sz := 3) (n := 0) (rows := []) (bk := ⟨0, []⟩) (rest := []) rfl (List.getElem?_concat_length ..) rfl (fun r hr => by cases hr) (by omega) rfl).trans (Sub.ghost ⟨rfl, ⟨[none], hsz _⟩, ?_, ⟨trivial, trivial, trivial⟩, trivial⟩))
    simp only [G7, r9, C9, frL, List.length_cons, List.length_nil]
    simp [N0, D7]
  rcases Nat.lt_or_ge j l.length with hlt | hge
  · obtain ⟨s, hx⟩ : ∃ k, l[j]? = some k := ⟨_, List.getElem?_eq_getElem hlt⟩
    have hs : s.length = 49 := h49 s (List.mem_of_getElem? hx)
    have hxr : (l.map eSt)[j]? = some (s.map (PV.int .i64)) := by rw [List.getElem?_map, hx]; rfl
    have jl : (j : Int) < (l.length : Int) := by omega
    have j0 : (0 : Int) ≤ (j : Int) := by omega
    have hnx : IntKind.i64.wrap ((j : Int) + 1) = ((j + 1 : Nat) : Int) := by rw [IntWalk.i64_in _ (by omega)]; omega
    have s49 : (s.map AV.i).take 49 = s.map AV.i := List.take_of_length_le (by rw [List.length_map, hs]; exact Nat.le_refl _)
    have hso : t8 (zS.map AV.i) 0 (s.map AV.i) = s.map AV.i := l9 (n := 49) (by rw [List.length_map, hs]) _ hzl
    have hsm := t7 s
    have hne := J1 hs
    have hst := fun h => fa nk hs h
    have hto := Q1 (ns := ns) (fl := fl) hs
    have hln := M3 (ns := ns) (fl := fl) (S := s)
    have es := kO (ns := ns) (fl := fl) hx
    have hol := cl ns fl (l.take j)
    rw [List.length_take] at hol
    have hol : (D7 ns fl (l.take j)).length ≤ 3750000 := by omega
    generalize D7 ns fl (l.take j) = o at *
    generalize p8 ns fl s = sl at *
    repeat' (first | ((repeat ((fail_if_success (refine hK _ ?_)); clear hK K)); refine hK _ ?_; clear hK K) | ((first | refine b9 fun K1 q7 => ?_ | refine b7 fun A B hA hB => ?_); simp only [S1, simprocAttr, W2, jl, j0, hnx, hxr, hs, hzl, hem, s49, hso, hsm, hne, TRz, i8, h9, j3, d7, d8, e9, List.length_map]; first | refine q7 _ ?_; clear q7 K1 | (refine hA ?_; clear hA hB A B) | (apply d4 E24; exact (hst _); refine q7 _ ?_; clear q7 K1)) | refine b6 fun K hK => ?_ | ((first | apply b8 | apply b5 | apply c7 | apply c9); try simp only [NB, simprocAttr]))
    refine o8 sl.length 35 (fun i => [(20, .i i), (19, .i sl.length), (18, rR sl), (12, .i j), (11, .i l.length), (10, B6 l), (5, aLs (N0 (o ++ K6 (sl.take i)))), (2, .ptr h.length 0 0)])
      (fun i => [some ⟨0, w8 ns fl⟩]) (fun i => True) ?_ trivial fun i hi hp2 K hK => ?_
    · refine ⟨rfl, ⟨_, rfl⟩, ?_, ⟨trivial, trivial, trivial⟩, trivial⟩
      simp only [G7, r9, C9, frL, List.length_cons, List.length_nil]
      simp [K6]
    rcases Nat.lt_or_ge i sl.length with hlt2 | hge2
    · obtain ⟨y, hy⟩ : ∃ y, sl[i]? = some y := ⟨_, List.getElem?_eq_getElem hlt2⟩
      have hxy : (sl.map eSp)[i]? = some ((cSp y).map (PV.int .i64)) := by rw [List.getElem?_map, hy]; rfl
      have hyl := hto y (List.mem_of_getElem? hy)
      have e2 := kM hy
      have hle := kN sl i
      have jl2 : (i : Int) < (sl.length : Int) := by omega
      have j02 : (0 : Int) ≤ (i : Int) := by omega
      have hnx2 : IntKind.i64.wrap ((i : Int) + 1) = ((i + 1 : Nat) : Int) := by rw [IntWalk.i64_in _ (by omega)]; omega
      have y54 : (cSp y).length = 54 := E3 hyl
      have ymm := (t7 (cSp y)).trans (nB y)
      have yov := D2 hyl
      have yt49 : (y.to.map AV.i).take 49 = y.to.map AV.i := List.take_of_length_le (by rw [List.length_map, hyl]; exact Nat.le_refl _)
      have hput := fun h => uT (G := gW) (x := dM y) (oc (o ++ K6 (sl.take i))) (by have := mH (o ++ K6 (sl.take i)); rw [List.length_append] at this; omega) h
      by_cases hc : y.lk = 0
      · have f0 : (y.lk != 0) = false := by simp [hc]
        rw [if_pos hc, List.append_nil] at e2
        repeat' (first | ((repeat ((fail_if_success (refine hK _ ?_)); clear hK K)); refine hK _ ?_; clear hK K) | ((first | refine b9 fun K1 q7 => ?_ | refine b7 fun A B hA hB => ?_); simp only [S1, simprocAttr, W2, jl2, j02, hnx2, hxy, hyl, y54, ymm, yov, yt49, f0, d7, d8, e9, List.length_map]; first | refine q7 _ ?_; clear q7 K1 | ((first | refine hA ?_ | refine hB ?_); clear hA hB A B)) | refine b6 fun K hK => ?_ | ((first | apply b8 | apply b5 | apply c7 | apply c9); try simp only [NB, simprocAttr]))
        all_goals refine ⟨hlt2, trivial, ?_⟩
        all_goals simp only [e2]
        all_goals (refine ⟨rfl, (by first | exact ⟨_, rfl⟩ | exact ⟨[], by simp⟩), ?_, ?_⟩ <;> simp only [S1, simprocAttr, KNB] <;> (try and_intros) <;> (try assumption) <;> (try trivial) <;> (try omega))
      · have f0 : (y.lk != 0) = true := by simp [hc]
        rw [if_neg hc] at e2
        rw [← sr, List.append_assoc, ← e2] at hput
        repeat' (first | ((repeat ((fail_if_success (refine hK _ ?_)); clear hK K)); refine hK _ ?_; clear hK K) | ((first | refine b9 fun K1 q7 => ?_ | refine b7 fun A B hA hB => ?_); simp only [S1, simprocAttr, W2, jl2, j02, hnx2, hxy, hyl, y54, ymm, yov, yt49, f0, d7, d8, e9, List.length_map]; first | refine q7 _ ?_; clear q7 K1 | (refine hA ?_; clear hA hB A B) | (apply d4 E37; exact (hput _); refine q7 _ ?_; clear q7 K1)) | refine b6 fun K hK => ?_ | ((first | apply b8 | apply b5 | apply c7 | apply c9); try simp only [NB, simprocAttr]))
        all_goals refine ⟨hlt2, trivial, ?_⟩
        all_goals (refine ⟨rfl, (by first | exact ⟨_, rfl⟩ | exact ⟨[], by simp⟩), ?_, ?_⟩ <;> simp only [S1, simprocAttr, KNB] <;> (try and_intros) <;> (try assumption) <;> (try trivial) <;> (try omega))
    · obtain rfl : i = sl.length := by omega
      rw [List.take_length, ← es]
      repeat' (first | ((repeat ((fail_if_success (refine hK _ ?_)); clear hK K)); refine hK _ ?_; clear hK K) | ((first | refine b9 fun K1 q7 => ?_ | refine b7 fun A B hA hB => ?_); simp only [S1, simprocAttr, W2, hnx, Int.lt_irrefl]; first | refine q7 _ ?_; clear q7 K1 | (refine hB ?_; clear hA hB A B)) | refine b6 fun K hK => ?_ | ((first | apply b8 | apply b5 | apply f9); try simp only [NB, simprocAttr]))
      all_goals refine ⟨hlt, trivial, ?_⟩
      all_goals (refine ⟨rfl, (by first | exact ⟨_, rfl⟩ | exact ⟨[], by simp⟩), ?_, ?_⟩ <;> simp only [S1, simprocAttr, KNB] <;> (try and_intros) <;> (try assumption) <;> (try trivial) <;> (try omega))
  · obtain rfl : j = l.length := by omega
    rw [List.take_length]
    repeat' (first | ((repeat ((fail_if_success (refine hK _ ?_)); clear hK K)); refine hK _ ?_; clear hK K) | ((first | refine b9 fun K1 q7 => ?_ | refine b7 fun A B hA hB => ?_); simp only [S1, simprocAttr, W2, Int.lt_irrefl]; first | refine q7 _ ?_; clear q7 K1 | (refine hB ?_; clear hA hB A B)) | refine b6 fun K hK => ?_ | ((first | apply b8 | apply b5 | apply f9 | apply d3); try simp only [NB, simprocAttr]))
    all_goals simp only [S1, simprocAttr, ENB, W2]
theorem qu {G : Nat → Option (List PV)} (a b : List Lb) (ha : a.length ≤ 5000000) (hb : b.length ≤ 5000000) (h : Heap) :
    d5 Tryz.prog G 18 [aLs a, aLs b] h (fun r h' => r = .b (decide (a = b)) ∧ h' = h) := by
  refine c8 (rl := []) d9 Tryz.func18 rfl (rs := [.tmp 4]) rfl Tryz.ntmps18 (by simp) ?_
  repeat' (first | ((repeat ((fail_if_success (refine hK _ ?_)); clear hK K)); refine hK _ ?_; clear hK K) | (refine b9 fun K1 q7 => ?_; simp only [S1, simprocAttr, W2, List.length_map]; refine q7 _ ?_; clear q7 K1) | refine b6 fun K hK => ?_ | ((first | apply b8 | apply b5 | apply c7); try simp only [NB, simprocAttr]))
  refine o8 a.length 32 (fun j => [(8, .i j), (7, .i a.length), (0, aLs a), (1, aLs b)])
    (fun j => []) (fun j => a.take j = b.take j) ?_ rfl fun j hj hp K hK => ?_
  · (refine ⟨rfl, (by first | exact ⟨_, rfl⟩ | exact ⟨[], by simp⟩), ?_, ?_⟩ <;> simp only [S1, simprocAttr, KNB] <;> (try and_intros) <;> (try assumption) <;> (try trivial) <;> (try omega))
  rcases Nat.lt_or_ge j a.length with hlt | hge
  · obtain ⟨x, hx⟩ : ∃ k, a[j]? = some k := ⟨_, List.getElem?_eq_getElem hlt⟩
    have hxr := lh hx
    have jl : (j : Int) < (a.length : Int) := by omega
    have j0 : (0 : Int) ≤ (j : Int) := by omega
    have hnx : IntKind.i64.wrap ((j : Int) + 1) = ((j + 1 : Nat) : Int) := by rw [IntWalk.i64_in _ (by omega)]; omega
    rcases Nat.lt_or_ge j b.length with hlb | hgb
    case inr =>
      have jb : ¬ (j : Int) < (b.length : Int) := by omega
      have hne : decide (a = b) = false := decide_eq_false (fun e => by subst e; omega)
      rw [hne]
      have jb2 : decide ((b.length : Int) ≤ (j : Int)) = true := decide_eq_true (by omega)
      repeat' (first | ((repeat ((fail_if_success (refine hK _ ?_)); clear hK K)); refine hK _ ?_; clear hK K) | ((first | refine b9 fun K1 q7 => ?_ | refine j8 fun K1 q7 => ?_ | refine b7 fun A B hA hB => ?_); simp only [S1, simprocAttr, W2, jl, j0, jb2, List.length_map]; first | refine q7 _ ?_; clear q7 K1 | (refine hA ?_; clear hA hB A B)) | refine b6 fun K hK => ?_ | ((first | apply b8 | apply i5 | apply b5 | refine i6 ?_ | apply c7 | apply c9 | apply d3); try simp only [NB, simprocAttr]))
      all_goals simp only [S1, simprocAttr, ENB, W2]
    obtain ⟨y, hy⟩ : ∃ k, b[j]? = some k := ⟨_, List.getElem?_eq_getElem hlb⟩
    have hyr := lh hy
    have jb : (j : Int) < (b.length : Int) := by omega
    have jb2 : decide ((b.length : Int) ≤ (j : Int)) = false := decide_eq_false (by omega)
    have heq := uN x y
    have heq : y7 true [.p (.int .i64 x.1), .p (.int .i64 x.2.1), .p (.int .i64 x.2.2)] [.p (.int .i64 y.1), .p (.int .i64 y.2.1), .p (.int .i64 y.2.2)] = some (decide (x = y)) := heq
    by_cases hxy : x = y
    · rw [decide_eq_true hxy] at heq
      repeat' (first | ((repeat ((fail_if_success (refine hK _ ?_)); clear hK K)); refine hK _ ?_; clear hK K) | ((first | refine b9 fun K1 q7 => ?_ | refine j8 fun K1 q7 => ?_ | refine b7 fun A B hA hB => ?_); simp only [S1, simprocAttr, W2, jl, j0, jb, jb2, hnx, hxr, hyr, heq, eqA, W28, List.length_map]; first | refine q7 _ ?_; clear q7 K1 | ((first | refine hA ?_ | refine hB ?_); clear hA hB A B)) | refine b6 fun K hK => ?_ | ((first | apply b8 | apply i5 | apply b5 | refine i6 ?_ | apply c7 | apply c9); try simp only [NB, simprocAttr]))
      all_goals refine ⟨hlt, by rw [List.take_add_one, List.take_add_one, hp, hx, hy, hxy], ?_⟩
      all_goals (refine ⟨rfl, (by first | exact ⟨_, rfl⟩ | exact ⟨[], by simp⟩), ?_, ?_⟩ <;> simp only [S1, simprocAttr, KNB] <;> (try and_intros) <;> (try assumption) <;> (try trivial) <;> (try omega))
    · rw [decide_eq_false hxy] at heq
      have hne : decide (a = b) = false := decide_eq_false (fun e => by subst e; rw [hx] at hy; cases hy; exact hxy rfl)
      rw [hne]
      repeat' (first | ((repeat ((fail_if_success (refine hK _ ?_)); clear hK K)); refine hK _ ?_; clear hK K) | ((first | refine b9 fun K1 q7 => ?_ | refine j8 fun K1 q7 => ?_ | refine b7 fun A B hA hB => ?_); simp only [S1, simprocAttr, W2, jl, j0, jb, jb2, hnx, hxr, hyr, heq, eqA, W28, List.length_map]; first | refine q7 _ ?_; clear q7 K1 | (refine hA ?_; clear hA hB A B)) | refine b6 fun K hK => ?_ | ((first | apply b8 | apply i5 | apply b5 | refine i6 ?_ | apply c7 | apply c9 | apply d3); try simp only [NB, simprocAttr]))
      all_goals simp only [S1, simprocAttr, ENB, W2]
  · obtain rfl : j = a.length := by omega
    rw [List.take_length] at hp
    have he : ((a.length : Int) == (b.length : Int)) = decide (a = b) := by
      by_cases e : a.length = b.length
      · rw [e, List.take_length] at hp
        rw [decide_eq_true hp, hp]; simp
      · rw [decide_eq_false (fun e' => e (by rw [e']))]
        simp; omega
    repeat' (first | ((repeat ((fail_if_success (refine hK _ ?_)); clear hK K)); refine hK _ ?_; clear hK K) | ((first | refine b9 fun K1 q7 => ?_ | refine b7 fun A B hA hB => ?_); simp only [S1, simprocAttr, W2, Int.lt_irrefl, he, List.length_map]; first | refine q7 _ ?_; clear q7 K1 | (refine hB ?_; clear hA hB A B)) | refine b6 fun K hK => ?_ | ((first | apply b8 | apply b5 | apply f9 | apply d3); try simp only [NB, simprocAttr]))
    all_goals simp only [S1, simprocAttr, ENB, W2]
end
section
abbrev Sm (n : Int) : Prop := -2000 ≤ n ∧ n ≤ 2000
theorem wX (t : Tm) (v : Int → Int) (k : Int) : Sm (U1 t v k) := by
  unfold U1 D1 R7
  constructor <;> (repeat' split) <;> simp
theorem zJ {t : Tm} {v : Int → Int} (hv : ∀ i, Num (v i)) : Sm (P8 t v).2 := by
  unfold P8
  split
  · exact wX _ _ _
  · rename_i e
    obtain ⟨g1, g2, g3⟩ := af (by simpa using e)
    have := (I5 hv g1).2.2
    constructor <;> simp only <;> omega
theorem zK {t : Tm} {v : Int → Int} (hv : ∀ i, Num (v i)) : Sm (O4 t v).2 := by
  unfold O4
  split
  · exact wX _ _ _
  · rename_i e
    obtain ⟨g1, g2, g3⟩ := af (by simpa using e)
    have := (I5 hv g1).2.2
    constructor <;> simp only <;> omega
theorem oe {fl : List Fl} {v : Int → Int} (hv : ∀ i, Num (v i)) : ∀ {outs : List Int} {x : Int × Int}, chF fl v outs = some x → Sm x.2
  | [], x, h => by cases h
  | f :: r, x, h => by
    unfold chF at h
    split at h
    · exact oe hv h
    · split at h
      · exact oe hv h
      · split at h
        · cases h; exact zK hv
        · split at h
          · cases h; constructor <;> simp
          · exact oe hv h
theorem uU {fl : List Fl} {v : Int → Int} (hv : ∀ i, Num (v i)) (outs : List Int) : Sm (r8 fl v outs).2 := by
  unfold r8
  cases h : chF fl v outs with
  | none => constructor <;> simp
  | some x => exact oe hv h
def LbS (y : Sp) : Prop := Sm y.lk ∧ Sm y.ln ∧ Sm y.la
theorem O2 {S : List Int} {x : Sp} {fr to : List Int} (hx : LbS x) : ∀ y ∈ o7 S x fr to, LbS y := by
  intro y hy
  unfold o7 at hy
  split at hy
  · cases hy
  · split at hy
    · cases hy
    · rw [List.mem_singleton] at hy; subst hy; exact hx
theorem qv {ns : List Nd} {fl : List Fl} {S : List Int} {node arg c : Int} (hc : Sm c) (fr : List Int) : ∀ y ∈ s6 ns fl S node arg c fr, LbS y := by
  have h3 : LbS ⟨node, arg, 3, c, 0, S.set (44 + (ndA ns c).toNat) (qAt S (ndA ns c) - 1)⟩ := ⟨⟨by show (-2000 : Int) ≤ 3; decide, by show (3 : Int) ≤ 2000; decide⟩, hc, ⟨by show (-2000 : Int) ≤ 0; decide, by show (0 : Int) ≤ 2000; decide⟩⟩
  have h4 : LbS ⟨node, arg, 4, c, 0, S⟩ := ⟨⟨by show (-2000 : Int) ≤ 4; decide, by show (4 : Int) ≤ 2000; decide⟩, hc, ⟨by show (-2000 : Int) ≤ 0; decide, by show (0 : Int) ≤ 2000; decide⟩⟩
  intro y hy
  unfold s6 at hy
  split at hy
  · split at hy
    · cases hy
    · exact O2 h3 y hy
  · exact O2 h4 y hy
theorem cm {n a k l c : Int} {S : List Int} (h1 : Sm k) (h2 : Sm l) (h3 : Sm c) : LbS ⟨n, a, k, l, c, S⟩ := ⟨h1, h2, h3⟩
theorem Z3 {n : Int} (h : (decide (-2000 ≤ n) && decide (n ≤ 2000)) = true) : Sm n := by
  simp only [Bool.and_eq_true, decide_eq_true_eq] at h; exact h
theorem yr {ns : List Nd} {fl : List Fl} {S : List Int} (rt : Right ns fl) (hr : RestOk S) {i : Nat} {k : Nd} (hc : ns[i]? = some k) : ∀ y ∈ n7 ns fl S i k, LbS y := by
  have hi : Sm (i : Int) := by
    have := (List.getElem?_eq_some_iff.mp hc).1
    have := rt.n
    constructor <;> omega
  have hv := yc hr
  have z : Sm 0 := Z3 rfl
  intro y hy
  unfold n7 at hy
  split at hy
  · unfold eW at hy
    split at hy
    · exact O2 (cm (Z3 rfl) z z) y hy
    · exact O2 (cm z z z) y hy
  split at hy
  · unfold O8 at hy
    split at hy
    · cases hy
    split at hy
    · rcases List.mem_append.mp hy with hy | hy
      · exact O2 (cm (Z3 rfl) hi z) y hy
      · exact O2 (cm (Z3 rfl) hi (Z3 rfl)) y hy
    split at hy
    · rw [List.mem_singleton] at hy; subst hy
      exact cm (Z3 rfl) hi (zJ hv)
    · exact O2 (cm (Z3 rfl) hi z) y hy
  split at hy
  · unfold P9 at hy
    split at hy
    · obtain ⟨f, _, hy⟩ := List.mem_flatMap.mp hy
      exact O2 (cm z z z) y hy
    split at hy
    · cases hy
    split at hy
    · rw [List.mem_singleton] at hy; subst hy
      exact cm (Z3 rfl) hi (uU hv _)
    · exact O2 (cm z z z) y hy
  split at hy
  · exact O2 (cm z z z) y hy
  split at hy
  · rename_i h7
    obtain ⟨f, hf, hy⟩ := List.mem_flatMap.mp hy
    obtain ⟨c, k', e, hc', _⟩ := (rt.ar7 hc h7).2.2 f hf
    have := (List.getElem?_eq_some_iff.mp hc').1
    have := rt.n
    rw [e] at hy
    exact qv (by constructor <;> omega) _ y hy
  split at hy
  · exact qv hi _ y hy
  · cases hy
theorem qw {ns : List Nd} {fl : List Fl} {S : List Int} (rt : Right ns fl) (hr : RestOk S) : ∀ j, ∀ y ∈ w4 ns fl S j, LbS y
  | 0, y, hy => by cases hy
  | j + 1, y, hy => by
    unfold w4 at hy
    rcases List.mem_append.mp hy with hy | hy
    · exact qw rt hr j y hy
    · split at hy
      · rename_i k hk; exact yr rt hr hk y hy
      · cases hy
theorem qx {ns : List Nd} {S : List Int} : ∀ m, m ≤ 4 → ∀ y ∈ o9 ns S m, LbS y
  | 0, _, y, hy => by cases hy
  | m + 1, hm, y, hy => by
    unfold o9 at hy
    rcases List.mem_append.mp hy with hy | hy
    · exact qx m (by omega) y hy
    · unfold K4 at hy
      split at hy
      · exact O2 (cm (Z3 rfl) (Z3 rfl) (by constructor <;> omega)) y hy
      · cases hy
theorem wY {ns : List Nd} {fl : List Fl} {S : List Int} (hS : S.length = 49) : ∀ y ∈ p8 ns fl S, LbS y := by
  intro y hy
  unfold p8 at hy
  split at hy
  · cases hy
  · rename_i h0
    rw [not_or] at h0
    obtain ⟨h1, h2⟩ := eZ (by simpa using h0.1)
    have rt := Right.of h1
    have hr := (zC hS h2).2
    rcases List.mem_append.mp hy with hy | hy
    · exact qw rt hr _ y hy
    · exact qx 4 (Nat.le_refl _) y hy
theorem gD {n : Int} (h : Sm n) : u0 .i64 n := by
  have hmin : IntKind.i64.min = -9223372036854775808 := by decide
  have hmax : IntKind.i64.max = 9223372036854775807 := by decide
  unfold u0
  rw [hmin, hmax]
  omega
theorem wZ {ns : List Nd} {fl : List Fl} {l : List Sv} (h49 : B7 l) : ∀ x ∈ D7 ns fl l, Sm x.1 ∧ Sm x.2.1 ∧ Sm x.2.2 := by
  intro x hx
  unfold D7 K6 at hx
  obtain ⟨s, hs, hx⟩ := List.mem_flatMap.mp hx
  obtain ⟨y, hy, rfl⟩ := List.mem_map.mp hx
  exact wY (h49 s hs) y (List.mem_filter.mp hy).1
end
end Go.Proofs.YtbbmfemplmelhaaGreatDoor.AM
