/- Proved here, in parts, for one law: contracts of the functions that the laws call, and the plain facts behind them. Conditions: none. -/
import Derived.Test.YtbbmfemplmelhaaGreatDoorZTrailSeesE
import Derived.Shelf.SlSortCmp.WholeK
import Derived.Shelf.SlGeneric
set_option linter.unusedVariables false
set_option linter.unusedSimpArgs false
set_option linter.defProp false
set_option maxRecDepth 4000
set_option maxHeartbeats 4000000
namespace Go.Proofs.YtbbmfemplmelhaaGreatDoor.AM
open Go Go.Proofs
section
def dh := And.intro T2 (And.intro T3 (And.intro T4 (And.intro T22 (And.intro T23 (And.intro T25 (And.intro T28 (And.intro T31 (And.intro T41 (And.intro T57 (And.intro T58 (And.intro T75 (And.intro T77 (And.intro T80 (And.intro T92 (And.intro fS (And.intro np (And.intro iM (And.intro iN (And.intro nq jG)))))))))))))))))))
attribute [local irreducible] awp n9 k3 l8 o6 n5
section
variable {h : Heap} {b lb : Nat} {ns : List Nd} {fl : List Fl} {S : List Int} {l : List Sp}
theorem yM (nk : NetOk ns fl) (rt : Right ns fl) (ok : GmOk h b lb S l) (st : StOk S) (few : l.length ≤ 900000) (c : Nat) {k : Nd} (hc : ns[c]? = some k) (hk : k.kind = 3) (m : Nat) (hm : m < 40) (hin : o5 fl c = [(m : Int)]) (h0 : tk S (m : Int) ≠ 0) :
    d5 Tryz.prog gW 80 [.ptr b 0 0, .i c] (l5 h b lb ns fl S l) (fun r h' => r = .undef ∧ h' = l5 h b lb ns fl S (l ++ m7 ns fl S c k)) := by
  have hb := ok.hb
  have hl := ok.hl
  have hne := ok.ne
  have hS := ok.held.1
  have gl := w8 (ns := ns) (fl := fl) (lb := lb) (n := l.length) hS
  have gv := F2 (ns := ns) (fl := fl) (lb := lb) (n := l.length) hS
  have t49 := x6 (ns := ns) (fl := fl) (lb := lb) (n := l.length) hS
  have c0 : (0 : Int) ≤ (c : Int) := by omega
  have hc' := I2 hc
  have hf := rt.f
  have hf' : fl.length ≤ 100 := by omega
  have hkd := rt.kind hc
  have hi := L8 hf c
  have ho := D7 hf c
  obtain ⟨hv, v0, v3⟩ := ok.held.at hm
  have gk := W2 (ns := ns) (fl := fl) (lb := lb) (n := l.length) hv
  have f0 : (0 : Int) ≤ (m : Int) := by omega
  have f40 : (m : Int) < 40 := by omega
  have hz' : (tk S (m : Int) == 0) = false := by simp [h0]
  have hil : (((o5 fl c).length : Int) == 1) = true := by rw [hin]; rfl
  have hi0 : (o5 fl c)[0]? = some (m : Int) := by rw [hin]; rfl
  have hei : eI (m : Int) = [.int .i64 (m : Int)] := rfl
  have hin0 : (0 : Int) ≤ 0 := Int.le_refl 0
  have e2 : (k.kind == 2) = false := by simp [hk]
  have e3 : (k.kind == 3) = true := by simp [hk]
  have e4 : (k.kind == 4) = false := by simp [hk]
  have e5 : (k.kind == 5) = false := by simp [hk]
  have e6 : (k.kind == 6) = false := by simp [hk]
  have e7 : (k.kind == 7) = false := by simp [hk]
  have e8 : (k.kind == 8) = false := by simp [hk]
  have e1 : (k.kind != 1) = true := by simp [hk]
  obtain ⟨a, hka⟩ := Int.eq_ofNat_of_zero_le hkd.2.1
  have a4 : a < 4 := by have := hkd.2.2.1 (by omega); omega
  have hS2 : ∀ v, (S.set (40 + a) v).length = 49 := fun v => by rw [List.length_set, hS]
  have eg : m7 ns fl S c k = m8 S ⟨c, 0, 1, c, 0, S.set (40 + a) 0⟩ (o5 fl c) (i7 fl c) ++ m8 S ⟨c, 1, 1, c, 1, S.set (40 + a) 1⟩ (o5 fl c) (i7 fl c) := by
    unfold m7; rw [if_neg (by omega), if_pos (.inl hk)]
    unfold N5; rw [hin, List.headD_cons, if_neg h0, if_pos hk, hka, Int.toNat_natCast]
  rw [eg]
  let acc : Nat → List Sp := fun j => (if j = 0 then [] else m8 S ⟨c, 0, 1, c, 0, S.set (40 + a) 0⟩ (o5 fl c) (i7 fl c)) ++ (if j ≤ 1 then [] else m8 S ⟨c, 1, 1, c, 1, S.set (40 + a) 1⟩ (o5 fl c) (i7 fl c))
  have hto : ∀ j, ∀ y ∈ acc j, y.to.length = 49 := by
    intro j y hy
    simp only [acc] at hy
    rcases List.mem_append.mp hy with hy | hy
    · split at hy
      · cases hy
      · exact y9 hS (hS2 _) y hy
    · split at hy
      · cases hy
      · exact y9 hS (hS2 _) y hy
  have hal : ∀ j, (acc j).length ≤ 2 := by
    intro j
    simp only [acc, List.length_append]
    have h1 := B6 S ⟨c, 0, 1, c, 0, S.set (40 + a) 0⟩ (o5 fl c) (i7 fl c)
    have h2 := B6 S ⟨c, 1, 1, c, 1, S.set (40 + a) 1⟩ (o5 fl c) (i7 fl c)
    split <;> split <;> simp <;> omega
  have e22 : acc 2 = m8 S ⟨c, 0, 1, c, 0, S.set (40 + a) 0⟩ (o5 fl c) (i7 fl c) ++ m8 S ⟨c, 1, 1, c, 1, S.set (40 + a) 1⟩ (o5 fl c) (i7 fl c) := by simp only [acc]; rfl
  rw [← e22]
  refine i3 (rl := []) e9 Tryz.func80 rfl (rs := []) rfl Tryz.ntmps80 (by simp) ?_
  repeat' (first | ((first | apply b8 | apply i8 | apply C4); (try simp only [NB])) | ((repeat ((fail_if_success (refine hK _ ?_)); clear hK K)); refine hK _ ?_; clear hK K) | ((first | refine b9 fun K1 q6 => ?_ | refine k4 fun K1 q6 => ?_ | refine b7 fun A B hA hB => ?_); simp only [S1, simprocAttr, dh, e1, e2, e3, e4, e5, e6, e7, e8, hil, hi0, hei, hin0, f0, f40, gk, hz', hka, c0, hc', eN, j6, m3, TSz, i6, h9, j3, PGB, r4 hb hne, l9 hl, m6 hb hne, j8 hl, gmB, spB, gl]; first | refine q6 _ ?_; clear q6 K1 | ((first | refine hA ?_ | refine hB ?_); clear hA hB A B)) | ((first | refine u6 (v := ?_) rfl rfl rfl rfl (by decide) (fun R1 K1 q6 => ?_) ?_ | refine y5 (v := ?_) rfl rfl rfl (by decide) (fun K1 q6 => ?_) ?_); rotate_left; (focus (simp only [S1, simprocAttr, dh, e1, e2, e3, e4, e5, e6, e7, e8, hil, hi0, hei, hin0, f0, f40, gk, hz', hka, c0, hc', eN, j6, m3, TSz, i6, h9, j3, PGB, r4 hb hne, l9 hl, m6 hb hne, j8 hl, gmB, spB, gl]; first | (exact q6 _ _ _) | (apply j5 eu; exact (B5 _ fl hf' _ _); exact q6 _ _ _) | (apply j5 E57; exact (t8 _ fl hf' _ _); exact q6 _ _ _)))) | refine b6 fun K hK => ?_ | (refine D4 [0, 1, 2, 3, 4, 5, 6, 7, 8, 9, 10, 11, 12, 13] (fs := []) rfl rfl (by kernel_rfl) (by kernel_rfl) ?_) | ((first | apply b5 | refine i9 ?_ | apply c7 | apply c9); try simp only [NB, simprocAttr]))
  refine R5 2 174 (fun j => l5 h b lb ns fl S (l ++ acc j)) (fun j => [(59, .i j), (6, aI (i7 fl c)), (5, aI (o5 fl c)), (4, .ptr h.length 0 0), (1, .i c), (0, .ptr b 0 0)]) (fun j => [xB k a]) (fun j => True) (fun j => ⟨by rw [i5, i5], aK hl⟩) ?_ trivial fun j hj hp K hK => ?_
  · have e0 : acc 0 = [] := by simp [acc]
    simp only [e0, List.append_nil]
    refine ⟨rfl, ⟨[], by simp only [List.append_nil]⟩, ?_, ?_⟩
    · simp only [S1, simprocAttr, KNB, i5] <;> (try and_intros) <;> (try assumption) <;> (try trivial) <;> (try omega)
    · exact ⟨⟨trivial, trivial, trivial, trivial, trivial, trivial⟩, trivial⟩
  have okj : GmOk h b lb S (l ++ acc j) := ok.app (hto j) (by have := hal j; omega)
  rcases Nat.lt_or_ge j 2 with hlt | hge
  · have hlt' : decide ((j : Int) < 2) = true := decide_eq_true (by omega)
    have hnx : IntKind.i64.wrap ((j : Int) + 1) = ((j + 1 : Nat) : Int) := by rw [IntWalk.i64_in _ (by omega)]; omega
    have es := H7 hS (m := ⟨c, j, 1, c, j, S⟩) (Chg.set hS (k := 40 + a) (by omega) (j : Int)) hi ho
    have ea' : l ++ acc (j + 1) = (l ++ acc j) ++ stF S ⟨c, j, 1, c, j, S⟩ (fun T => T.set (40 + a) (j : Int)) (o5 fl c) (i7 fl c) := by
      rw [es, List.append_assoc]
      congr 1
      match j, hlt with
      | 0, _ => simp [acc]
      | 1, _ => simp [acc]
    generalize hlj : l ++ acc j = lj at ea' okj ⊢
    have hst := W6 (G := gW) (ns := ns) (fl := fl) okj ⟨c, j, 1, c, j, S⟩ (o5 fl c) (i7 fl c) hi ho [xB k a, some ⟨0, [.i j]⟩] Bj (caps := [.ptr (h.length + 1) 0 0, .ptr h.length 0 0]) ⟨by simp [s7], by simp [s7], trivial⟩ (fun T hT => by rw [List.length_set, hT]) (fun A T hT _ => xd k a4 j 0 A T hT)
    repeat' (first | ((repeat ((fail_if_success (refine hK _ ?_)); clear hK K)); refine hK _ ?_; clear hK K) | ((first | refine b9 fun K1 q6 => ?_ | refine b7 fun A B hA hB => ?_); simp only [S1, simprocAttr, dh, hlt', hnx, TSz, i6, h9, j3, PGB, r4 hb hne, l9 hl, m6 hb hne, j8 hl, gmB, spB, gl]; first | refine q6 _ ?_; clear q6 K1 | (refine hA ?_; clear hA hB A B) | (apply d4 E82; exact hst; refine q6 _ ?_; clear q6 K1)) | refine b6 fun K hK => ?_ | ((first | apply b8 | apply b5 | apply c7 | apply c9); try simp only [NB, simprocAttr]))
    all_goals refine ⟨hlt, trivial, ?_⟩
    all_goals simp only [ea']
    all_goals refine ⟨rfl, ⟨_, rfl⟩, ?_, ?_⟩
    · simp only [S1, simprocAttr, KNB, i5] <;> (try and_intros) <;> (try assumption) <;> (try trivial) <;> (try omega)
    · exact ⟨⟨trivial, trivial, trivial, trivial, trivial, trivial⟩, trivial⟩
  · obtain rfl : j = 2 := by omega
    repeat' (first | ((repeat ((fail_if_success (refine hK _ ?_)); clear hK K)); refine hK _ ?_; clear hK K) | ((first | refine b9 fun K1 q6 => ?_ | refine b7 fun A B hA hB => ?_); simp only [S1, simprocAttr, dh, (show decide (((2 : Nat) : Int) < 2) = false by decide)]; first | refine q6 _ ?_; clear q6 K1 | (refine hB ?_; clear hA hB A B)) | refine b6 fun K hK => ?_ | ((first | apply b8 | apply b5 | apply f9); try simp only [NB, simprocAttr]))
    all_goals simp only [S1, simprocAttr, ENB, A0, y7, i5, m5, k8] <;> first | exact d6 hl | exact ⟨d6 hl, rfl⟩ | exact ⟨d6 hl, rfl, rfl⟩
theorem yN (nk : NetOk ns fl) (rt : Right ns fl) (ok : GmOk h b lb S l) (st : StOk S) (few : l.length ≤ 900000) (c : Nat) {k : Nd} (hc : ns[c]? = some k) (hk : k.kind = 4) (m : Nat) (hm : m < 40) (hin : o5 fl c = [(m : Int)]) (h0 : tk S (m : Int) ≠ 0) :
    d5 Tryz.prog gW 80 [.ptr b 0 0, .i c] (l5 h b lb ns fl S l) (fun r h' => r = .undef ∧ h' = l5 h b lb ns fl S (l ++ m7 ns fl S c k)) := by
  have hb := ok.hb
  have hl := ok.hl
  have hne := ok.ne
  have hS := ok.held.1
  have gl := w8 (ns := ns) (fl := fl) (lb := lb) (n := l.length) hS
  have gv := F2 (ns := ns) (fl := fl) (lb := lb) (n := l.length) hS
  have t49 := x6 (ns := ns) (fl := fl) (lb := lb) (n := l.length) hS
  have c0 : (0 : Int) ≤ (c : Int) := by omega
  have hc' := I2 hc
  have hf := rt.f
  have hf' : fl.length ≤ 100 := by omega
  have hkd := rt.kind hc
  have hi := L8 hf c
  have ho := D7 hf c
  obtain ⟨hv, v0, v3⟩ := ok.held.at hm
  have gk := W2 (ns := ns) (fl := fl) (lb := lb) (n := l.length) hv
  have f0 : (0 : Int) ≤ (m : Int) := by omega
  have f40 : (m : Int) < 40 := by omega
  have hz' : (tk S (m : Int) == 0) = false := by simp [h0]
  have hil : (((o5 fl c).length : Int) == 1) = true := by rw [hin]; rfl
  have hi0 : (o5 fl c)[0]? = some (m : Int) := by rw [hin]; rfl
  have hei : eI (m : Int) = [.int .i64 (m : Int)] := rfl
  have hin0 : (0 : Int) ≤ 0 := Int.le_refl 0
  have e2 : (k.kind == 2) = false := by simp [hk]
  have e3 : (k.kind == 3) = false := by simp [hk]
  have e4 : (k.kind == 4) = true := by simp [hk]
  have e5 : (k.kind == 5) = false := by simp [hk]
  have e6 : (k.kind == 6) = false := by simp [hk]
  have e7 : (k.kind == 7) = false := by simp [hk]
  have e8 : (k.kind == 8) = false := by simp [hk]
  have e1 : (k.kind != 1) = true := by simp [hk]
  obtain ⟨a, hka⟩ := Int.eq_ofNat_of_zero_le hkd.2.1
  have a4 : a < 4 := by have := hkd.2.2.1 (by omega); omega
  have hS2 : ∀ v, (S.set (40 + a) v).length = 49 := fun v => by rw [List.length_set, hS]
  obtain ⟨mm, hmm, ht⟩ := nk.tn
  have ch := fun h => nW (ht k (List.mem_of_getElem? hc)) (vS S) nZ h
  by_cases h2 : (N8 k.term (vS S)).2 = 0
  · have h2' : ((N8 k.term (vS S)).2 != 0) = false := by simp [h2]
    have eg : m7 ns fl S c k = m8 S ⟨c, 0, 2, c, 0, S.set (40 + a) (N8 k.term (vS S)).1⟩ (o5 fl c) (i7 fl c) := by
      unfold m7; rw [if_neg (by omega), if_pos (.inr hk)]
      unfold N5; rw [hin, List.headD_cons, if_neg h0, if_neg (by omega), if_neg (by simpa using h2), hka, Int.toNat_natCast]
    generalize (N8 k.term (vS S)).1 = w at *
    have es := H7 hS (m := ⟨c, 0, 2, c, 0, S⟩) (Chg.set hS (k := 40 + a) (by omega) w) hi ho
    simp only at es
    rw [eg, ← es]
    have hst := W6 (G := gW) (ns := ns) (fl := fl) ok ⟨c, 0, 2, c, 0, S⟩ (o5 fl c) (i7 fl c) hi ho [xB k a, some ⟨1, [.i w]⟩] Bk (caps := [.ptr (h.length + 1) 1 0, .ptr h.length 0 0]) ⟨by simp [s7], by simp [s7], trivial⟩ (fun T hT => by rw [List.length_set, hT]) (fun A T hT _ => xe k a4 w 1 A T hT)
    refine i3 (rl := []) e9 Tryz.func80 rfl (rs := []) rfl Tryz.ntmps80 (by simp) ?_
    repeat' (first | ((first | apply b8 | apply i8 | apply C4 | apply s4); (try simp only [NB])) | ((repeat ((fail_if_success (refine hK _ ?_)); clear hK K)); refine hK _ ?_; clear hK K) | ((first | refine b9 fun K1 q6 => ?_ | refine k4 fun K1 q6 => ?_ | refine v8 rfl rfl rfl fun K1 q6 => ?_ | refine b7 fun A B hA hB => ?_); simp only [S1, simprocAttr, dh, e1, e2, e3, e4, e5, e6, e7, e8, hil, hi0, hei, hin0, f0, f40, gk, hz', hka, h2', gv, c0, hc', eN, j6, m3, TSz, i6, h9, j3, PGB, r4 hb hne, l9 hl, m6 hb hne, j8 hl, gmB, spB, gl]; first | refine q6 _ ?_; clear q6 K1 | ((first | refine hA ?_ | refine hB ?_); clear hA hB A B) | (apply d4 E82; exact hst; refine q6 _ ?_; clear q6 K1)) | ((first | refine u6 (v := ?_) rfl rfl rfl rfl (by decide) (fun R1 K1 q6 => ?_) ?_ | refine y5 (v := ?_) rfl rfl rfl (by decide) (fun K1 q6 => ?_) ?_ | refine X4 (v := ?_) rfl rfl rfl (by decide) (fun K1 q6 => ?_) ?_); rotate_left; (focus (simp only [S1, simprocAttr, dh, e1, e2, e3, e4, e5, e6, e7, e8, hil, hi0, hei, hin0, f0, f40, gk, hz', hka, h2', gv, c0, hc', eN, j6, m3, TSz, i6, h9, j3, PGB, r4 hb hne, l9 hl, m6 hb hne, j8 hl, gmB, spB, gl]; first | (exact q6 _ _ _) | (apply j5 eu; exact (B5 _ fl hf' _ _); exact q6 _ _ _) | (apply j5 E57; exact (t8 _ fl hf' _ _); exact q6 _ _ _) | (apply j5 Ax; exact (ch _); exact q6 _ _ _)))) | (refine s5 rfl rfl rfl ?_) | ((refine C2 (z := ?_) 0 rfl rfl rfl rfl (by decide) rfl ?_ ?_); rotate_left; (focus (simp only [S1, simprocAttr, dh, e1, e2, e3, e4, e5, e6, e7, e8, hil, hi0, hei, hin0, f0, f40, gk, hz', hka, h2', gv, c0, hc', eN, j6, m3, TSz, i6, h9, j3, PGB, r4 hb hne, l9 hl, m6 hb hne, j8 hl, gmB, spB, gl, T0]; rfl))) | refine b6 fun K hK => ?_ | (refine D4 [0, 1, 2, 3, 4, 5, 6, 7, 8, 9, 10, 11, 12, 13] (fs := []) rfl rfl (by kernel_rfl) (by kernel_rfl) ?_) | (refine o9 (es := []) [0, 1, 2, 3, 4, 5, 6, 7, 8, 9, 10, 11, 12, 13] 1 (fs := []) rfl (by kernel_rfl) (by kernel_rfl) ?_) | ((first | apply b5 | refine i9 ?_ | apply c7 | apply c9); try simp only [NB, simprocAttr]))
    all_goals simp only [S1, simprocAttr, ENB, A0, y7, i5, m5, k8] <;> first | exact d6 hl | exact ⟨d6 hl, rfl⟩ | exact ⟨d6 hl, rfl, rfl⟩
  · have h2' : ((N8 k.term (vS S)).2 != 0) = true := by simp [h2]
    have eg : m7 ns fl S c k = [v7 S c (N8 k.term (vS S)).2] := by
      unfold m7; rw [if_neg (by omega), if_pos (.inr hk)]
      unfold N5; rw [hin, List.headD_cons, if_neg h0, if_neg (by omega), if_pos h2]
    rw [eg]
    refine i3 (rl := []) e9 Tryz.func80 rfl (rs := []) rfl Tryz.ntmps80 (by simp) ?_
    repeat' (first | ((first | apply b8 | apply i8 | apply C4 | apply s4); (try simp only [NB])) | ((repeat ((fail_if_success (refine hK _ ?_)); clear hK K)); refine hK _ ?_; clear hK K) | ((first | refine b9 fun K1 q6 => ?_ | refine k4 fun K1 q6 => ?_ | refine v8 rfl rfl rfl fun K1 q6 => ?_ | refine b7 fun A B hA hB => ?_); simp only [S1, simprocAttr, dh, e1, e2, e3, e4, e5, e6, e7, e8, hil, hi0, hei, hin0, f0, f40, gk, hz', hka, h2', gv, c0, hc', eN, j6, m3, TSz, i6, h9, j3, PGB, r4 hb hne, l9 hl, m6 hb hne, j8 hl, gmB, spB, gl]; first | refine q6 _ ?_; clear q6 K1 | ((first | refine hA ?_ | refine hB ?_); clear hA hB A B) | (apply d4 Ay; exact (uR ok c (N8 k.term (vS S)).2 _); refine q6 _ ?_; clear q6 K1)) | ((first | refine u6 (v := ?_) rfl rfl rfl rfl (by decide) (fun R1 K1 q6 => ?_) ?_ | refine y5 (v := ?_) rfl rfl rfl (by decide) (fun K1 q6 => ?_) ?_ | refine X4 (v := ?_) rfl rfl rfl (by decide) (fun K1 q6 => ?_) ?_); rotate_left; (focus (simp only [S1, simprocAttr, dh, e1, e2, e3, e4, e5, e6, e7, e8, hil, hi0, hei, hin0, f0, f40, gk, hz', hka, h2', gv, c0, hc', eN, j6, m3, TSz, i6, h9, j3, PGB, r4 hb hne, l9 hl, m6 hb hne, j8 hl, gmB, spB, gl]; first | (exact q6 _ _ _) | (apply j5 eu; exact (B5 _ fl hf' _ _); exact q6 _ _ _) | (apply j5 E57; exact (t8 _ fl hf' _ _); exact q6 _ _ _) | (apply j5 Ax; exact (ch _); exact q6 _ _ _)))) | (refine s5 rfl rfl rfl ?_) | ((refine C2 (z := ?_) 0 rfl rfl rfl rfl (by decide) rfl ?_ ?_); rotate_left; (focus (simp only [S1, simprocAttr, dh, e1, e2, e3, e4, e5, e6, e7, e8, hil, hi0, hei, hin0, f0, f40, gk, hz', hka, h2', gv, c0, hc', eN, j6, m3, TSz, i6, h9, j3, PGB, r4 hb hne, l9 hl, m6 hb hne, j8 hl, gmB, spB, gl, T0]; rfl))) | refine b6 fun K hK => ?_ | (refine D4 [0, 1, 2, 3, 4, 5, 6, 7, 8, 9, 10, 11, 12, 13] (fs := []) rfl rfl (by kernel_rfl) (by kernel_rfl) ?_) | (refine o9 (es := []) [0, 1, 2, 3, 4, 5, 6, 7, 8, 9, 10, 11, 12, 13] 1 (fs := []) rfl (by kernel_rfl) (by kernel_rfl) ?_) | ((first | apply b5 | refine i9 ?_ | apply c7 | apply c9 | apply d3); try simp only [NB, simprocAttr]))
    all_goals simp only [S1, simprocAttr, ENB, A0, y7, i5, m5, k8] <;> first | exact d6 hl | exact ⟨d6 hl, rfl⟩ | exact ⟨d6 hl, rfl, rfl⟩
end
end
section
attribute [local irreducible] awp n9 k3 l8 o6 n5
section
variable {h : Heap} {b lb : Nat} {ns : List Nd} {fl : List Fl} {S : List Int} {l : List Sp}
theorem qy (nk : NetOk ns fl) (rt : Right ns fl) (ok : GmOk h b lb S l) (st : StOk S) (few : l.length ≤ 900000) (c : Nat) {k : Nd} (hc : ns[c]? = some k) :
    d5 Tryz.prog gW 80 [.ptr b 0 0, .i c] (l5 h b lb ns fl S l) (fun r h' => r = .undef ∧ h' = l5 h b lb ns fl S (l ++ m7 ns fl S c k)) := by
  have hkd := rt.kind hc
  have hS := ok.held.1
  by_cases h1 : k.kind = 1
  · exact yK nk rt ok st few c hc h1
  have hne := rt.ins hc h1
  by_cases hl1 : (o5 fl c).length = 1
  · obtain ⟨m0, hm0⟩ : ∃ m0, o5 fl c = [m0] := by
      match hq : o5 fl c, hl1 with
      | [a], _ => exact ⟨a, rfl⟩
    obtain ⟨f0, f40⟩ := (L8 rt.f c).2 m0 (by rw [hm0]; simp)
    obtain ⟨m, rfl⟩ := Int.eq_ofNat_of_zero_le f0
    have m40 : m < 40 := by omega
    by_cases h0 : tk S (m : Int) = 0
    · have := sx (ns := ns) (fl := fl) nk rt ok c hc m m40 hm0 h1 h0
      have hz := uV (ns := ns) hS m40 hm0 h0 (k := k) fun h5 hx => by
        have := rt.xor (List.getElem?_eq_some_iff.mp hc).1 (by rw [O3 hc]; exact h5)
        omega
      rw [hz, List.append_nil]
      exact this
    · by_cases h2 : k.kind = 2
      · exact yJ nk rt ok st few c hc h2 m m40 hm0 h0
      by_cases h3 : k.kind = 3
      · exact yM nk rt ok st few c hc h3 m m40 hm0 h0
      by_cases h4 : k.kind = 4
      · exact yN nk rt ok st few c hc h4 m m40 hm0 h0
      by_cases h5 : k.kind = 5
      · exact xf nk rt ok st few c hc h5 m m40 hm0 h0
      by_cases h6 : k.kind = 6
      · exact xh nk rt ok st few c hc h6 m m40 hm0 h0
      by_cases h7 : k.kind = 7
      · exact yL nk rt ok st few c hc h7 m m40 hm0 h0
      · exact yI nk rt ok st few c hc (by omega) m m40 hm0 h0
  · by_cases h5 : k.kind = 5
    · exact xg nk rt ok st few c hc h5 hl1
    by_cases h6 : k.kind = 6
    · exact xj nk rt ok st few c hc h6 hl1
    exfalso
    by_cases h2 : k.kind = 2
    · exact hl1 (rt.ar2 hc h2)
    by_cases h7 : k.kind = 7
    · exact hl1 (rt.ar7 hc h7).1
    exact hl1 (rt.ar11 hc (by omega)).1
end
end
section
def co := And.intro T2 (And.intro T3 (And.intro T4 (And.intro T22 (And.intro T25 (And.intro T28 (And.intro T31 (And.intro T41 (And.intro T57 (And.intro T58 (And.intro T77 (And.intro T92 (And.intro fS (And.intro np (And.intro iM (And.intro iN (And.intro nq jG))))))))))))))))
attribute [local irreducible] awp n9 k3 l8 o6 n5
theorem sA {h : Heap} {b lb : Nat} {ns : List Nd} {fl : List Fl} {S : List Int} {l : List Sp} (ok : GmOk h b lb S l) (m : Sp) (L : Heap) {f : FuncId} (hE : g8 Tryz.prog f) {caps : List AV} (hcap : o4 (h.length + L.length) caps) {chg : List Int → List Int} (hlen : ∀ T : List Int, T.length = 49 → (chg T).length = 49)
    (hC : ∀ (A : Option Blk) (T : List Int), T.length = 49 → T.drop 40 = S.drop 40 → d5 Tryz.prog gW f (.ptr (h.length + L.length + 1) 0 0 :: caps) (l5 h b lb ns fl S l ++ (L ++ [A, some ⟨0, T.map AV.i⟩])) (fun r h' => r = .undef ∧ h' = l5 h b lb ns fl S l ++ (L ++ [A, some ⟨0, (chg T).map AV.i⟩]))) :
    d5 Tryz.prog gW 82 [.ptr b 0 0, aMv m, .p .nils, .p .nils, .fn f caps] (l5 h b lb ns fl S l ++ L) (fun r h' => r = .undef ∧ h' = l5 h b lb ns fl S (l ++ stF S m chg [] []) ++ L) := by
  have := W6 (G := gW) (ns := ns) (fl := fl) ok m [] [] ⟨by simp, by simp⟩ ⟨by simp, by simp⟩ L hE hcap hlen hC
  refine d5.nrm ?_
  simp only [R7, bP, nrm]
  exact this
theorem yO {h : Heap} {b lb : Nat} {ns : List Nd} {fl : List Fl} {S : List Int} {l : List Sp} {a : Nat} (ha : a < 4) {q : Int} (hq : S[44 + a]? = some q) (hq0 : 0 ≤ q ∧ q ≤ 3) (A : Option Blk) (T : List Int) (hT : T.length = 49) (hd : T.drop 40 = S.drop 40) :
    d5 Tryz.prog gW 83 [.ptr (h.length + 1 + 1) 0 0, .ptr h.length 0 0] (l5 h b lb ns fl S l ++ ([some ⟨0, [.i a]⟩] ++ [A, some ⟨0, T.map AV.i⟩]))
    (fun r h' => r = .undef ∧ h' = l5 h b lb ns fl S l ++ ([some ⟨0, [.i a]⟩] ++ [A, some ⟨0, (T.set (44 + a) (q + 1)).map AV.i⟩])) := by
  have hqT : T[44 + a]? = some q := by
    have e : (T.drop 40)[4 + a]? = (S.drop 40)[4 + a]? := by rw [hd]
    rw [List.getElem?_drop, List.getElem?_drop, show 40 + (4 + a) = 44 + a by omega] at e
    rw [e, hq]
  have := su (G := gW) (H := l5 h b lb ns fl S l ++ ([some ⟨0, [.i a]⟩] ++ [A, some ⟨0, T.map AV.i⟩])) (c := h.length + 2) (r := h.length) (gc := 0) (gr := 0) (by rw [v6]; rfl) hT ha (by rw [A3]; rfl) hqT hq0
  rw [z6] at this
  exact this
theorem fo {ns : List Nd} {fl : List Fl} (nk : NetOk ns fl) {S : List Int} (hS : S.length = 49) (h : Heap) :
    d5 Tryz.prog gW 59 [G7 ns fl, aS S] h (fun r h' => r = uG (n7 ns fl S) ∧ h' = h) := by
  have hne := K6 hS
  have hck := fun h => dN nk hS h
  have dm := N2 (L1 hS (k := 48) (by omega))
  have emd : S.getD 48 0 = mdS S := rfl
  rw [emd] at dm
  have t49 : ((S.map AV.i).drop 0).take 49 = S.map AV.i := by rw [List.drop_zero]; exact List.take_of_length_le (by rw [List.length_map, hS]; exact Nat.le_refl _)
  have t49' : (S.map AV.i).take 49 = S.map AV.i := by rwa [List.drop_zero] at t49
  by_cases h0 : stC ns fl S = 0
  case neg =>
    have e : n7 ns fl S = [] := by unfold n7; rw [if_pos (.inl h0)]
    have f0 : (stC ns fl S != 0) = true := by simp [h0]
    rw [e]
    refine c8 (rl := []) e9 Tryz.func59 rfl (rs := [.tmp 4]) rfl Tryz.ntmps59 (by simp) ?_
    repeat' (first | ((repeat ((fail_if_success (refine hK _ ?_)); clear hK K)); refine hK _ ?_; clear hK K) | ((first | refine b9 fun K1 q6 => ?_ | refine b7 fun A B hA hB => ?_); simp only [S1, simprocAttr, co, TSz, i6, h9, j3, f0, hne, hS, d8, t49', dm, d7, d9, List.length_map]; first | refine q6 _ ?_; clear q6 K1 | (refine hA ?_; clear hA hB A B) | (apply d4 E51; exact (hck _); refine q6 _ ?_; clear q6 K1)) | refine b6 fun K hK => ?_ | ((first | apply b8 | apply b5 | apply d3); try simp only [NB, simprocAttr]))
    all_goals simp only [S1, simprocAttr, ENB, co]
    all_goals rfl
  have f0 : (stC ns fl S != 0) = false := by simp [h0]
  by_cases h1 : mdS S = 0
  case neg =>
    have e : n7 ns fl S = [] := by unfold n7; rw [if_pos (.inr h1)]
    have f1 : (mdS S != 0) = true := by simp [h1]
    rw [e]
    refine c8 (rl := []) e9 Tryz.func59 rfl (rs := [.tmp 4]) rfl Tryz.ntmps59 (by simp) ?_
    repeat' (first | ((repeat ((fail_if_success (refine hK _ ?_)); clear hK K)); refine hK _ ?_; clear hK K) | ((first | refine b9 fun K1 q6 => ?_ | refine b7 fun A B hA hB => ?_); simp only [S1, simprocAttr, co, TSz, i6, h9, j3, f0, f1, hne, hS, d8, t49', dm, d7, d9, List.length_map]; first | refine q6 _ ?_; clear q6 K1 | (refine hA ?_; clear hA hB A B) | (apply d4 E51; exact (hck _); refine q6 _ ?_; clear q6 K1)) | refine b6 fun K hK => ?_ | ((first | apply b8 | apply b5 | apply d3); try simp only [NB, simprocAttr]))
    all_goals simp only [S1, simprocAttr, ENB, co]
    all_goals rfl
  have f1 : (mdS S != 0) = false := by simp [h1]
  have e : n7 ns fl S = u0 ns fl S ns.length ++ o7 ns S 4 := by unfold n7; rw [if_neg (by simp [h0, h1])]
  rw [e]
  refine c8 (rl := []) e9 Tryz.func59 rfl (rs := [.tmp 4]) rfl Tryz.ntmps59 (by simp) ?_
  have ov2 := qi hS
  repeat' (first | ((repeat ((fail_if_success (refine hK _ ?_)); clear hK K)); refine hK _ ?_; clear hK K) | ((first | refine b9 fun K1 q6 => ?_ | refine b7 fun A B hA hB => ?_); simp only [S1, simprocAttr, co, TSz, i6, h9, j3, f0, f1, hne, hS, ov2, d8, t49', dm, d7, d9, List.length_map, List.drop_succ_cons, List.drop_zero, List.all_append]; first | refine q6 _ ?_; clear q6 K1 | (refine hB ?_; clear hA hB A B) | (apply d4 E51; exact (hck _); refine q6 _ ?_; clear q6 K1)) | refine b6 fun K hK => ?_ | ((first | apply b8 | apply b5 | apply c7 | apply c9); try simp only [NB, simprocAttr]))
  obtain ⟨hn0, hok⟩ := W5 h0
  have rt := Right.of hn0
  have st := wI hS hok
  have hn := rt.n
  have hf := rt.f
  have hnl : ∀ j, j ≤ ns.length → (u0 ns fl S j).length ≤ 2400 := fun j hj => Nat.le_trans (aR ns fl S hf j) (by omega)
  have gok : ∀ l : List Sp, (∀ y ∈ l, y.to.length = 49) → l.length ≤ 3000 → GmOk (h ++ [some ⟨0, x8 ns fl⟩, some ⟨0, S.map AV.i⟩, none, none]) (h.length + 2) (h.length + 3) S l :=
    fun l h1 h2 => ⟨by simp, by simp, by omega, st.held, h1, by omega⟩
  have hnode : ∀ (l : List Sp), (∀ y ∈ l, y.to.length = 49) → l.length ≤ 3000 → ∀ (c : Nat) (k : Nd), ns[c]? = some k → d5 Tryz.prog gW 80 [.ptr (h.length + 2) 0 0, .i c] (h ++ [some ⟨0, x8 ns fl⟩, some ⟨0, S.map AV.i⟩, gmB ns fl S (h.length + 3) l, spB l])
      (fun r h' => r = .undef ∧ h' = h ++ [some ⟨0, x8 ns fl⟩, some ⟨0, S.map AV.i⟩, gmB ns fl S (h.length + 3) (l ++ m7 ns fl S c k), spB (l ++ m7 ns fl S c k)]) := by
    intro l h1 h2 c k hc
    have := qy nk rt (gok l h1 h2) st (by omega) c hc
    have e1 := Y4 h (some ⟨0, x8 ns fl⟩) (some ⟨0, S.map AV.i⟩) none none [] ns fl S l
    have e2 := Y4 h (some ⟨0, x8 ns fl⟩) (some ⟨0, S.map AV.i⟩) none none [] ns fl S (l ++ m7 ns fl S c k)
    rw [List.append_nil] at e1 e2
    rwa [e1, e2] at this
  refine F0 ns.length 57 (fun j => [(25, .i j), (24, .i ns.length), (5, .ptr (h.length + 2) 0 0), (3, .ptr (h.length + 1) 0 0), (2, .ptr h.length 0 0)])
    (fun j => [some ⟨0, x8 ns fl⟩, some ⟨0, S.map AV.i⟩, gmB ns fl S (h.length + 3) (u0 ns fl S j), spB (u0 ns fl S j)]) (fun j => True) ?_ trivial fun j hj hp K hK => ?_
  · refine (o8.game hS rfl).trans (Sub.ghost ⟨rfl, ⟨[], by simp only [List.append_nil]; rfl⟩, ?_, ⟨trivial, trivial, trivial⟩, g9 _ _, D8 (by simp), g9 _ _, trivial⟩)
    simp only [S1, simprocAttr, KNB] <;> (try and_intros) <;> (try assumption) <;> (try trivial) <;> (try omega)
  rcases Nat.lt_or_ge j ns.length with hlt | hge
  · obtain ⟨k, hx⟩ : ∃ k, ns[j]? = some k := ⟨_, List.getElem?_eq_getElem hlt⟩
    have ej : u0 ns fl S (j + 1) = u0 ns fl S j ++ m7 ns fl S j k := by rw [u0, hx]
    have hnd := hnode (u0 ns fl S j) (V1 hS j) (by have := hnl j hj; omega) j k hx
    repeat' (first | ((repeat ((fail_if_success (refine hK _ ?_)); clear hK K)); refine hK _ ?_; clear hK K) | ((first | refine b9 fun K1 q6 => ?_ | refine b7 fun A B hA hB => ?_); simp only [S1, simprocAttr, co, W9 hlt, K5 nk.n hlt]; first | refine q6 _ ?_; clear q6 K1 | (refine hA ?_; clear hA hB A B) | (apply d4 E80; exact hnd; refine q6 _ ?_; clear q6 K1)) | refine b6 fun K hK => ?_ | ((first | apply b8 | apply b5 | apply c7 | apply c9); try simp only [NB, simprocAttr]))
    all_goals refine ⟨hlt, trivial, ?_⟩
    all_goals simp only [ej]
    all_goals refine ⟨rfl, ⟨_, rfl⟩, ?_, ⟨trivial, trivial, trivial⟩, g9 _ _, D8 (by simp), g9 _ _, trivial⟩
    all_goals simp only [S1, simprocAttr, KNB] <;> (try and_intros) <;> (try assumption) <;> (try trivial) <;> (try omega)
  obtain rfl : j = ns.length := by omega
  have ar44 : ((S.map AV.i).drop 44).take 4 = ((S.drop 44).take 4).map AV.i := by rw [List.map_take, List.map_drop]
  have l4 : ((S.drop 44).take 4).length = 4 := by simp [hS]
  repeat' (first | ((repeat ((fail_if_success (refine hK _ ?_)); clear hK K)); refine hK _ ?_; clear hK K) | ((first | refine b9 fun K1 q6 => ?_ | refine b7 fun A B hA hB => ?_); simp only [S1, simprocAttr, co, TSz, i6, dG, ar44, hS, d7, d9, List.length_map, List.length_drop, List.length_take]; first | refine q6 _ ?_; clear q6 K1 | (refine hB ?_; clear hA hB A B)) | refine b6 fun K hK => ?_ | ((first | apply b8 | apply b5 | apply c7 | apply f9); try simp only [NB, simprocAttr]))
  have hl0 : ∀ y ∈ u0 ns fl S ns.length, y.to.length = 49 := V1 hS ns.length
  have hl1 : (u0 ns fl S ns.length).length ≤ 2400 := hnl _ (Nat.le_refl _)
  generalize u0 ns fl S ns.length = l0 at *
  have hlm : ∀ m, m ≤ 4 → (l0 ++ o7 ns S m).length ≤ 2500 := fun m hm => by
    rw [List.length_append]; have := aU ns S m; omega
  have htm : ∀ m, ∀ y ∈ l0 ++ o7 ns S m, y.to.length = 49 := fun m y hy => (List.mem_append.mp hy).elim (hl0 y) (cF hS m y)
  refine p8 4 57 (fun m => [(34, .i m), (33, .agg (((S.drop 44).take 4).map AV.i)), (5, .ptr (h.length + 2) 0 0), (3, .ptr (h.length + 1) 0 0), (2, .ptr h.length 0 0)])
    (fun m => [some ⟨0, x8 ns fl⟩, some ⟨0, S.map AV.i⟩, gmB ns fl S (h.length + 3) (l0 ++ o7 ns S m), spB (l0 ++ o7 ns S m)]) (fun m => True) ?_ trivial fun m hm hp K hK => ?_
  · have s0 : o7 ns S 0 = [] := rfl
    simp only [s0, List.append_nil]
    refine ⟨rfl, ⟨[], by simp only [List.append_nil]⟩, ?_, ⟨trivial, trivial, trivial⟩, g9 _ _, D8 (by simp), g9 _ _, trivial⟩
    simp only [S1, simprocAttr, KNB] <;> (try and_intros) <;> (try assumption) <;> (try trivial) <;> (try omega)
    all_goals exact g9 _ _
  rcases Nat.lt_or_ge m 4 with hlt | hge
  · have m0 : (0 : Int) ≤ (m : Int) := by omega
    have m4 : (m : Int) < 4 := by omega
    obtain ⟨hq, q0, q3⟩ := st.q hlt
    have hq4 : ((S.drop 44).take 4)[m]? = some (qAt S m) := by rw [List.getElem?_take_of_lt hlt, List.getElem?_drop]; exact hq
    have hdq := N2 hq4
    have hw9 := fun h => og (G := gW) ns fl nk.n m hlt h
    have es : o7 ns S (m + 1) = o7 ns S m ++ G1 ns S m := rfl
    cases ew : cE ns m with
    | false =>
      rw [ew] at hw9
      have hs : G1 ns S m = [] := by unfold G1; rw [if_neg (by simp [ew])]
      repeat' (first | ((repeat ((fail_if_success (refine hK _ ?_)); clear hK K)); refine hK _ ?_; clear hK K) | ((first | refine b9 fun K1 q6 => ?_ | refine b7 fun A B hA hB => ?_); simp only [S1, simprocAttr, co, m0, m4, Q4 (n := 4) (by omega) hlt, hdq, l4, List.length_map, Nat.mul_one]; first | refine q6 _ ?_; clear q6 K1 | ((first | refine hA ?_ | refine hB ?_); clear hA hB A B) | (apply d4 E81; exact (hw9 _); refine q6 _ ?_; clear q6 K1)) | refine b6 fun K hK => ?_ | ((first | apply b8 | apply b5 | apply c7 | apply c9); try simp only [NB, simprocAttr]))
      all_goals refine ⟨hlt, trivial, ?_⟩
      all_goals simp only [es, hs, List.append_nil]
      all_goals refine ⟨rfl, ⟨_, rfl⟩, ?_, ⟨trivial, trivial, trivial⟩, g9 _ _, D8 (by simp), g9 _ _, trivial⟩
      all_goals simp only [S1, simprocAttr, KNB] <;> (try and_intros) <;> (try assumption) <;> (try trivial) <;> (try omega)
      all_goals exact g9 _ _
    | true =>
      rw [ew] at hw9
      by_cases h3 : qAt S (m : Int) < 3
      · have h3' : decide (qAt S (m : Int) < 3) = true := decide_eq_true h3
        have hs : G1 ns S m = m8 S ⟨-1, m, 5, 0, m, S.set (44 + m) (qAt S m + 1)⟩ [] [] := by unfold G1; rw [if_pos ⟨ew, h3⟩]
        generalize qAt S (m : Int) = q at *
        have em := H7 hS (m := ⟨-1, m, 5, 0, m, S⟩) (Chg.set hS (k := 44 + m) (by omega) (q + 1)) (fr := []) (to := []) ⟨by simp, by simp⟩ ⟨by simp, by simp⟩
        simp only at em
        have hadd : d5 Tryz.prog gW 82 [.ptr (h.length + 2) 0 0, aMv ⟨-1, m, 5, 0, m, S⟩, .p .nils, .p .nils, .fn 83 [.ptr (h.length + 4) 0 0]] (h ++ (some ⟨0, x8 ns fl⟩ :: some ⟨0, S.map AV.i⟩ :: gmB ns fl S (h.length + 3) (l0 ++ o7 ns S m) :: spB (l0 ++ o7 ns S m) :: [some ⟨0, [.i m]⟩]))
            (fun r h' => r = .undef ∧ h' = h ++ (some ⟨0, x8 ns fl⟩ :: some ⟨0, S.map AV.i⟩ :: gmB ns fl S (h.length + 3) (l0 ++ o7 ns S m ++ G1 ns S m) :: spB (l0 ++ o7 ns S m ++ G1 ns S m) :: [some ⟨0, [.i m]⟩])) := by
          have := sA (ns := ns) (fl := fl) (gok _ (htm m) (by have := hlm m (by omega); omega)) ⟨-1, m, 5, 0, m, S⟩ [some ⟨0, [.i m]⟩] E83 (caps := [.ptr (h.length + 4) 0 0]) ⟨by simp [s7], trivial⟩ (chg := fun T => T.set (44 + m) (q + 1)) (fun T hT => by rw [List.length_set, hT])
            (fun A T hT hd => by
              have := yO (h := h ++ [some ⟨0, x8 ns fl⟩, some ⟨0, S.map AV.i⟩, none, none]) (b := h.length + 2) (lb := h.length + 3) (ns := ns) (fl := fl) (S := S) (l := l0 ++ o7 ns S m) hlt hq ⟨q0, q3⟩ A T hT hd
              simpa using this)
          rw [em, ← hs] at this
          rwa [Y4, Y4] at this
        repeat' (first | ((repeat ((fail_if_success (refine hK _ ?_)); clear hK K)); refine hK _ ?_; clear hK K) | ((first | refine b9 fun K1 q6 => ?_ | refine b7 fun A B hA hB => ?_); simp only [S1, simprocAttr, co, m0, m4, Q4 (n := 4) (by omega) hlt, hdq, l4, h3', List.length_map, Nat.mul_one]; first | refine q6 _ ?_; clear q6 K1 | (refine hA ?_; clear hA hB A B) | (apply d4 E81; exact (hw9 _); refine q6 _ ?_; clear q6 K1) | (apply d4 E82; exact hadd; refine q6 _ ?_; clear q6 K1)) | refine b6 fun K hK => ?_ | ((first | apply b8 | apply b5 | apply c7 | apply c9); try simp only [NB, simprocAttr]))
        all_goals refine ⟨hlt, trivial, ?_⟩
        all_goals simp only [es, ← List.append_assoc]
        all_goals refine ⟨rfl, ⟨_, by simp only [List.append_assoc, List.cons_append, List.nil_append]; rfl⟩, ?_, ⟨trivial, trivial, trivial⟩, g9 _ _, D8 (by simp), g9 _ _, trivial⟩
        all_goals simp only [S1, simprocAttr, KNB] <;> (try and_intros) <;> (try assumption) <;> (try trivial) <;> (try omega)
        all_goals exact g9 _ _
      · have h3' : decide (qAt S (m : Int) < 3) = false := decide_eq_false h3
        have hs : G1 ns S m = [] := by unfold G1; rw [if_neg (by simp [h3])]
        repeat' (first | ((repeat ((fail_if_success (refine hK _ ?_)); clear hK K)); refine hK _ ?_; clear hK K) | ((first | refine b9 fun K1 q6 => ?_ | refine b7 fun A B hA hB => ?_); simp only [S1, simprocAttr, co, m0, m4, Q4 (n := 4) (by omega) hlt, hdq, l4, h3', List.length_map, Nat.mul_one]; first | refine q6 _ ?_; clear q6 K1 | ((first | refine hA ?_ | refine hB ?_); clear hA hB A B) | (apply d4 E81; exact (hw9 _); refine q6 _ ?_; clear q6 K1)) | refine b6 fun K hK => ?_ | ((first | apply b8 | apply b5 | apply c7 | apply c9); try simp only [NB, simprocAttr]))
        all_goals refine ⟨hlt, trivial, ?_⟩
        all_goals simp only [es, hs, List.append_nil]
        all_goals refine ⟨rfl, ⟨_, rfl⟩, ?_, ⟨trivial, trivial, trivial⟩, g9 _ _, D8 (by simp), g9 _ _, trivial⟩
        all_goals simp only [S1, simprocAttr, KNB] <;> (try and_intros) <;> (try assumption) <;> (try trivial) <;> (try omega)
        all_goals exact g9 _ _
  obtain rfl : m = 4 := by omega
  have hz := htm 4
  have hrf := aJ (ns := ns) (fl := fl) (lb := h.length + 3) (n := (l0 ++ o7 ns S 4).length) hS
  rw [List.length_append] at hrf
  repeat' (first | ((repeat ((fail_if_success (refine hK _ ?_)); clear hK K)); refine hK _ ?_; clear hK K) | ((first | refine b9 fun K1 q6 => ?_ | refine b7 fun A B hA hB => ?_); simp only [S1, simprocAttr, co, gmB, hrf]; first | refine q6 _ ?_; clear q6 K1 | (refine hB ?_; clear hA hB A B)) | refine b6 fun K hK => ?_ | ((first | apply b8 | apply b5 | apply f9 | apply d3); try simp only [NB, simprocAttr]))
  rw [show uG (l0 ++ o7 ns S 4) = .p (.sl ((l0 ++ o7 ns S 4).map ob)) from congrArg (fun x => AV.p (.sl x)) (kr hz).symm]
  exact fZ qj tr (.inr rfl) (l := l0 ++ o7 ns S 4) (List.length_append).symm rfl (by simp only [spB, wJ hz, s8, n8, List.getElem?_cons_succ, List.getElem?_cons_zero, List.length_append, if_true]) (by omega) (by simp) (by simp) rfl
end
section
def bn := And.intro T2 (And.intro T3 (And.intro T4 (And.intro T22 (And.intro T25 (And.intro T28 (And.intro T31 (And.intro T41 (And.intro T57 (And.intro T58 (And.intro T77 (And.intro T89 (And.intro T92 (And.intro fS np)))))))))))))
attribute [local irreducible] awp n9 k3 l8 o6 n5
theorem I0 {ns : List Nd} {fl : List Fl} {S : List Int} (hS : S.length = 49) : ∀ y ∈ n7 ns fl S, y.to.length = 49 := by
  intro y hy
  unfold n7 at hy
  split at hy
  · cases hy
  · rcases List.mem_append.mp hy with h | h
    · exact V1 hS _ y h
    · exact cF hS _ y h
theorem M4 {ns : List Nd} {fl : List Fl} {S : List Int} : (n7 ns fl S).length ≤ 2500 := by
  unfold n7
  split
  · simp
  · rename_i h0
    rw [not_or] at h0
    have rt := Right.of (W5 (by simpa using h0.1)).1
    have hn := rt.n
    have hf := rt.f
    have h1 := aR ns fl S hf ns.length
    have h2 := aU ns S 4
    rw [List.length_append]
    have : 100 * ns.length ≤ 100 * 24 := Nat.mul_le_mul_left _ hn
    omega
def cMv (y : Sp) : List Int := [y.node, y.arg, y.lk, y.ln, y.la]
def eMv (y : Sp) : List PV := (cMv y).map (PV.int .i64)
def kI (l : List Sp) : List Int := l.flatMap cMv
abbrev Af (l : List Sp) : AV := .p (.sl (l.map eMv))
theorem yP (y : Sp) : (eMv y).length = 5 := rfl
theorem Ag (y : Sp) : ∀ x ∈ eMv y, x ≠ .nils := by
  intro x hx
  obtain ⟨n, _, rfl⟩ := List.mem_map.mp hx
  exact fun e => by cases e
theorem Ah (l : List Sp) : (kI l).map AV.i = (X9 eMv l).map AV.p := by
  unfold X9 kI eMv
  rw [List.map_flatMap, List.map_flatMap]
  congr 1
theorem qz : ∀ l : List Sp, (kI l).length = l.length * 5
  | [] => rfl
  | x :: r => by
    have := qz r
    unfold kI at this ⊢
    rw [List.flatMap_cons, List.length_append, this, List.length_cons]; simp [cMv] <;> omega
theorem uY {l : List Sp} {j : Nat} {y : Sp} (h : l[j]? = some y) : kI (l.take (j + 1)) = kI (l.take j) ++ [y.node, y.arg, y.lk, y.ln, y.la] := by
  unfold kI
  rw [List.take_add_one, h, List.flatMap_append]
  simp [cMv]
theorem iy {ns : List Nd} {fl : List Fl} (nk : NetOk ns fl) {S : List Int} (hS : S.length = 49) (h : Heap) :
    d5 Tryz.prog gW 38 [G7 ns fl, aS S] h (fun r h' => r = Af (n7 ns fl S) ∧ h' = h) := by
  have hne := K6 hS
  have hst := fun h => fo nk hS h
  have hto := I0 (ns := ns) (fl := fl) hS
  have hln := M4 (ns := ns) (fl := fl) (S := S)
  have t49' : (S.map AV.i).take 49 = S.map AV.i := List.take_of_length_le (by rw [List.length_map, hS]; exact Nat.le_refl _)
  refine c8 (rl := []) e9 Tryz.func38 rfl (rs := [.tmp 4]) rfl Tryz.ntmps38 (by simp) ?_
  repeat' (first | ((repeat ((fail_if_success (refine hK _ ?_)); clear hK K)); refine hK _ ?_; clear hK K) | (refine b9 fun K1 q6 => ?_; simp only [S1, simprocAttr, bn, TSz, i6, h9, j3, hne, hS, d8, t49', d7, d9, List.length_map]; first | refine q6 _ ?_; clear q6 K1 | (apply d4 E59; exact (hst _); refine q6 _ ?_; clear q6 K1)) | refine b6 fun K hK => ?_ | ((first | apply b8 | apply b5 | apply c7); try simp only [NB, simprocAttr]))
  clear hst
  generalize n7 ns fl S = sl at *
  refine F0 sl.length 23 (fun j => [(12, .i j), (11, .i sl.length), (10, uG sl), (5, .ref (h.length + 2) j 0 5 j)])
    (fun j => [some ⟨0, x8 ns fl⟩, some ⟨0, S.map AV.i⟩, some ⟨j, (kI (sl.take j)).map AV.i⟩]) (fun j => True) ?_ trivial fun j hj hp K hK => ?_
  · refine (o8.adopt 5 5 rfl).trans (Sub.ghost ⟨rfl, ⟨[], by simp [kI]⟩, ?_, ⟨trivial, trivial, trivial⟩, g9 _ _, g9 _ _, trivial⟩)
    simp only [K4, s7, G5, frL, List.length_cons, List.length_nil]
    simp
  rcases Nat.lt_or_ge j sl.length with hlt | hge
  · obtain ⟨y, hy⟩ : ∃ y, sl[j]? = some y := ⟨_, List.getElem?_eq_getElem hlt⟩
    have hxy : (sl.map eSp)[j]? = some ((cSp y).map (PV.int .i64)) := by rw [List.getElem?_map, hy]; rfl
    have hyl := hto y (List.mem_of_getElem? hy)
    have jl : (j : Int) < (sl.length : Int) := by omega
    have j0 : (0 : Int) ≤ (j : Int) := by omega
    have hnx : IntKind.i64.wrap ((j : Int) + 1) = ((j + 1 : Nat) : Int) := by rw [IntWalk.i64_in _ (by omega)]; omega
    have y54 : (cSp y).length = 54 := E4 hyl
    have ymm := (x9 (cSp y)).trans (nP y)
    have yov := D3 hyl
    have yt49 : (y.to.map AV.i).take 49 = y.to.map AV.i := List.take_of_length_le (by rw [List.length_map, hyl]; exact Nat.le_refl _)
    have hmax : j + 1 ≤ j7 := by unfold j7; omega
    have hcl : (kI (sl.take j)).length = j * 5 := by rw [qz, List.length_take, Nat.min_eq_left (by omega)]
    have hcs := uY hy
    repeat' (first | ((repeat ((fail_if_success (refine hK _ ?_)); clear hK K)); refine hK _ ?_; clear hK K) | ((first | refine b9 fun K1 q6 => ?_ | refine b7 fun A B hA hB => ?_); simp only [S1, simprocAttr, bn, jl, j0, hxy, hnx, y54, ymm, yov, yt49, hyl, hmax, hcl, d7, d9, d8, List.length_map, Nat.mul_one]; first | refine q6 _ ?_; clear q6 K1 | (refine hA ?_; clear hA hB A B)) | refine b6 fun K hK => ?_ | ((first | apply b8 | apply b5 | apply c7 | apply c9); try simp only [NB, simprocAttr]))
    all_goals refine ⟨hlt, trivial, ?_⟩
    all_goals simp only [hcs, List.map_append, List.map_cons, List.map_nil]
    all_goals refine ⟨rfl, ⟨_, rfl⟩, ?_, ⟨trivial, trivial, trivial⟩, g9 _ _, (by have := g9 (h.length + 3) (kI (sl.take j) ++ [y.node, y.arg, y.lk, y.ln, y.la]); simpa using this), trivial⟩
    all_goals simp only [S1, simprocAttr, KNB] <;> (try and_intros) <;> (try assumption) <;> (try trivial) <;> (try omega)
  · obtain rfl : j = sl.length := by omega
    repeat' (first | ((repeat ((fail_if_success (refine hK _ ?_)); clear hK K)); refine hK _ ?_; clear hK K) | ((first | refine b9 fun K1 q6 => ?_ | refine b7 fun A B hA hB => ?_); simp only [S1, simprocAttr, bn, Int.lt_irrefl]; first | refine q6 _ ?_; clear q6 K1 | (refine hB ?_; clear hA hB A B)) | refine b6 fun K hK => ?_ | ((first | apply b8 | apply b5 | apply f9 | apply d3); try simp only [NB, simprocAttr]))
    exact fZ yP Ag (.inr rfl) (l := sl) rfl rfl (by simp only [Ah, List.take_length, s8, n8, List.getElem?_cons_succ, List.getElem?_cons_zero, if_true]) (by omega) (by simp) (by simp) rfl
def zSp : Sp := ⟨0, 0, 0, 0, 0, zS⟩
noncomputable def doG (ns : List Nd) (fl : List Fl) (S : List Int) (i : Int) : Sp × Int :=
  if stC ns fl S ≠ 0 then (zSp, stC ns fl S) else if i < 0 then (zSp, 6) else match (n7 ns fl S)[i.toNat]? with | some y => (y, 0) | none => (zSp, 6)
abbrev aLb (y : Sp) : AV := .agg [.i y.lk, .i y.ln, .i y.la]
theorem xk {ns : List Nd} {fl : List Fl} (nk : NetOk ns fl) {S : List Int} (hS : S.length = 49) (i : Int) (h : Heap) :
    d5 Tryz.prog gW 52 [G7 ns fl, aS S, .i i] h (fun r h' => r = .tup [aS (doG ns fl S i).1.to, aLb (doG ns fl S i).1, .i (doG ns fl S i).2] ∧ h' = h) := by
  have hne := K6 hS
  have hst := fun h => fo nk hS h
  have hck := fun h => dN nk hS h
  have hto := I0 (ns := ns) (fl := fl) hS
  have t49' : (S.map AV.i).take 49 = S.map AV.i := List.take_of_length_le (by rw [List.length_map, hS]; exact Nat.le_refl _)
  have hzl : (zS.map AV.i).length = 49 := by rw [List.length_map]; rfl
  have hem : (zS.map AV.i).isEmpty = false := rfl
  have hzz : w9 (zS.map AV.i) 0 (zS.map AV.i) = zS.map AV.i := l7 (n := 49) (by rw [List.length_map]; rfl) _ hzl
  have hzt : (zS.map AV.i).take 49 = zS.map AV.i := List.take_of_length_le (by rw [hzl]; exact Nat.le_refl _)
  by_cases h0 : stC ns fl S = 0
  case neg =>
    have f0 : (stC ns fl S != 0) = true := by simp [h0]
    have e : doG ns fl S i = (zSp, stC ns fl S) := by unfold doG; rw [if_pos h0]
    rw [e]
    refine c8 (rl := []) e9 Tryz.func52 rfl (rs := [.cell 6 82, .cell 7 28, .tmp 8]) rfl Tryz.ntmps52 (by simp) ?_
    repeat' (first | ((repeat ((fail_if_success (refine hK _ ?_)); clear hK K)); refine hK _ ?_; clear hK K) | ((first | refine b9 fun K1 q6 => ?_ | refine b7 fun A B hA hB => ?_); simp only [S1, simprocAttr, bn, f0, TSz, i6, h9, j3, hem, hzz, hzt, hne, hS, d8, t49', d7, d9, List.length_map]; first | refine q6 _ ?_; clear q6 K1 | (refine hA ?_; clear hA hB A B) | (apply d4 E51; exact (hck _); refine q6 _ ?_; clear q6 K1)) | refine b6 fun K hK => ?_ | ((first | apply b8 | apply b5 | apply d3); try simp only [NB, simprocAttr]))
    all_goals simp only [S1, simprocAttr, ENB, bn, hzt, hzl, List.length_map, j3, TSz, d9, L9, x9]
    all_goals rfl
  have f0 : (stC ns fl S != 0) = false := by simp [h0]
  rw [h0] at hck
  by_cases h1 : i < 0
  · have f1 : decide (i < 0) = true := decide_eq_true h1
    have e : doG ns fl S i = (zSp, 6) := by unfold doG; rw [if_neg (by simpa using h0), if_pos h1]
    rw [e]
    refine c8 (rl := []) e9 Tryz.func52 rfl (rs := [.cell 6 82, .cell 7 28, .tmp 8]) rfl Tryz.ntmps52 (by simp) ?_
    repeat' (first | ((repeat ((fail_if_success (refine hK _ ?_)); clear hK K)); refine hK _ ?_; clear hK K) | ((first | refine b9 fun K1 q6 => ?_ | refine b7 fun A B hA hB => ?_); simp only [S1, simprocAttr, bn, f1, TSz, i6, h9, j3, hem, hzz, hzt, hne, hS, d8, t49', d7, d9, List.length_map]; first | refine q6 _ ?_; clear q6 K1 | ((first | refine hA ?_ | refine hB ?_); clear hA hB A B) | (apply d4 E51; exact (hck _); refine q6 _ ?_; clear q6 K1) | (apply d4 E59; exact (hst _); refine q6 _ ?_; clear q6 K1)) | refine b6 fun K hK => ?_ | ((first | apply b8 | apply b5 | apply c9 | apply d3); try simp only [NB, simprocAttr]))
    all_goals simp only [S1, simprocAttr, ENB, bn, hzt, hzl, List.length_map, j3, TSz, d9, L9, x9]
    all_goals rfl
  have f1 : decide (i < 0) = false := decide_eq_false h1
  obtain ⟨n, rfl⟩ := Int.eq_ofNat_of_zero_le (by omega : 0 ≤ i)
  rcases Nat.lt_or_ge n (n7 ns fl S).length with hlt | hge
  · obtain ⟨y, hy⟩ : ∃ y, (n7 ns fl S)[n]? = some y := ⟨_, List.getElem?_eq_getElem hlt⟩
    have e : doG ns fl S (n : Int) = (y, 0) := by unfold doG; rw [if_neg (by simpa using h0), if_neg h1, Int.toNat_natCast, hy]
    rw [e]
    have hyl := hto y (List.mem_of_getElem? hy)
    generalize n7 ns fl S = sl at *
    have hxy : (sl.map eSp)[n]? = some ((cSp y).map (PV.int .i64)) := by rw [List.getElem?_map, hy]; rfl
    have f2 : decide ((sl.length : Int) ≤ (n : Int)) = false := by simp; omega
    have n0 : (0 : Int) ≤ (n : Int) := by omega
    have y54 : (cSp y).length = 54 := E4 hyl
    have ymm := (x9 (cSp y)).trans (nP y)
    have ycons : (cSp y).map (PV.int .i64) = .int .i64 y.node :: .int .i64 y.arg :: .int .i64 y.lk :: .int .i64 y.ln :: .int .i64 y.la :: y.to.map (PV.int .i64) := rfl
    have yto : (y.to.map (PV.int .i64)).map AV.p = y.to.map AV.i := x9 y.to
    have yt49 : (y.to.map AV.i).take 49 = y.to.map AV.i := List.take_of_length_le (by rw [List.length_map, hyl]; exact Nat.le_refl _)
    have yt49p : (y.to.map (PV.int .i64)).take 49 = y.to.map (PV.int .i64) := List.take_of_length_le (by rw [List.length_map, hyl]; exact Nat.le_refl _)
    have hyz : w9 (zS.map AV.i) 0 (y.to.map AV.i) = y.to.map AV.i := l7 (n := 49) (by rw [List.length_map, hyl]) _ hzl
    refine c8 (rl := []) e9 Tryz.func52 rfl (rs := [.cell 6 82, .cell 7 28, .tmp 8]) rfl Tryz.ntmps52 (by simp) ?_
    repeat' (first | ((first | apply b8 | apply s4); (try simp only [NB])) | ((repeat ((fail_if_success (refine hK _ ?_)); clear hK K)); refine hK _ ?_; clear hK K) | ((first | refine b9 fun K1 q6 => ?_ | refine v8 rfl rfl rfl fun K1 q6 => ?_ | refine b7 fun A B hA hB => ?_); simp only [S1, simprocAttr, bn, f1, f2, n0, hxy, y54, ymm, ycons, yto, yt49, yt49p, hyz, hyl, TSz, i6, h9, j3, hem, hne, hS, d8, t49', d7, d9, LNB]; first | refine q6 _ ?_; clear q6 K1 | (refine hB ?_; clear hA hB A B) | (apply d4 E51; exact (hck _); refine q6 _ ?_; clear q6 K1) | (apply d4 E59; exact (hst _); refine q6 _ ?_; clear q6 K1)) | ((first | refine u6 (v := ?_) rfl rfl rfl rfl (by decide) (fun R1 K1 q6 => ?_) ?_ | refine y5 (v := ?_) rfl rfl rfl (by decide) (fun K1 q6 => ?_) ?_ | refine X4 (v := ?_) rfl rfl rfl (by decide) (fun K1 q6 => ?_) ?_ | refine vL (v := ?_) rfl rfl rfl rfl (by decide) (fun H1 K1 q6 => ?_) ?_); rotate_left; (focus (simp only [S1, simprocAttr, bn, f1, f2, n0, hxy, y54, ymm, ycons, yto, yt49, yt49p, hyz, hyl, TSz, i6, h9, j3, hem, hne, hS, d8, t49', d7, d9, LNB]; (exact q6 _ _ _)))) | (refine s5 rfl rfl rfl ?_) | refine b6 fun K hK => ?_ | (refine o9 (es := []) [0, 1, 2, 3, 4, 5, 6, 7, 8, 9, 10, 11, 12, 13] 0 (fs := [2, 7, 10]) rfl (by kernel_rfl) (by kernel_rfl) ?_) | ((first | apply b5 | apply c9 | apply d3); try simp only [NB, simprocAttr]))
    all_goals simp only [S1, simprocAttr, ENB, bn, yt49, hyl, List.length_map, TSz, d9, L9, x9]
  · have e : doG ns fl S (n : Int) = (zSp, 6) := by unfold doG; rw [if_neg (by simpa using h0), if_neg h1, Int.toNat_natCast, List.getElem?_eq_none hge]
    rw [e]
    generalize n7 ns fl S = sl at *
    have f2 : decide ((sl.length : Int) ≤ (n : Int)) = true := by simp; omega
    refine c8 (rl := []) e9 Tryz.func52 rfl (rs := [.cell 6 82, .cell 7 28, .tmp 8]) rfl Tryz.ntmps52 (by simp) ?_
    repeat' (first | ((repeat ((fail_if_success (refine hK _ ?_)); clear hK K)); refine hK _ ?_; clear hK K) | ((first | refine b9 fun K1 q6 => ?_ | refine b7 fun A B hA hB => ?_); simp only [S1, simprocAttr, bn, f1, f2, TSz, i6, h9, j3, hem, hzz, hzt, hne, hS, d8, t49', d7, d9, List.length_map]; first | refine q6 _ ?_; clear q6 K1 | ((first | refine hA ?_ | refine hB ?_); clear hA hB A B) | (apply d4 E51; exact (hck _); refine q6 _ ?_; clear q6 K1) | (apply d4 E59; exact (hst _); refine q6 _ ?_; clear q6 K1)) | refine b6 fun K hK => ?_ | ((first | apply b8 | apply b5 | apply c9 | apply d3); try simp only [NB, simprocAttr]))
    all_goals simp only [S1, simprocAttr, ENB, bn, hzt, hzl, List.length_map, j3, TSz, d9, L9, x9]
    all_goals rfl
end
section
section
variable {P : Program} {G : Nat → Option (List PV)} {rl : List String} {h : Heap}
theorem gC {x y : Code} {Q : Exit → St → Prop} {s : St} (s1 : St) (h1 : ∀ K : St → Prop, (∀ s', o8 P G h s' s1 → K s') → awp P G rl h x (M7 K Q) s) (h2 : awp P G rl h y Q s1) : awp P G rl h (.seq x y) Q s :=
  nj (fun t => t = s1) (h1 _ fun s' hs => ⟨_, hs, rfl⟩) fun t e => by subst e; exact h2
theorem o8.move {h0 : Heap} {s : St} {b j q m off sz n : Nat} {bk bq bm : Blk} (hb : s.heap[b]? = some (some bk)) (hx : bk.cells[j]? = some (.ref m bm.g off sz n)) (hq : s.heap[q]? = some (some bq)) (hm : s.heap[m]? = some (some bm)) (hbq : b ≠ q) (hbm : b ≠ m) (hqm : q ≠ m) :
    o8 P G h0 s ⟨s.fr, s.nt, ((s.heap.set m none).set q (some ⟨bq.g + 1, bm.cells⟩)).set b (some ⟨bk.g, bk.cells.set j (.ref q (bq.g + 1) off sz n)⟩)⟩ := by
  intro ι a w ι0 w0 hS hs he
  have hbl : b < s.heap.length := j4 hb
  have hql : q < s.heap.length := j4 hq
  have hml : m < s.heap.length := j4 hm
  have hne' : bk.cells ≠ [] := by
    intro e
    rw [e] at hx; simp at hx
  obtain ⟨h', hh'⟩ : ∃ h', h' = ((s.heap.set m none).set q (some ⟨bq.g + 1, bm.cells⟩)).set b (some ⟨bk.g, bk.cells.set j (.ref q (bq.g + 1) off sz n)⟩) := ⟨_, rfl⟩
  obtain ⟨ι', hι⟩ : ∃ ι' : Nat → Nat × Nat, ι' = fun i => if i = q then ι m else ι i := ⟨_, rfl⟩
  have hlen : h'.length = s.heap.length := by rw [hh']; simp
  have hlo : ∀ (c : Nat) (bk' : Blk), h'[c]? = some (some bk') → (c = b ∧ bk' = ⟨bk.g, bk.cells.set j (.ref q (bq.g + 1) off sz n)⟩) ∨ (c = q ∧ bk' = ⟨bq.g + 1, bm.cells⟩) ∨ (c ≠ b ∧ c ≠ q ∧ c ≠ m ∧ s.heap[c]? = some (some bk')) := by
    intro c bk' hc
    rw [hh', List.getElem?_set] at hc
    split at hc
    · rename_i e
      split at hc
      · exact .inl ⟨e.symm, (Option.some.inj (Option.some.inj hc)).symm⟩
      · cases hc
    · rename_i e1
      rw [List.getElem?_set] at hc
      split at hc
      · rename_i e
        split at hc
        · exact .inr (.inl ⟨e.symm, (Option.some.inj (Option.some.inj hc)).symm⟩)
        · cases hc
      · rename_i e2
        rw [List.getElem?_set] at hc
        split at hc
        · (try split at hc) <;> cases hc
        · rename_i e3
          exact .inr (.inr ⟨fun e => e1 e.symm, fun e => e2 e.symm, fun e => e3 e.symm, hc⟩)
  have hιo : ∀ c, c ≠ q → ι' c = ι c := fun c hc => by rw [hι]; simp [hc]
  have hιq : ι' q = ι m := by rw [hι]; simp
  have own_lo : ∀ k, own ι' h' k → own ι s.heap k := by
    rintro k ⟨c, bk', q1, q2, q3⟩
    rcases hlo c bk' q1 with ⟨rfl, rfl⟩ | ⟨rfl, rfl⟩ | ⟨n1, n2, n3, q1⟩
    · exact ⟨c, bk, hb, hne', by rw [← q3, hιo c hbq]⟩
    · exact ⟨m, bm, hm, q2, by rw [← q3, hιq]⟩
    · exact ⟨c, bk', q1, q2, by rw [← q3, hιo c n2]⟩
  have oo : ∀ k, k < w.heap.size → ¬ own ι s.heap k → w.heap[k]? = w.heap[k]? ∧ ¬ own ι' h' k := fun k _ ho => ⟨rfl, fun e => ho (own_lo k e)⟩
  have lv : ∀ (c g : Nat), (∀ bk : Blk, s.heap[c]? = some (some bk) → g ≤ bk.g) → A7 h' c g → c ≠ q ∧ c ≠ m ∧ A7 s.heap c g ∧ (∀ bk : Blk, s.heap[c]? = some (some bk) → bk.cells ≠ [] → ∃ bk' : Blk, h'[c]? = some (some bk') ∧ bk'.cells ≠ []) := by
    rintro c g hg ⟨bk', q1, q2⟩
    rcases hlo c bk' q1 with ⟨rfl, rfl⟩ | ⟨rfl, rfl⟩ | ⟨n1, n2, n3, q3⟩
    · refine ⟨hbq, hbm, ⟨bk, hb, q2⟩, fun bk1 hk1 hk2 => ⟨_, q1, ?_⟩⟩
      rw [hb] at hk1; cases hk1
      rw [ne_eq, ← List.length_eq_zero_iff, List.length_set, List.length_eq_zero_iff]; exact hne'
    · have := hg bq hq
      simp only at q2
      omega
    · exact ⟨n2, n3, ⟨bk', q3, q2⟩, fun bk1 hk1 hk2 => ⟨bk', q1, by rw [q3] at hk1; cases hk1; exact hk2⟩⟩
  have gg : ∀ (c g : Nat), (∀ bk : Blk, s.heap[c]? = some (some bk) → g ≤ bk.g) → ∀ bk : Blk, h'[c]? = some (some bk) → g ≤ bk.g := by
    intro c g hg bk' q1
    rcases hlo c bk' q1 with ⟨rfl, rfl⟩ | ⟨rfl, rfl⟩ | ⟨n1, n2, n3, q3⟩
    · exact hg bk hb
    · have := hg bq hq
      simp only; omega
    · exact hg bk' q3
  have vr : ∀ x v, VRel ι s.heap w x v → VRel ι' h' w x v := by
    intro x v hx
    induction hx with
    | p x v hx => exact .p _ _ (hx.mono (Nat.le_refl _) oo)
    | agg cells vs hl hv ih => exact .agg _ _ hl ih
    | tup cells vs hl hv ih => exact .tup _ _ hl ih
    | fn f cells vs hl hv ih => exact .fn _ _ _ hl ih
    | ref c g off sz len A cc hn hb0 hg hv =>
      refine .ref _ _ _ _ _ _ _ hn (by rw [hlen]; exact hb0) (gg c g hg) fun hl => ?_
      obtain ⟨l1, l2, l3, l4⟩ := lv c g hg hl
      rw [hιo c l1]
      rcases hv l3 with hz | ⟨hA, hle, ⟨bk0, q0, hn0⟩, hcs⟩
      · exact .inl hz
      · exact .inr ⟨hA, hle, l4 bk0 q0 hn0, hcs⟩
    | ptr c g off A hb0 hg hv =>
      refine .ptr _ _ _ _ (by rw [hlen]; exact hb0) (gg c g hg) fun hl => ?_
      obtain ⟨l1, l2, l3, l4⟩ := lv c g hg hl
      rw [hιo c l1]
      exact hv l3
    | pin cells blk off hv => exact .pin _ _ _ (hv.mono (Nat.le_refl _) oo)
    | mref c g r hb0 hg hv =>
      refine .mref _ _ _ (by rw [hlen]; exact hb0) (gg c g hg) fun hl => ?_
      obtain ⟨l1, l2, l3, l4⟩ := lv c g hg hl
      rw [hιo c l1]
      exact hv l3
  have hq' : h'[q]? = some (some ⟨bq.g + 1, bm.cells⟩) := by
    rw [hh', List.getElem?_set_ne hbq, List.getElem?_set_self (by simpa using hql)]
  have vm : ∀ v, VRel ι s.heap w (.ref m bm.g off sz n) v → VRel ι' h' w (.ref q (bq.g + 1) off sz n) v := by
    intro v hv
    cases hv with
    | ref _ _ _ _ _ A cc hn hb0 hg hv =>
      refine .ref _ _ _ _ _ _ _ hn (by rw [hlen]; exact hql) (fun bk hk => by rw [hq'] at hk; cases hk; exact Nat.le_refl _) fun _ => ?_
      rw [hιq]
      rcases hv ⟨bm, hm, rfl⟩ with hz | ⟨hA, hle, ⟨bk0, q0, hn0⟩, hcs⟩
      · exact .inl hz
      · rw [hm] at q0; cases q0
        exact .inr ⟨hA, hle, ⟨_, hq', hn0⟩, hcs⟩
  rw [← hh']
  refine ⟨ι', ⟨⟨⟨fun c bk' hc hne => ?_, fun c c' k k' q1 q2 n1 n2 e => ?_⟩, fun g cells hg => (hs.hS.gr g cells hg).mono (Nat.le_refl _) oo⟩, fun k y hy => ?_, hs.nt, hs.df⟩, ?_⟩
  · rcases hlo c bk' hc with ⟨rfl, rfl⟩ | ⟨rfl, rfl⟩ | ⟨e1, e2, e3, hc⟩
    · have hB := hs.hS.hr.blk c bk hb hne'
      rcases hB with ⟨cs, ty, p1, p2, p3⟩ | ⟨es, e1, _⟩
      case inr =>
        rw [e1] at hx
        cases j with
        | zero => simp at hx
        | succ j => simp at hx
      refine .inl ⟨cs, ty, by rw [hιo c hbq]; exact p1, by rw [hιo c hbq]; simpa using p2, fun i y hy => ?_⟩
      rw [hιo c hbq]
      simp only [List.getElem?_set] at hy
      split at hy
      · rename_i e; subst e
        split at hy
        · cases hy
          obtain ⟨v, r1, r2⟩ := p3 j _ hx
          exact ⟨v, r1, vm v r2⟩
        · cases hy
      · obtain ⟨v, r1, r2⟩ := p3 i y hy
        exact ⟨v, r1, vr _ _ r2⟩
    · have := (hs.hS.hr.blk m bm hm hne).keep (b' := c) (ι' := ι') (h' := h') (w' := w) hιq rfl (fun y _ v hv => vr _ _ hv) (Nat.le_refl _) oo
      rcases this with ⟨cs, ty, p1, p2, p3⟩ | ⟨es, e1, p1, p2, p3⟩
      · exact .inl ⟨cs, ty, p1, p2, p3⟩
      · exact .inr ⟨es, e1, p1, p2, p3⟩
    · exact (hs.hS.hr.blk c bk' hc hne).keep (hιo c e2) rfl (fun y _ v hv => vr _ _ hv) (Nat.le_refl _) oo
  · have back : ∀ (c : Nat) (k : Blk), h'[c]? = some (some k) → k.cells ≠ [] → ∃ (d : Nat) (k0 : Blk), s.heap[d]? = some (some k0) ∧ k0.cells ≠ [] ∧ (ι' c).1 = (ι d).1 ∧ d = (if c = q then m else c) := by
      intro c k q1 n1
      rcases hlo c k q1 with ⟨rfl, rfl⟩ | ⟨rfl, rfl⟩ | ⟨e1, e2, e3, hc⟩
      · exact ⟨c, bk, hb, hne', by rw [hιo c hbq], by rw [if_neg hbq]⟩
      · exact ⟨m, bm, hm, n1, by rw [hιq], by rw [if_pos rfl]⟩
      · exact ⟨c, k, hc, n1, by rw [hιo c e2], by rw [if_neg e2]⟩
    obtain ⟨d, k0, a1, a2, a3, a4⟩ := back c k q1 n1
    obtain ⟨d', k1, b1, b2, b3, b4⟩ := back c' k' q2 n2
    have hd := hs.hS.hr.inj d d' k0 k1 a1 b1 a2 b2 (by rw [← a3, ← b3]; exact e)
    have nm : ∀ (c : Nat) (k : Blk), h'[c]? = some (some k) → c ≠ m := by
      intro c k q1
      rcases hlo c k q1 with ⟨rfl, _⟩ | ⟨rfl, _⟩ | ⟨_, _, e3, _⟩
      · exact hbm
      · exact hqm
      · exact e3
    have m1 := nm c k q1
    have m2 := nm c' k' q2
    rw [hd, b4] at a4
    split at a4 <;> split at a4 <;> omega
  · obtain ⟨v, p1, p2⟩ := hs.fr k y hy
    exact ⟨v, p1, vr _ _ p2⟩
  · refine ⟨he.size, fun k hk ho => ⟨(he.keep k hk ho).1, fun e => (he.keep k hk ho).2 (own_lo k e)⟩, by show _ ≤ h'.length; rw [hlen]; exact he.len, fun c bk' hc hk => ?_, he.os, he.output, he.tape, he.drawn⟩
    rcases hlo c bk' hk with ⟨rfl, rfl⟩ | ⟨rfl, rfl⟩ | ⟨e1, e2, e3, hk⟩
    · obtain ⟨bk0, a1, a2, a3⟩ := he.gens c bk hc hb
      refine ⟨bk0, a1, a2, fun e => ?_⟩
      obtain ⟨b1, b2, b3⟩ := a3 e
      exact ⟨by rw [hιo c hbq]; exact b1, fun _ => by rw [ne_eq, ← List.length_eq_zero_iff, List.length_set, List.length_eq_zero_iff]; exact hne', b3⟩
    · obtain ⟨bk0, a1, a2, a3⟩ := he.gens c bq hc hq
      exact ⟨bk0, a1, by simp only; omega, fun e => by simp only at e; omega⟩
    · obtain ⟨bk0, a1, a2, a3⟩ := he.gens c bk' hc hk
      refine ⟨bk0, a1, a2, fun e => ?_⟩
      obtain ⟨b1, b2, b3⟩ := a3 e
      exact ⟨by rw [hιo c e2]; exact b1, b2, b3⟩
theorem o8.freeze {h0 : Heap} {s : St} {k b sz n : Nat} {bk : Blk} {rows : List (List PV)} {rest : List AV} (hk : s.fr k = some (.ref b bk.g 0 sz n)) (hb : s.heap[b]? = some (some bk)) (hn : n = rows.length) (hrows : ∀ r ∈ rows, r.length = sz) (hsz : sz ≠ 0)
    (hc : bk.cells = (rows.flatMap id).map AV.p ++ rest) :
    o8 P G h0 s ⟨upd s.fr k (.p (.sl rows)), s.nt, s.heap.set b none⟩ := by
  intro ι a w ι0 w0 hS hs he
  have hbl : b < s.heap.length := j4 hb
  obtain ⟨h', hh'⟩ : ∃ h', h' = s.heap.set b none := ⟨_, rfl⟩
  have hlen : h'.length = s.heap.length := by rw [hh']; simp
  have hlo : ∀ (c : Nat) (bk' : Blk), h'[c]? = some (some bk') → c ≠ b ∧ s.heap[c]? = some (some bk') := by
    intro c bk' hc
    rw [hh', List.getElem?_set] at hc
    split at hc
    · (try split at hc) <;> cases hc
    · rename_i e; exact ⟨fun e' => e e'.symm, hc⟩
  have hhi : ∀ (c : Nat), c ≠ b → h'[c]? = s.heap[c]? := fun c hc => by rw [hh', List.getElem?_set_ne (fun e => hc e.symm)]
  have own_lo : ∀ k, own ι h' k → own ι s.heap k := by
    rintro k ⟨c, bk', q1, q2, q3⟩
    exact ⟨c, bk', (hlo c bk' q1).2, q2, q3⟩
  have oo : ∀ k, k < w.heap.size → ¬ own ι s.heap k → w.heap[k]? = w.heap[k]? ∧ ¬ own ι h' k := fun k _ ho => ⟨rfl, fun e => ho (own_lo k e)⟩
  have lv : ∀ (c g : Nat), A7 h' c g → c ≠ b ∧ A7 s.heap c g := by
    rintro c g ⟨bk', q1, q2⟩
    obtain ⟨n1, q3⟩ := hlo c bk' q1
    exact ⟨n1, bk', q3, q2⟩
  have gg : ∀ (c g : Nat), (∀ bk : Blk, s.heap[c]? = some (some bk) → g ≤ bk.g) → ∀ bk : Blk, h'[c]? = some (some bk) → g ≤ bk.g := fun c g hg bk' q1 => hg bk' (hlo c bk' q1).2
  have vr : ∀ x v, VRel ι s.heap w x v → VRel ι h' w x v := by
    intro x v hx
    induction hx with
    | p x v hx => exact .p _ _ (hx.mono (Nat.le_refl _) oo)
    | agg cells vs hl hv ih => exact .agg _ _ hl ih
    | tup cells vs hl hv ih => exact .tup _ _ hl ih
    | fn f cells vs hl hv ih => exact .fn _ _ _ hl ih
    | ref c g off sz len A cc hn hb0 hg hv =>
      refine .ref _ _ _ _ _ _ _ hn (by rw [hlen]; exact hb0) (gg c g hg) fun hl => ?_
      obtain ⟨l1, l3⟩ := lv c g hl
      rcases hv l3 with hz | ⟨hA, hle, ⟨bk0, q0, hn0⟩, hcs⟩
      · exact .inl hz
      · exact .inr ⟨hA, hle, ⟨bk0, by rw [hhi c l1]; exact q0, hn0⟩, hcs⟩
    | ptr c g off A hb0 hg hv =>
      refine .ptr _ _ _ _ (by rw [hlen]; exact hb0) (gg c g hg) fun hl => ?_
      obtain ⟨l1, l3⟩ := lv c g hl
      exact hv l3
    | pin cells blk off hv => exact .pin _ _ _ (hv.mono (Nat.le_refl _) oo)
    | mref c g r hb0 hg hv =>
      refine .mref _ _ _ (by rw [hlen]; exact hb0) (gg c g hg) fun hl => ?_
      obtain ⟨l1, l3⟩ := lv c g hl
      exact hv l3
  obtain ⟨v, hv1, hv2⟩ := hs.fr k _ hk
  have hnew : VRel ι h' w (.p (.sl rows)) v := by
    obtain ⟨A, c, rfl, hn64, hcase⟩ := hv2.ref_inv ⟨bk, hb, rfl⟩
    by_cases h0 : rows = []
    · subst h0; subst hn
      exact .p _ _ (.slz A c)
    rcases hcase with ⟨hz, _⟩ | ⟨rfl, hle, ⟨bk0, hq0, hne⟩, cs0, ty1, fr1, hcc, hfit⟩
    · rw [hn] at hz; exact absurd (List.eq_nil_of_length_eq_zero hz) h0
    rw [hb] at hq0; cases hq0
    obtain ⟨c0, ty0, hc0, hl0, hv0⟩ := (hs.hS.hr.blk b _ hb hne).cells hcc
    subst hn
    have hnown : ¬ own ι h' (ι b).1 := by
      rintro ⟨d, bk', q1, q2, q3⟩
      obtain ⟨n1, q4⟩ := hlo d bk' q1
      exact n1 (hs.hS.hr.inj d b bk' bk q4 hb q2 hne q3)
    have key : ∀ i j x, P8 rows i j = some x → ∃ u, c0[(ι b).2 + (i * sz + j)]? = some u ∧ VRel ι s.heap w (.p x) u := by
      intro i j x hx
      have hj : j < sz := by
        unfold P8 at hx
        cases hr : rows[i]? with
        | none => rw [hr] at hx; simp at hx
        | some r =>
          rw [hr] at hx
          have h1 := hrows r (List.mem_of_getElem? hr)
          have h2 := j4 (show r[j]? = some x from hx)
          omega
      have hf := dZ rows hrows i j hj
      rw [hx] at hf
      refine hv0 _ _ ?_
      rw [hc, List.getElem?_append_left (by rw [List.length_map]; exact j4 hf), List.getElem?_map, hf]; rfl
    refine .p _ _ (.sl rows (ι b).1 ((ι b).2 + 0) c sz (fun i j => (c0[(ι b).2 + (i * sz + j)]?).getD undef) hle hn64 hnown (sJ hc0) hrows (fun i j x hx => ?_) (fun i j x hx => ?_))
    · obtain ⟨u, q1, q2⟩ := key i j x hx
      rw [Nat.add_zero, q1]
      unfold World.cell?
      simp only [hc0, q1]; rfl
    · obtain ⟨u, q1, q2⟩ := key i j x hx
      rw [q1]
      cases q2 with
      | p _ _ q2 => exact q2.mono (Nat.le_refl _) oo
  rw [← hh']
  refine ⟨ι, ⟨⟨⟨fun c bk' hc hne => ?_, fun c c' k k' q1 q2 n1 n2 e => ?_⟩, fun g cells hg => (hs.hS.gr g cells hg).mono (Nat.le_refl _) oo⟩, fun j y hy => ?_, hs.nt, hs.df⟩, ?_⟩
  · exact (hs.hS.hr.blk c bk' (hlo c bk' hc).2 hne).keep rfl rfl (fun y _ v hv => vr _ _ hv) (Nat.le_refl _) oo
  · exact hs.hS.hr.inj c c' k k' (hlo c k q1).2 (hlo c' k' q2).2 n1 n2 e
  · simp only [upd] at hy
    split at hy
    · rename_i e; subst e; cases hy
      exact ⟨v, hv1, hnew⟩
    · obtain ⟨u, p1, p2⟩ := hs.fr j y hy
      exact ⟨u, p1, vr _ _ p2⟩
  · refine ⟨he.size, fun k hk ho => ⟨(he.keep k hk ho).1, fun e => (he.keep k hk ho).2 (own_lo k e)⟩, by show _ ≤ h'.length; rw [hlen]; exact he.len, fun c bk' hc hk => ?_, he.os, he.output, he.tape, he.drawn⟩
    obtain ⟨e1, e2⟩ := hlo c bk' hk
    obtain ⟨bk0, a1, a2, a3⟩ := he.gens c bk' hc e2
    exact ⟨bk0, a1, a2, a3⟩
theorem sB {σ : Type} {c : Code} {Q : Exit → St → Prop} {s : St} (m : σ → Nat) (nt : Nat) (H : σ → Heap) (l : σ → List (Nat × AV)) (L : σ → List (Option Blk)) (p : σ → Prop) (x0 : σ)
    (hH : ∀ x, (H x).length = h.length ∧ ∀ (b : Nat) (bk : Blk), (H x)[b]? = some (some bk) → h[b]? = some (some bk) ∨ o4 h.length bk.cells) (hi : Sub (H x0) s (l x0) (L x0) nt) (hp : p x0)
    (hb : ∀ x, p x → ∀ K : St → Prop, (∀ s', (∃ y, m y < m x ∧ p y ∧ Sub (H y) s' (l y) (L y) nt) → K s') → awp P G rl h c (M7 K Q) ⟨frL (l x), nt, H x ++ L x⟩) : awp P G rl h (.loop c) Q s := by
  refine bN (fun n s => ∃ x, p x ∧ n = m x ∧ s = ⟨frL (l x), nt, H x ++ L x⟩) (m x0) _ (hi.ghostH (hH x0).1 (hH x0).2) ⟨x0, hp, rfl, rfl⟩ fun n s hI => ?_
  obtain ⟨x, h1, rfl, rfl⟩ := hI
  refine hb x h1 _ fun s' hs => ?_
  obtain ⟨y, h2, h3, h4⟩ := hs
  exact ⟨m y, _, h2, h4.ghostH (hH y).1 (hH y).2, y, h3, rfl, rfl⟩
end
end
section
def bo := And.intro T2 (And.intro T3 (And.intro T4 (And.intro T25 (And.intro T26 (And.intro T41 (And.intro T57 (And.intro T58 (And.intro T89 (And.intro T92 zp)))))))))
attribute [local irreducible] awp n9 k3 l8 o6 n5
variable {G : Nat → Option (List PV)}
def eSt (S : Sv) : List PV := S.map (PV.int .i64)
abbrev H0 (l : List Sv) : AV := .p (.sl (l.map eSt))
def q9 (l : List Sv) : List AV := l.flatMap (·.map AV.i)
def mkE (s : Sv) : List Int × Bool := (s, true)
def D1 (l : List Sv) : Prop := ∀ s ∈ l, s.length = 49
theorem D5 : ∀ {l : List Sv}, D1 l → (q9 l).length = l.length * 49
  | [], _ => rfl
  | s :: l, h => by
    have := D5 (l := l) fun t ht => h t (by simp [ht])
    unfold q9 at this ⊢
    rw [List.flatMap_cons, List.length_append, this, List.length_map, h s (by simp), List.length_cons]; omega
theorem K2 (l : List Sv) (s : Sv) : q9 (l ++ [s]) = q9 l ++ s.map AV.i := by
  unfold q9; rw [List.flatMap_append]; simp
theorem x7 (l : List Sv) (n : Nat) : o4 n (q9 l) := by
  unfold q9
  rw [← List.map_flatMap]
  exact g9 _ _
theorem kJ : ∀ {l : List Sv} (j : Nat), D1 l → (q9 l).drop (j * 49) = q9 (l.drop j)
  | l, 0, _ => by simp
  | [], j + 1, _ => by simp [q9]
  | s :: l, j + 1, h => by
    have := kJ (l := l) j fun t ht => h t (by simp [ht])
    have hs : (s.map AV.i).length = 49 := by rw [List.length_map]; exact h s (by simp)
    rw [List.drop_succ_cons, ← this]
    unfold q9
    rw [List.flatMap_cons, show (j + 1) * 49 = 49 + j * 49 by omega, ← List.drop_drop, List.drop_left' hs]
theorem dR {l : List Sv} {j : Nat} {s : Sv} (h : D1 l) (hs : l[j]? = some s) : ((q9 l).drop (j * 49)).take 49 = s.map AV.i := by
  rw [kJ j h, List.drop_eq_getElem_cons (List.getElem?_eq_some_iff.mp hs).1, (List.getElem?_eq_some_iff.mp hs).2]
  have e : q9 (s :: l.drop (j + 1)) = s.map AV.i ++ q9 (l.drop (j + 1)) := by unfold q9; rw [List.flatMap_cons]
  rw [e, List.take_left' (by rw [List.length_map]; exact h s (List.mem_of_getElem? hs))]
theorem mw : ∀ l : List Int, dn (l.map AV.i) = some l
  | [] => rfl
  | x :: r => by simp only [List.map_cons, dn, mw r, Option.map_some]
theorem tE {s : Sv} : ∀ {l : List Sv}, s ∈ l → je (l.map mkE) s = some true
  | [], h => by cases h
  | t :: l, h => by
    unfold je
    rw [List.map_cons, List.find?_cons]
    by_cases e : t = s
    · subst e; simp [mkE]
    · have : ((mkE t).1 == s) = false := by simpa [mkE] using e
      rw [this]
      have hl : s ∈ l := by
        rcases List.mem_cons.mp h with h | h
        · exact absurd h.symm e
        · exact h
      exact tE hl
theorem qA {s : Sv} : ∀ {l : List Sv}, s ∉ l → je (l.map mkE) s = none
  | [], h => rfl
  | t :: l, h => by
    unfold je
    rw [List.map_cons, List.find?_cons]
    have e : t ≠ s := fun e => h (by simp [e])
    have : ((mkE t).1 == s) = false := by simpa [mkE] using e
    rw [this]
    exact qA fun h' => h (by simp [h'])
theorem AT {l : List Sv} (h : D1 l) : ((l.map mkE).all fun e => e.1.length == 49) = true := by
  rw [List.all_eq_true]
  intro e he
  obtain ⟨s, hs, rfl⟩ := List.mem_map.mp he
  simp [mkE, h s hs]
theorem Q7 {out more : List Sv} (h1 : D1 out) (h2 : D1 more) : D1 (B8 out more) := fun s hs => by
  rcases (O7 _ _).mp hs with h | h
  · exact h1 s h
  · exact h2 s h
def S8 (h : Heap) (out : List Sv) : Heap := h ++ [some ⟨0, [.mp (out.map mkE)]⟩, some ⟨0, [.mref h.length 0]⟩, some ⟨0, [.ref (h.length + 3) out.length 0 49 out.length]⟩, some ⟨out.length, q9 out⟩]
theorem H8 (h : Heap) (out : List Sv) : (S8 h out).length = h.length + 4 := by simp [S8]
theorem mA (h : Heap) (out out' : List Sv) : ∀ (b : Nat) (bk : Blk), (S8 h out)[b]? = some (some bk) → (S8 h out')[b]? = some (some bk) ∨ o4 (S8 h out').length bk.cells := by
  intro b bk hb
  rw [H8]
  unfold S8 at hb ⊢
  rcases Nat.lt_or_ge b h.length with hl | hl
  · rw [List.getElem?_append_left hl] at hb ⊢
    exact .inl hb
  · rw [List.getElem?_append_right hl] at hb
    right
    obtain ⟨i, hi⟩ : ∃ i, b - h.length = i := ⟨_, rfl⟩
    rw [hi] at hb
    match i, hb with
    | 0, hb => simp at hb; subst hb; exact ⟨trivial, trivial⟩
    | 1, hb => simp at hb; subst hb; exact ⟨by simp [s7], trivial⟩
    | 2, hb => simp at hb; subst hb; exact ⟨by simp [s7], trivial⟩
    | 3, hb => simp at hb; subst hb; exact x7 _ _
    | i + 4, hb => simp at hb
theorem kK (h : Heap) {out more : List Sv} (h1 : D1 out) (h2 : D1 more) (hn : out.length + more.length ≤ 16000000) :
    d5 Tryz.prog G 74 [H0 more, .ptr (h.length + 1) 0 0, .ptr (h.length + 2) 0 0] (S8 h out) (fun r h' => r = .undef ∧ h' = S8 h (B8 out more)) := by
  have hzl : (zS.map AV.i).length = 49 := by rw [List.length_map]; rfl
  have hem : (zS.map AV.i).isEmpty = false := rfl
  refine i3 (rl := []) e9 Tryz.func74 rfl (rs := []) rfl Tryz.ntmps74 (by simp) ?_
  repeat' (first | ((repeat ((fail_if_success (refine hK _ ?_)); clear hK K)); refine hK _ ?_; clear hK K) | (refine b9 fun K1 q6 => ?_; simp only [S1, simprocAttr, bo, List.length_map]; refine q6 _ ?_; clear q6 K1) | refine b6 fun K hK => ?_ | ((first | apply b8 | apply b5 | apply c7); try simp only [NB, simprocAttr]))
  refine R5 more.length 23 (fun j => S8 h (B8 out (more.take j))) (fun j => [(8, .i j), (7, .i more.length), (6, H0 more), (1, .ptr (h.length + 1) 0 0), (2, .ptr (h.length + 2) 0 0)]) (fun j => []) (fun j => True)
    (fun j => ⟨by rw [H8, H8], mA h _ _⟩) ?_ trivial fun j hj hp K hK => ?_
  · refine ⟨rfl, ⟨[], by simp [B8]⟩, ?_, trivial⟩
    simp only [H8]
    simp only [S1, simprocAttr, KNB] <;> (try and_intros) <;> (try assumption) <;> (try trivial) <;> (try omega)
  rw [List.append_nil]
  rcases Nat.lt_or_ge j more.length with hlt | hge
  · obtain ⟨s, hx⟩ : ∃ k, more[j]? = some k := ⟨_, List.getElem?_eq_getElem hlt⟩
    have hs : s.length = 49 := h2 s (List.mem_of_getElem? hx)
    have hxr : (more.map eSt)[j]? = some (s.map (PV.int .i64)) := by rw [List.getElem?_map, hx]; rfl
    have es := gp (out := out) hx
    have ho : D1 (B8 out (more.take j)) := Q7 h1 fun t ht => h2 t (List.mem_of_mem_take ht)
    have hol := (S3 (more.take j) out).1
    rw [List.length_take] at hol
    have jl : (j : Int) < (more.length : Int) := by omega
    have j0 : (0 : Int) ≤ (j : Int) := by omega
    have hnx : IntKind.i64.wrap ((j : Int) + 1) = ((j + 1 : Nat) : Int) := by rw [IntWalk.i64_in _ (by omega)]; omega
    have t49' : (s.map AV.i).take 49 = s.map AV.i := List.take_of_length_le (by rw [List.length_map, hs]; exact Nat.le_refl _)
    have hso : w9 (zS.map AV.i) 0 (s.map AV.i) = s.map AV.i := l7 (n := 49) (by rw [List.length_map, hs]) _ hzl
    have hsm := x9 s
    have hne := K6 hs
    generalize B8 out (more.take j) = o at *
    have hio := mw s
    have ha := AT ho
    have hmax : o.length + 1 ≤ j7 := by unfold j7; omega
    have hfl := D5 ho
    have hpk : ∀ L : Heap, S8 h o ++ L = h ++ ([some ⟨0, [.mp (o.map mkE)]⟩, some ⟨0, [.mref h.length 0]⟩, some ⟨0, [.ref (h.length + 3) o.length 0 49 o.length]⟩, some ⟨o.length, q9 o⟩] ++ L) := fun L => by unfold S8; rw [List.append_assoc]
    have hpk0 : S8 h o = h ++ [some ⟨0, [.mp (o.map mkE)]⟩, some ⟨0, [.mref h.length 0]⟩, some ⟨0, [.ref (h.length + 3) o.length 0 49 o.length]⟩, some ⟨o.length, q9 o⟩] := rfl
    by_cases hin : s ∈ o
    · have hg := tE hin
      have ea : X1 o s = o := by unfold X1; rw [if_pos hin]
      rw [ea] at es
      rw [hpk0]
      repeat' (first | ((repeat ((fail_if_success (refine hK _ ?_)); clear hK K)); refine hK _ ?_; clear hK K) | ((first | refine b9 fun K1 q6 => ?_ | refine b7 fun A B hA hB => ?_); simp only [S1, simprocAttr, bo, jl, j0, hnx, hxr, hs, hzl, hem, t49', hso, hsm, hne, hio, ha, hg, dW, Ar, At, Au, TSz, i6, h9, j3, d8, d7, d9, List.length_map, Option.getD_some]; first | refine q6 _ ?_; clear q6 K1 | ((first | refine hA ?_ | refine hB ?_); clear hA hB A B)) | refine b6 fun K hK => ?_ | ((first | apply b8 | apply b5 | apply c7 | apply c9); try simp only [NB, simprocAttr]))
      all_goals refine ⟨hlt, trivial, ?_⟩
      all_goals refine ⟨rfl, ⟨_, by rw [es, hpk0, List.append_assoc]; rfl⟩, ?_, trivial⟩
      all_goals simp only [H8]
      all_goals simp only [S1, simprocAttr, KNB] <;> (try and_intros) <;> (try assumption) <;> (try trivial) <;> (try omega)
    · have hg := qA hin
      have ea : X1 o s = o ++ [s] := by unfold X1; rw [if_neg hin]
      rw [ea] at es
      have hpk1 : S8 h (o ++ [s]) = h ++ [some ⟨0, [.mp (o.map mkE ++ [(s, true)])]⟩, some ⟨0, [.mref h.length 0]⟩, some ⟨0, [.ref (h.length + 3) (o.length + 1) 0 49 (o.length + 1)]⟩, some ⟨o.length + 1, q9 o ++ s.map AV.i⟩] := by
        unfold S8; rw [K2, List.map_append, List.length_append]; rfl
      have hpv := Q5 s
      have hch := N3 49 (s.map (PV.int .i64)) (by rw [List.length_map, hs])
      have hti : (s.map (PV.int .i64)).take 49 = s.map (PV.int .i64) := List.take_of_length_le (by rw [List.length_map, hs]; exact Nat.le_refl _)
      rw [hpk0]
      repeat' (first | ((repeat ((fail_if_success (refine hK _ ?_)); clear hK K)); refine hK _ ?_; clear hK K) | ((first | refine b9 fun K1 q6 => ?_ | refine b7 fun A B hA hB => ?_); simp only [S1, simprocAttr, bo, jl, j0, hnx, hxr, hs, hzl, hem, t49', hso, hsm, hne, hio, ha, hg, hmax, hfl, hpv, hch, hti, dW, ap, Ar, At, Au, TSz, i6, h9, j3, d8, d7, d9, List.length_map, Option.getD_none, List.drop_zero]; first | refine q6 _ ?_; clear q6 K1 | (refine hA ?_; clear hA hB A B)) | refine b6 fun K hK => ?_ | ((first | apply b8 | apply b5 | apply c7 | apply c9); try simp only [NB, simprocAttr]))
      all_goals refine ⟨hlt, trivial, ?_⟩
      all_goals refine ⟨rfl, ⟨_, by rw [es, hpk1, List.append_assoc]; rfl⟩, ?_, trivial⟩
      all_goals simp only [H8]
      all_goals simp only [S1, simprocAttr, KNB] <;> (try and_intros) <;> (try assumption) <;> (try trivial) <;> (try omega)
  · obtain rfl : j = more.length := by omega
    have hfin : ∀ (b : Nat) (bk : Blk), (S8 h (B8 out more))[b]? = some (some bk) → (S8 h out)[b]? = some (some bk) ∨ ∀ x, x ∈ bk.cells → AVlt (S8 h out).length x := fun b bk hb => by
      rcases mA h (B8 out more) out b bk hb with h' | h'
      · exact .inl h'
      · right
        rw [H8] at h' ⊢
        exact L5 _ h'
    have htk : (S8 h (B8 out more)).take (S8 h out).length = S8 h (B8 out more) := List.take_of_length_le (by rw [H8, H8]; exact Nat.le_refl _)
    have hle : (S8 h out).length ≤ (S8 h (B8 out more)).length := by rw [H8, H8]; exact Nat.le_refl _
    rw [List.take_length]
    repeat' (first | ((repeat ((fail_if_success (refine hK _ ?_)); clear hK K)); refine hK _ ?_; clear hK K) | ((first | refine b9 fun K1 q6 => ?_ | refine b7 fun A B hA hB => ?_); simp only [S1, simprocAttr, bo, Int.lt_irrefl]; first | refine q6 _ ?_; clear q6 K1 | (refine hB ?_; clear hA hB A B)) | refine b6 fun K hK => ?_ | ((first | apply b8 | apply b5 | apply f9); try simp only [NB, simprocAttr]))
    all_goals simp only [A0, y7, Q3, Q2, I4, F8, E6, G4, pur, L4, htk, S1, simprocAttr, Nat.le_add_right, Nat.le_refl]
    all_goals exact ⟨hle, hfin⟩
theorem ja {l : List Sv} (h : D1 l) : ∀ s ∈ l, (eSt s).length = 49 := fun s hs => by unfold eSt; rw [List.length_map]; exact h s hs
theorem gD : ∀ {l : List Sv}, D1 l → B7 49 l.length (l.flatMap eSt) = l.map eSt
  | [], _ => rfl
  | s :: r, h => by
    have ih := gD (l := r) fun t ht => h t (by simp [ht])
    have hs : (eSt s).length = 49 := ja h s (by simp)
    rw [List.length_cons, B7, List.flatMap_cons, List.take_left' hs, List.drop_left' hs, ih]; rfl
theorem qB (h : Heap) (n fuel : Nat) (l : List Sv) : L4 h n fuel (q9 l) = some (l.flatMap eSt) := by
  unfold q9 eSt
  rw [← List.map_flatMap, ← List.map_flatMap]
  exact L9 h n fuel _
theorem tF {h : Heap} {n fuel b g m : Nat} {l : List Sv} (h49 : D1 l) (hm : m = l.length) (hb : s8 h b g = some (q9 l)) (hn : n ≤ b) : pur h n (fuel + 1) (.ref b g 0 49 m) = some (.sl (l.map eSt)) := by
  subst hm
  unfold pur
  by_cases h0 : l.length = 0
  · rw [if_pos h0]; have := List.eq_nil_of_length_eq_zero h0; subst this; rfl
  · rw [if_neg h0, hb]
    have e : (q9 l).length = l.length * 49 := D5 h49
    simp only [hn, true_and, Nat.zero_add, e, Nat.le_refl, if_true, List.drop_zero]
    rw [List.take_of_length_le (by rw [e]; exact Nat.le_refl _), qB]
    simp only [Option.map_some, gD h49]
theorem qC {P : Program} {h : Heap} {K : AV → Prop} {x : Exit} {s : St} (hx : x = .normal ∨ x = .ret) {t b g m : Nat} {l : List Sv} (h49 : D1 l) (hm : m = l.length) (hf : s.fr t = some (.ref b g 0 49 m))
    (hb : s8 s.heap b g = some (q9 l)) (hn : h.length ≤ b) (ht : s.heap.take h.length = h) (hle : h.length ≤ s.heap.length) (hk : K (H0 l)) : iL P [.tmp t] h K x s := by
  have key : W8 P [.tmp t] h K s := by
    unfold W8
    simp only [Q3, Q2, I4, hf, F8, E6, tF h49 hm hb hn, Option.map_some]
    exact ⟨ht, hle, hk⟩
  rcases hx with rfl | rfl <;> exact key
theorem uZ {P : Program} {h : Heap} {K : AV → Prop} {x : Exit} {s : St} (hx : x = .normal ∨ x = .ret) {t t2 b g m : Nat} {l : List Sv} {y : Bool} (h49 : D1 l) (hm : m = l.length) (hf : s.fr t = some (.ref b g 0 49 m)) (hf2 : s.fr t2 = some (.b y))
    (hb : s8 s.heap b g = some (q9 l)) (hn : h.length ≤ b) (ht : s.heap.take h.length = h) (hle : h.length ≤ s.heap.length) (hk : K (.tup [H0 l, .b y])) : iL P [.tmp t, .tmp t2] h K x s := by
  have key : W8 P [.tmp t, .tmp t2] h K s := by
    unfold W8
    simp only [Q3, Q2, I4, hf, hf2, F8, G4, E6, tF h49 hm hb hn, pur, Option.map_some]
    exact ⟨ht, hle, hk⟩
  rcases hx with rfl | rfl <;> exact key
structure Qsp where
  i : Nat
  out : List Sv
theorem oh {f : FuncId} (hE : g8 Tryz.prog f) {caps : List AV} {h : Heap} (hcap : o4 h.length caps) {nx : Sv → List Sv} (hnx49 : ∀ s, s.length = 49 → D1 (nx s)) (hnl : ∀ s, (nx s).length ≤ 2500)
    (hnx : ∀ s, s.length = 49 → ∀ L : Heap, d5 Tryz.prog G f (aS s :: caps) (h ++ L) (fun r h' => r = H0 (nx s) ∧ h' = h ++ L)) {l : List Sv} (h49 : D1 l) (hl : l.length ≤ 8000000) :
    d5 Tryz.prog G 53 [H0 l, .i 1500, .fn f caps] h (fun r h' => r = .tup [H0 (B4 nx 1500 l), .b (decide ((B4 nx 1500 l).length ≤ 1500))] ∧ h' = h) := by
  have hadd0 := kK (G := G) h (out := []) (more := l) (fun s hs => by cases hs) h49 (by simp; omega)
  have hp0 : h ++ [some ⟨0, [.mp []]⟩, some ⟨0, [.mref h.length 0]⟩, some ⟨0, [.ref (h.length + 3) 0 0 49 0]⟩, some ⟨0, []⟩] = S8 h [] := rfl
  refine c8 (rl := []) e9 Tryz.func53 rfl (rs := [.tmp 6, .tmp 7]) rfl Tryz.ntmps53 (by simp) ?_
  refine b6 fun K hK => ?_
  repeat' (first | (apply b8; (try simp only [NB]); ((repeat ((fail_if_success (refine hK _ ?_)); clear hK K)); refine hK _ ?_; clear hK K)) | (refine b9 fun K1 q6 => ?_; simp only [S1, simprocAttr, bo, zp]; refine q6 _ ?_; clear q6 K1) | (apply b5; try simp only [NB, simprocAttr]; (try ((repeat ((fail_if_success (refine hK _ ?_)); clear hK K)); refine hK _ ?_; clear hK K))))
  refine b6 fun K hK => ?_
  repeat' (first | (apply b8; (try simp only [NB]); ((repeat ((fail_if_success (refine hK _ ?_)); clear hK K)); refine hK _ ?_; clear hK K)) | (refine b9 fun K1 q6 => ?_; simp only [S1, simprocAttr, bo, zp]; refine q6 _ ?_; clear q6 K1) | (apply b5; try simp only [NB, simprocAttr]; (try ((repeat ((fail_if_success (refine hK _ ?_)); clear hK K)); refine hK _ ?_; clear hK K))))
  refine gC ⟨frL [(8, .ptr (h.length + 1) 0 0), (9, .ptr (h.length + 2) 0 0), (0, H0 l), (1, .i 1500), (2, .fn f caps)], 42, S8 h []⟩ (fun K hK => ?_) ?_
  · repeat' (first | ((repeat ((fail_if_success (refine hK _ ?_)); clear hK K)); refine hK _ ?_; clear hK K) | (refine b9 fun K1 q6 => ?_; simp only [S1, simprocAttr, bo]; refine q6 _ ?_; clear q6 K1) | ((first | apply b8 | apply b5); try simp only [NB, simprocAttr]))
    refine (o8.adoptCell 49 (b := h.length + 2) (j := 0) (bk := ⟨0, [.p .nils]⟩) (by simp [n8]) rfl (by omega)).trans (Sub.ghost ⟨rfl, ⟨[], by simp [q9, Q9]⟩, ?_, ?_⟩)
    · have hc4 := E0 (Nat.le_add_right h.length 4) caps hcap
      simp only [S1, simprocAttr, KNB] <;> (try and_intros) <;> (try assumption) <;> (try trivial) <;> (try omega)
      all_goals exact hc4
    · exact ⟨⟨trivial, trivial⟩, ⟨by simp [s7], trivial⟩, ⟨by simp [s7], trivial⟩, trivial, trivial⟩
  have hEa := E74
  repeat' (first | ((repeat ((fail_if_success (refine hK _ ?_)); clear hK K)); refine hK _ ?_; clear hK K) | (refine b9 fun K1 q6 => ?_; simp only [S1, simprocAttr, bo, H8]; first | refine q6 _ ?_; clear q6 K1 | (apply d4 E74; exact hadd0; refine q6 _ ?_; clear q6 K1)) | refine b6 fun K hK => ?_ | ((first | apply b8 | apply b5 | apply c7); try simp only [NB, simprocAttr]))
  refine dI (σ := Qsp) (fun q => 1501 - q.i) 42 (fun q => [(11, .i q.i), (10, .fn 74 [.ptr (h.length + 1) 0 0, .ptr (h.length + 2) 0 0]), (9, .ptr (h.length + 2) 0 0), (1, .i 1500), (2, .fn f caps)])
    (fun q => [some ⟨0, [.mp (q.out.map mkE)]⟩, some ⟨0, [.mref h.length 0]⟩, some ⟨0, [.ref (h.length + 3) q.out.length 0 49 q.out.length]⟩, some ⟨q.out.length, q9 q.out⟩])
    (fun q => q.i ≤ 1501 ∧ D1 q.out ∧ q.out.length ≤ 8000000 ∧ B4 nx 1500 l = D0 nx 1500 (1501 - q.i) q.i q.out) ⟨0, B8 [] l⟩ ?_ ?_ fun q hp K hK => ?_
  · refine Sub.ghost ⟨rfl, ⟨[], by rw [List.append_nil]; rfl⟩, ?_, ?_⟩
    · have hc4 := E0 (Nat.le_add_right h.length 4) caps hcap
      simp only [S1, simprocAttr, KNB] <;> (try and_intros) <;> (try assumption) <;> (try trivial) <;> (try omega)
      all_goals exact hc4
    · exact ⟨⟨trivial, trivial⟩, ⟨by simp [s7], trivial⟩, ⟨by simp [s7], trivial⟩, x7 _ _, trivial⟩
  · refine ⟨by show 0 ≤ 1501; omega, Q7 (fun s hs => by cases hs) h49, ?_, rfl⟩
    have := (S3 l []).1
    simp only [List.length_nil, Nat.zero_add] at this
    show (B8 [] l).length ≤ 8000000
    omega
  obtain ⟨i, out⟩ := q
  obtain ⟨p1, p2, p3, p4⟩ := hp
  simp only at p1 p2 p3 p4 hK ⊢
  have hpk : h ++ [some ⟨0, [.mp (out.map mkE)]⟩, some ⟨0, [.mref h.length 0]⟩, some ⟨0, [.ref (h.length + 3) out.length 0 49 out.length]⟩, some ⟨out.length, q9 out⟩] = S8 h out := rfl
  have hfl := D5 p2
  have i0 : (0 : Int) ≤ (i : Int) := by omega
  have hnx1 : IntKind.i64.wrap ((i : Int) + 1) = ((i + 1 : Nat) : Int) := by rw [IntWalk.i64_in _ (by omega)]; omega
  have hend : ∀ {fr : Nat → Option AV} (y : Bool), B4 nx 1500 l = out → fr 6 = some (.ref (h.length + 3) out.length 0 49 out.length) → fr 7 = some (.b y) → y = decide (out.length ≤ 1500) → iL Tryz.prog [.tmp 6, .tmp 7] h (fun r => r = .tup [H0 (B4 nx 1500 l), .b (decide ((B4 nx 1500 l).length ≤ 1500))]) .ret
      ⟨fr, 42, h ++ [some ⟨0, [.mp (out.map mkE)]⟩, some ⟨0, [.mref h.length 0]⟩, some ⟨0, [.ref (h.length + 3) out.length 0 49 out.length]⟩, some ⟨out.length, q9 out⟩]⟩ := fun y e1 e2 e3 e4 => by
    rw [e1, ← e4]
    exact uZ (.inr rfl) (t := 6) (t2 := 7) p2 rfl e2 e3 (by simp [s8, n8]) (Nat.le_add_right _ _) (by simp) (by simp) rfl
  by_cases hlt : i < out.length
  · have hi : (i : Int) < (out.length : Int) := by omega
    obtain ⟨s, hx⟩ : ∃ k, out[i]? = some k := ⟨_, List.getElem?_eq_getElem hlt⟩
    by_cases hmost : out.length ≤ 1500
    · have hm : (out.length : Int) ≤ 1500 := by omega
      have hs : s.length = 49 := p2 s (List.mem_of_getElem? hx)
      have hft := dR p2 hx
      have hle : 49 ≤ out.length * 49 - i * 49 := by omega
      have hn1 := hnx s hs [some ⟨0, [.mp (out.map mkE)]⟩, some ⟨0, [.mref h.length 0]⟩, some ⟨0, [.ref (h.length + 3) out.length 0 49 out.length]⟩, some ⟨out.length, q9 out⟩]
      have hnl1 := hnl s
      have ha1 := kK (G := G) h p2 (hnx49 s hs) (by omega)
      have hEa := E74
      have hao := (S3 (nx s) out).1
      have p4' : B4 nx 1500 l = D0 nx 1500 (1501 - (i + 1)) (i + 1) (B8 out (nx s)) := by
        rw [p4]
        obtain ⟨k, hk⟩ : ∃ k, 1501 - i = k + 1 := ⟨1500 - i, by omega⟩
        rw [hk, show 1501 - (i + 1) = k by omega]
        conv => lhs; unfold D0
        rw [hx]; simp only; rw [if_pos hmost]
      repeat' (first | ((repeat ((fail_if_success (refine hK _ ?_)); clear hK K)); refine hK _ ?_; clear hK K) | ((first | refine b9 fun K1 q6 => ?_ | refine b7 fun A B hA hB => ?_); simp only [S1, simprocAttr, bo, hi, hm, i0, hnx1, hft, hle, hfl, TSz, d8, d7, d9, List.length_map, List.length_drop]; first | refine q6 _ ?_; clear q6 K1 | (refine hA ?_; clear hA hB A B) | (apply d4 hE; exact hn1; refine q6 _ ?_; clear q6 K1) | (apply d4 E74; exact ha1; refine q6 _ ?_; clear q6 K1)) | refine b6 fun K hK => ?_ | ((first | apply b8 | apply b5 | apply c7 | apply c9); try simp only [NB, simprocAttr]))
      all_goals refine ⟨⟨i + 1, B8 out (nx s)⟩, by simp only; omega, ⟨by simp only; omega, Q7 p2 (hnx49 s hs), by simp only; omega, p4'⟩, ?_⟩
      all_goals refine ⟨rfl, ⟨[], by rw [List.append_nil]; rfl⟩, ?_, ?_⟩
      · have hc4 := E0 (Nat.le_add_right h.length 4) caps hcap
        simp only [S1, simprocAttr, KNB] <;> (try and_intros) <;> (try assumption) <;> (try trivial) <;> (try omega)
        all_goals exact hc4
      · exact ⟨⟨trivial, trivial⟩, ⟨by simp [s7], trivial⟩, ⟨by simp [s7], trivial⟩, x7 _ _, trivial⟩
    · have hm : ¬ (out.length : Int) ≤ 1500 := by omega
      have e : B4 nx 1500 l = out := by
        rw [p4]
        cases hq : 1501 - i with
        | zero => rfl
        | succ f => unfold D0; rw [hx]; simp only; rw [if_neg hmost]
      repeat' (first | ((repeat ((fail_if_success (refine hK _ ?_)); clear hK K)); refine hK _ ?_; clear hK K) | ((first | refine b9 fun K1 q6 => ?_ | refine k4 fun K1 q6 => ?_ | refine b7 fun A B hA hB => ?_); simp only [S1, simprocAttr, bo, hi, hm, List.length_map]; first | refine q6 _ ?_; clear q6 K1 | (refine hB ?_; clear hA hB A B)) | refine b6 fun K hK => ?_ | ((first | apply b8 | apply i8 | apply b5 | refine i9 ?_ | apply f9 | apply d3); try simp only [NB, simprocAttr]))
      all_goals exact hend false e rfl rfl (by simp [hmost])
  · have hi : ¬ (i : Int) < (out.length : Int) := by omega
    have e : B4 nx 1500 l = out := by
      rw [p4]
      cases hq : 1501 - i with
      | zero => rfl
      | succ f => unfold D0; rw [List.getElem?_eq_none (by omega)]
    by_cases hmost : out.length ≤ 1500
    · have hm : (out.length : Int) ≤ 1500 := by omega
      repeat' (first | ((repeat ((fail_if_success (refine hK _ ?_)); clear hK K)); refine hK _ ?_; clear hK K) | ((first | refine b9 fun K1 q6 => ?_ | refine k4 fun K1 q6 => ?_ | refine b7 fun A B hA hB => ?_); simp only [S1, simprocAttr, bo, hi, hm, List.length_map]; first | refine q6 _ ?_; clear q6 K1 | (refine hB ?_; clear hA hB A B)) | refine b6 fun K hK => ?_ | ((first | apply b8 | apply i8 | apply b5 | refine i9 ?_ | apply f9 | apply d3); try simp only [NB, simprocAttr]))
      all_goals exact hend true e rfl rfl (by simp [hmost])
    · have hm : ¬ (out.length : Int) ≤ 1500 := by omega
      repeat' (first | ((repeat ((fail_if_success (refine hK _ ?_)); clear hK K)); refine hK _ ?_; clear hK K) | ((first | refine b9 fun K1 q6 => ?_ | refine k4 fun K1 q6 => ?_ | refine b7 fun A B hA hB => ?_); simp only [S1, simprocAttr, bo, hi, hm, List.length_map]; first | refine q6 _ ?_; clear q6 K1 | (refine hB ?_; clear hA hB A B)) | refine b6 fun K hK => ?_ | ((first | apply b8 | apply i8 | apply b5 | refine i9 ?_ | apply f9 | apply d3); try simp only [NB, simprocAttr]))
      all_goals exact hend false e rfl rfl (by simp [hmost])
end
section
theorem xl {fuel : Nat} {xs : List PV} (h : Ty Tryz.prog fuel 41 xs) : ∃ l : List Int, jY Tryz.prog 41 xs = aI l := by
  obtain ⟨m, rows, _, rfl, hr⟩ := bZ T41 h
  obtain ⟨l, _, _, hl⟩ := tj T3 rows hr
  exact ⟨l, by rw [nS T41, hl]; simp [TI.isAgg, eI]⟩
end
section
attribute [local irreducible] awp n9 k3 l8 o6 n5
theorem TRz : j9 Tryz.prog 60 = some ⟨.struct [(0, 40, 57), (40, 4, 58), (44, 4, 58), (48, 1, 3)], 49, 392, some z49⟩ := by rw [T60]; rfl
end
section
def bp := And.intro T2 (And.intro T3 (And.intro T4 (And.intro T25 (And.intro T26 (And.intro T28 (And.intro T31 (And.intro T34 (And.intro T41 (And.intro T57 (And.intro T58 (And.intro T62 (And.intro T65 (And.intro T89 T92)))))))))))))
attribute [local irreducible] awp n9 k3 l8 o6 n5
def P2 (y : Sp) : Lb := (y.lk, y.ln, y.la)
abbrev aL (x : Lb) : AV := .agg [.i x.1, .i x.2.1, .i x.2.2]
def M5 (sl : List Sp) (x : Lb) : List Sv := (sl.filter fun y => P2 y = x).map (·.to)
noncomputable def S9 (ns : List Nd) (fl : List Fl) (S : Sv) (x : Lb) : List Sv := M5 (n7 ns fl S) x
theorem mB {sl : List Sp} {j : Nat} {y : Sp} (h : sl[j]? = some y) (x : Lb) : M5 (sl.take (j + 1)) x = M5 (sl.take j) x ++ if P2 y = x then [y.to] else [] := by
  unfold M5
  rw [List.take_add_one, h, List.filter_append, List.map_append]
  congr 1
  by_cases hc : P2 y = x <;> simp [hc]
theorem ol (sl : List Sp) (j : Nat) (x : Lb) : (M5 (sl.take j) x).length ≤ sl.length := by
  unfold M5
  rw [List.length_map]
  exact Nat.le_trans (List.length_filter_le _ _) (by rw [List.length_take]; omega)
theorem fq {sl : List Sp} (h : ∀ y ∈ sl, y.to.length = 49) (x : Lb) : D1 (M5 sl x) := fun s hs => by
  unfold M5 at hs
  obtain ⟨y, hy, rfl⟩ := List.mem_map.mp hs
  exact h y (List.mem_filter.mp hy).1
theorem yQ (a b : Lb) : A2 true [AV.i a.1, AV.i a.2.1, AV.i a.2.2] [AV.i b.1, AV.i b.2.1, AV.i b.2.2] = some (decide (a = b)) := by
  simp only [A2]
  obtain ⟨a1, a2, a3⟩ := a
  obtain ⟨b1, b2, b3⟩ := b
  by_cases h1 : a1 = b1 <;> by_cases h2 : a2 = b2 <;> by_cases h3 : a3 = b3 <;> simp [h1, h2, h3]
theorem mC {ns : List Nd} {fl : List Fl} (nk : NetOk ns fl) {S : Sv} (hS : S.length = 49) (x : Lb) (h : Heap) :
    d5 Tryz.prog gW 31 [G7 ns fl, aS S, aL x] h (fun r h' => r = H0 (S9 ns fl S x) ∧ h' = h) := by
  have hne := K6 hS
  have hmv := fun h => iy nk hS h
  have hto := I0 (ns := ns) (fl := fl) hS
  have hln := M4 (ns := ns) (fl := fl) (S := S)
  have hzl : (zS.map AV.i).length = 49 := by rw [List.length_map]; rfl
  have hem : (zS.map AV.i).isEmpty = false := rfl
  have t49' : (S.map AV.i).take 49 = S.map AV.i := List.take_of_length_le (by rw [List.length_map, hS]; exact Nat.le_refl _)
  have hdo : ∀ (j : Nat) (y : Sp), (n7 ns fl S)[j]? = some y → ∀ h, d5 Tryz.prog gW 52 [G7 ns fl, aS S, .i j] h (fun r h' => r = .tup [aS y.to, aLb y, .i 0] ∧ h' = h) := by
    intro j y hy h
    have h0 : stC ns fl S = 0 := by
      rcases Classical.em (stC ns fl S = 0) with e | e
      · exact e
      · exfalso
        have : n7 ns fl S = [] := by unfold n7; rw [if_pos (.inl e)]
        rw [this] at hy; simp at hy
    have := xk nk hS (j : Int) h
    have e : doG ns fl S (j : Int) = (y, 0) := by unfold doG; rw [if_neg (by simpa using h0), if_neg (by omega), Int.toNat_natCast, hy]
    rw [e] at this
    exact this
  refine c8 (rl := []) e9 Tryz.func31 rfl (rs := [.tmp 6]) rfl Tryz.ntmps31 (by simp) ?_
  refine b6 fun K hK => ?_
  repeat' (first | (apply b8; (try simp only [NB]); ((repeat ((fail_if_success (refine hK _ ?_)); clear hK K)); refine hK _ ?_; clear hK K)) | (refine b9 fun K1 q6 => ?_; simp only [S1, simprocAttr, bp, hne, hS, d8]; refine q6 _ ?_; clear q6 K1) | (apply b5; try simp only [NB, simprocAttr]; (try ((repeat ((fail_if_success (refine hK _ ?_)); clear hK K)); refine hK _ ?_; clear hK K))))
  refine b6 fun K hK => ?_
  repeat' (first | (apply b8; (try simp only [NB]); ((repeat ((fail_if_success (refine hK _ ?_)); clear hK K)); refine hK _ ?_; clear hK K)) | (refine b9 fun K1 q6 => ?_; simp only [S1, simprocAttr, bp]; refine q6 _ ?_; clear q6 K1) | (apply b5; try simp only [NB, simprocAttr]; (try ((repeat ((fail_if_success (refine hK _ ?_)); clear hK K)); refine hK _ ?_; clear hK K))))
  refine b6 fun K hK => ?_
  repeat' (first | ((repeat ((fail_if_success (refine hK _ ?_)); clear hK K)); refine hK _ ?_; clear hK K) | (refine b9 fun K1 q6 => ?_; simp only [S1, simprocAttr, bp, TSz, i6, hne, hS, d8, t49', d7, d9, List.length_map]; first | refine q6 _ ?_; clear q6 K1 | (apply d4 E38; exact (hmv _); refine q6 _ ?_; clear q6 K1)) | refine b6 fun K hK => ?_ | ((first | apply b8 | apply b5 | apply c7); try simp only [NB, simprocAttr]))
  have hW : S9 ns fl S x = M5 (n7 ns fl S) x := rfl
  clear hmv
  generalize n7 ns fl S = sl at *
  refine F0 sl.length 40 (fun j => [(17, .i j), (16, .i sl.length), (15, Af sl), (7, .ref (h.length + 3) (M5 (sl.take j) x).length 0 49 (M5 (sl.take j) x).length), (3, .ptr h.length 0 0), (4, .ptr (h.length + 1) 0 0), (5, .ptr (h.length + 2) 0 0)])
    (fun j => [some ⟨0, x8 ns fl⟩, some ⟨0, S.map AV.i⟩, some ⟨0, [.i x.1, .i x.2.1, .i x.2.2]⟩, some ⟨(M5 (sl.take j) x).length, q9 (M5 (sl.take j) x)⟩]) (fun j => True) ?_ trivial fun j hj hp K hK => ?_
  · refine (o8.adopt 7 49 rfl).trans (Sub.ghost ⟨rfl, ⟨[], by simp [q9, M5]⟩, ?_, ⟨trivial, trivial, trivial⟩, g9 _ _, ⟨trivial, trivial, trivial, trivial⟩, trivial, trivial⟩)
    simp only [K4, s7, G5, frL, List.length_cons, List.length_nil]
    simp [M5]
  rcases Nat.lt_or_ge j sl.length with hlt | hge
  · obtain ⟨y, hy⟩ : ∃ y, sl[j]? = some y := ⟨_, List.getElem?_eq_getElem hlt⟩
    have hxy : (sl.map eMv)[j]? = some [.int .i64 y.node, .int .i64 y.arg, .int .i64 y.lk, .int .i64 y.ln, .int .i64 y.la] := by rw [List.getElem?_map, hy]; rfl
    have hyl := hto y (List.mem_of_getElem? hy)
    have es := mB hy x
    have hle := ol sl j x
    have ho49 := fq (sl := sl.take j) (fun y hy => hto y (List.mem_of_mem_take hy)) x
    have hfl := D5 ho49
    have hmax : (M5 (sl.take j) x).length + 1 ≤ j7 := by unfold j7; omega
    have jl : (j : Int) < (sl.length : Int) := by omega
    have j0 : (0 : Int) ≤ (j : Int) := by omega
    have hnx : IntKind.i64.wrap ((j : Int) + 1) = ((j + 1 : Nat) : Int) := by rw [IntWalk.i64_in _ (by omega)]; omega
    have heq := yQ (P2 y) x
    have heq : A2 true [.p (.int .i64 y.lk), .p (.int .i64 y.ln), .p (.int .i64 y.la)] [.p (.int .i64 x.1), .p (.int .i64 x.2.1), .p (.int .i64 x.2.2)] = some (decide (P2 y = x)) := heq
    by_cases hc : P2 y = x
    · rw [decide_eq_true hc] at heq
      rw [if_pos hc] at es
      have hd := hdo j y hy
      have yt49 : (y.to.map AV.i).take 49 = y.to.map AV.i := List.take_of_length_le (by rw [List.length_map, hyl]; exact Nat.le_refl _)
      have hyz : w9 (zS.map AV.i) 0 (y.to.map AV.i) = y.to.map AV.i := l7 (n := 49) (by rw [List.length_map, hyl]) _ hzl
      have hey : (y.to.map AV.i).isEmpty = false := K6 hyl
      have hpv := Q5 y.to
      have hch := N3 49 (y.to.map (PV.int .i64)) (by rw [List.length_map, hyl])
      have hti : (y.to.map (PV.int .i64)).take 49 = y.to.map (PV.int .i64) := List.take_of_length_le (by rw [List.length_map, hyl]; exact Nat.le_refl _)
      have hmm := x9 y.to
      have hfa := K2 (M5 (sl.take j) x) y.to
      repeat' (first | ((repeat ((fail_if_success (refine hK _ ?_)); clear hK K)); refine hK _ ?_; clear hK K) | ((first | refine b9 fun K1 q6 => ?_ | refine b7 fun A B hA hB => ?_); simp only [S1, simprocAttr, bp, jl, j0, hxy, hnx, hyl, hzl, hem, yt49, hyz, hey, hpv, hch, hti, hmm, hfl, hmax, heq, eqA, W28, TSz, i6, h9, j3, hne, hS, d8, t49', d7, d9, List.length_map, Nat.mul_one]; first | refine q6 _ ?_; clear q6 K1 | (refine hA ?_; clear hA hB A B) | (apply d4 E52; exact (hd _); refine q6 _ ?_; clear q6 K1)) | refine b6 fun K hK => ?_ | ((first | apply b8 | apply b5 | apply c7 | apply c9); try simp only [NB, simprocAttr]))
      all_goals refine ⟨hlt, trivial, ?_⟩
      all_goals simp only [es, hfa, List.length_append, List.length_cons, List.length_nil, Nat.zero_add]
      all_goals refine ⟨rfl, ⟨_, rfl⟩, ?_, ⟨trivial, trivial, trivial⟩, g9 _ _, ⟨trivial, trivial, trivial, trivial⟩, (by rw [← K2]; exact x7 _ _), trivial⟩
      all_goals simp only [S1, simprocAttr, KNB] <;> (try and_intros) <;> (try assumption) <;> (try trivial) <;> (try omega)
    · rw [decide_eq_false hc] at heq
      rw [if_neg hc, List.append_nil] at es
      repeat' (first | ((repeat ((fail_if_success (refine hK _ ?_)); clear hK K)); refine hK _ ?_; clear hK K) | ((first | refine b9 fun K1 q6 => ?_ | refine b7 fun A B hA hB => ?_); simp only [S1, simprocAttr, bp, jl, j0, hxy, hnx, hyl, heq, eqA, W28, d7, d9, List.length_map, Nat.mul_one]; first | refine q6 _ ?_; clear q6 K1 | ((first | refine hA ?_ | refine hB ?_); clear hA hB A B)) | refine b6 fun K hK => ?_ | ((first | apply b8 | apply b5 | apply c7 | apply c9); try simp only [NB, simprocAttr]))
      all_goals refine ⟨hlt, trivial, ?_⟩
      all_goals simp only [es]
      all_goals refine ⟨rfl, ⟨_, rfl⟩, ?_, ⟨trivial, trivial, trivial⟩, g9 _ _, ⟨trivial, trivial, trivial, trivial⟩, x7 _ _, trivial⟩
      all_goals simp only [S1, simprocAttr, KNB] <;> (try and_intros) <;> (try assumption) <;> (try trivial) <;> (try omega)
  · obtain rfl : j = sl.length := by omega
    have h49 := fq hto x
    repeat' (first | ((repeat ((fail_if_success (refine hK _ ?_)); clear hK K)); refine hK _ ?_; clear hK K) | ((first | refine b9 fun K1 q6 => ?_ | refine b7 fun A B hA hB => ?_); simp only [S1, simprocAttr, bp, Int.lt_irrefl]; first | refine q6 _ ?_; clear q6 K1 | (refine hB ?_; clear hA hB A B)) | refine b6 fun K hK => ?_ | ((first | apply b8 | apply b5 | apply f9 | apply d3); try simp only [NB, simprocAttr]))
    all_goals exact qC (.inr rfl) h49 rfl (by rw [List.take_length]; rfl) (by simp only [List.take_length, s8, n8, List.getElem?_cons_succ, List.getElem?_cons_zero, if_true]) (by omega) (by simp) (by simp) (by rw [hW])
theorem kL {ns : List Nd} {fl : List Fl} (nk : NetOk ns fl) {S : Sv} (hS : S.length = 49) (x : Lb) (h : Heap) :
    d5 Tryz.prog gW 34 [G7 ns fl, aS S, aL x] h (fun r h' => r = H0 (S9 ns fl S x) ∧ h' = h) := by
  have hne := K6 hS
  have hmv := fun h => fb nk hS h
  have hto := I0 (ns := ns) (fl := fl) hS
  have hln := M4 (ns := ns) (fl := fl) (S := S)
  have hzl : (zS.map AV.i).length = 49 := by rw [List.length_map]; rfl
  have hem : (zS.map AV.i).isEmpty = false := rfl
  have t49' : (S.map AV.i).take 49 = S.map AV.i := List.take_of_length_le (by rw [List.length_map, hS]; exact Nat.le_refl _)
  refine c8 (rl := []) e9 Tryz.func34 rfl (rs := [.tmp 6]) rfl Tryz.ntmps34 (by simp) ?_
  refine b6 fun K hK => ?_
  repeat' (first | (apply b8; (try simp only [NB]); ((repeat ((fail_if_success (refine hK _ ?_)); clear hK K)); refine hK _ ?_; clear hK K)) | (refine b9 fun K1 q6 => ?_; simp only [S1, simprocAttr, bp, hne, hS, d8]; refine q6 _ ?_; clear q6 K1) | (apply b5; try simp only [NB, simprocAttr]; (try ((repeat ((fail_if_success (refine hK _ ?_)); clear hK K)); refine hK _ ?_; clear hK K))))
  refine b6 fun K hK => ?_
  repeat' (first | (apply b8; (try simp only [NB]); ((repeat ((fail_if_success (refine hK _ ?_)); clear hK K)); refine hK _ ?_; clear hK K)) | (refine b9 fun K1 q6 => ?_; simp only [S1, simprocAttr, bp]; refine q6 _ ?_; clear q6 K1) | (apply b5; try simp only [NB, simprocAttr]; (try ((repeat ((fail_if_success (refine hK _ ?_)); clear hK K)); refine hK _ ?_; clear hK K))))
  refine b6 fun K hK => ?_
  repeat' (first | ((repeat ((fail_if_success (refine hK _ ?_)); clear hK K)); refine hK _ ?_; clear hK K) | (refine b9 fun K1 q6 => ?_; simp only [S1, simprocAttr, bp, TRz, i6, hne, hS, d8, t49', d7, d9, List.length_map]; first | refine q6 _ ?_; clear q6 K1 | (apply d4 E24; exact (hmv _); refine q6 _ ?_; clear q6 K1)) | refine b6 fun K hK => ?_ | ((first | apply b8 | apply b5 | apply c7); try simp only [NB, simprocAttr]))
  have hW : S9 ns fl S x = M5 (n7 ns fl S) x := rfl
  clear hmv
  generalize n7 ns fl S = sl at *
  refine F0 sl.length 29 (fun j => [(14, .i j), (13, .i sl.length), (12, uG sl), (7, .ref (h.length + 3) (M5 (sl.take j) x).length 0 49 (M5 (sl.take j) x).length), (5, .ptr (h.length + 2) 0 0)])
    (fun j => [some ⟨0, x8 ns fl⟩, some ⟨0, S.map AV.i⟩, some ⟨0, [.i x.1, .i x.2.1, .i x.2.2]⟩, some ⟨(M5 (sl.take j) x).length, q9 (M5 (sl.take j) x)⟩]) (fun j => True) ?_ trivial fun j hj hp K hK => ?_
  · refine (o8.adopt 7 49 rfl).trans (Sub.ghost ⟨rfl, ⟨[], by simp [q9, M5]⟩, ?_, ⟨trivial, trivial, trivial⟩, g9 _ _, ⟨trivial, trivial, trivial, trivial⟩, trivial, trivial⟩)
    simp only [K4, s7, G5, frL, List.length_cons, List.length_nil]
    simp [M5]
  rcases Nat.lt_or_ge j sl.length with hlt | hge
  · obtain ⟨y, hy⟩ : ∃ y, sl[j]? = some y := ⟨_, List.getElem?_eq_getElem hlt⟩
    have hxy : (sl.map eSp)[j]? = some ((cSp y).map (PV.int .i64)) := by rw [List.getElem?_map, hy]; rfl
    have hyl := hto y (List.mem_of_getElem? hy)
    have es := mB hy x
    have hle := ol sl j x
    have ho49 := fq (sl := sl.take j) (fun y hy => hto y (List.mem_of_mem_take hy)) x
    have hfl := D5 ho49
    have hmax : (M5 (sl.take j) x).length + 1 ≤ j7 := by unfold j7; omega
    have jl : (j : Int) < (sl.length : Int) := by omega
    have j0 : (0 : Int) ≤ (j : Int) := by omega
    have hnx : IntKind.i64.wrap ((j : Int) + 1) = ((j + 1 : Nat) : Int) := by rw [IntWalk.i64_in _ (by omega)]; omega
    have heq := yQ (P2 y) x
    have heq : A2 true [.p (.int .i64 y.lk), .p (.int .i64 y.ln), .p (.int .i64 y.la)] [.p (.int .i64 x.1), .p (.int .i64 x.2.1), .p (.int .i64 x.2.2)] = some (decide (P2 y = x)) := heq
    have y54 : (cSp y).length = 54 := E4 hyl
    have ymm := (x9 (cSp y)).trans (nP y)
    have ycons : (cSp y).map (PV.int .i64) = .int .i64 y.node :: .int .i64 y.arg :: .int .i64 y.lk :: .int .i64 y.ln :: .int .i64 y.la :: y.to.map (PV.int .i64) := rfl
    have yov := D3 hyl
    have yt49 : (y.to.map AV.i).take 49 = y.to.map AV.i := List.take_of_length_le (by rw [List.length_map, hyl]; exact Nat.le_refl _)
    by_cases hc : P2 y = x
    · rw [decide_eq_true hc] at heq
      rw [if_pos hc] at es
      have hyz : w9 (zS.map AV.i) 0 (y.to.map AV.i) = y.to.map AV.i := l7 (n := 49) (by rw [List.length_map, hyl]) _ hzl
      have hpv := Q5 y.to
      have hch := N3 49 (y.to.map (PV.int .i64)) (by rw [List.length_map, hyl])
      have hti : (y.to.map (PV.int .i64)).take 49 = y.to.map (PV.int .i64) := List.take_of_length_le (by rw [List.length_map, hyl]; exact Nat.le_refl _)
      have hmm := x9 y.to
      have hfa := K2 (M5 (sl.take j) x) y.to
      repeat' (first | ((repeat ((fail_if_success (refine hK _ ?_)); clear hK K)); refine hK _ ?_; clear hK K) | ((first | refine b9 fun K1 q6 => ?_ | refine b7 fun A B hA hB => ?_); simp only [S1, simprocAttr, bp, jl, j0, hxy, hnx, hyl, hzl, hem, y54, ymm, yov, yt49, hyz, hpv, hch, hti, hmm, hfl, hmax, heq, eqA, W28, TRz, i6, h9, j3, hne, hS, d8, t49', d7, d9, List.length_map, Nat.mul_one]; first | refine q6 _ ?_; clear q6 K1 | (refine hA ?_; clear hA hB A B)) | refine b6 fun K hK => ?_ | ((first | apply b8 | apply b5 | apply c7 | apply c9); try simp only [NB, simprocAttr]))
      all_goals refine ⟨hlt, trivial, ?_⟩
      all_goals simp only [es, hfa, List.length_append, List.length_cons, List.length_nil, Nat.zero_add]
      all_goals refine ⟨rfl, ⟨_, rfl⟩, ?_, ⟨trivial, trivial, trivial⟩, g9 _ _, ⟨trivial, trivial, trivial, trivial⟩, (by rw [← K2]; exact x7 _ _), trivial⟩
      all_goals simp only [S1, simprocAttr, KNB] <;> (try and_intros) <;> (try assumption) <;> (try trivial) <;> (try omega)
    · rw [decide_eq_false hc] at heq
      rw [if_neg hc, List.append_nil] at es
      repeat' (first | ((repeat ((fail_if_success (refine hK _ ?_)); clear hK K)); refine hK _ ?_; clear hK K) | ((first | refine b9 fun K1 q6 => ?_ | refine b7 fun A B hA hB => ?_); simp only [S1, simprocAttr, bp, jl, j0, hxy, hnx, hyl, y54, ymm, yov, yt49, heq, eqA, W28, d8, d7, d9, List.length_map, Nat.mul_one]; first | refine q6 _ ?_; clear q6 K1 | ((first | refine hA ?_ | refine hB ?_); clear hA hB A B)) | refine b6 fun K hK => ?_ | ((first | apply b8 | apply b5 | apply c7 | apply c9); try simp only [NB, simprocAttr]))
      all_goals refine ⟨hlt, trivial, ?_⟩
      all_goals simp only [es]
      all_goals refine ⟨rfl, ⟨_, rfl⟩, ?_, ⟨trivial, trivial, trivial⟩, g9 _ _, ⟨trivial, trivial, trivial, trivial⟩, x7 _ _, trivial⟩
      all_goals simp only [S1, simprocAttr, KNB] <;> (try and_intros) <;> (try assumption) <;> (try trivial) <;> (try omega)
  · obtain rfl : j = sl.length := by omega
    have h49 := fq hto x
    repeat' (first | ((repeat ((fail_if_success (refine hK _ ?_)); clear hK K)); refine hK _ ?_; clear hK K) | ((first | refine b9 fun K1 q6 => ?_ | refine b7 fun A B hA hB => ?_); simp only [S1, simprocAttr, bp, Int.lt_irrefl]; first | refine q6 _ ?_; clear q6 K1 | (refine hB ?_; clear hA hB A B)) | refine b6 fun K hK => ?_ | ((first | apply b8 | apply b5 | apply f9 | apply d3); try simp only [NB, simprocAttr]))
    all_goals exact qC (.inr rfl) h49 rfl (by rw [List.take_length]; rfl) (by simp only [List.take_length, s8, n8, List.getElem?_cons_succ, List.getElem?_cons_zero, if_true]) (by omega) (by simp) (by simp) (by rw [hW])
end
section
def br := And.intro T2 (And.intro T3 (And.intro T4 (And.intro T25 (And.intro T26 (And.intro T28 (And.intro T31 (And.intro T34 (And.intro T36 (And.intro T41 (And.intro T57 (And.intro T58 (And.intro T62 (And.intro T65 (And.intro T89 T92))))))))))))))
attribute [local irreducible] awp n9 k3 l8 o6 n5
theorem cJ {ns : List Nd} {fl : List Fl} {S : Sv} (hS : S.length = 49) (x : Lb) : D1 (S9 ns fl S x) := fq (I0 hS) x
theorem fu (ns : List Nd) (fl : List Fl) (S : Sv) (x : Lb) : (S9 ns fl S x).length ≤ 2500 := by
  have := ol (n7 ns fl S) (n7 ns fl S).length x
  rw [List.take_length] at this
  exact Nat.le_trans this M4
noncomputable abbrev nxW (ns : List Nd) (fl : List Fl) (S : Sv) : List Sv := S9 ns fl S (0, 0, 0)
theorem lu {ns : List Nd} {fl : List Fl} (nk : NetOk ns fl) {S : Sv} (hS : S.length = 49) {H : Heap} {b : Nat} (hb : H[b]? = some (some ⟨0, x8 ns fl⟩)) (hlt : b < H.length) :
    d5 Tryz.prog gW 54 [aS S, .ptr b 0 0] H (fun r h' => r = H0 (nxW ns fl S) ∧ h' = H) := by
  have hne := K6 hS
  have t49' : (S.map AV.i).take 49 = S.map AV.i := List.take_of_length_le (by rw [List.length_map, hS]; exact Nat.le_refl _)
  have hled := fun h => mC nk hS (0, 0, 0) h
  have hb' : ∀ L : Heap, (H ++ L)[b]? = some (some ⟨0, x8 ns fl⟩) := fun L => by rw [List.getElem?_append_left hlt]; exact hb
  refine c8 (rl := []) e9 Tryz.func54 rfl (rs := [.tmp 3]) rfl Tryz.ntmps54 (by simp) ?_
  repeat' (first | ((repeat ((fail_if_success (refine hK _ ?_)); clear hK K)); refine hK _ ?_; clear hK K) | (refine b9 fun K1 q6 => ?_; simp only [S1, simprocAttr, br, hb, hb', TSz, i6, hne, hS, d8, t49', d7, d9, List.length_map]; first | refine q6 _ ?_; clear q6 K1 | (apply d4 E31; exact (hled _); refine q6 _ ?_; clear q6 K1)) | refine b6 fun K hK => ?_ | ((first | apply b8 | apply b5 | apply d3); try simp only [NB, simprocAttr]))
  all_goals simp only [S1, simprocAttr, ENB, br]
noncomputable def u5 (ns : List Nd) (fl : List Fl) (l : List Sv) : List Sv × Int := if (B4 (nxW ns fl) 1500 l).length ≤ 1500 then (B4 (nxW ns fl) 1500 l, 0) else ([], 5)
theorem fv {ns : List Nd} {fl : List Fl} (nk : NetOk ns fl) {l : List Sv} (h49 : D1 l) (hl : l.length ≤ 8000000) (h : Heap) :
    d5 Tryz.prog gW 32 [G7 ns fl, H0 l] h (fun r h' => r = .tup [H0 (u5 ns fl l).1, .i (u5 ns fl l).2] ∧ h' = h) := by
  have hE := E54
  have hsp := oh (G := gW) hE (caps := [.ptr h.length 0 0]) (h := h ++ [some ⟨0, x8 ns fl⟩]) ⟨by simp [s7], trivial⟩ (nx := nxW ns fl) (fun s hs => cJ hs _) (fun s => fu _ _ _ _)
    (fun s hs L => lu nk hs (by rw [List.append_assoc, bM]; rfl) (by simp)) h49 hl
  by_cases hc : (B4 (nxW ns fl) 1500 l).length ≤ 1500
  · have e : u5 ns fl l = (B4 (nxW ns fl) 1500 l, 0) := if_pos hc
    rw [e]
    rw [decide_eq_true hc] at hsp
    refine c8 (rl := []) e9 Tryz.func32 rfl (rs := [.tmp 4, .tmp 5]) rfl Tryz.ntmps32 (by simp) ?_
    repeat' (first | ((repeat ((fail_if_success (refine hK _ ?_)); clear hK K)); refine hK _ ?_; clear hK K) | ((first | refine b9 fun K1 q6 => ?_ | refine b7 fun A B hA hB => ?_); simp only [S1, simprocAttr, br]; first | refine q6 _ ?_; clear q6 K1 | (refine hB ?_; clear hA hB A B) | (apply d4 E53; exact hsp; refine q6 _ ?_; clear q6 K1)) | refine b6 fun K hK => ?_ | ((first | apply b8 | apply b5 | apply c9 | apply d3); try simp only [NB, simprocAttr]))
    all_goals simp only [S1, simprocAttr, ENB, br]
  · have e : u5 ns fl l = ([], 5) := if_neg hc
    rw [e]
    rw [decide_eq_false hc] at hsp
    refine c8 (rl := []) e9 Tryz.func32 rfl (rs := [.tmp 4, .tmp 5]) rfl Tryz.ntmps32 (by simp) ?_
    repeat' (first | ((repeat ((fail_if_success (refine hK _ ?_)); clear hK K)); refine hK _ ?_; clear hK K) | ((first | refine b9 fun K1 q6 => ?_ | refine b7 fun A B hA hB => ?_); simp only [S1, simprocAttr, br]; first | refine q6 _ ?_; clear q6 K1 | (refine hA ?_; clear hA hB A B) | (apply d4 E53; exact hsp; refine q6 _ ?_; clear q6 K1)) | refine b6 fun K hK => ?_ | ((first | apply b8 | apply b5 | apply d3); try simp only [NB, simprocAttr]))
    all_goals simp only [S1, simprocAttr, ENB, br]
    all_goals rfl
theorem mD {l : List Sv} (h49 : D1 l) (hl : l.length ≤ 16000000) {S : Sv} (hS : S.length = 49) {h : Heap} {b g : Nat} (hb : h[b]? = some (some ⟨g, q9 l⟩)) (hlt0 : b < h.length) :
    d5 Tryz.prog gW 55 [.ref b g 0 49 l.length, aS S] h (fun r h' => r = .b (decide (S ∈ l)) ∧ h' = h) := by
  have hne := K6 hS
  have hzl : (zS.map AV.i).length = 49 := by rw [List.length_map]; rfl
  have t49' : (S.map AV.i).take 49 = S.map AV.i := List.take_of_length_le (by rw [List.length_map, hS]; exact Nat.le_refl _)
  have hb' : ∀ L : Heap, (h ++ L)[b]? = some (some ⟨g, q9 l⟩) := fun L => by rw [List.getElem?_append_left hlt0]; exact hb
  have hfl := D5 h49
  refine c8 (rl := []) e9 Tryz.func55 rfl (rs := [.tmp 4]) rfl Tryz.ntmps55 (by simp) ?_
  repeat' (first | ((repeat ((fail_if_success (refine hK _ ?_)); clear hK K)); refine hK _ ?_; clear hK K) | (refine b9 fun K1 q6 => ?_; simp only [S1, simprocAttr, br, hne, hS, d8, List.length_map]; refine q6 _ ?_; clear q6 K1) | refine b6 fun K hK => ?_ | ((first | apply b8 | apply b5 | apply c7); try simp only [NB, simprocAttr]))
  refine p8 l.length 17 (fun j => [(9, .i j), (8, .i l.length), (7, .ref b g 0 49 l.length), (3, .ptr h.length 0 0)]) (fun j => [some ⟨0, S.map AV.i⟩]) (fun j => S ∉ l.take j) ?_ (by simp) fun j hj hp K hK => ?_
  · refine ⟨rfl, ⟨[], by simp⟩, ?_, g9 _ _, trivial⟩
    simp only [S1, simprocAttr, KNB] <;> (try and_intros) <;> (try assumption) <;> (try trivial) <;> (try omega)
  rcases Nat.lt_or_ge j l.length with hlt | hge
  · obtain ⟨s, hx⟩ : ∃ k, l[j]? = some k := ⟨_, List.getElem?_eq_getElem hlt⟩
    have hs : s.length = 49 := h49 s (List.mem_of_getElem? hx)
    have hft := dR h49 hx
    have hle : 49 ≤ l.length * 49 - j * 49 := by omega
    have jl : (j : Int) < (l.length : Int) := by omega
    have j0 : (0 : Int) ≤ (j : Int) := by omega
    have hnx : IntKind.i64.wrap ((j : Int) + 1) = ((j + 1 : Nat) : Int) := by rw [IntWalk.i64_in _ (by omega)]; omega
    have s49 : (s.map AV.i).take 49 = s.map AV.i := List.take_of_length_le (by rw [List.length_map, hs]; exact Nat.le_refl _)
    have hso : w9 (zS.map AV.i) 0 (s.map AV.i) = s.map AV.i := l7 (n := 49) (by rw [List.length_map, hs]) _ hzl
    have heq := eqI (S := s) (T := S) (by rw [hs, hS])
    by_cases hc : s = S
    · have hbq : (s == S) = true := by simp [hc]
      rw [hbq] at heq
      have hin : decide (S ∈ l) = true := decide_eq_true (hc ▸ List.mem_of_getElem? hx)
      repeat' (first | ((repeat ((fail_if_success (refine hK _ ?_)); clear hK K)); refine hK _ ?_; clear hK K) | ((first | refine b9 fun K1 q6 => ?_ | refine b7 fun A B hA hB => ?_); simp only [S1, simprocAttr, br, jl, j0, hnx, hb, hb', hfl, hft, hle, hs, hzl, s49, hso, heq, eqA, W60, TRz, i6, h9, j3, hS, t49', d8, d7, d9, List.length_map, List.length_drop]; first | refine q6 _ ?_; clear q6 K1 | (refine hA ?_; clear hA hB A B)) | refine b6 fun K hK => ?_ | ((first | apply b8 | apply b5 | apply c7 | apply c9 | apply d3); try simp only [NB, simprocAttr]))
      all_goals simp only [S1, simprocAttr, ENB, br]
      all_goals rw [hin]
    · have hbq : (s == S) = false := by simp [hc]
      rw [hbq] at heq
      repeat' (first | ((repeat ((fail_if_success (refine hK _ ?_)); clear hK K)); refine hK _ ?_; clear hK K) | ((first | refine b9 fun K1 q6 => ?_ | refine b7 fun A B hA hB => ?_); simp only [S1, simprocAttr, br, jl, j0, hnx, hb, hb', hfl, hft, hle, hs, hzl, s49, hso, heq, eqA, W60, TRz, i6, h9, j3, hS, t49', d8, d7, d9, List.length_map, List.length_drop]; first | refine q6 _ ?_; clear q6 K1 | ((first | refine hA ?_ | refine hB ?_); clear hA hB A B)) | refine b6 fun K hK => ?_ | ((first | apply b8 | apply b5 | apply c7 | apply c9); try simp only [NB, simprocAttr]))
      all_goals refine ⟨hlt, ?_, ?_⟩
      · rw [List.take_add_one, hx]
        intro e
        rcases List.mem_append.mp e with e | e
        · exact hp e
        · simp at e; exact hc e.symm
      · refine ⟨rfl, ⟨_, rfl⟩, ?_, g9 _ _, trivial⟩
        simp only [S1, simprocAttr, KNB] <;> (try and_intros) <;> (try assumption) <;> (try trivial) <;> (try omega)
  · obtain rfl : j = l.length := by omega
    rw [List.take_length] at hp
    have hin : decide (S ∈ l) = false := decide_eq_false hp
    repeat' (first | ((repeat ((fail_if_success (refine hK _ ?_)); clear hK K)); refine hK _ ?_; clear hK K) | ((first | refine b9 fun K1 q6 => ?_ | refine b7 fun A B hA hB => ?_); simp only [S1, simprocAttr, br, Int.lt_irrefl]; first | refine q6 _ ?_; clear q6 K1 | (refine hB ?_; clear hA hB A B)) | refine b6 fun K hK => ?_ | ((first | apply b8 | apply b5 | apply f9 | apply d3); try simp only [NB, simprocAttr]))
    all_goals simp only [S1, simprocAttr, ENB, br]
    all_goals rw [hin]
end
section
def U0 := And.intro T2 (And.intro T3 (And.intro T4 (And.intro T25 (And.intro T26 (And.intro T28 (And.intro T31 (And.intro T34 (And.intro T36 (And.intro T41 (And.intro T57 (And.intro T58 (And.intro T62 (And.intro T65 (And.intro T89 T92))))))))))))))
attribute [local irreducible] awp n9 k3 l8 o6 n5
abbrev aCl (c : List Sv × Int) : AV := .agg [H0 c.1, .i c.2]
theorem di {ns : List Nd} {fl : List Fl} (nk : NetOk ns fl) {l : List Sv} (h49 : D1 l) (hl : l.length ≤ 8000000) (h : Heap) :
    d5 Tryz.prog gW 35 [G7 ns fl, H0 l] h (fun r h' => r = aCl (u5 ns fl l) ∧ h' = h) := by
  have hzl : (zS.map AV.i).length = 49 := by rw [List.length_map]; rfl
  have hem : (zS.map AV.i).isEmpty = false := rfl
  refine c8 (rl := []) e9 Tryz.func35 rfl (rs := [.cell 4 36]) rfl Tryz.ntmps35 (by simp) ?_
  refine b6 fun K hK => ?_
  repeat' (first | (apply b8; (try simp only [NB]); ((repeat ((fail_if_success (refine hK _ ?_)); clear hK K)); refine hK _ ?_; clear hK K)) | (refine b9 fun K1 q6 => ?_; simp only [S1, simprocAttr, U0]; refine q6 _ ?_; clear q6 K1) | (apply b5; try simp only [NB, simprocAttr]; (try ((repeat ((fail_if_success (refine hK _ ?_)); clear hK K)); refine hK _ ?_; clear hK K))))
  refine b6 fun K hK => ?_
  repeat' (first | (apply b8; (try simp only [NB]); ((repeat ((fail_if_success (refine hK _ ?_)); clear hK K)); refine hK _ ?_; clear hK K)) | (refine b9 fun K1 q6 => ?_; simp only [S1, simprocAttr, U0]; refine q6 _ ?_; clear q6 K1) | (apply b5; try simp only [NB, simprocAttr]; (try ((repeat ((fail_if_success (refine hK _ ?_)); clear hK K)); refine hK _ ?_; clear hK K))))
  refine b6 fun K hK => ?_
  repeat' (first | ((repeat ((fail_if_success (refine hK _ ?_)); clear hK K)); refine hK _ ?_; clear hK K) | (refine b9 fun K1 q6 => ?_; simp only [S1, simprocAttr, U0, List.length_map]; refine q6 _ ?_; clear q6 K1) | refine b6 fun K hK => ?_ | ((first | apply b8 | apply b5 | apply c7); try simp only [NB, simprocAttr]))
  refine F0 l.length 64 (fun j => [(13, .i j), (12, .i l.length), (11, H0 l), (5, .ref (h.length + 2) (B8 [] (l.take j)).length 0 49 (B8 [] (l.take j)).length), (2, .ptr h.length 0 0), (4, .ptr (h.length + 1) 0 0)])
    (fun j => [some ⟨0, x8 ns fl⟩, some ⟨0, [.p .nils, .i 0]⟩, some ⟨(B8 [] (l.take j)).length, q9 (B8 [] (l.take j))⟩]) (fun j => True) ?_ trivial fun j hj hp K hK => ?_
  · refine (o8.adopt 5 49 rfl).trans (Sub.ghost ⟨rfl, ⟨[], by simp [q9, B8]⟩, ?_, ⟨trivial, trivial, trivial⟩, ⟨trivial, trivial, trivial⟩, trivial, trivial⟩)
    simp only [K4, s7, G5, frL, List.length_cons, List.length_nil]
    simp [B8]
  rcases Nat.lt_or_ge j l.length with hlt | hge
  · obtain ⟨s, hx⟩ : ∃ k, l[j]? = some k := ⟨_, List.getElem?_eq_getElem hlt⟩
    have hs : s.length = 49 := h49 s (List.mem_of_getElem? hx)
    have hxr : (l.map eSt)[j]? = some (s.map (PV.int .i64)) := by rw [List.getElem?_map, hx]; rfl
    have es := gp (out := []) hx
    have ho : D1 (B8 [] (l.take j)) := Q7 (fun s hs => by cases hs) fun t ht => h49 t (List.mem_of_mem_take ht)
    have hol := (S3 (l.take j) []).1
    rw [List.length_take] at hol
    simp only [List.length_nil, Nat.zero_add] at hol
    have jl : (j : Int) < (l.length : Int) := by omega
    have j0 : (0 : Int) ≤ (j : Int) := by omega
    have hnx : IntKind.i64.wrap ((j : Int) + 1) = ((j + 1 : Nat) : Int) := by rw [IntWalk.i64_in _ (by omega)]; omega
    have s49 : (s.map AV.i).take 49 = s.map AV.i := List.take_of_length_le (by rw [List.length_map, hs]; exact Nat.le_refl _)
    have hso : w9 (zS.map AV.i) 0 (s.map AV.i) = s.map AV.i := l7 (n := 49) (by rw [List.length_map, hs]) _ hzl
    have hsm := x9 s
    have hne := K6 hs
    generalize B8 [] (l.take j) = o at *
    have hfl := D5 ho
    have hmax : o.length + 1 ≤ j7 := by unfold j7; omega
    have hh := fun L : Heap => mD (h := h ++ ([some ⟨0, x8 ns fl⟩, some ⟨0, [.p .nils, .i 0]⟩, some ⟨o.length, q9 o⟩] ++ L)) (b := h.length + 2) (g := o.length) ho (by omega) hs (by rw [n8]; rfl) (by simp)
    have hh1 := hh [some ⟨0, s.map AV.i⟩]
    by_cases hin : s ∈ o
    · rw [decide_eq_true hin] at hh1
      have ea : X1 o s = o := by unfold X1; rw [if_pos hin]
      rw [ea] at es
      repeat' (first | ((repeat ((fail_if_success (refine hK _ ?_)); clear hK K)); refine hK _ ?_; clear hK K) | ((first | refine b9 fun K1 q6 => ?_ | refine b7 fun A B hA hB => ?_); simp only [S1, simprocAttr, U0, jl, j0, hnx, hxr, hs, hzl, hem, s49, hso, hsm, hne, TRz, i6, h9, j3, d8, d7, d9, List.length_map]; first | refine q6 _ ?_; clear q6 K1 | ((first | refine hA ?_ | refine hB ?_); clear hA hB A B) | (apply d4 E55; exact hh1; refine q6 _ ?_; clear q6 K1)) | refine b6 fun K hK => ?_ | ((first | apply b8 | apply b5 | apply c7 | apply c9); try simp only [NB, simprocAttr]))
      all_goals refine ⟨hlt, trivial, ?_⟩
      all_goals simp only [es]
      all_goals refine ⟨rfl, ⟨_, rfl⟩, ?_, ⟨trivial, trivial, trivial⟩, ⟨trivial, trivial, trivial⟩, x7 _ _, trivial⟩
      all_goals simp only [S1, simprocAttr, KNB] <;> (try and_intros) <;> (try assumption) <;> (try trivial) <;> (try omega)
    · rw [decide_eq_false hin] at hh1
      have ea : X1 o s = o ++ [s] := by unfold X1; rw [if_neg hin]
      rw [ea] at es
      have hpv := Q5 s
      have hch := N3 49 (s.map (PV.int .i64)) (by rw [List.length_map, hs])
      have hti : (s.map (PV.int .i64)).take 49 = s.map (PV.int .i64) := List.take_of_length_le (by rw [List.length_map, hs]; exact Nat.le_refl _)
      have hfa := K2 o s
      repeat' (first | ((repeat ((fail_if_success (refine hK _ ?_)); clear hK K)); refine hK _ ?_; clear hK K) | ((first | refine b9 fun K1 q6 => ?_ | refine b7 fun A B hA hB => ?_); simp only [S1, simprocAttr, U0, jl, j0, hnx, hxr, hs, hzl, hem, s49, hso, hsm, hne, hfl, hmax, hpv, hch, hti, TRz, i6, h9, j3, d8, d7, d9, List.length_map]; first | refine q6 _ ?_; clear q6 K1 | (refine hA ?_; clear hA hB A B) | (apply d4 E55; exact hh1; refine q6 _ ?_; clear q6 K1)) | refine b6 fun K hK => ?_ | ((first | apply b8 | apply b5 | apply c7 | apply c9); try simp only [NB, simprocAttr]))
      all_goals refine ⟨hlt, trivial, ?_⟩
      all_goals simp only [es, hfa, List.length_append, List.length_cons, List.length_nil, Nat.zero_add]
      all_goals refine ⟨rfl, ⟨_, rfl⟩, ?_, ⟨trivial, trivial, trivial⟩, ⟨trivial, trivial, trivial⟩, (by rw [← K2]; exact x7 _ _), trivial⟩
      all_goals simp only [S1, simprocAttr, KNB] <;> (try and_intros) <;> (try assumption) <;> (try trivial) <;> (try omega)
  · obtain rfl : j = l.length := by omega
    rw [List.take_length]
    have ho : D1 (B8 [] l) := Q7 (fun s hs => by cases hs) h49
    have hol := (S3 l []).1
    simp only [List.length_nil, Nat.zero_add] at hol
    have hcw : B4 (nxW ns fl) 1500 l = D0 (nxW ns fl) 1500 1501 0 (B8 [] l) := rfl
    clear hp hge hj
    repeat' (first | ((repeat ((fail_if_success (refine hK _ ?_)); clear hK K)); refine hK _ ?_; clear hK K) | ((first | refine b9 fun K1 q6 => ?_ | refine b7 fun A B hA hB => ?_); simp only [S1, simprocAttr, U0, Int.lt_irrefl]; first | refine q6 _ ?_; clear q6 K1 | (refine hB ?_; clear hA hB A B)) | refine b6 fun K hK => ?_ | ((first | apply b8 | apply b5 | apply c7 | apply f9); try simp only [NB, simprocAttr]))
    refine H9 (σ := Qsp) (fun q => 1501 - q.i) 64 (fun q => [(8, .i q.i), (5, .ref (h.length + 2) q.out.length 0 49 q.out.length), (2, .ptr h.length 0 0), (4, .ptr (h.length + 1) 0 0)])
      (fun q => [some ⟨0, x8 ns fl⟩, some ⟨0, [.p .nils, .i 0]⟩, some ⟨q.out.length, q9 q.out⟩])
      (fun q => q.i ≤ 1501 ∧ D1 q.out ∧ q.out.length ≤ 8000000 ∧ B4 (nxW ns fl) 1500 l = D0 (nxW ns fl) 1500 (1501 - q.i) q.i q.out) ⟨0, B8 [] l⟩ ?_ ?_ fun q hp K hK => ?_
    · refine ⟨rfl, ⟨[], by simp⟩, ?_, ⟨trivial, trivial, trivial⟩, ⟨trivial, trivial, trivial⟩, x7 _ _, trivial⟩
      simp only [S1, simprocAttr, KNB] <;> (try and_intros) <;> (try assumption) <;> (try trivial) <;> (try omega)
    · exact ⟨by show 0 ≤ 1501; omega, ho, by show (B8 [] l).length ≤ 8000000; omega, rfl⟩
    clear ho hol hcw
    obtain ⟨i, out⟩ := q
    obtain ⟨p1, p2, p3, p4⟩ := hp
    simp only at p1 p2 p3 p4 hK ⊢
    have hfl := D5 p2
    have i0 : (0 : Int) ≤ (i : Int) := by omega
    have hnx1 : IntKind.i64.wrap ((i : Int) + 1) = ((i + 1 : Nat) : Int) := by rw [IntWalk.i64_in _ (by omega)]; omega
    by_cases hlt : i < out.length
    · have hi : (i : Int) < (out.length : Int) := by omega
      obtain ⟨s, hx⟩ : ∃ k, out[i]? = some k := ⟨_, List.getElem?_eq_getElem hlt⟩
      by_cases hmost : out.length ≤ 1500
      · have hm : (out.length : Int) ≤ 1500 := by omega
        have hs : s.length = 49 := p2 s (List.mem_of_getElem? hx)
        have hft := dR p2 hx
        have hle : 49 ≤ out.length * 49 - i * 49 := by omega
        have hled := fun h => kL nk hs (0, 0, 0) h
        have hnl1 := fu ns fl s (0, 0, 0)
        have hn49 := cJ (ns := ns) (fl := fl) hs (0, 0, 0)
        have p4' : B4 (nxW ns fl) 1500 l = D0 (nxW ns fl) 1500 (1501 - (i + 1)) (i + 1) (B8 out (nxW ns fl s)) := by
          rw [p4]
          obtain ⟨k, hk⟩ : ∃ k, 1501 - i = k + 1 := ⟨1500 - i, by omega⟩
          rw [hk, show 1501 - (i + 1) = k by omega]
          conv => lhs; unfold D0
          rw [hx]; simp only; rw [if_pos hmost]
        have hnn : nxW ns fl s = S9 ns fl s (0, 0, 0) := rfl
        rw [hnn] at p4'
        generalize S9 ns fl s (0, 0, 0) = more at *
        repeat' (first | ((repeat ((fail_if_success (refine hK _ ?_)); clear hK K)); refine hK _ ?_; clear hK K) | ((first | refine b9 fun K1 q6 => ?_ | refine k4 fun K1 q6 => ?_ | refine b7 fun A B hA hB => ?_); simp only [S1, simprocAttr, U0, hi, hm, i0, hft, hle, hfl, TRz, d8, d7, d9, List.length_map, List.length_drop]; first | refine q6 _ ?_; clear q6 K1 | (refine hA ?_; clear hA hB A B) | (apply j5 E34; exact (hled _); refine q6 _ ?_; clear q6 K1)) | refine b6 fun K hK => ?_ | ((first | apply b8 | apply i8 | apply b5 | refine i9 ?_ | apply c7 | apply c9); try simp only [NB, simprocAttr]))
        refine p8 more.length 64 (fun k => [(45, .i k), (44, .i more.length), (43, H0 more), (8, .i i), (5, .ref (h.length + 2) (B8 out (more.take k)).length 0 49 (B8 out (more.take k)).length), (2, .ptr h.length 0 0), (4, .ptr (h.length + 1) 0 0)])
          (fun k => [some ⟨0, x8 ns fl⟩, some ⟨0, [.p .nils, .i 0]⟩, some ⟨(B8 out (more.take k)).length, q9 (B8 out (more.take k))⟩]) (fun k => True) ?_ trivial fun k hk _ K hK => ?_
        · simp only [List.take_zero, wP]
          refine ⟨rfl, ⟨[], by simp⟩, ?_, ⟨trivial, trivial, trivial⟩, ⟨trivial, trivial, trivial⟩, x7 _ _, trivial⟩
          simp only [S1, simprocAttr, KNB] <;> (try and_intros) <;> (try assumption) <;> (try trivial) <;> (try omega)
        rcases Nat.lt_or_ge k more.length with hlk | hgk
        · obtain ⟨t, hy⟩ : ∃ t, more[k]? = some t := ⟨_, List.getElem?_eq_getElem hlk⟩
          have ht : t.length = 49 := hn49 t (List.mem_of_getElem? hy)
          have hyr : (more.map eSt)[k]? = some (t.map (PV.int .i64)) := by rw [List.getElem?_map, hy]; rfl
          have es := gp (out := out) hy
          have ho : D1 (B8 out (more.take k)) := Q7 p2 fun u hu => hn49 u (List.mem_of_mem_take hu)
          have hol := (S3 (more.take k) out).1
          rw [List.length_take] at hol
          have kl : (k : Int) < (more.length : Int) := by omega
          have k0 : (0 : Int) ≤ (k : Int) := by omega
          have hnk : IntKind.i64.wrap ((k : Int) + 1) = ((k + 1 : Nat) : Int) := by rw [IntWalk.i64_in _ (by omega)]; omega
          have s49 : (t.map AV.i).take 49 = t.map AV.i := List.take_of_length_le (by rw [List.length_map, ht]; exact Nat.le_refl _)
          have hso : w9 (zS.map AV.i) 0 (t.map AV.i) = t.map AV.i := l7 (n := 49) (by rw [List.length_map, ht]) _ hzl
          have hsm := x9 t
          have hne := K6 ht
          generalize B8 out (more.take k) = o at *
          have hfo := D5 ho
          have hmax : o.length + 1 ≤ j7 := by unfold j7; omega
          have hh := fun L : Heap => mD (h := h ++ ([some ⟨0, x8 ns fl⟩, some ⟨0, [.p .nils, .i 0]⟩, some ⟨o.length, q9 o⟩] ++ L)) (b := h.length + 2) (g := o.length) ho (by omega) ht (by rw [n8]; rfl) (by simp)
          have hh1 := hh [some ⟨0, t.map AV.i⟩]
          by_cases hin : t ∈ o
          · rw [decide_eq_true hin] at hh1
            have ea : X1 o t = o := by unfold X1; rw [if_pos hin]
            rw [ea] at es
            repeat' (first | ((repeat ((fail_if_success (refine hK _ ?_)); clear hK K)); refine hK _ ?_; clear hK K) | ((first | refine b9 fun K1 q6 => ?_ | refine b7 fun A B hA hB => ?_); simp only [S1, simprocAttr, U0, kl, k0, hnk, hyr, ht, hzl, hem, s49, hso, hsm, hne, TRz, i6, h9, j3, d8, d7, d9, List.length_map]; first | refine q6 _ ?_; clear q6 K1 | ((first | refine hA ?_ | refine hB ?_); clear hA hB A B) | (apply d4 E55; exact hh1; refine q6 _ ?_; clear q6 K1)) | refine b6 fun K hK => ?_ | ((first | apply b8 | apply b5 | apply c7 | apply c9); try simp only [NB, simprocAttr]))
            all_goals refine ⟨hlk, trivial, ?_⟩
            all_goals simp only [es]
            all_goals refine ⟨rfl, ⟨_, rfl⟩, ?_, ⟨trivial, trivial, trivial⟩, ⟨trivial, trivial, trivial⟩, x7 _ _, trivial⟩
            all_goals simp only [S1, simprocAttr, KNB] <;> (try and_intros) <;> (try assumption) <;> (try trivial) <;> (try omega)
          · rw [decide_eq_false hin] at hh1
            have ea : X1 o t = o ++ [t] := by unfold X1; rw [if_neg hin]
            rw [ea] at es
            have hpv := Q5 t
            have hch := N3 49 (t.map (PV.int .i64)) (by rw [List.length_map, ht])
            have hti : (t.map (PV.int .i64)).take 49 = t.map (PV.int .i64) := List.take_of_length_le (by rw [List.length_map, ht]; exact Nat.le_refl _)
            have hfa := K2 o t
            repeat' (first | ((repeat ((fail_if_success (refine hK _ ?_)); clear hK K)); refine hK _ ?_; clear hK K) | ((first | refine b9 fun K1 q6 => ?_ | refine b7 fun A B hA hB => ?_); simp only [S1, simprocAttr, U0, kl, k0, hnk, hyr, ht, hzl, hem, s49, hso, hsm, hne, hfo, hmax, hpv, hch, hti, TRz, i6, h9, j3, d8, d7, d9, List.length_map]; first | refine q6 _ ?_; clear q6 K1 | (refine hA ?_; clear hA hB A B) | (apply d4 E55; exact hh1; refine q6 _ ?_; clear q6 K1)) | refine b6 fun K hK => ?_ | ((first | apply b8 | apply b5 | apply c7 | apply c9); try simp only [NB, simprocAttr]))
            all_goals refine ⟨hlk, trivial, ?_⟩
            all_goals simp only [es, hfa, List.length_append, List.length_cons, List.length_nil, Nat.zero_add]
            all_goals refine ⟨rfl, ⟨_, rfl⟩, ?_, ⟨trivial, trivial, trivial⟩, ⟨trivial, trivial, trivial⟩, (by rw [← K2]; exact x7 _ _), trivial⟩
            all_goals simp only [S1, simprocAttr, KNB] <;> (try and_intros) <;> (try assumption) <;> (try trivial) <;> (try omega)
        · obtain rfl : k = more.length := by omega
          have hao := (S3 more out).1
          rw [List.take_length]
          repeat' (first | ((repeat ((fail_if_success (refine hK _ ?_)); clear hK K)); refine hK _ ?_; clear hK K) | ((first | refine b9 fun K1 q6 => ?_ | refine b7 fun A B hA hB => ?_); simp only [S1, simprocAttr, U0, Int.lt_irrefl, hnx1]; first | refine q6 _ ?_; clear q6 K1 | (refine hB ?_; clear hA hB A B)) | refine b6 fun K hK => ?_ | ((first | apply b8 | apply b5 | apply f9); try simp only [NB, simprocAttr]))
          all_goals refine ⟨⟨i + 1, B8 out more⟩, by simp only; omega, ⟨by simp only; omega, Q7 p2 hn49, by simp only; omega, p4'⟩, ?_⟩
          all_goals refine ⟨rfl, ⟨_, rfl⟩, ?_, ⟨trivial, trivial, trivial⟩, ⟨trivial, trivial, trivial⟩, x7 _ _, trivial⟩
          all_goals simp only [S1, simprocAttr, KNB] <;> (try and_intros) <;> (try assumption) <;> (try trivial) <;> (try omega)
      · have hm : ¬ (out.length : Int) ≤ 1500 := by omega
        have hm' : (1500 : Int) < (out.length : Int) := by omega
        have e : B4 (nxW ns fl) 1500 l = out := by
          rw [p4]
          cases hq : 1501 - i with
          | zero => rfl
          | succ f => unfold D0; rw [hx]; simp only; rw [if_neg hmost]
        have e2 : u5 ns fl l = ([], 5) := by unfold u5; rw [e, if_neg hmost]
        repeat' (first | ((repeat ((fail_if_success (refine hK _ ?_)); clear hK K)); refine hK _ ?_; clear hK K) | ((first | refine b9 fun K1 q6 => ?_ | refine b7 fun A B hA hB => ?_); simp only [S1, simprocAttr, U0, hi, hm, hm', List.length_map]; first | refine q6 _ ?_; clear q6 K1 | ((first | refine hA ?_ | refine hB ?_); clear hA hB A B)) | refine b6 fun K hK => ?_ | ((first | apply b8 | apply b5 | apply f9 | apply d3); try simp only [NB, simprocAttr]))
        all_goals simp only [S1, simprocAttr, ENB, U0, e2]
        all_goals rfl
    · have hi : ¬ (i : Int) < (out.length : Int) := by omega
      have e : B4 (nxW ns fl) 1500 l = out := by
        rw [p4]
        cases hq : 1501 - i with
        | zero => rfl
        | succ f => unfold D0; rw [List.getElem?_eq_none (by omega)]
      by_cases hmost : out.length ≤ 1500
      · have hm' : ¬ (1500 : Int) < (out.length : Int) := by omega
        have e2 : u5 ns fl l = (out, 0) := by unfold u5; rw [e, if_pos hmost]
        have htk : (q9 out).take (out.length * 49) = q9 out := List.take_of_length_le (by rw [hfl]; exact Nat.le_refl _)
        have hch := gD p2
        have hpu := fun H n f => qB H n f out
        repeat' (first | ((repeat ((fail_if_success (refine hK _ ?_)); clear hK K)); refine hK _ ?_; clear hK K) | ((first | refine b9 fun K1 q6 => ?_ | refine b7 fun A B hA hB => ?_); simp only [S1, simprocAttr, U0, hi, hm', List.length_map]; first | refine q6 _ ?_; clear q6 K1 | (refine hB ?_; clear hA hB A B)) | refine b6 fun K hK => ?_ | ((first | apply b8 | apply b5 | apply f9 | apply c9 | apply d3); try simp only [NB, simprocAttr]))
        all_goals simp only [S1, simprocAttr, ENB, U0, e2, hfl, htk, hch, hpu, Option.map_some]
        all_goals by_cases h0 : out.length = 0
        · obtain rfl := List.eq_nil_of_length_eq_zero h0
          rfl
        · rw [if_neg h0]; rfl
      · have hm' : (1500 : Int) < (out.length : Int) := by omega
        have e2 : u5 ns fl l = ([], 5) := by unfold u5; rw [e, if_neg hmost]
        repeat' (first | ((repeat ((fail_if_success (refine hK _ ?_)); clear hK K)); refine hK _ ?_; clear hK K) | ((first | refine b9 fun K1 q6 => ?_ | refine b7 fun A B hA hB => ?_); simp only [S1, simprocAttr, U0, hi, hm', List.length_map]; first | refine q6 _ ?_; clear q6 K1 | ((first | refine hA ?_ | refine hB ?_); clear hA hB A B)) | refine b6 fun K hK => ?_ | ((first | apply b8 | apply b5 | apply f9 | apply d3); try simp only [NB, simprocAttr]))
        all_goals simp only [S1, simprocAttr, ENB, U0, e2]
        all_goals rfl
end
section
def U1 := And.intro T2 (And.intro T3 (And.intro T4 (And.intro T25 (And.intro T26 (And.intro T28 (And.intro T31 (And.intro T34 (And.intro T36 (And.intro T41 (And.intro T55 (And.intro T57 (And.intro T58 (And.intro T62 (And.intro T65 (And.intro T89 T92)))))))))))))))
attribute [local irreducible] awp n9 k3 l8 o6 n5
noncomputable def Q8 (ns : List Nd) (fl : List Fl) : List Sv → Int
  | [] => 0
  | s :: r => if stC ns fl s = 0 then Q8 ns fl r else stC ns fl s
noncomputable def D2 (ns : List Nd) (fl : List Fl) (l : List Sv) : Int := if (A9 ns fl).1 ≠ 0 then 4 else Q8 ns fl l
theorem iz {ns : List Nd} {fl : List Fl} {l : List Sv} {j : Nat} {s : Sv} (h : l[j]? = some s) : Q8 ns fl (l.drop j) = if stC ns fl s = 0 then Q8 ns fl (l.drop (j + 1)) else stC ns fl s := by
  rw [List.drop_eq_getElem_cons (List.getElem?_eq_some_iff.mp h).1, (List.getElem?_eq_some_iff.mp h).2]; rfl
theorem om {ns : List Nd} {fl : List Fl} (nk : NetOk ns fl) {l : List Sv} (h49 : D1 l) (hl : l.length ≤ 8000000) (h : Heap) :
    d5 Tryz.prog gW 30 [G7 ns fl, H0 l] h (fun r h' => r = .i (D2 ns fl l) ∧ h' = h) := by
  have hst := fun h => fe nk h
  have hzl : (zS.map AV.i).length = 49 := by rw [List.length_map]; rfl
  have hem : (zS.map AV.i).isEmpty = false := rfl
  by_cases h0 : (A9 ns fl).1 = 0
  case neg =>
    have e : D2 ns fl l = 4 := by unfold D2; rw [if_pos h0]
    have es : s6 ns fl = (zS, 4) := by unfold s6; rw [if_pos h0]
    have hzz : w9 (zS.map AV.i) 0 (zS.map AV.i) = zS.map AV.i := l7 (n := 49) (by rw [List.length_map]; rfl) _ hzl
    rw [e]
    rw [es] at hst
    refine c8 (rl := []) e9 Tryz.func30 rfl (rs := [.tmp 4]) rfl Tryz.ntmps30 (by simp) ?_
    repeat' (first | ((repeat ((fail_if_success (refine hK _ ?_)); clear hK K)); refine hK _ ?_; clear hK K) | ((first | refine b9 fun K1 q6 => ?_ | refine b7 fun A B hA hB => ?_); simp only [S1, simprocAttr, U1, TSz, i6, h9, j3, hem, hzz, d8, d7, d9, List.length_map]; first | refine q6 _ ?_; clear q6 K1 | (refine hA ?_; clear hA hB A B) | (apply d4 E36; exact (hst _); refine q6 _ ?_; clear q6 K1)) | refine b6 fun K hK => ?_ | ((first | apply b8 | apply b5 | apply d3); try simp only [NB, simprocAttr]))
    all_goals simp only [S1, simprocAttr, ENB, U1]
  have e : D2 ns fl l = Q8 ns fl l := by unfold D2; rw [if_neg (by simpa using h0)]
  rw [e]
  have hs2 : (s6 ns fl).2 = 0 := by unfold s6; rw [if_neg (by simpa using h0)]
  have hs1 : (s6 ns fl).1.length = 49 := (qw hs2).1.1
  rw [hs2] at hst
  generalize (s6 ns fl).1 = S0 at *
  have hso0 : w9 (zS.map AV.i) 0 (S0.map AV.i) = S0.map AV.i := l7 (n := 49) (by rw [List.length_map, hs1]) _ hzl
  refine c8 (rl := []) e9 Tryz.func30 rfl (rs := [.tmp 4]) rfl Tryz.ntmps30 (by simp) ?_
  repeat' (first | ((repeat ((fail_if_success (refine hK _ ?_)); clear hK K)); refine hK _ ?_; clear hK K) | ((first | refine b9 fun K1 q6 => ?_ | refine b7 fun A B hA hB => ?_); simp only [S1, simprocAttr, U1, hs1, hso0, TSz, i6, h9, j3, hem, d8, d7, d9, List.length_map]; first | refine q6 _ ?_; clear q6 K1 | (refine hB ?_; clear hA hB A B) | (apply d4 E36; exact (hst _); refine q6 _ ?_; clear q6 K1)) | refine b6 fun K hK => ?_ | ((first | apply b8 | apply b5 | apply c7 | apply c9); try simp only [NB, simprocAttr]))
  refine p8 l.length 31 (fun j => [(20, .i j), (19, .i l.length), (18, H0 l), (2, .ptr h.length 0 0)]) (fun j => [some ⟨0, x8 ns fl⟩]) (fun j => Q8 ns fl l = Q8 ns fl (l.drop j)) ?_ rfl fun j hj hp K hK => ?_
  · refine ⟨rfl, ⟨_, rfl⟩, ?_, ⟨trivial, trivial, trivial⟩, trivial⟩
    simp only [S1, simprocAttr, KNB] <;> (try and_intros) <;> (try assumption) <;> (try trivial) <;> (try omega)
  rcases Nat.lt_or_ge j l.length with hlt | hge
  · obtain ⟨s, hx⟩ : ∃ k, l[j]? = some k := ⟨_, List.getElem?_eq_getElem hlt⟩
    have hs : s.length = 49 := h49 s (List.mem_of_getElem? hx)
    have hxr : (l.map eSt)[j]? = some (s.map (PV.int .i64)) := by rw [List.getElem?_map, hx]; rfl
    have jl : (j : Int) < (l.length : Int) := by omega
    have j0 : (0 : Int) ≤ (j : Int) := by omega
    have hnx : IntKind.i64.wrap ((j : Int) + 1) = ((j + 1 : Nat) : Int) := by rw [IntWalk.i64_in _ (by omega)]; omega
    have s49 : (s.map AV.i).take 49 = s.map AV.i := List.take_of_length_le (by rw [List.length_map, hs]; exact Nat.le_refl _)
    have hso : w9 (zS.map AV.i) 0 (s.map AV.i) = s.map AV.i := l7 (n := 49) (by rw [List.length_map, hs]) _ hzl
    have hsm := x9 s
    have hck := fun h => dN nk hs h
    rw [iz hx] at hp
    by_cases hc : stC ns fl s = 0
    · rw [if_pos hc] at hp
      rw [hc] at hck
      repeat' (first | ((repeat ((fail_if_success (refine hK _ ?_)); clear hK K)); refine hK _ ?_; clear hK K) | ((first | refine b9 fun K1 q6 => ?_ | refine b7 fun A B hA hB => ?_); simp only [S1, simprocAttr, U1, jl, j0, hnx, hxr, hs, hzl, hem, s49, hso, hsm, TSz, i6, h9, j3, d8, d7, d9, List.length_map]; first | refine q6 _ ?_; clear q6 K1 | ((first | refine hA ?_ | refine hB ?_); clear hA hB A B) | (apply d4 E51; exact (hck _); refine q6 _ ?_; clear q6 K1)) | refine b6 fun K hK => ?_ | ((first | apply b8 | apply b5 | apply c7 | apply c9); try simp only [NB, simprocAttr]))
      all_goals refine ⟨hlt, hp, ?_⟩
      all_goals refine ⟨rfl, ⟨_, rfl⟩, ?_, ⟨trivial, trivial, trivial⟩, trivial⟩
      all_goals simp only [S1, simprocAttr, KNB] <;> (try and_intros) <;> (try assumption) <;> (try trivial) <;> (try omega)
    · rw [if_neg hc] at hp
      have hc' : (stC ns fl s != 0) = true := by simp [hc]
      repeat' (first | ((repeat ((fail_if_success (refine hK _ ?_)); clear hK K)); refine hK _ ?_; clear hK K) | ((first | refine b9 fun K1 q6 => ?_ | refine b7 fun A B hA hB => ?_); simp only [S1, simprocAttr, U1, jl, j0, hnx, hxr, hs, hzl, hem, s49, hso, hsm, hc', TSz, i6, h9, j3, d8, d7, d9, List.length_map]; first | refine q6 _ ?_; clear q6 K1 | (refine hA ?_; clear hA hB A B) | (apply d4 E51; exact (hck _); refine q6 _ ?_; clear q6 K1)) | refine b6 fun K hK => ?_ | ((first | apply b8 | apply b5 | apply c7 | apply c9 | apply d3); try simp only [NB, simprocAttr]))
      all_goals simp only [S1, simprocAttr, ENB, U1]
      all_goals rw [hp]
  · obtain rfl : j = l.length := by omega
    rw [List.drop_length] at hp
    repeat' (first | ((repeat ((fail_if_success (refine hK _ ?_)); clear hK K)); refine hK _ ?_; clear hK K) | ((first | refine b9 fun K1 q6 => ?_ | refine b7 fun A B hA hB => ?_); simp only [S1, simprocAttr, U1, Int.lt_irrefl]; first | refine q6 _ ?_; clear q6 K1 | (refine hB ?_; clear hA hB A B)) | refine b6 fun K hK => ?_ | ((first | apply b8 | apply b5 | apply f9 | apply d3); try simp only [NB, simprocAttr]))
    all_goals simp only [S1, simprocAttr, ENB, U1]
    all_goals rw [hp]; rfl
theorem oq {ns : List Nd} {fl : List Fl} (nk : NetOk ns fl) {l : List Sv} (h49 : D1 l) (hl : l.length ≤ 8000000) (h : Heap) :
    d5 Tryz.prog gW 33 [G7 ns fl, H0 l] h (fun r h' => r = .i (D2 ns fl l) ∧ h' = h) := by
  have hnc := fun h => O2 (G := gW) ns fl nk h
  have hzl : (zS.map AV.i).length = 49 := by rw [List.length_map]; rfl
  have hem : (zS.map AV.i).isEmpty = false := rfl
  by_cases h0 : (A9 ns fl).1 = 0
  case neg =>
    have e : D2 ns fl l = 4 := by unfold D2; rw [if_pos h0]
    have hc' : ((A9 ns fl).1 != 0) = true := by simp [h0]
    rw [e]
    refine c8 (rl := []) e9 Tryz.func33 rfl (rs := [.tmp 4]) rfl Tryz.ntmps33 (by simp) ?_
    repeat' (first | ((repeat ((fail_if_success (refine hK _ ?_)); clear hK K)); refine hK _ ?_; clear hK K) | ((first | refine b9 fun K1 q6 => ?_ | refine b7 fun A B hA hB => ?_); simp only [S1, simprocAttr, U1, hc']; first | refine q6 _ ?_; clear q6 K1 | (refine hA ?_; clear hA hB A B) | (apply d4 E22; exact (hnc _); refine q6 _ ?_; clear q6 K1)) | refine b6 fun K hK => ?_ | ((first | apply b8 | apply b5 | apply d3); try simp only [NB, simprocAttr]))
    all_goals simp only [S1, simprocAttr, ENB, U1]
  have e : D2 ns fl l = Q8 ns fl l := by unfold D2; rw [if_neg (by simpa using h0)]
  rw [e]
  have hc0 : ((A9 ns fl).1 != 0) = false := by simp [h0]
  refine c8 (rl := []) e9 Tryz.func33 rfl (rs := [.tmp 4]) rfl Tryz.ntmps33 (by simp) ?_
  repeat' (first | ((repeat ((fail_if_success (refine hK _ ?_)); clear hK K)); refine hK _ ?_; clear hK K) | ((first | refine b9 fun K1 q6 => ?_ | refine b7 fun A B hA hB => ?_); simp only [S1, simprocAttr, U1, hc0, List.length_map]; first | refine q6 _ ?_; clear q6 K1 | (refine hB ?_; clear hA hB A B) | (apply d4 E22; exact (hnc _); refine q6 _ ?_; clear q6 K1)) | refine b6 fun K hK => ?_ | ((first | apply b8 | apply b5 | apply c7 | apply c9); try simp only [NB, simprocAttr]))
  refine p8 l.length 25 (fun j => [(14, .i j), (13, .i l.length), (12, H0 l), (2, .ptr h.length 0 0)]) (fun j => [some ⟨0, x8 ns fl⟩]) (fun j => Q8 ns fl l = Q8 ns fl (l.drop j)) ?_ rfl fun j hj hp K hK => ?_
  · refine ⟨rfl, ⟨_, rfl⟩, ?_, ⟨trivial, trivial, trivial⟩, trivial⟩
    simp only [S1, simprocAttr, KNB] <;> (try and_intros) <;> (try assumption) <;> (try trivial) <;> (try omega)
  rcases Nat.lt_or_ge j l.length with hlt | hge
  · obtain ⟨s, hx⟩ : ∃ k, l[j]? = some k := ⟨_, List.getElem?_eq_getElem hlt⟩
    have hs : s.length = 49 := h49 s (List.mem_of_getElem? hx)
    have hxr : (l.map eSt)[j]? = some (s.map (PV.int .i64)) := by rw [List.getElem?_map, hx]; rfl
    have jl : (j : Int) < (l.length : Int) := by omega
    have j0 : (0 : Int) ≤ (j : Int) := by omega
    have hnx : IntKind.i64.wrap ((j : Int) + 1) = ((j + 1 : Nat) : Int) := by rw [IntWalk.i64_in _ (by omega)]; omega
    have s49 : (s.map AV.i).take 49 = s.map AV.i := List.take_of_length_le (by rw [List.length_map, hs]; exact Nat.le_refl _)
    have hso : w9 (zS.map AV.i) 0 (s.map AV.i) = s.map AV.i := l7 (n := 49) (by rw [List.length_map, hs]) _ hzl
    have hsm := x9 s
    have hck := fun h => kp nk hs h
    rw [iz hx] at hp
    by_cases hc : stC ns fl s = 0
    · rw [if_pos hc] at hp
      rw [hc] at hck
      repeat' (first | ((repeat ((fail_if_success (refine hK _ ?_)); clear hK K)); refine hK _ ?_; clear hK K) | ((first | refine b9 fun K1 q6 => ?_ | refine b7 fun A B hA hB => ?_); simp only [S1, simprocAttr, U1, jl, j0, hnx, hxr, hs, hzl, hem, s49, hso, hsm, TRz, i6, h9, j3, d8, d7, d9, List.length_map]; first | refine q6 _ ?_; clear q6 K1 | ((first | refine hA ?_ | refine hB ?_); clear hA hB A B) | (apply d4 E48; exact (hck _); refine q6 _ ?_; clear q6 K1)) | refine b6 fun K hK => ?_ | ((first | apply b8 | apply b5 | apply c7 | apply c9); try simp only [NB, simprocAttr]))
      all_goals refine ⟨hlt, hp, ?_⟩
      all_goals refine ⟨rfl, ⟨_, rfl⟩, ?_, ⟨trivial, trivial, trivial⟩, trivial⟩
      all_goals simp only [S1, simprocAttr, KNB] <;> (try and_intros) <;> (try assumption) <;> (try trivial) <;> (try omega)
    · rw [if_neg hc] at hp
      have hc' : (stC ns fl s != 0) = true := by simp [hc]
      repeat' (first | ((repeat ((fail_if_success (refine hK _ ?_)); clear hK K)); refine hK _ ?_; clear hK K) | ((first | refine b9 fun K1 q6 => ?_ | refine b7 fun A B hA hB => ?_); simp only [S1, simprocAttr, U1, jl, j0, hnx, hxr, hs, hzl, hem, s49, hso, hsm, hc', TRz, i6, h9, j3, d8, d7, d9, List.length_map]; first | refine q6 _ ?_; clear q6 K1 | (refine hA ?_; clear hA hB A B) | (apply d4 E48; exact (hck _); refine q6 _ ?_; clear q6 K1)) | refine b6 fun K hK => ?_ | ((first | apply b8 | apply b5 | apply c7 | apply c9 | apply d3); try simp only [NB, simprocAttr]))
      all_goals simp only [S1, simprocAttr, ENB, U1]
      all_goals rw [hp]
  · obtain rfl : j = l.length := by omega
    rw [List.drop_length] at hp
    repeat' (first | ((repeat ((fail_if_success (refine hK _ ?_)); clear hK K)); refine hK _ ?_; clear hK K) | ((first | refine b9 fun K1 q6 => ?_ | refine b7 fun A B hA hB => ?_); simp only [S1, simprocAttr, U1, Int.lt_irrefl]; first | refine q6 _ ?_; clear q6 K1 | (refine hB ?_; clear hA hB A B)) | refine b6 fun K hK => ?_ | ((first | apply b8 | apply b5 | apply f9 | apply d3); try simp only [NB, simprocAttr]))
    all_goals simp only [S1, simprocAttr, ENB, U1]
    all_goals rw [hp]; rfl
noncomputable def z7 (ns : List Nd) (fl : List Fl) : List Sv × Int := if (A9 ns fl).1 ≠ 0 then ([], 4) else u5 ns fl [(s6 ns fl).1]
end
section
def xm := And.intro T2 (And.intro T3 (And.intro T4 (And.intro T25 (And.intro T28 (And.intro T41 (And.intro T57 (And.intro T58 (And.intro T62 T65))))))))
attribute [local irreducible] awp n9 k3 l8 o6 n5
def z53 : List PV := List.replicate 53 (.int .i64 0)
theorem fw {ns : List Nd} {fl : List Fl} (nk : NetOk ns fl) (h0 : (A9 ns fl).1 = 0) (h : Heap) :
    d5 Tryz.prog gW 23 [G7 ns fl] h (fun r h' => r = aS (s6 ns fl).1 ∧ h' = h) := by
  have hzl : (zS.map AV.i).length = 49 := by rw [List.length_map]; rfl
  have hem : (zS.map AV.i).isEmpty = false := rfl
  have hzz : w9 (zS.map AV.i) 0 (zS.map AV.i) = zS.map AV.i := l7 (n := 49) (by rw [List.length_map]; rfl) _ hzl
  have hzt : (zS.map AV.i).take 49 = zS.map AV.i := List.take_of_length_le (by rw [hzl]; exact Nat.le_refl _)
  have rt := Right.of h0
  obtain ⟨s, f, e1, e2, e3⟩ := rt.begin
  have hf := rt.f
  have e : (s6 ns fl).1 = zS.set f 1 := by unfold s6; rw [if_neg (by simpa using h0), e1, e2]; rfl
  rw [e]
  have hs := fun h => gZ (G := gW) ns nk.n (fl.map eF) 1 h
  have ho := fun h => t7 (G := gW) (ns.map eN) fl nk.f (s : Int) h
  rw [e1] at hs
  rw [e2] at ho
  have f40 : (f : Int) < 40 := by omega
  have f0' : (0 : Int) ≤ (f : Int) := by omega
  have f49 : f + 1 ≤ 49 := by omega
  have hset := I3 zS f 1
  have hzs : (zS.set f 1).length = 49 := by rw [List.length_set]; rfl
  have hzt2 : ((zS.set f 1).map AV.i).take 49 = (zS.set f 1).map AV.i := List.take_of_length_le (by rw [List.length_map, hzs]; exact Nat.le_refl _)
  have hzz2 : w9 (zS.map AV.i) 0 ((zS.set f 1).map AV.i) = (zS.set f 1).map AV.i := l7 (n := 49) (by rw [List.length_map, hzs]) _ hzl
  have hei : eI (f : Int) = [.int .i64 (f : Int)] := rfl
  have hi0 : (0 : Int) ≤ 0 := Int.le_refl 0
  refine c8 (rl := []) e9 Tryz.func23 rfl (rs := [.cell 2 60]) rfl Tryz.ntmps23 (by simp) ?_
  repeat' (first | ((first | apply b8 | apply s4); (try simp only [NB])) | ((repeat ((fail_if_success (refine hK _ ?_)); clear hK K)); refine hK _ ?_; clear hK K) | ((first | refine b9 fun K1 q6 => ?_ | refine v8 rfl rfl rfl fun K1 q6 => ?_); simp only [S1, simprocAttr, xm, f40, f0', f49, hset, hzs, hzt2, hzz2, hei, hi0, TRz, i6, h9, j3, hem, hzz, hzt, d8, d7, d9, List.length_map, List.getElem?_cons_zero, Nat.mul_one]; refine q6 _ ?_; clear q6 K1) | ((first | refine u6 (v := ?_) rfl rfl rfl rfl (by decide) (fun R1 K1 q6 => ?_) ?_ | refine y5 (v := ?_) rfl rfl rfl (by decide) (fun K1 q6 => ?_) ?_); rotate_left; (focus (simp only [S1, simprocAttr, xm, f40, f0', f49, hset, hzs, hzt2, hzz2, hei, hi0, TRz, i6, h9, j3, hem, hzz, hzt, d8, d7, d9, List.length_map, List.getElem?_cons_zero, Nat.mul_one]; first | (exact q6 _ _ _) | (apply j5 E44; exact (hs _); exact q6 _ _ _) | (apply j5 E47; exact (ho _); exact q6 _ _ _)))) | (refine s5 rfl rfl rfl ?_) | refine b6 fun K hK => ?_ | (refine o9 (es := []) [0, 1, 2, 3, 4, 5, 6, 7, 8] 0 (fs := []) rfl (by kernel_rfl) (by kernel_rfl) ?_) | ((first | apply b5 | apply d3); try simp only [NB, simprocAttr]))
  all_goals simp only [S1, simprocAttr, ENB, xm, hzt2, hzs, List.length_map, j3, TRz, d9, L9, x9]
end
section
def S5 := And.intro T2 (And.intro T3 (And.intro T4 (And.intro T25 (And.intro T26 (And.intro T28 (And.intro T31 (And.intro T34 (And.intro T36 (And.intro T41 (And.intro T44 (And.intro T55 (And.intro T57 (And.intro T58 (And.intro T62 (And.intro T65 (And.intro T89 T92))))))))))))))))
attribute [local irreducible] awp n9 k3 l8 o6 n5
theorem cK (ns : List Nd) (fl : List Fl) : (s6 ns fl).1.length = 49 := by
  unfold s6
  split
  · rfl
  · simp [zS]
theorem kM {s : Sv} (h : s.length = 49) : D1 [s] := fun t ht => by rw [List.mem_singleton] at ht; rw [ht]; exact h
theorem iA {ns : List Nd} {fl : List Fl} (nk : NetOk ns fl) (h : Heap) :
    d5 Tryz.prog gW 15 [G7 ns fl] h (fun r h' => r = .tup [H0 (z7 ns fl).1, .i (z7 ns fl).2] ∧ h' = h) := by
  have hst := fun h => fe nk h
  have hzl : (zS.map AV.i).length = 49 := by rw [List.length_map]; rfl
  have hem : (zS.map AV.i).isEmpty = false := rfl
  by_cases h0 : (A9 ns fl).1 = 0
  case neg =>
    have e : z7 ns fl = ([], 4) := by unfold z7; rw [if_pos h0]
    have es : s6 ns fl = (zS, 4) := by unfold s6; rw [if_pos h0]
    have hzz : w9 (zS.map AV.i) 0 (zS.map AV.i) = zS.map AV.i := l7 (n := 49) (by rw [List.length_map]; rfl) _ hzl
    rw [e]
    rw [es] at hst
    refine c8 (rl := []) e9 Tryz.func15 rfl (rs := [.tmp 2, .tmp 3]) rfl Tryz.ntmps15 (by simp) ?_
    repeat' (first | ((repeat ((fail_if_success (refine hK _ ?_)); clear hK K)); refine hK _ ?_; clear hK K) | ((first | refine b9 fun K1 q6 => ?_ | refine b7 fun A B hA hB => ?_); simp only [S1, simprocAttr, S5, TSz, i6, h9, j3, hem, hzz, d8, d7, d9, List.length_map]; first | refine q6 _ ?_; clear q6 K1 | (refine hA ?_; clear hA hB A B) | (apply d4 E36; exact (hst _); refine q6 _ ?_; clear q6 K1)) | refine b6 fun K hK => ?_ | ((first | apply b8 | apply b5 | apply d3); try simp only [NB, simprocAttr]))
    all_goals simp only [S1, simprocAttr, ENB, S5]
    all_goals rfl
  have e : z7 ns fl = u5 ns fl [(s6 ns fl).1] := by unfold z7; rw [if_neg (by simpa using h0)]
  have hs2 : (s6 ns fl).2 = 0 := by unfold s6; rw [if_neg (by simpa using h0)]
  have hs1 := cK ns fl
  rw [e]
  rw [hs2] at hst
  generalize (s6 ns fl).1 = s at *
  have hso0 : w9 (zS.map AV.i) 0 (s.map AV.i) = s.map AV.i := l7 (n := 49) (by rw [List.length_map, hs1]) _ hzl
  have s49 : (s.map AV.i).take 49 = s.map AV.i := List.take_of_length_le (by rw [List.length_map, hs1]; exact Nat.le_refl _)
  have hpv := Q5 s
  have hch := N3 49 (s.map (PV.int .i64)) (by rw [List.length_map, hs1])
  have hti : (s.map (PV.int .i64)).take 49 = s.map (PV.int .i64) := List.take_of_length_le (by rw [List.length_map, hs1]; exact Nat.le_refl _)
  have hc := fun h => fv nk (kM hs1) (by simp) h
  refine c8 (rl := []) e9 Tryz.func15 rfl (rs := [.tmp 2, .tmp 3]) rfl Tryz.ntmps15 (by simp) ?_
  repeat' (first | ((repeat ((fail_if_success (refine hK _ ?_)); clear hK K)); refine hK _ ?_; clear hK K) | ((first | refine b9 fun K1 q6 => ?_ | refine b7 fun A B hA hB => ?_); simp only [S1, simprocAttr, S5, hs1, hso0, s49, hpv, hch, hti, TSz, i6, h9, j3, hem, d8, d7, d9, List.length_map]; first | refine q6 _ ?_; clear q6 K1 | (refine hB ?_; clear hA hB A B) | (apply d4 E36; exact (hst _); refine q6 _ ?_; clear q6 K1) | (apply d4 E32; exact (hc _); refine q6 _ ?_; clear q6 K1)) | refine b6 fun K hK => ?_ | ((first | apply b8 | apply b5 | apply c9 | apply d3); try simp only [NB, simprocAttr]))
  all_goals simp only [S1, simprocAttr, ENB, S5]
noncomputable def u9 (ns : List Nd) (fl : List Fl) (l : List Sv) (x : Lb) : List Sv := l.flatMap fun s => S9 ns fl s x
noncomputable def r9 (ns : List Nd) (fl : List Fl) (l : List Sv) (x : Lb) : List Sv × Int := if D2 ns fl l ≠ 0 then ([], D2 ns fl l) else if x.1 = 0 then ([], 1) else u5 ns fl (u9 ns fl l x)
theorem kN {ns : List Nd} {fl : List Fl} {l : List Sv} {j : Nat} {s : Sv} (h : l[j]? = some s) (x : Lb) : u9 ns fl (l.take (j + 1)) x = u9 ns fl (l.take j) x ++ S9 ns fl s x := by
  unfold u9
  rw [List.take_add_one, h, List.flatMap_append]; simp
theorem W7 {ns : List Nd} {fl : List Fl} {l : List Sv} (h : D1 l) (x : Lb) : D1 (u9 ns fl l x) := fun t ht => by
  unfold u9 at ht
  obtain ⟨s, hs, ht⟩ := List.mem_flatMap.mp ht
  exact cJ (h s hs) x t ht
theorem cp (ns : List Nd) (fl : List Fl) (x : Lb) : ∀ l : List Sv, (u9 ns fl l x).length ≤ l.length * 2500
  | [] => by simp [u9]
  | s :: l => by
    have h1 := cp ns fl x l
    have h2 := fu ns fl s x
    unfold u9 at h1 ⊢
    rw [List.flatMap_cons, List.length_append, List.length_cons]; omega
theorem aZ (l m : List Sv) : q9 (l ++ m) = q9 l ++ q9 m := by unfold q9; rw [List.flatMap_append]
theorem ba (l : List Sv) : ((l.map eSt).flatMap id).map AV.p = q9 l := by
  unfold q9 eSt
  induction l with
  | nil => rfl
  | cons s l ih => rw [List.map_cons, List.flatMap_cons, List.map_append, ih, List.flatMap_cons]; congr 1; exact x9 s
theorem mF {l : List Sv} (h : D1 l) : (l.map eSt).all (fun r => r.length == 49) = true := by
  rw [List.all_eq_true]
  intro r hr
  obtain ⟨s, hs, rfl⟩ := List.mem_map.mp hr
  simpa using ja h s hs
noncomputable def dS (ns : List Nd) (fl : List Fl) (l : List Sv) (x : Lb) : Nat := ((l.map fun s => S9 ns fl s x).filter fun m => m.length ≠ 0).length
theorem mG {ns : List Nd} {fl : List Fl} {l : List Sv} {j : Nat} {s : Sv} (h : l[j]? = some s) (x : Lb) : dS ns fl (l.take (j + 1)) x = dS ns fl (l.take j) x + if (S9 ns fl s x).length = 0 then 0 else 1 := by
  unfold dS
  rw [List.take_add_one, h, List.map_append, List.filter_append, List.length_append]
  congr 1
  by_cases hc : (S9 ns fl s x).length = 0
  · have : S9 ns fl s x = [] := List.eq_nil_of_length_eq_zero hc
    simp [this]
  · have : S9 ns fl s x ≠ [] := fun e => hc (by rw [e]; rfl)
    simp [this]
theorem qD {ns : List Nd} {fl : List Fl} (nk : NetOk ns fl) {l : List Sv} (h49 : D1 l) (hl : l.length ≤ 2000) (x : Lb) (h : Heap) :
    d5 Tryz.prog gW 11 [G7 ns fl, H0 l, aL x] h (fun r h' => r = .tup [H0 (r9 ns fl l x).1, .i (r9 ns fl l x).2] ∧ h' = h) := by
  have hr := fun h => om nk h49 (by omega) h
  have hzl : (zS.map AV.i).length = 49 := by rw [List.length_map]; rfl
  have hem : (zS.map AV.i).isEmpty = false := rfl
  by_cases h0 : D2 ns fl l = 0
  case neg =>
    have e : r9 ns fl l x = ([], D2 ns fl l) := by unfold r9; rw [if_pos h0]
    have f0 : (D2 ns fl l != 0) = true := by simp [h0]
    rw [e]
    refine c8 (rl := []) e9 Tryz.func11 rfl (rs := [.tmp 6, .tmp 7]) rfl Tryz.ntmps11 (by simp) ?_
    repeat' (first | ((repeat ((fail_if_success (refine hK _ ?_)); clear hK K)); refine hK _ ?_; clear hK K) | ((first | refine b9 fun K1 q6 => ?_ | refine b7 fun A B hA hB => ?_); simp only [S1, simprocAttr, S5, f0]; first | refine q6 _ ?_; clear q6 K1 | (refine hA ?_; clear hA hB A B) | (apply d4 E30; exact (hr _); refine q6 _ ?_; clear q6 K1)) | refine b6 fun K hK => ?_ | ((first | apply b8 | apply b5 | apply d3); try simp only [NB, simprocAttr]))
    all_goals simp only [S1, simprocAttr, ENB, S5]
    all_goals rfl
  rw [h0] at hr
  by_cases h1 : x.1 = 0
  · have e : r9 ns fl l x = ([], 1) := by unfold r9; rw [if_neg (by simpa using h0), if_pos h1]
    have f1 : (x.1 == 0) = true := by simp [h1]
    rw [e]
    refine c8 (rl := []) e9 Tryz.func11 rfl (rs := [.tmp 6, .tmp 7]) rfl Tryz.ntmps11 (by simp) ?_
    repeat' (first | ((repeat ((fail_if_success (refine hK _ ?_)); clear hK K)); refine hK _ ?_; clear hK K) | ((first | refine b9 fun K1 q6 => ?_ | refine b7 fun A B hA hB => ?_); simp only [S1, simprocAttr, S5, f1]; first | refine q6 _ ?_; clear q6 K1 | ((first | refine hA ?_ | refine hB ?_); clear hA hB A B) | (apply d4 E30; exact (hr _); refine q6 _ ?_; clear q6 K1)) | refine b6 fun K hK => ?_ | ((first | apply b8 | apply b5 | apply c9 | apply d3); try simp only [NB, simprocAttr]))
    all_goals simp only [S1, simprocAttr, ENB, S5]
    all_goals rfl
  have e : r9 ns fl l x = u5 ns fl (u9 ns fl l x) := by unfold r9; rw [if_neg (by simpa using h0), if_neg h1]
  have f1 : (x.1 == 0) = false := by simp [h1]
  have hlw := cp ns fl x l
  have hc := fun h => fv nk (l := u9 ns fl l x) (W7 h49 x) (by omega) h
  rw [e]
  refine c8 (rl := []) e9 Tryz.func11 rfl (rs := [.tmp 6, .tmp 7]) rfl Tryz.ntmps11 (by simp) ?_
  repeat' (first | (apply b8; (try simp only [NB]); ((repeat ((fail_if_success (refine hK _ ?_)); clear hK K)); refine hK _ ?_; clear hK K)) | (refine b9 fun K1 q6 => ?_; simp only [S1, simprocAttr, S5]; refine q6 _ ?_; clear q6 K1) | (refine b6 (x := Code.region _ _ _) fun K hK => ?_) | (apply b5; try simp only [NB, simprocAttr]; (try ((repeat ((fail_if_success (refine hK _ ?_)); clear hK K)); refine hK _ ?_; clear hK K))))
  refine b6 fun K hK => ?_
  repeat' (first | (apply b8; (try simp only [NB]); ((repeat ((fail_if_success (refine hK _ ?_)); clear hK K)); refine hK _ ?_; clear hK K)) | ((first | refine b9 fun K1 q6 => ?_ | refine b7 fun A B hA hB => ?_); simp only [S1, simprocAttr, S5]; first | refine q6 _ ?_; clear q6 K1 | (refine hB ?_; clear hA hB A B) | (apply d4 E30; exact (hr _); refine q6 _ ?_; clear q6 K1)) | (refine b6 (x := Code.region _ _ _) fun K hK => ?_) | ((first | apply b5 | apply c9); try simp only [NB, simprocAttr]; (try ((repeat ((fail_if_success (refine hK _ ?_)); clear hK K)); refine hK _ ?_; clear hK K))))
  refine b6 fun K hK => ?_
  repeat' (first | (apply b8; (try simp only [NB]); ((repeat ((fail_if_success (refine hK _ ?_)); clear hK K)); refine hK _ ?_; clear hK K)) | ((first | refine b9 fun K1 q6 => ?_ | refine b7 fun A B hA hB => ?_); simp only [S1, simprocAttr, S5, f1]; first | refine q6 _ ?_; clear q6 K1 | (refine hB ?_; clear hA hB A B)) | (refine b6 (x := Code.region _ _ _) fun K hK => ?_) | ((first | apply b5 | apply c9); try simp only [NB, simprocAttr]; (try ((repeat ((fail_if_success (refine hK _ ?_)); clear hK K)); refine hK _ ?_; clear hK K))))
  refine gC ⟨frL [(9, H0 (u9 ns fl l x)), (3, .ptr h.length 0 0)], 39, h ++ [some ⟨0, x8 ns fl⟩]⟩ (fun K hK => ?_) ?_
  · repeat' (first | ((repeat ((fail_if_success (refine hK _ ?_)); clear hK K)); refine hK _ ?_; clear hK K) | (refine b9 fun K1 q6 => ?_; simp only [S1, simprocAttr, S5, List.length_map]; refine q6 _ ?_; clear q6 K1) | refine b6 fun K hK => ?_ | ((first | apply b8 | apply b5 | apply c7); try simp only [NB, simprocAttr]))
    refine F0 l.length 39 (fun j => [(23, .i j), (22, .i l.length), (21, H0 l), (9, .ref (h.length + 2) (dS ns fl (l.take j) x) 0 49 (u9 ns fl (l.take j) x).length), (3, .ptr h.length 0 0), (5, .ptr (h.length + 1) 0 0)])
      (fun j => [some ⟨0, x8 ns fl⟩, some ⟨0, [.i x.1, .i x.2.1, .i x.2.2]⟩, some ⟨dS ns fl (l.take j) x, q9 (u9 ns fl (l.take j) x)⟩]) (fun j => True) ?_ trivial fun j hj hp K hK => ?_
    · refine (o8.adopt 9 49 rfl).trans (Sub.ghost ⟨rfl, ⟨[], by simp [q9, u9, dS]⟩, ?_, ⟨trivial, trivial, trivial⟩, ⟨trivial, trivial, trivial, trivial⟩, trivial, trivial⟩)
      simp only [K4, s7, G5, frL, List.length_cons, List.length_nil]
      simp [u9, dS]
    rcases Nat.lt_or_ge j l.length with hlt | hge
    · obtain ⟨s, hx⟩ : ∃ k, l[j]? = some k := ⟨_, List.getElem?_eq_getElem hlt⟩
      have hs : s.length = 49 := h49 s (List.mem_of_getElem? hx)
      have hxr : (l.map eSt)[j]? = some (s.map (PV.int .i64)) := by rw [List.getElem?_map, hx]; rfl
      have jl : (j : Int) < (l.length : Int) := by omega
      have j0 : (0 : Int) ≤ (j : Int) := by omega
      have hnx : IntKind.i64.wrap ((j : Int) + 1) = ((j + 1 : Nat) : Int) := by rw [IntWalk.i64_in _ (by omega)]; omega
      have s49 : (s.map AV.i).take 49 = s.map AV.i := List.take_of_length_le (by rw [List.length_map, hs]; exact Nat.le_refl _)
      have hso : w9 (zS.map AV.i) 0 (s.map AV.i) = s.map AV.i := l7 (n := 49) (by rw [List.length_map, hs]) _ hzl
      have hsm := x9 s
      have hne := K6 hs
      have hled := fun h => mC nk hs x h
      have es := kN (ns := ns) (fl := fl) hx x
      have eg := mG (ns := ns) (fl := fl) hx x
      have hm49 := cJ (ns := ns) (fl := fl) hs x
      have hml := fu ns fl s x
      have ho := W7 (ns := ns) (fl := fl) (l := l.take j) (fun t ht => h49 t (List.mem_of_mem_take ht)) x
      have hol := cp ns fl x (l.take j)
      rw [List.length_take] at hol
      have hjm : min j l.length * 2500 ≤ 2000 * 2500 := Nat.mul_le_mul_right _ (by omega)
      generalize S9 ns fl s x = more at *
      generalize dS ns fl (l.take j) x = gn at *
      generalize u9 ns fl (l.take j) x = o at *
      have hfl := D5 ho
      have hra := mF hm49
      have hrf := ba more
      have hfa := aZ o more
      by_cases hk : more.length = 0
      · obtain rfl := List.eq_nil_of_length_eq_zero hk
        simp only [List.length_nil, if_true, Nat.add_zero] at eg
        rw [List.append_nil] at es
        repeat' (first | ((repeat ((fail_if_success (refine hK _ ?_)); clear hK K)); refine hK _ ?_; clear hK K) | ((first | refine b9 fun K1 q6 => ?_ | refine b7 fun A B hA hB => ?_); simp only [S1, simprocAttr, S5, jl, j0, hnx, hxr, hs, hzl, hem, s49, hso, hsm, hne, hfl, TSz, i6, h9, j3, d8, d7, d9, List.all_nil, List.flatMap_nil, List.length_map]; first | refine q6 _ ?_; clear q6 K1 | (refine hA ?_; clear hA hB A B) | (apply d4 E31; exact (hled _); refine q6 _ ?_; clear q6 K1)) | refine b6 fun K hK => ?_ | ((first | apply b8 | apply b5 | apply c7 | apply c9); try simp only [NB, simprocAttr]))
        all_goals refine ⟨hlt, trivial, ?_⟩
        all_goals simp only [es, eg]
        all_goals refine ⟨rfl, ⟨_, rfl⟩, ?_, ⟨trivial, trivial, trivial⟩, ⟨trivial, trivial, trivial, trivial⟩, x7 _ _, trivial⟩
        all_goals clear hjm hol hml hlw hfl
        all_goals simp only [S1, simprocAttr, KNB] <;> (try and_intros) <;> (try assumption) <;> (try trivial) <;> (try omega)
      · rw [if_neg hk] at eg
        have hmax : o.length + more.length ≤ j7 := by unfold j7; omega
        repeat' (first | ((repeat ((fail_if_success (refine hK _ ?_)); clear hK K)); refine hK _ ?_; clear hK K) | ((first | refine b9 fun K1 q6 => ?_ | refine b7 fun A B hA hB => ?_); simp only [S1, simprocAttr, S5, jl, j0, hnx, hxr, hs, hzl, hem, s49, hso, hsm, hne, hfl, hk, hmax, hra, hrf, TSz, i6, h9, j3, d8, d7, d9, List.length_map, List.drop_zero]; first | refine q6 _ ?_; clear q6 K1 | (refine hA ?_; clear hA hB A B) | (apply d4 E31; exact (hled _); refine q6 _ ?_; clear q6 K1)) | refine b6 fun K hK => ?_ | ((first | apply b8 | apply b5 | apply c7 | apply c9); try simp only [NB, simprocAttr]))
        all_goals refine ⟨hlt, trivial, ?_⟩
        all_goals simp only [es, eg, hfa, List.length_append]
        all_goals refine ⟨rfl, ⟨_, rfl⟩, ?_, ⟨trivial, trivial, trivial⟩, ⟨trivial, trivial, trivial, trivial⟩, (by rw [← aZ]; exact x7 _ _), trivial⟩
        all_goals clear hjm hol hmax hml hlw hfl
        all_goals simp only [S1, simprocAttr, KNB] <;> (try and_intros) <;> (try assumption) <;> (try trivial) <;> (try omega)
    · obtain rfl : j = l.length := by omega
      rw [List.take_length]
      have ho := W7 (ns := ns) (fl := fl) h49 x
      repeat' (first | ((repeat ((fail_if_success (refine hK _ ?_)); clear hK K)); refine hK _ ?_; clear hK K) | ((first | refine b9 fun K1 q6 => ?_ | refine b7 fun A B hA hB => ?_); simp only [S1, simprocAttr, S5, Int.lt_irrefl]; first | refine q6 _ ?_; clear q6 K1 | (refine hB ?_; clear hA hB A B)) | refine b6 fun K hK => ?_ | ((first | apply b8 | apply b5 | apply f9); try simp only [NB, simprocAttr]))
      have hfz : ∀ r ∈ (u9 ns fl l x).map eSt, r.length = 49 := fun r hr => by obtain ⟨s, hs, rfl⟩ := List.mem_map.mp hr; exact ja ho s hs
      have hcz : q9 (u9 ns fl l x) = (((u9 ns fl l x).map eSt).flatMap id).map AV.p ++ [] := by rw [ba, List.append_nil]
      have hlz : (u9 ns fl l x).length = ((u9 ns fl l x).map eSt).length := (List.length_map ..).symm
      have hbz : ∀ A B C : Option Blk, (h ++ [A, B, C])[h.length + 2]? = some C := fun A B C => by rw [n8]; rfl
      have hsz : ∀ A B C : Option Blk, (h ++ [A, B, C]).set (h.length + 2) none = h ++ ([A] ++ [B, none]) := fun A B C => by rw [Q9]; rfl
      all_goals refine (o8.freeze (k := 9) (b := h.length + 2) (sz := 49) (n := (u9 ns fl l x).length) (rows := (u9 ns fl l x).map eSt) (bk := ⟨dS ns fl l x, q9 (u9 ns fl l x)⟩) (rest := []) rfl (hbz _ _ _) hlz hfz (by omega) hcz).trans (Sub.ghost ⟨rfl, ⟨_, hsz _ _ _⟩, ?_, ⟨trivial, trivial, trivial⟩, trivial⟩)
      all_goals simp only [S1, simprocAttr, KNB] <;> (try and_intros) <;> (try assumption) <;> (try trivial) <;> (try omega)
  repeat' (first | ((repeat ((fail_if_success (refine hK _ ?_)); clear hK K)); refine hK _ ?_; clear hK K) | (refine b9 fun K1 q6 => ?_; simp only [S1, simprocAttr, S5]; first | refine q6 _ ?_; clear q6 K1 | (apply d4 E32; exact (hc _); refine q6 _ ?_; clear q6 K1)) | refine b6 fun K hK => ?_ | ((first | apply b8 | apply b5 | apply d3); try simp only [NB, simprocAttr]))
  all_goals simp only [S1, simprocAttr, ENB, S5]
end
section
def P5 := And.intro T2 (And.intro T3 (And.intro T4 (And.intro T25 (And.intro T26 (And.intro T28 (And.intro T31 (And.intro T34 (And.intro T36 (And.intro T41 (And.intro T44 (And.intro T55 (And.intro T57 (And.intro T58 (And.intro T62 (And.intro T65 (And.intro T89 T92))))))))))))))))
attribute [local irreducible] awp n9 k3 l8 o6 n5
theorem ot {ns : List Nd} {fl : List Fl} (nk : NetOk ns fl) (h : Heap) :
    d5 Tryz.prog gW 16 [G7 ns fl] h (fun r h' => r = aCl (z7 ns fl) ∧ h' = h) := by
  have hnc := fun h => O2 (G := gW) ns fl nk h
  have hzl : (zS.map AV.i).length = 49 := by rw [List.length_map]; rfl
  have hem : (zS.map AV.i).isEmpty = false := rfl
  by_cases h0 : (A9 ns fl).1 = 0
  case neg =>
    have e : z7 ns fl = ([], 4) := by unfold z7; rw [if_pos h0]
    have f0 : ((A9 ns fl).1 != 0) = true := by simp [h0]
    rw [e]
    refine c8 (rl := []) e9 Tryz.func16 rfl (rs := [.cell 2 36]) rfl Tryz.ntmps16 (by simp) ?_
    repeat' (first | ((repeat ((fail_if_success (refine hK _ ?_)); clear hK K)); refine hK _ ?_; clear hK K) | ((first | refine b9 fun K1 q6 => ?_ | refine b7 fun A B hA hB => ?_); simp only [S1, simprocAttr, P5, f0]; first | refine q6 _ ?_; clear q6 K1 | (refine hA ?_; clear hA hB A B) | (apply d4 E22; exact (hnc _); refine q6 _ ?_; clear q6 K1)) | refine b6 fun K hK => ?_ | ((first | apply b8 | apply b5 | apply d3); try simp only [NB, simprocAttr]))
    all_goals simp only [S1, simprocAttr, ENB, P5]
    all_goals rfl
  have e : z7 ns fl = u5 ns fl [(s6 ns fl).1] := by unfold z7; rw [if_neg (by simpa using h0)]
  have f0 : ((A9 ns fl).1 != 0) = false := by simp [h0]
  have hs1 := cK ns fl
  have hst := fun h => fw nk h0 h
  rw [e]
  generalize (s6 ns fl).1 = s at *
  have s49 : (s.map AV.i).take 49 = s.map AV.i := List.take_of_length_le (by rw [List.length_map, hs1]; exact Nat.le_refl _)
  have hso0 : w9 (zS.map AV.i) 0 (s.map AV.i) = s.map AV.i := l7 (n := 49) (by rw [List.length_map, hs1]) _ hzl
  have hpv := Q5 s
  have hch := N3 49 (s.map (PV.int .i64)) (by rw [List.length_map, hs1])
  have hti : (s.map (PV.int .i64)).take 49 = s.map (PV.int .i64) := List.take_of_length_le (by rw [List.length_map, hs1]; exact Nat.le_refl _)
  have hc := fun h => di nk (l := [s]) (kM hs1) (by simp) h
  have z49l : z49.length = 49 := rfl
  refine c8 (rl := []) e9 Tryz.func16 rfl (rs := [.cell 2 36]) rfl Tryz.ntmps16 (by simp) ?_
  repeat' (first | ((first | apply b8 | apply s4); (try simp only [NB])) | ((repeat ((fail_if_success (refine hK _ ?_)); clear hK K)); refine hK _ ?_; clear hK K) | ((first | refine b9 fun K1 q6 => ?_ | refine v8 rfl rfl rfl fun K1 q6 => ?_ | refine b7 fun A B hA hB => ?_); simp only [S1, simprocAttr, P5, f0, z49l, hs1, hso0, s49, hpv, hch, hti, TRz, i6, h9, j3, hem, d8, d7, d9, List.length_map]; first | refine q6 _ ?_; clear q6 K1 | (refine hB ?_; clear hA hB A B) | (apply d4 E22; exact (hnc _); refine q6 _ ?_; clear q6 K1)) | ((first | refine u6 (v := ?_) rfl rfl rfl rfl (by decide) (fun R1 K1 q6 => ?_) ?_ | refine vL (v := ?_) rfl rfl rfl rfl (by decide) (fun H1 K1 q6 => ?_) ?_); rotate_left; (focus (simp only [S1, simprocAttr, P5, f0, z49l, hs1, hso0, s49, hpv, hch, hti, TRz, i6, h9, j3, hem, d8, d7, d9, List.length_map]; first | (exact q6 _ _ _) | (apply j5 E23; exact (hst _); exact q6 _ _ _) | (apply j5 E35; exact (hc _); exact q6 _ _ _)))) | (refine s5 rfl rfl rfl ?_) | refine b6 fun K hK => ?_ | (refine o9 (es := []) [0, 1, 2, 3, 4, 5] 0 (fs := [3]) rfl (by kernel_rfl) (by kernel_rfl) ?_) | ((first | apply b5 | apply c9 | apply d3); try simp only [NB, simprocAttr]))
  all_goals simp only [S1, simprocAttr, ENB, P5]
theorem ou {ns : List Nd} {fl : List Fl} (nk : NetOk ns fl) {l : List Sv} (h49 : D1 l) (hl : l.length ≤ 2000) (x : Lb) (h : Heap) :
    d5 Tryz.prog gW 12 [G7 ns fl, H0 l, aL x] h (fun r h' => r = aCl (r9 ns fl l x) ∧ h' = h) := by
  have hr := fun h => oq nk h49 (by omega) h
  have hzl : (zS.map AV.i).length = 49 := by rw [List.length_map]; rfl
  have hem : (zS.map AV.i).isEmpty = false := rfl
  by_cases h0 : D2 ns fl l = 0
  case neg =>
    have e : r9 ns fl l x = ([], D2 ns fl l) := by unfold r9; rw [if_pos h0]
    have f0 : (D2 ns fl l != 0) = true := by simp [h0]
    rw [e]
    refine c8 (rl := []) e9 Tryz.func12 rfl (rs := [.cell 6 36]) rfl Tryz.ntmps12 (by simp) ?_
    repeat' (first | ((repeat ((fail_if_success (refine hK _ ?_)); clear hK K)); refine hK _ ?_; clear hK K) | ((first | refine b9 fun K1 q6 => ?_ | refine b7 fun A B hA hB => ?_); simp only [S1, simprocAttr, P5, f0]; first | refine q6 _ ?_; clear q6 K1 | (refine hA ?_; clear hA hB A B) | (apply d4 E33; exact (hr _); refine q6 _ ?_; clear q6 K1)) | refine b6 fun K hK => ?_ | ((first | apply b8 | apply b5 | apply d3); try simp only [NB, simprocAttr]))
    all_goals simp only [S1, simprocAttr, ENB, P5]
    all_goals rfl
  rw [h0] at hr
  by_cases h1 : x.1 = 0
  · have e : r9 ns fl l x = ([], 1) := by unfold r9; rw [if_neg (by simpa using h0), if_pos h1]
    have f1 : (x.1 == 0) = true := by simp [h1]
    rw [e]
    refine c8 (rl := []) e9 Tryz.func12 rfl (rs := [.cell 6 36]) rfl Tryz.ntmps12 (by simp) ?_
    repeat' (first | ((repeat ((fail_if_success (refine hK _ ?_)); clear hK K)); refine hK _ ?_; clear hK K) | ((first | refine b9 fun K1 q6 => ?_ | refine b7 fun A B hA hB => ?_); simp only [S1, simprocAttr, P5, f1]; first | refine q6 _ ?_; clear q6 K1 | ((first | refine hA ?_ | refine hB ?_); clear hA hB A B) | (apply d4 E33; exact (hr _); refine q6 _ ?_; clear q6 K1)) | refine b6 fun K hK => ?_ | ((first | apply b8 | apply b5 | apply c9 | apply d3); try simp only [NB, simprocAttr]))
    all_goals simp only [S1, simprocAttr, ENB, P5]
    all_goals rfl
  have e : r9 ns fl l x = u5 ns fl (u9 ns fl l x) := by unfold r9; rw [if_neg (by simpa using h0), if_neg h1]
  have f1 : (x.1 == 0) = false := by simp [h1]
  have hlw := cp ns fl x l
  have hc := fun h => di nk (l := u9 ns fl l x) (W7 h49 x) (by omega) h
  rw [e]
  refine c8 (rl := []) e9 Tryz.func12 rfl (rs := [.cell 6 36]) rfl Tryz.ntmps12 (by simp) ?_
  repeat' (first | (apply b8; (try simp only [NB]); ((repeat ((fail_if_success (refine hK _ ?_)); clear hK K)); refine hK _ ?_; clear hK K)) | (refine b9 fun K1 q6 => ?_; simp only [S1, simprocAttr, P5]; first | refine q6 _ ?_; clear q6 K1 | (apply d4 E33; exact (hr _); refine q6 _ ?_; clear q6 K1)) | (refine b6 (x := Code.region _ _ _) fun K hK => ?_) | (apply b5; try simp only [NB, simprocAttr]; (try ((repeat ((fail_if_success (refine hK _ ?_)); clear hK K)); refine hK _ ?_; clear hK K))))
  refine b6 fun K hK => ?_
  repeat' (first | (apply b8; (try simp only [NB]); ((repeat ((fail_if_success (refine hK _ ?_)); clear hK K)); refine hK _ ?_; clear hK K)) | ((first | refine b9 fun K1 q6 => ?_ | refine b7 fun A B hA hB => ?_); simp only [S1, simprocAttr, P5]; first | refine q6 _ ?_; clear q6 K1 | (refine hB ?_; clear hA hB A B)) | (refine b6 (x := Code.region _ _ _) fun K hK => ?_) | ((first | apply b5 | apply c9); try simp only [NB, simprocAttr]; (try ((repeat ((fail_if_success (refine hK _ ?_)); clear hK K)); refine hK _ ?_; clear hK K))))
  refine b6 fun K hK => ?_
  repeat' (first | (apply b8; (try simp only [NB]); ((repeat ((fail_if_success (refine hK _ ?_)); clear hK K)); refine hK _ ?_; clear hK K)) | ((first | refine b9 fun K1 q6 => ?_ | refine b7 fun A B hA hB => ?_); simp only [S1, simprocAttr, P5, f1]; first | refine q6 _ ?_; clear q6 K1 | (refine hB ?_; clear hA hB A B)) | (refine b6 (x := Code.region _ _ _) fun K hK => ?_) | ((first | apply b5 | apply c9); try simp only [NB, simprocAttr]; (try ((repeat ((fail_if_success (refine hK _ ?_)); clear hK K)); refine hK _ ?_; clear hK K))))
  refine gC ⟨frL [(8, H0 (u9 ns fl l x)), (3, .ptr h.length 0 0), (6, .ptr (h.length + 2) 0 0)], 38, h ++ [some ⟨0, x8 ns fl⟩, some ⟨0, [.i x.1, .i x.2.1, .i x.2.2]⟩, some ⟨0, [.p .nils, .i 0]⟩]⟩ (fun K hK => ?_) ?_
  · repeat' (first | ((repeat ((fail_if_success (refine hK _ ?_)); clear hK K)); refine hK _ ?_; clear hK K) | (refine b9 fun K1 q6 => ?_; simp only [S1, simprocAttr, P5, List.length_map]; refine q6 _ ?_; clear q6 K1) | refine b6 fun K hK => ?_ | ((first | apply b8 | apply b5 | apply c7); try simp only [NB, simprocAttr]))
    refine F0 l.length 38 (fun j => [(24, .i j), (23, .i l.length), (22, H0 l), (8, .ref (h.length + 3) (dS ns fl (l.take j) x) 0 49 (u9 ns fl (l.take j) x).length), (3, .ptr h.length 0 0), (5, .ptr (h.length + 1) 0 0), (6, .ptr (h.length + 2) 0 0)])
      (fun j => [some ⟨0, x8 ns fl⟩, some ⟨0, [.i x.1, .i x.2.1, .i x.2.2]⟩, some ⟨0, [.p .nils, .i 0]⟩, some ⟨dS ns fl (l.take j) x, q9 (u9 ns fl (l.take j) x)⟩]) (fun j => True) ?_ trivial fun j hj hp K hK => ?_
    · refine (o8.adopt 8 49 rfl).trans (Sub.ghost ⟨rfl, ⟨[], by simp [q9, u9, dS]⟩, ?_, ⟨trivial, trivial, trivial⟩, ⟨trivial, trivial, trivial, trivial⟩, ⟨trivial, trivial, trivial⟩, trivial, trivial⟩)
      simp only [K4, s7, G5, frL, List.length_cons, List.length_nil]
      simp [u9, dS]
    rcases Nat.lt_or_ge j l.length with hlt | hge
    · obtain ⟨s, hx⟩ : ∃ k, l[j]? = some k := ⟨_, List.getElem?_eq_getElem hlt⟩
      have hs : s.length = 49 := h49 s (List.mem_of_getElem? hx)
      have hxr : (l.map eSt)[j]? = some (s.map (PV.int .i64)) := by rw [List.getElem?_map, hx]; rfl
      have jl : (j : Int) < (l.length : Int) := by omega
      have j0 : (0 : Int) ≤ (j : Int) := by omega
      have hnx : IntKind.i64.wrap ((j : Int) + 1) = ((j + 1 : Nat) : Int) := by rw [IntWalk.i64_in _ (by omega)]; omega
      have s49 : (s.map AV.i).take 49 = s.map AV.i := List.take_of_length_le (by rw [List.length_map, hs]; exact Nat.le_refl _)
      have hso : w9 (zS.map AV.i) 0 (s.map AV.i) = s.map AV.i := l7 (n := 49) (by rw [List.length_map, hs]) _ hzl
      have hsm := x9 s
      have hne := K6 hs
      have hled := fun h => kL nk hs x h
      have es := kN (ns := ns) (fl := fl) hx x
      have eg := mG (ns := ns) (fl := fl) hx x
      have hm49 := cJ (ns := ns) (fl := fl) hs x
      have hml := fu ns fl s x
      have ho := W7 (ns := ns) (fl := fl) (l := l.take j) (fun t ht => h49 t (List.mem_of_mem_take ht)) x
      have hol := cp ns fl x (l.take j)
      rw [List.length_take] at hol
      have hjm : min j l.length * 2500 ≤ 2000 * 2500 := Nat.mul_le_mul_right _ (by omega)
      generalize S9 ns fl s x = more at *
      generalize dS ns fl (l.take j) x = gn at *
      generalize u9 ns fl (l.take j) x = o at *
      have hfl := D5 ho
      have hra := mF hm49
      have hrf := ba more
      have hfa := aZ o more
      by_cases hk : more.length = 0
      · obtain rfl := List.eq_nil_of_length_eq_zero hk
        simp only [List.length_nil, if_true, Nat.add_zero] at eg
        rw [List.append_nil] at es
        repeat' (first | ((repeat ((fail_if_success (refine hK _ ?_)); clear hK K)); refine hK _ ?_; clear hK K) | ((first | refine b9 fun K1 q6 => ?_ | refine b7 fun A B hA hB => ?_); simp only [S1, simprocAttr, P5, jl, j0, hnx, hxr, hs, hzl, hem, s49, hso, hsm, hne, hfl, TRz, i6, h9, j3, d8, d7, d9, List.all_nil, List.flatMap_nil, List.length_map]; first | refine q6 _ ?_; clear q6 K1 | (refine hA ?_; clear hA hB A B) | (apply d4 E34; exact (hled _); refine q6 _ ?_; clear q6 K1)) | refine b6 fun K hK => ?_ | ((first | apply b8 | apply b5 | apply c7 | apply c9); try simp only [NB, simprocAttr]))
        all_goals refine ⟨hlt, trivial, ?_⟩
        all_goals simp only [es, eg]
        all_goals refine ⟨rfl, ⟨_, rfl⟩, ?_, ⟨trivial, trivial, trivial⟩, ⟨trivial, trivial, trivial, trivial⟩, ⟨trivial, trivial, trivial⟩, x7 _ _, trivial⟩
        all_goals clear hjm hol hml hlw hfl
        all_goals simp only [S1, simprocAttr, KNB] <;> (try and_intros) <;> (try assumption) <;> (try trivial) <;> (try omega)
      · rw [if_neg hk] at eg
        have hmax : o.length + more.length ≤ j7 := by unfold j7; omega
        repeat' (first | ((repeat ((fail_if_success (refine hK _ ?_)); clear hK K)); refine hK _ ?_; clear hK K) | ((first | refine b9 fun K1 q6 => ?_ | refine b7 fun A B hA hB => ?_); simp only [S1, simprocAttr, P5, jl, j0, hnx, hxr, hs, hzl, hem, s49, hso, hsm, hne, hfl, hk, hmax, hra, hrf, TRz, i6, h9, j3, d8, d7, d9, List.length_map, List.drop_zero]; first | refine q6 _ ?_; clear q6 K1 | (refine hA ?_; clear hA hB A B) | (apply d4 E34; exact (hled _); refine q6 _ ?_; clear q6 K1)) | refine b6 fun K hK => ?_ | ((first | apply b8 | apply b5 | apply c7 | apply c9); try simp only [NB, simprocAttr]))
        all_goals refine ⟨hlt, trivial, ?_⟩
        all_goals simp only [es, eg, hfa, List.length_append]
        all_goals refine ⟨rfl, ⟨_, rfl⟩, ?_, ⟨trivial, trivial, trivial⟩, ⟨trivial, trivial, trivial, trivial⟩, ⟨trivial, trivial, trivial⟩, (by rw [← aZ]; exact x7 _ _), trivial⟩
        all_goals clear hjm hol hmax hml hlw hfl
        all_goals simp only [S1, simprocAttr, KNB] <;> (try and_intros) <;> (try assumption) <;> (try trivial) <;> (try omega)
    · obtain rfl : j = l.length := by omega
      rw [List.take_length]
      have ho := W7 (ns := ns) (fl := fl) h49 x
      repeat' (first | ((repeat ((fail_if_success (refine hK _ ?_)); clear hK K)); refine hK _ ?_; clear hK K) | ((first | refine b9 fun K1 q6 => ?_ | refine b7 fun A B hA hB => ?_); simp only [S1, simprocAttr, P5, Int.lt_irrefl]; first | refine q6 _ ?_; clear q6 K1 | (refine hB ?_; clear hA hB A B)) | refine b6 fun K hK => ?_ | ((first | apply b8 | apply b5 | apply f9); try simp only [NB, simprocAttr]))
      have hfz : ∀ r ∈ (u9 ns fl l x).map eSt, r.length = 49 := fun r hr => by obtain ⟨s, hs, rfl⟩ := List.mem_map.mp hr; exact ja ho s hs
      have hcz : q9 (u9 ns fl l x) = (((u9 ns fl l x).map eSt).flatMap id).map AV.p ++ [] := by rw [ba, List.append_nil]
      have hlz : (u9 ns fl l x).length = ((u9 ns fl l x).map eSt).length := (List.length_map ..).symm
      have hbz : ∀ A B C D : Option Blk, (h ++ [A, B, C, D])[h.length + 3]? = some D := fun A B C D => by rw [n8]; rfl
      have hsz : ∀ A B C D : Option Blk, (h ++ [A, B, C, D]).set (h.length + 3) none = h ++ ([A, B, C] ++ [none]) := fun A B C D => by rw [Q9]; rfl
      all_goals refine (o8.freeze (k := 8) (b := h.length + 3) (sz := 49) (n := (u9 ns fl l x).length) (rows := (u9 ns fl l x).map eSt) (bk := ⟨dS ns fl l x, q9 (u9 ns fl l x)⟩) (rest := []) rfl (hbz _ _ _ _) hlz hfz (by omega) hcz).trans (Sub.ghost ⟨rfl, ⟨_, hsz _ _ _ _⟩, ?_, ⟨trivial, trivial, trivial⟩, ⟨trivial, trivial, trivial, trivial⟩, ⟨trivial, trivial, trivial⟩, trivial⟩)
      all_goals simp only [S1, simprocAttr, KNB] <;> (try and_intros) <;> (try assumption) <;> (try trivial) <;> (try omega)
  repeat' (first | ((repeat ((fail_if_success (refine hK _ ?_)); clear hK K)); refine hK _ ?_; clear hK K) | (refine b9 fun K1 q6 => ?_; simp only [S1, simprocAttr, P5]; first | refine q6 _ ?_; clear q6 K1 | (apply d4 E35; exact (hc _); refine q6 _ ?_; clear q6 K1)) | refine b6 fun K hK => ?_ | ((first | apply b8 | apply b5 | apply d3); try simp only [NB, simprocAttr]))
  all_goals simp only [S1, simprocAttr, ENB, P5]
end
section
def E2 := And.intro T2 (And.intro T3 (And.intro T4 (And.intro T25 (And.intro T26 (And.intro T28 (And.intro T31 (And.intro T34 (And.intro T36 (And.intro T41 (And.intro T44 (And.intro T57 (And.intro T58 (And.intro T89 T92)))))))))))))
attribute [local irreducible] awp n9 k3 l8 o6 n5
def eL (x : Lb) : List PV := [.int .i64 x.1, .int .i64 x.2.1, .int .i64 x.2.2]
abbrev aLs (l : List Lb) : AV := .p (.sl (l.map eL))
theorem kO {l : List Lb} {j : Nat} {x : Lb} (h : l[j]? = some x) : (l.map eL)[j]? = some [.int .i64 x.1, .int .i64 x.2.1, .int .i64 x.2.2] := by simp [h, eL]
noncomputable def bz (ns : List Nd) (fl : List Fl) : List Lb → Nat → List Sv → Int × Int
  | [], j, _ => (j, 0)
  | x :: r, j, c => if x.1 = 0 then (j, 0) else if (r9 ns fl c x).2 ≠ 0 then (0, (r9 ns fl c x).2) else if (r9 ns fl c x).1 = [] then (j, 0) else bz ns fl r (j + 1) (r9 ns fl c x).1
noncomputable def A4 (ns : List Nd) (fl : List Fl) (l : List Lb) : Int × Int := if (z7 ns fl).2 ≠ 0 then (0, (z7 ns fl).2) else bz ns fl l 0 (z7 ns fl).1
theorem kP (ns : List Nd) (fl : List Fl) (l : List Sv) : (u5 ns fl l).1.length ≤ 1500 := by
  unfold u5
  split
  · assumption
  · simp
theorem kQ {ns : List Nd} {fl : List Fl} {l : List Sv} (h : D1 l) : D1 (u5 ns fl l).1 := by
  unfold u5
  split
  · exact sg (P := fun s => s.length = 49) (fun s hs t ht => cJ hs _ t ht) h
  · exact fun s hs => by cases hs
theorem mH (ns : List Nd) (fl : List Fl) (l : List Sv) (x : Lb) : (r9 ns fl l x).1.length ≤ 1500 := by
  unfold r9
  split
  · simp
  · split
    · simp
    · exact kP _ _ _
theorem mI {ns : List Nd} {fl : List Fl} {l : List Sv} (h : D1 l) (x : Lb) : D1 (r9 ns fl l x).1 := by
  unfold r9
  split
  · exact fun s hs => by cases hs
  · split
    · exact fun s hs => by cases hs
    · exact kQ (W7 h x)
theorem mJ (ns : List Nd) (fl : List Fl) : (z7 ns fl).1.length ≤ 1500 := by
  unfold z7
  split
  · simp
  · exact kP _ _ _
theorem mK (ns : List Nd) (fl : List Fl) : D1 (z7 ns fl).1 := by
  unfold z7
  split
  · exact fun s hs => by cases hs
  · exact kQ (kM (cK ns fl))
structure Qac where
  j : Nat
  c : List Sv
  e : Int
theorem Z7 {ns : List Nd} {fl : List Fl} (nk : NetOk ns fl) {l : List Lb} (hl : l.length ≤ 1000) (h : Heap) :
    d5 Tryz.prog gW 20 [G7 ns fl, aLs l] h (fun r h' => r = .tup [.i (A4 ns fl l).1, .i (A4 ns fl l).2] ∧ h' = h) := by
  have hbg := fun h => iA nk h
  have hb49 := mK ns fl
  have hble := mJ ns fl
  have hac : A4 ns fl l = if (z7 ns fl).2 ≠ 0 then (0, (z7 ns fl).2) else bz ns fl l 0 (z7 ns fl).1 := rfl
  obtain ⟨c0, e0, hce⟩ : ∃ c e, z7 ns fl = (c, e) := ⟨_, _, rfl⟩
  rw [hce] at hbg hb49 hble hac
  simp only at hbg hb49 hble hac
  refine c8 (rl := []) e9 Tryz.func20 rfl (rs := [.tmp 4, .tmp 5]) rfl Tryz.ntmps20 (by simp) ?_
  repeat' (first | ((repeat ((fail_if_success (refine hK _ ?_)); clear hK K)); refine hK _ ?_; clear hK K) | (refine b9 fun K1 q6 => ?_; simp only [S1, simprocAttr, E2, List.length_map]; first | refine q6 _ ?_; clear q6 K1 | (apply d4 E15; exact (hbg _); refine q6 _ ?_; clear q6 K1)) | refine b6 fun K hK => ?_ | ((first | apply b8 | apply b5 | apply c7); try simp only [NB, simprocAttr]))
  refine H9 (σ := Qac) (fun q => l.length - q.j) 50 (fun q => [(17, .i q.j), (16, .i l.length), (15, aLs l), (1, aLs l), (6, H0 q.c), (7, .i q.e), (2, .ptr h.length 0 0)]) (fun q => [some ⟨0, x8 ns fl⟩])
    (fun q => q.j ≤ l.length ∧ D1 q.c ∧ q.c.length ≤ 1500 ∧ A4 ns fl l = if q.e ≠ 0 then (0, q.e) else bz ns fl (l.drop q.j) q.j q.c) ⟨0, c0, e0⟩ ?_ ⟨Nat.zero_le _, hb49, hble, hac⟩ fun q hp K hK => ?_
  · refine ⟨rfl, ⟨_, rfl⟩, ?_, ⟨trivial, trivial, trivial⟩, trivial⟩
    simp only [S1, simprocAttr, KNB] <;> (try and_intros) <;> (try assumption) <;> (try trivial) <;> (try omega)
  clear hac hble hb49 hce hbg
  obtain ⟨j, c, e⟩ := q
  obtain ⟨hj, c49, cle, hac⟩ := hp
  simp only at hj c49 cle hac hK ⊢
  rcases Nat.lt_or_ge j l.length with hlt | hge
  · obtain ⟨x, hx⟩ : ∃ k, l[j]? = some k := ⟨_, List.getElem?_eq_getElem hlt⟩
    have hd : l.drop j = x :: l.drop (j + 1) := by rw [List.drop_eq_getElem_cons hlt, (List.getElem?_eq_some_iff.mp hx).2]
    have jl : (j : Int) < (l.length : Int) := by omega
    have j0 : (0 : Int) ≤ (j : Int) := by omega
    have hnx : IntKind.i64.wrap ((j : Int) + 1) = ((j + 1 : Nat) : Int) := by rw [IntWalk.i64_in _ (by omega)]; omega
    by_cases he : e = 0
    case neg =>
      have f0 : (e != 0) = true := by simp [he]
      rw [if_pos he] at hac
      rw [hac]
      repeat' (first | ((repeat ((fail_if_success (refine hK _ ?_)); clear hK K)); refine hK _ ?_; clear hK K) | ((first | refine b9 fun K1 q6 => ?_ | refine b7 fun A B hA hB => ?_); simp only [S1, simprocAttr, E2, jl, j0, kO hx, f0, d7, d9, List.length_map]; first | refine q6 _ ?_; clear q6 K1 | (refine hA ?_; clear hA hB A B)) | refine b6 fun K hK => ?_ | ((first | apply b8 | apply b5 | apply c7 | apply c9 | apply d3); try simp only [NB, simprocAttr]))
      all_goals simp only [S1, simprocAttr, ENB, E2]
    subst he
    rw [if_neg (by simp), hd] at hac
    by_cases h1 : x.1 = 0
    · have f1 : (x.1 == 0) = true := by simp [h1]
      have e1 : A4 ns fl l = ((j : Int), 0) := by rw [hac]; unfold bz; rw [if_pos h1]
      rw [e1]
      repeat' (first | ((repeat ((fail_if_success (refine hK _ ?_)); clear hK K)); refine hK _ ?_; clear hK K) | ((first | refine b9 fun K1 q6 => ?_ | refine b7 fun A B hA hB => ?_); simp only [S1, simprocAttr, E2, jl, j0, kO hx, f1, d7, d9, List.length_map]; first | refine q6 _ ?_; clear q6 K1 | ((first | refine hA ?_ | refine hB ?_); clear hA hB A B)) | refine b6 fun K hK => ?_ | ((first | apply b8 | apply b5 | apply c7 | apply c9 | apply d3); try simp only [NB, simprocAttr]))
      all_goals simp only [S1, simprocAttr, ENB, E2]
    have f1 : (x.1 == 0) = false := by simp [h1]
    have haf := fun h => qD nk c49 (by omega) x h
    have ha49 := mI (ns := ns) (fl := fl) c49 x
    have hale := mH ns fl c x
    have e1 : A4 ns fl l = if (r9 ns fl c x).2 ≠ 0 then (0, (r9 ns fl c x).2) else if (r9 ns fl c x).1 = [] then ((j : Int), 0) else bz ns fl (l.drop (j + 1)) (j + 1) (r9 ns fl c x).1 := by
      rw [hac]; conv => lhs; unfold bz
      rw [if_neg h1]
    obtain ⟨c', e', hce⟩ : ∃ c1 e1, r9 ns fl c x = (c1, e1) := ⟨_, _, rfl⟩
    rw [hce] at haf ha49 hale e1
    simp only at haf ha49 hale e1
    by_cases h2 : e' = 0
    · subst h2
      rw [if_neg (by simp)] at e1
      by_cases h3 : c' = []
      · subst h3
        rw [if_pos rfl] at e1
        rw [e1]
        repeat' (first | ((repeat ((fail_if_success (refine hK _ ?_)); clear hK K)); refine hK _ ?_; clear hK K) | ((first | refine b9 fun K1 q6 => ?_ | refine b7 fun A B hA hB => ?_); simp only [S1, simprocAttr, E2, jl, j0, kO hx, f1, d7, d9, List.length_map]; first | refine q6 _ ?_; clear q6 K1 | ((first | refine hA ?_ | refine hB ?_); clear hA hB A B) | (apply d4 E11; exact (haf _); refine q6 _ ?_; clear q6 K1)) | refine b6 fun K hK => ?_ | ((first | apply b8 | apply b5 | apply c7 | apply c9 | apply d3); try simp only [NB, simprocAttr]))
        all_goals simp only [S1, simprocAttr, ENB, E2]
      · rw [if_neg h3] at e1
        have f3 : ((c'.length : Int) == 0) = false := by
          have : c'.length ≠ 0 := fun e => h3 (List.eq_nil_of_length_eq_zero e)
          simp; omega
        repeat' (first | ((repeat ((fail_if_success (refine hK _ ?_)); clear hK K)); refine hK _ ?_; clear hK K) | ((first | refine b9 fun K1 q6 => ?_ | refine b7 fun A B hA hB => ?_); simp only [S1, simprocAttr, E2, jl, j0, hnx, kO hx, f1, f3, d7, d9, List.length_map]; first | refine q6 _ ?_; clear q6 K1 | ((first | refine hA ?_ | refine hB ?_); clear hA hB A B) | (apply d4 E11; exact (haf _); refine q6 _ ?_; clear q6 K1)) | refine b6 fun K hK => ?_ | ((first | apply b8 | apply b5 | apply c7 | apply c9); try simp only [NB, simprocAttr]))
        all_goals refine ⟨⟨j + 1, c', 0⟩, by simp only; omega, ⟨by simp only; omega, ha49, hale, by simp only; rw [if_neg (by simp)]; exact e1⟩, ?_⟩
        all_goals refine ⟨rfl, ⟨_, rfl⟩, ?_, ⟨trivial, trivial, trivial⟩, trivial⟩
        all_goals simp only [S1, simprocAttr, KNB] <;> (try and_intros) <;> (try assumption) <;> (try trivial) <;> (try omega)
    · have f2 : (e' == 0) = false := by simp [h2]
      rw [if_pos h2] at e1
      by_cases h3 : c' = []
      · subst h3
        repeat' (first | ((repeat ((fail_if_success (refine hK _ ?_)); clear hK K)); refine hK _ ?_; clear hK K) | ((first | refine b9 fun K1 q6 => ?_ | refine b7 fun A B hA hB => ?_); simp only [S1, simprocAttr, E2, jl, j0, hnx, kO hx, f1, f2, d7, d9, List.length_map]; first | refine q6 _ ?_; clear q6 K1 | ((first | refine hA ?_ | refine hB ?_); clear hA hB A B) | (apply d4 E11; exact (haf _); refine q6 _ ?_; clear q6 K1)) | refine b6 fun K hK => ?_ | ((first | apply b8 | apply b5 | apply c7 | apply c9); try simp only [NB, simprocAttr]))
        all_goals refine ⟨⟨j + 1, [], e'⟩, by simp only; omega, ⟨by simp only; omega, ha49, hale, by simp only; rw [if_pos h2]; exact e1⟩, ?_⟩
        all_goals refine ⟨rfl, ⟨_, rfl⟩, ?_, ⟨trivial, trivial, trivial⟩, trivial⟩
        all_goals simp only [S1, simprocAttr, KNB] <;> (try and_intros) <;> (try assumption) <;> (try trivial) <;> (try omega)
      · have f3 : ((c'.length : Int) == 0) = false := by
          have : c'.length ≠ 0 := fun e => h3 (List.eq_nil_of_length_eq_zero e)
          simp; omega
        repeat' (first | ((repeat ((fail_if_success (refine hK _ ?_)); clear hK K)); refine hK _ ?_; clear hK K) | ((first | refine b9 fun K1 q6 => ?_ | refine b7 fun A B hA hB => ?_); simp only [S1, simprocAttr, E2, jl, j0, hnx, kO hx, f1, f3, d7, d9, List.length_map]; first | refine q6 _ ?_; clear q6 K1 | ((first | refine hA ?_ | refine hB ?_); clear hA hB A B) | (apply d4 E11; exact (haf _); refine q6 _ ?_; clear q6 K1)) | refine b6 fun K hK => ?_ | ((first | apply b8 | apply b5 | apply c7 | apply c9); try simp only [NB, simprocAttr]))
        all_goals refine ⟨⟨j + 1, c', e'⟩, by simp only; omega, ⟨by simp only; omega, ha49, hale, by simp only; rw [if_pos h2]; exact e1⟩, ?_⟩
        all_goals refine ⟨rfl, ⟨_, rfl⟩, ?_, ⟨trivial, trivial, trivial⟩, trivial⟩
        all_goals simp only [S1, simprocAttr, KNB] <;> (try and_intros) <;> (try assumption) <;> (try trivial) <;> (try omega)
  · obtain rfl : j = l.length := by omega
    by_cases he : e = 0
    · subst he
      rw [if_neg (by simp), List.drop_length] at hac
      have e1 : A4 ns fl l = ((l.length : Int), 0) := by rw [hac]; rfl
      repeat' (first | ((repeat ((fail_if_success (refine hK _ ?_)); clear hK K)); refine hK _ ?_; clear hK K) | ((first | refine b9 fun K1 q6 => ?_ | refine b7 fun A B hA hB => ?_); simp only [S1, simprocAttr, E2, Int.lt_irrefl, List.length_map]; first | refine q6 _ ?_; clear q6 K1 | (refine hB ?_; clear hA hB A B)) | refine b6 fun K hK => ?_ | ((first | apply b8 | apply b5 | apply f9 | apply c9 | apply d3); try simp only [NB, simprocAttr]))
      all_goals simp only [S1, simprocAttr, ENB, E2]
      all_goals rw [e1]
    · have f0 : (e != 0) = true := by simp [he]
      rw [if_pos he] at hac
      repeat' (first | ((repeat ((fail_if_success (refine hK _ ?_)); clear hK K)); refine hK _ ?_; clear hK K) | ((first | refine b9 fun K1 q6 => ?_ | refine b7 fun A B hA hB => ?_); simp only [S1, simprocAttr, E2, Int.lt_irrefl, f0, List.length_map]; first | refine q6 _ ?_; clear q6 K1 | ((first | refine hA ?_ | refine hB ?_); clear hA hB A B)) | refine b6 fun K hK => ?_ | ((first | apply b8 | apply b5 | apply f9 | apply d3); try simp only [NB, simprocAttr]))
      all_goals simp only [S1, simprocAttr, ENB, E2]
      all_goals rw [hac]
theorem kR {ns : List Nd} {fl : List Fl} (nk : NetOk ns fl) {l : List Lb} (hl : l.length ≤ 1000) (h : Heap) :
    d5 Tryz.prog gW 21 [G7 ns fl, aLs l] h (fun r h' => r = .tup [.i (A4 ns fl l).1, .i (A4 ns fl l).2] ∧ h' = h) := by
  have hbg := fun h => ot nk h
  have hb49 := mK ns fl
  have hble := mJ ns fl
  have hac : A4 ns fl l = if (z7 ns fl).2 ≠ 0 then (0, (z7 ns fl).2) else bz ns fl l 0 (z7 ns fl).1 := rfl
  obtain ⟨c0, e0, hce⟩ : ∃ c e, z7 ns fl = (c, e) := ⟨_, _, rfl⟩
  rw [hce] at hbg hb49 hble hac
  simp only at hbg hb49 hble hac
  by_cases h0 : e0 = 0
  case neg =>
    have f0 : (e0 != 0) = true := by simp [h0]
    rw [if_pos h0] at hac
    rw [hac]
    refine c8 (rl := []) e9 Tryz.func21 rfl (rs := [.tmp 4, .tmp 5]) rfl Tryz.ntmps21 (by simp) ?_
    repeat' (first | ((first | apply b8 | apply C4); (try simp only [NB])) | ((repeat ((fail_if_success (refine hK _ ?_)); clear hK K)); refine hK _ ?_; clear hK K) | ((first | refine b9 fun K1 q6 => ?_ | refine b7 fun A B hA hB => ?_); simp only [S1, simprocAttr, E2, f0, d7, d9, List.length_map]; first | refine q6 _ ?_; clear q6 K1 | (refine hA ?_; clear hA hB A B) | (apply d4 E16; exact (hbg _); refine q6 _ ?_; clear q6 K1)) | ((first | refine u6 (v := ?_) rfl rfl rfl rfl (by decide) (fun R1 K1 q6 => ?_) ?_ | refine y5 (v := ?_) rfl rfl rfl (by decide) (fun K1 q6 => ?_) ?_); rotate_left; (focus (simp only [S1, simprocAttr, E2, f0, d7, d9, List.length_map]; (exact q6 _ _ _)))) | refine b6 fun K hK => ?_ | (refine o9 (es := []) [0, 1, 2, 3] 0 (fs := []) rfl (by kernel_rfl) (by kernel_rfl) ?_) | ((first | apply b5 | apply d3); try simp only [NB, simprocAttr]))
    all_goals simp only [S1, simprocAttr, ENB, E2]
  subst h0
  rw [if_neg (by simp)] at hac
  refine c8 (rl := []) e9 Tryz.func21 rfl (rs := [.tmp 4, .tmp 5]) rfl Tryz.ntmps21 (by simp) ?_
  repeat' (first | ((repeat ((fail_if_success (refine hK _ ?_)); clear hK K)); refine hK _ ?_; clear hK K) | ((first | refine b9 fun K1 q6 => ?_ | refine b7 fun A B hA hB => ?_); simp only [S1, simprocAttr, E2, d7, d9, List.length_map]; first | refine q6 _ ?_; clear q6 K1 | (refine hB ?_; clear hA hB A B) | (apply d4 E16; exact (hbg _); refine q6 _ ?_; clear q6 K1)) | refine b6 fun K hK => ?_ | ((first | apply b8 | apply b5 | apply c7 | apply c9); try simp only [NB, simprocAttr]))
  refine H9 (σ := Qac) (fun q => l.length - q.j) 47 (fun q => [(19, .i q.j), (18, .i l.length), (17, aLs l), (1, aLs l), (2, .ptr h.length 0 0), (6, .ptr (h.length + 1) 0 0)]) (fun q => [some ⟨0, x8 ns fl⟩, some ⟨0, [H0 q.c, .i 0]⟩])
    (fun q => q.j ≤ l.length ∧ D1 q.c ∧ q.c.length ≤ 1500 ∧ A4 ns fl l = bz ns fl (l.drop q.j) q.j q.c) ⟨0, c0, 0⟩ ?_ ⟨Nat.zero_le _, hb49, hble, hac⟩ fun q hp K hK => ?_
  · refine ⟨rfl, ⟨_, rfl⟩, ?_, ⟨trivial, trivial, trivial⟩, ⟨trivial, trivial, trivial⟩, trivial⟩
    simp only [S1, simprocAttr, KNB] <;> (try and_intros) <;> (try assumption) <;> (try trivial) <;> (try omega)
  clear hac hble hb49 hce hbg
  obtain ⟨j, c, e⟩ := q
  obtain ⟨hj, c49, cle, hac⟩ := hp
  simp only at hj c49 cle hac hK ⊢
  rcases Nat.lt_or_ge j l.length with hlt | hge
  · obtain ⟨x, hx⟩ : ∃ k, l[j]? = some k := ⟨_, List.getElem?_eq_getElem hlt⟩
    have hd : l.drop j = x :: l.drop (j + 1) := by rw [List.drop_eq_getElem_cons hlt, (List.getElem?_eq_some_iff.mp hx).2]
    have jl : (j : Int) < (l.length : Int) := by omega
    have j0 : (0 : Int) ≤ (j : Int) := by omega
    have hnx : IntKind.i64.wrap ((j : Int) + 1) = ((j + 1 : Nat) : Int) := by rw [IntWalk.i64_in _ (by omega)]; omega
    rw [hd] at hac
    by_cases h1 : x.1 = 0
    · have f1 : (x.1 == 0) = true := by simp [h1]
      have e1 : A4 ns fl l = ((j : Int), 0) := by rw [hac]; unfold bz; rw [if_pos h1]
      rw [e1]
      repeat' (first | ((repeat ((fail_if_success (refine hK _ ?_)); clear hK K)); refine hK _ ?_; clear hK K) | ((first | refine b9 fun K1 q6 => ?_ | refine b7 fun A B hA hB => ?_); simp only [S1, simprocAttr, E2, jl, j0, kO hx, f1, d7, d9, List.length_map]; first | refine q6 _ ?_; clear q6 K1 | (refine hA ?_; clear hA hB A B)) | refine b6 fun K hK => ?_ | ((first | apply b8 | apply b5 | apply c7 | apply c9 | apply d3); try simp only [NB, simprocAttr]))
      all_goals simp only [S1, simprocAttr, ENB, E2]
    have f1 : (x.1 == 0) = false := by simp [h1]
    have haf := fun h => ou nk c49 (by omega) x h
    have ha49 := mI (ns := ns) (fl := fl) c49 x
    have hale := mH ns fl c x
    have e1 : A4 ns fl l = if (r9 ns fl c x).2 ≠ 0 then (0, (r9 ns fl c x).2) else if (r9 ns fl c x).1 = [] then ((j : Int), 0) else bz ns fl (l.drop (j + 1)) (j + 1) (r9 ns fl c x).1 := by
      rw [hac]; conv => lhs; unfold bz
      rw [if_neg h1]
    obtain ⟨c', e', hce⟩ : ∃ c1 e1, r9 ns fl c x = (c1, e1) := ⟨_, _, rfl⟩
    rw [hce] at haf ha49 hale e1
    simp only at haf ha49 hale e1
    by_cases h2 : e' = 0
    · subst h2
      rw [if_neg (by simp)] at e1
      by_cases h3 : c' = []
      · subst h3
        rw [if_pos rfl] at e1
        rw [e1]
        repeat' (first | ((repeat ((fail_if_success (refine hK _ ?_)); clear hK K)); refine hK _ ?_; clear hK K) | ((first | refine b9 fun K1 q6 => ?_ | refine b7 fun A B hA hB => ?_); simp only [S1, simprocAttr, E2, jl, j0, kO hx, f1, d7, d9, List.length_map]; first | refine q6 _ ?_; clear q6 K1 | ((first | refine hA ?_ | refine hB ?_); clear hA hB A B) | (apply d4 E12; exact (haf _); refine q6 _ ?_; clear q6 K1)) | refine b6 fun K hK => ?_ | ((first | apply b8 | apply b5 | apply c7 | apply c9 | apply d3); try simp only [NB, simprocAttr]))
        all_goals simp only [S1, simprocAttr, ENB, E2]
      · rw [if_neg h3] at e1
        have f3 : ((c'.length : Int) == 0) = false := by
          have : c'.length ≠ 0 := fun e => h3 (List.eq_nil_of_length_eq_zero e)
          simp; omega
        repeat' (first | ((repeat ((fail_if_success (refine hK _ ?_)); clear hK K)); refine hK _ ?_; clear hK K) | ((first | refine b9 fun K1 q6 => ?_ | refine b7 fun A B hA hB => ?_); simp only [S1, simprocAttr, E2, jl, j0, hnx, kO hx, f1, f3, d7, d9, List.length_map]; first | refine q6 _ ?_; clear q6 K1 | ((first | refine hA ?_ | refine hB ?_); clear hA hB A B) | (apply d4 E12; exact (haf _); refine q6 _ ?_; clear q6 K1)) | refine b6 fun K hK => ?_ | ((first | apply b8 | apply b5 | apply c7 | apply c9); try simp only [NB, simprocAttr]))
        all_goals refine ⟨⟨j + 1, c', 0⟩, by simp only; omega, ⟨by simp only; omega, ha49, hale, e1⟩, ?_⟩
        all_goals refine ⟨rfl, ⟨_, rfl⟩, ?_, ⟨trivial, trivial, trivial⟩, ⟨trivial, trivial, trivial⟩, trivial⟩
        all_goals simp only [S1, simprocAttr, KNB] <;> (try and_intros) <;> (try assumption) <;> (try trivial) <;> (try omega)
    · have f2 : (e' != 0) = true := by simp [h2]
      rw [if_pos h2] at e1
      rw [e1]
      repeat' (first | ((first | apply b8 | apply C4); (try simp only [NB])) | ((repeat ((fail_if_success (refine hK _ ?_)); clear hK K)); refine hK _ ?_; clear hK K) | ((first | refine b9 fun K1 q6 => ?_ | refine b7 fun A B hA hB => ?_); simp only [S1, simprocAttr, E2, jl, j0, hnx, kO hx, f1, f2, d7, d9, List.length_map]; first | refine q6 _ ?_; clear q6 K1 | ((first | refine hA ?_ | refine hB ?_); clear hA hB A B) | (apply d4 E12; exact (haf _); refine q6 _ ?_; clear q6 K1)) | ((first | refine u6 (v := ?_) rfl rfl rfl rfl (by decide) (fun R1 K1 q6 => ?_) ?_ | refine y5 (v := ?_) rfl rfl rfl (by decide) (fun K1 q6 => ?_) ?_); rotate_left; (focus (simp only [S1, simprocAttr, E2, jl, j0, hnx, kO hx, f1, f2, d7, d9, List.length_map]; (exact q6 _ _ _)))) | refine b6 fun K hK => ?_ | (refine o9 (es := []) [0, 1, 2, 3] 0 (fs := []) rfl (by kernel_rfl) (by kernel_rfl) ?_) | ((first | apply b5 | apply c7 | apply c9 | apply d3); try simp only [NB, simprocAttr]))
      all_goals simp only [S1, simprocAttr, ENB, E2]
  · obtain rfl : j = l.length := by omega
    rw [List.drop_length] at hac
    have e1 : A4 ns fl l = ((l.length : Int), 0) := by rw [hac]; rfl
    repeat' (first | ((repeat ((fail_if_success (refine hK _ ?_)); clear hK K)); refine hK _ ?_; clear hK K) | ((first | refine b9 fun K1 q6 => ?_ | refine b7 fun A B hA hB => ?_); simp only [S1, simprocAttr, E2, Int.lt_irrefl, List.length_map]; first | refine q6 _ ?_; clear q6 K1 | (refine hB ?_; clear hA hB A B)) | refine b6 fun K hK => ?_ | ((first | apply b8 | apply b5 | apply f9 | apply d3); try simp only [NB, simprocAttr]))
    all_goals simp only [S1, simprocAttr, ENB, E2]
    all_goals rw [e1]
end
section
def U2 := And.intro T2 (And.intro T3 (And.intro T4 (And.intro T28 (And.intro T41 T44))))
attribute [local irreducible] awp n9 k3 l8 o6 n5
variable {G : Nat → Option (List PV)}
theorem bb (x : Int) (h : Heap) : d5 Tryz.prog G 94 [.i x] h (fun r h' => r = .b false ∧ h' = h) := by
  have hx : (x != x) = false := by simp
  refine c8 (rl := []) e9 Tryz.func94 rfl (rs := [.tmp 2]) rfl Tryz.ntmps94 (by simp) ?_
  repeat' (first | ((repeat ((fail_if_success (refine hK _ ?_)); clear hK K)); refine hK _ ?_; clear hK K) | (refine b9 fun K1 q6 => ?_; simp only [S1, simprocAttr, U2, hx]; refine q6 _ ?_; clear q6 K1) | refine b6 fun K hK => ?_ | ((first | apply b8 | apply b5 | apply d3); try simp only [NB, simprocAttr]))
  all_goals simp only [S1, simprocAttr, ENB, U2]
theorem kS (x y : Int) (h : Heap) : d5 Tryz.prog G 63 [.i x, .i y] h (fun r h' => r = .i (O8 x y) ∧ h' = h) := by
  by_cases h1 : x < y
  · have e : O8 x y = -1 := by unfold O8; rw [if_pos h1]
    rw [e]
    refine c8 (rl := []) e9 Tryz.func63 rfl (rs := [.tmp 4]) rfl Tryz.ntmps63 (by simp) ?_
    repeat' (first | ((repeat ((fail_if_success (refine hK _ ?_)); clear hK K)); refine hK _ ?_; clear hK K) | ((first | refine b9 fun K1 q6 => ?_ | refine b7 fun A B hA hB => ?_); simp only [S1, simprocAttr, U2, h1]; first | refine q6 _ ?_; clear q6 K1 | ((first | refine hA ?_ | refine hB ?_); clear hA hB A B) | (apply d4 E94; exact (bb _ _); refine q6 _ ?_; clear q6 K1)) | refine b6 fun K hK => ?_ | ((first | apply b8 | apply b5 | apply c9 | apply d3); try simp only [NB, simprocAttr]))
    all_goals simp only [S1, simprocAttr, ENB, U2]
  · by_cases h2 : y < x
    · have e : O8 x y = 1 := by unfold O8; rw [if_neg h1, if_pos h2]
      rw [e]
      refine c8 (rl := []) e9 Tryz.func63 rfl (rs := [.tmp 4]) rfl Tryz.ntmps63 (by simp) ?_
      repeat' (first | ((repeat ((fail_if_success (refine hK _ ?_)); clear hK K)); refine hK _ ?_; clear hK K) | ((first | refine b9 fun K1 q6 => ?_ | refine b7 fun A B hA hB => ?_); simp only [S1, simprocAttr, U2, h1, h2]; first | refine q6 _ ?_; clear q6 K1 | ((first | refine hA ?_ | refine hB ?_); clear hA hB A B) | (apply d4 E94; exact (bb _ _); refine q6 _ ?_; clear q6 K1)) | refine b6 fun K hK => ?_ | ((first | apply b8 | apply b5 | apply c9 | apply d3); try simp only [NB, simprocAttr]))
      all_goals simp only [S1, simprocAttr, ENB, U2]
    · have e : O8 x y = 0 := by unfold O8; rw [if_neg h1, if_neg h2]
      rw [e]
      refine c8 (rl := []) e9 Tryz.func63 rfl (rs := [.tmp 4]) rfl Tryz.ntmps63 (by simp) ?_
      repeat' (first | ((repeat ((fail_if_success (refine hK _ ?_)); clear hK K)); refine hK _ ?_; clear hK K) | ((first | refine b9 fun K1 q6 => ?_ | refine b7 fun A B hA hB => ?_); simp only [S1, simprocAttr, U2, h1, h2]; first | refine q6 _ ?_; clear q6 K1 | (refine hB ?_; clear hA hB A B) | (apply d4 E94; exact (bb _ _); refine q6 _ ?_; clear q6 K1)) | refine b6 fun K hK => ?_ | ((first | apply b8 | apply b5 | apply c9 | apply d3); try simp only [NB, simprocAttr]))
      all_goals simp only [S1, simprocAttr, ENB, U2]
theorem vb (l : List Int) (hl : l.length ≤ 100) (h : Heap) : d5 Tryz.prog G 62 [.p (.sl (l.map fun n => [.int .i64 n]))] h (fun r h' => r = .i (kC l) ∧ h' = h) := by
  refine c8 (rl := []) e9 Tryz.func62 rfl (rs := [.tmp 2]) rfl Tryz.ntmps62 (by simp) ?_
  repeat' (first | ((repeat ((fail_if_success (refine hK _ ?_)); clear hK K)); refine hK _ ?_; clear hK K) | (refine b9 fun K1 q6 => ?_; simp only [S1, simprocAttr, U2, List.length_map]; refine q6 _ ?_; clear q6 K1) | refine b6 fun K hK => ?_ | ((first | apply b8 | apply b5 | apply c7); try simp only [NB, simprocAttr]))
  refine p8 l.length 18 (fun j => [(8, .i j), (7, .i l.length), (6, .p (.sl (l.map fun n => [.int .i64 n]))), (3, .i 0)]) (fun j => []) (fun j => kC l = kC (l.drop j)) ?_ rfl fun j hj hp K hK => ?_
  · (refine ⟨rfl, (by first | exact ⟨_, rfl⟩ | exact ⟨[], by simp⟩), ?_, ?_⟩ <;> simp only [S1, simprocAttr, KNB] <;> (try and_intros) <;> (try assumption) <;> (try trivial) <;> (try omega))
  rcases Nat.lt_or_ge j l.length with hlt | hge
  · obtain ⟨y, hy⟩ : ∃ y, l[j]? = some y := ⟨_, List.getElem?_eq_getElem hlt⟩
    have hx : (l.map fun n => [PV.int .i64 n])[j]? = some [.int .i64 y] := by rw [List.getElem?_map, hy]; rfl
    have jl : (j : Int) < (l.length : Int) := by omega
    have j0 : (0 : Int) ≤ (j : Int) := by omega
    have hnx : IntKind.i64.wrap ((j : Int) + 1) = ((j + 1 : Nat) : Int) := by rw [IntWalk.i64_in _ (by omega)]; omega
    have hd : kC (l.drop j) = if y = 0 then kC (l.drop (j + 1)) else y := by
      rw [List.drop_eq_getElem_cons hlt, (List.getElem?_eq_some_iff.mp hy).2]; rfl
    by_cases hz : y = 0
    · subst hz
      have hb : ((0 : Int) != 0) = false := rfl
      repeat' (first | ((repeat ((fail_if_success (refine hK _ ?_)); clear hK K)); refine hK _ ?_; clear hK K) | ((first | refine b9 fun K1 q6 => ?_ | refine b7 fun A B hA hB => ?_); simp only [S1, simprocAttr, U2, jl, j0, hx, hnx, hb, List.length_map]; first | refine q6 _ ?_; clear q6 K1 | ((first | refine hA ?_ | refine hB ?_); clear hA hB A B)) | refine b6 fun K hK => ?_ | ((first | apply b8 | apply b5 | apply c7 | apply c9); try simp only [NB, simprocAttr]))
      all_goals refine ⟨hlt, ?_, ?_⟩
      all_goals first | (rw [hp, hd]; rfl) | (refine ⟨rfl, (by first | exact ⟨_, rfl⟩ | exact ⟨[], by simp⟩), ?_, ?_⟩ <;> simp only [S1, simprocAttr, KNB] <;> (try and_intros) <;> (try assumption) <;> (try trivial) <;> (try omega))
    · have hb : (y != 0) = true := by simpa using hz
      rw [if_neg hz] at hd
      repeat' (first | ((repeat ((fail_if_success (refine hK _ ?_)); clear hK K)); refine hK _ ?_; clear hK K) | ((first | refine b9 fun K1 q6 => ?_ | refine b7 fun A B hA hB => ?_); simp only [S1, simprocAttr, U2, jl, j0, hx, hnx, hb, List.length_map]; first | refine q6 _ ?_; clear q6 K1 | (refine hA ?_; clear hA hB A B)) | refine b6 fun K hK => ?_ | ((first | apply b8 | apply b5 | apply c7 | apply c9 | apply d3); try simp only [NB, simprocAttr]))
      all_goals simp only [S1, simprocAttr, ENB, U2]
      all_goals rw [hp, hd]
      all_goals trivial
  · obtain rfl : j = l.length := by omega
    repeat' (first | ((repeat ((fail_if_success (refine hK _ ?_)); clear hK K)); refine hK _ ?_; clear hK K) | ((first | refine b9 fun K1 q6 => ?_ | refine b7 fun A B hA hB => ?_); simp only [S1, simprocAttr, U2, Int.lt_irrefl]; first | refine q6 _ ?_; clear q6 K1 | (refine hB ?_; clear hA hB A B)) | refine b6 fun K hK => ?_ | ((first | apply b8 | apply b5 | apply f9 | apply d3); try simp only [NB, simprocAttr]))
    all_goals simp only [S1, simprocAttr, ENB, U2]
    rw [List.drop_length] at hp
    simp [hp, kC]
theorem kT (x y : Lb) (h : Heap) : d5 Tryz.prog G 40 [aL x, aL y] h (fun r h' => r = .i (iu x y) ∧ h' = h) := by
  have ho := fun h => vb (G := G) [O8 x.1 y.1, O8 x.2.1 y.2.1, O8 x.2.2 y.2.2] (by simp) h
  have ec : iu x y = kC [O8 x.1 y.1, O8 x.2.1 y.2.1, O8 x.2.2 y.2.2] := rfl
  rw [← ec] at ho
  refine c8 (rl := []) e9 Tryz.func40 rfl (rs := [.tmp 4]) rfl Tryz.ntmps40 (by simp) ?_
  repeat' (first | ((repeat ((fail_if_success (refine hK _ ?_)); clear hK K)); refine hK _ ?_; clear hK K) | ((first | refine b9 fun K1 q6 => ?_ | refine k4 fun K1 q6 => ?_); simp only [S1, simprocAttr, U2]; first | refine q6 _ ?_; clear q6 K1 | (apply j5 E63; exact (kS _ _ _); refine q6 _ ?_; clear q6 K1) | (apply j5 E62; exact (ho _); refine q6 _ ?_; clear q6 K1)) | refine b6 fun K hK => ?_ | ((first | apply b8 | apply i8 | apply b5 | refine i9 ?_ | apply d3); try simp only [NB, simprocAttr]))
  all_goals simp only [S1, simprocAttr, ENB, U2]
end
section
def iB := And.intro T2 (And.intro T3 (And.intro T4 (And.intro T28 (And.intro T41 T44))))
attribute [local irreducible] awp n9 k3 l8 o6 n5
variable {G : Nat → Option (List PV)}
def cLs (l : List Lb) : List AV := (l.flatMap uL).map AV.i
theorem bc : ∀ l : List Lb, (cLs l).length = l.length * 3
  | [] => rfl
  | x :: l => by
    have := bc l
    unfold cLs at this ⊢
    rw [List.flatMap_cons, List.map_append, List.length_append, this, List.length_cons]
    show 3 + l.length * 3 = _
    omega
theorem am (x : Lb) (l : List Lb) : cLs (x :: l) = .i x.1 :: .i x.2.1 :: .i x.2.2 :: cLs l := rfl
theorem jb (l m : List Lb) : cLs (l ++ m) = cLs l ++ cLs m := by unfold cLs; rw [List.flatMap_append, List.map_append]
theorem kU : ∀ (j : Nat) (l : List Lb), (cLs l).drop (j * 3) = cLs (l.drop j)
  | 0, l => by simp
  | j + 1, [] => by simp [cLs]
  | j + 1, x :: l => by
    rw [List.drop_succ_cons, ← kU j l, am, show (j + 1) * 3 = j * 3 + 1 + 1 + 1 by omega]; rfl
theorem ow {l : List Lb} {j : Nat} {x : Lb} (h : l[j]? = some x) : (cLs l).drop (j * 3) = .i x.1 :: .i x.2.1 :: .i x.2.2 :: cLs (l.drop (j + 1)) := by
  rw [kU, List.drop_eq_getElem_cons (List.getElem?_eq_some_iff.mp h).1, (List.getElem?_eq_some_iff.mp h).2, am]
theorem qE (j : Nat) (l : List Lb) : (cLs l).take (j * 3) = cLs (l.take j) := by
  induction j generalizing l with
  | zero => simp [cLs]
  | succ j ih =>
    cases l with
    | nil => simp [cLs]
    | cons x l => rw [List.take_succ_cons, am, am, ← ih, show (j + 1) * 3 = j * 3 + 1 + 1 + 1 by omega]; rfl
theorem xn {l : List Lb} {j : Nat} (h : j < l.length) (x : Lb) : w9 (cLs l) (j * 3) [.i x.1, .i x.2.1, .i x.2.2] = cLs (l.set j x) := by
  have h3 : (cLs l).length = l.length * 3 := bc l
  have e1 : w9 (cLs l) (j * 3) [AV.i x.1, AV.i x.2.1, AV.i x.2.2] = (cLs l).take (j * 3) ++ ([AV.i x.1, AV.i x.2.1, AV.i x.2.2] ++ (cLs l).drop (j * 3 + 3)) := by
    rw [kq _ _ _ (by rw [h3]; simp; omega)]
    simp
  rw [e1, qE, show j * 3 + 3 = (j + 1) * 3 by omega, kU, List.set_eq_take_append_cons_drop, if_pos h, jb, am]
  rfl
theorem U9 (l : List Lb) (n : Nat) : o4 n (cLs l) := g9 _ _
theorem dT : ∀ (p : List Lb) (z y : Lb), F3 (p ++ [z] ++ [y]) = F3 (p ++ [z]) ++ if z = y then [] else [y]
  | [], z, y => by
    simp only [List.nil_append, List.cons_append]
    unfold F3
    split
    · rename_i e; simp [F3, e]
    · simp [F3]
  | [a], z, y => by
    have := dT [] z y
    simp only [List.nil_append, List.cons_append] at this ⊢
    unfold F3
    split
    · exact this
    · rw [this]; rfl
  | a :: b :: p, z, y => by
    have := dT (b :: p) z y
    simp only [List.cons_append] at this ⊢
    unfold F3
    split
    · exact this
    · rw [this]; rfl
theorem kV {l : List Lb} {m : Nat} {z y : Lb} (hz : l[m]? = some z) (hy : l[m + 1]? = some y) : F3 (l.take (m + 2)) = F3 (l.take (m + 1)) ++ if z = y then [] else [y] := by
  have e1 : l.take (m + 1) = l.take m ++ [z] := by rw [List.take_add_one, hz]; rfl
  have e2 : l.take (m + 2) = l.take m ++ [z] ++ [y] := by rw [List.take_add_one, hy, e1]; rfl
  rw [e2, e1, dT]
theorem fx (by' : Nat) (z : Option (List PV)) (fs : List (Nat × Nat × Nat)) (a b c : AV) (r : List AV) : P3 ⟨.struct fs, 3, by', z⟩ (a :: b :: c :: r) = some (.agg [a, b, c]) := by
  unfold P3; simp [TI.isAgg]
structure Qcp where
  j : Nat
  k : Nat
  cur : List Lb
theorem BG (m : Nat) : (List.replicate m [AV.i 0, AV.i 0, AV.i 0]).flatMap id = cLs (List.replicate m (0, 0, 0)) := by
  induction m with
  | zero => rfl
  | succ m ih => rw [List.replicate_succ, List.replicate_succ, List.flatMap_cons, ih, am]; rfl
def bA (h : Heap) (b g : Nat) (l : List Lb) : Heap := h.set b (some ⟨g, cLs l⟩)
theorem fy (h : Heap) (b g : Nat) (l : List Lb) : (bA h b g l).length = h.length := by simp [bA]
theorem mL {h : Heap} {b : Nat} (hb : b < h.length) (g : Nat) (l : List Lb) : (bA h b g l)[b]? = some (some ⟨g, cLs l⟩) := by unfold bA; rw [List.getElem?_set_self hb]
theorem qF (h : Heap) (b g : Nat) (l m : List Lb) : (bA h b g l).set b (some ⟨g, cLs m⟩) = bA h b g m := by unfold bA; rw [List.set_set]
theorem vc (h : Heap) (b g : Nat) (l : List Lb) : (bA h b g l).length = h.length ∧ ∀ (c : Nat) (bk : Blk), (bA h b g l)[c]? = some (some bk) → h[c]? = some (some bk) ∨ o4 h.length bk.cells := by
  refine ⟨fy _ _ _ _, fun c bk hc => ?_⟩
  unfold bA at hc
  rw [List.getElem?_set] at hc
  split at hc
  · split at hc
    · cases hc; exact .inr (U9 _ _)
    · cases hc
  · exact .inl hc
theorem mM {h : Heap} {b g : Nat} {l : List Lb} (hb : h[b]? = some (some ⟨g, cLs l⟩)) : bA h b g l = h := by
  have hbl : b < h.length := j4 hb
  apply List.ext_getElem?
  intro i
  unfold bA
  rw [List.getElem?_set]
  split
  · rename_i e; subst e; first | exact hb.symm | (rw [if_pos hbl]; exact hb.symm)
  · rfl
theorem lw {l : List Lb} (hl : l.length ≤ 16000000) {h : Heap} {b g : Nat} (hb : h[b]? = some (some ⟨g, cLs l⟩)) :
    d5 Tryz.prog G 41 [.ref b g 0 3 l.length] h (fun r h' => r = .ref b g 0 3 (F3 l).length ∧ h' = bA h b g (F3 l ++ List.replicate (l.length - (F3 l).length) (0, 0, 0))) := by
  have hbl : b < h.length := j4 hb
  have hself := mM hb
  have hcl := bc l
  have hnt := Tryz.ntmps41
  by_cases h2 : l.length < 2
  · have e : F3 l = l := by
      match l, h2 with
      | [], _ => rfl
      | [x], _ => rfl
    have f2 : (l.length : Int) < 2 := by omega
    rw [e, Nat.sub_self, List.replicate_zero, List.append_nil, hself]
    refine Sim.evoKeep (rl := []) e9 Tryz.func41 rfl (by rw [hnt]; simp) ?_
    rw [hnt]
    repeat' (first | ((repeat ((fail_if_success (refine hK _ ?_)); clear hK K)); refine hK _ ?_; clear hK K) | ((first | refine b9 fun K1 q6 => ?_ | refine b7 fun A B hA hB => ?_); simp only [S1, simprocAttr, iB, f2]; first | refine q6 _ ?_; clear q6 K1 | (refine hA ?_; clear hA hB A B)) | refine b6 fun K hK => ?_ | ((first | apply b8 | apply b5 | apply d3); try simp only [NB, simprocAttr]))
    all_goals exact ⟨.inr trivial, eO (t := 2) rfl (Nat.le_refl _) ⟨rfl, rfl⟩⟩
  have f2 : ¬ (l.length : Int) < 2 := by omega
  refine Sim.evoKeep (rl := []) e9 Tryz.func41 rfl (by rw [hnt]; simp) ?_
  rw [hnt]
  repeat' (first | ((repeat ((fail_if_success (refine hK _ ?_)); clear hK K)); refine hK _ ?_; clear hK K) | ((first | refine b9 fun K1 q6 => ?_ | refine b7 fun A B hA hB => ?_); simp only [S1, simprocAttr, iB, f2]; first | refine q6 _ ?_; clear q6 K1 | (refine hB ?_; clear hA hB A B)) | refine b6 fun K hK => ?_ | ((first | apply b8 | apply b5 | apply c7 | apply c9); try simp only [NB, simprocAttr]))
  refine H9 (σ := Nat) (fun k => l.length - k) 61 (fun k => [(3, .i k), (0, .ref b g 0 3 l.length)]) (fun k => []) (fun k => 1 ≤ k ∧ k ≤ l.length ∧ F3 (l.take k) = l.take k) 1 ?_ ⟨by omega, by omega, by
    match l with
    | [] => rfl
    | [x] => rfl
    | x :: y :: r => rfl⟩ fun k hp K hK => ?_
  · (refine ⟨rfl, (by first | exact ⟨_, rfl⟩ | exact ⟨[], by simp⟩), ?_, ?_⟩ <;> simp only [S1, simprocAttr, KNB] <;> (try and_intros) <;> (try assumption) <;> (try trivial) <;> (try omega))
  obtain ⟨k1, kn, hon⟩ := hp
  rcases Nat.lt_or_ge k l.length with hlt | hge
  · obtain ⟨y, hy⟩ : ∃ y, l[k]? = some y := ⟨_, List.getElem?_eq_getElem hlt⟩
    obtain ⟨z, hz⟩ : ∃ z, l[k - 1]? = some z := ⟨_, List.getElem?_eq_getElem (by omega)⟩
    have hkk : k - 1 + 1 = k := by omega
    have hon2 := kV (m := k - 1) hz (by rw [hkk]; exact hy)
    rw [show k - 1 + 2 = k + 1 by omega, hkk, hon] at hon2
    have kl : (k : Int) < (l.length : Int) := by omega
    have k0 : (0 : Int) ≤ (k : Int) := by omega
    have hnk : IntKind.i64.wrap ((k : Int) + 1) = ((k + 1 : Nat) : Int) := by rw [IntWalk.i64_in _ (by omega)]; omega
    have hpk : IntKind.i64.wrap ((k : Int) - 1) = ((k - 1 : Nat) : Int) := by rw [IntWalk.i64_in _ (by omega)]; omega
    have kp0 : (0 : Int) ≤ ((k - 1 : Nat) : Int) := by omega
    have kpl : ((k - 1 : Nat) : Int) < (l.length : Int) := by omega
    have hdy := ow hy
    have hdz := ow hz
    have heq := yQ y z
    have heq : A2 true [.p (.int .i64 y.1), .p (.int .i64 y.2.1), .p (.int .i64 y.2.2)] [.p (.int .i64 z.1), .p (.int .i64 z.2.1), .p (.int .i64 z.2.2)] = some (decide (y = z)) := heq
    by_cases hyz : y = z
    case neg =>
      rw [decide_eq_false hyz] at heq
      rw [if_neg (fun e => hyz e.symm)] at hon2
      have hon3 : F3 (l.take (k + 1)) = l.take (k + 1) := by rw [hon2, List.take_add_one, hy]; rfl
      repeat' (first | ((repeat ((fail_if_success (refine hK _ ?_)); clear hK K)); refine hK _ ?_; clear hK K) | ((first | refine b9 fun K1 q6 => ?_ | refine k4 fun K1 q6 => ?_ | refine b7 fun A B hA hB => ?_); simp only [S1, simprocAttr, iB, kl, k0, hnk, hpk, kp0, kpl, hb, hdy, hdz, heq, eqA, W28, fx]; first | refine q6 _ ?_; clear q6 K1 | ((first | refine hA ?_ | refine hB ?_); clear hA hB A B)) | refine b6 fun K hK => ?_ | ((first | apply b8 | apply i8 | apply b5 | refine i9 ?_ | apply c7 | apply c9); try simp only [NB, simprocAttr]))
      all_goals refine ⟨k + 1, by omega, ⟨by omega, by omega, hon3⟩, ?_⟩
      all_goals (refine ⟨rfl, (by first | exact ⟨_, rfl⟩ | exact ⟨[], by simp⟩), ?_, ?_⟩ <;> simp only [S1, simprocAttr, KNB] <;> (try and_intros) <;> (try assumption) <;> (try trivial) <;> (try omega))
    rw [decide_eq_true hyz] at heq
    rw [if_pos hyz.symm, List.append_nil] at hon2
    have hsl : k ≤ l.length := kn
    have hnl : (l.take k).length = k := by rw [List.length_take]; omega
    repeat' (first | ((repeat ((fail_if_success (refine hK _ ?_)); clear hK K)); refine hK _ ?_; clear hK K) | ((first | refine b9 fun K1 q6 => ?_ | refine k4 fun K1 q6 => ?_ | refine b7 fun A B hA hB => ?_); simp only [S1, simprocAttr, iB, kl, k0, hnk, hpk, kp0, kpl, hsl, Nat.le_refl, hb, hdy, hdz, heq, eqA, W28, fx]; first | refine q6 _ ?_; clear q6 K1 | (refine hA ?_; clear hA hB A B)) | refine b6 fun K hK => ?_ | ((first | apply b8 | apply i8 | apply b5 | refine i9 ?_ | apply c7 | apply c9); try simp only [NB, simprocAttr]))
    refine sB (σ := Qcp) (fun q => l.length - k - q.j) 61 (fun q => bA h b g q.cur) (fun q => [(5, .i q.j), (4, .ref b g (k * 3) 3 (l.length - k)), (3, .i q.k), (0, .ref b g 0 3 l.length)]) (fun q => [])
      (fun q => 1 ≤ q.j ∧ k + q.j ≤ l.length ∧ q.cur.length = l.length ∧ q.k = (F3 (l.take (k + q.j))).length ∧ q.k + 1 ≤ k + q.j ∧ q.cur.take q.k = F3 (l.take (k + q.j)) ∧ ∀ i, k + q.j - 1 ≤ i → q.cur[i]? = l[i]?) ⟨1, k, l⟩ (fun q => vc h b g q.cur) ?_ ?_ fun q hp K hK => ?_
    · simp only [hself]
      (refine ⟨rfl, (by first | exact ⟨_, rfl⟩ | exact ⟨[], by simp⟩), ?_, ?_⟩ <;> simp only [S1, simprocAttr, KNB] <;> (try and_intros) <;> (try assumption) <;> (try trivial) <;> (try omega))
    · exact ⟨Nat.le_refl _, by show k + 1 ≤ _; omega, rfl, by show k = (F3 (l.take (k + 1))).length; rw [hon2, hnl], Nat.le_refl _, hon2.symm, fun i _ => rfl⟩
    obtain ⟨j, kk, cur⟩ := q
    obtain ⟨p1, p2, p3, p4, p5, p6, p7⟩ := hp
    simp only at p1 p2 p3 p4 p5 p6 p7 hK ⊢
    rw [List.append_nil]
    have hg := mL hbl g cur
    have hcc := bc cur
    have kk0 : (0 : Int) ≤ (kk : Int) := by omega
    rcases Nat.lt_or_ge (k + j) l.length with hlj | hgj
    · obtain ⟨y2, hy2⟩ : ∃ y, l[k + j]? = some y := ⟨_, List.getElem?_eq_getElem hlj⟩
      obtain ⟨z2, hz2⟩ : ∃ z, l[k + j - 1]? = some z := ⟨_, List.getElem?_eq_getElem (by omega)⟩
      have hjj : k + j - 1 + 1 = k + j := by omega
      have ho := kV (m := k + j - 1) hz2 (by rw [hjj]; exact hy2)
      rw [show k + j - 1 + 2 = k + j + 1 by omega, hjj] at ho
      have cy := (p7 (k + j) (by omega)).trans hy2
      have cz := (p7 (k + j - 1) (Nat.le_refl _)).trans hz2
      have jl : (j : Int) < ((l.length - k : Nat) : Int) := by omega
      have j0 : (0 : Int) ≤ (j : Int) := by omega
      have hnj : IntKind.i64.wrap ((j : Int) + 1) = ((j + 1 : Nat) : Int) := by rw [IntWalk.i64_in _ (by omega)]; omega
      have hpj : IntKind.i64.wrap ((j : Int) - 1) = ((j - 1 : Nat) : Int) := by rw [IntWalk.i64_in _ (by omega)]; omega
      have jp0 : (0 : Int) ≤ ((j - 1 : Nat) : Int) := by omega
      have jpl : ((j - 1 : Nat) : Int) < ((l.length - k : Nat) : Int) := by omega
      have kkl : (kk : Int) < (l.length : Int) := by omega
      have hnkk : IntKind.i64.wrap ((kk : Int) + 1) = ((kk + 1 : Nat) : Int) := by rw [IntWalk.i64_in _ (by omega)]; omega
      have hdy := ow cy
      have hdz := ow cz
      have ey : k * 3 + j * 3 = (k + j) * 3 := by omega
      have ez : k * 3 + (j - 1) * 3 = (k + j - 1) * 3 := by omega
      have heq := yQ y2 z2
      have heq : A2 true [.p (.int .i64 y2.1), .p (.int .i64 y2.2.1), .p (.int .i64 y2.2.2)] [.p (.int .i64 z2.1), .p (.int .i64 z2.2.1), .p (.int .i64 z2.2.2)] = some (decide (y2 = z2)) := heq
      by_cases hyz2 : y2 = z2
      · rw [decide_eq_true hyz2] at heq
        rw [if_pos hyz2.symm, List.append_nil] at ho
        repeat' (first | ((repeat ((fail_if_success (refine hK _ ?_)); clear hK K)); refine hK _ ?_; clear hK K) | ((first | refine b9 fun K1 q6 => ?_ | refine k4 fun K1 q6 => ?_ | refine b7 fun A B hA hB => ?_); simp only [S1, simprocAttr, iB, jl, j0, hnj, hpj, jp0, jpl, ey, ez, hg, hdy, hdz, heq, eqA, W28, fx]; first | refine q6 _ ?_; clear q6 K1 | ((first | refine hA ?_ | refine hB ?_); clear hA hB A B)) | refine b6 fun K hK => ?_ | ((first | apply b8 | apply i8 | apply b5 | refine i9 ?_ | apply c7 | apply c9); try simp only [NB, simprocAttr]))
        all_goals refine ⟨⟨j + 1, kk, cur⟩, by simp only; omega, ⟨by simp only; omega, by simp only; omega, p3, by simp only; rw [← Nat.add_assoc, ho]; exact p4, by simp only; omega, by simp only; rw [← Nat.add_assoc, ho]; exact p6, fun i hi => p7 i (by simp only at hi; omega)⟩, ?_⟩
        all_goals refine ⟨rfl, ⟨[], by simp⟩, ?_, trivial⟩
        all_goals simp only [fy]
        all_goals simp only [S1, simprocAttr, KNB] <;> (try and_intros) <;> (try assumption) <;> (try trivial) <;> (try omega)
      · rw [decide_eq_false hyz2] at heq
        rw [if_neg (fun e => hyz2 e.symm)] at ho
        have hov := xn (l := cur) (j := kk) (by omega) y2
        have hst := qF h b g cur (cur.set kk y2)
        have hsl3 : kk * 3 + 3 ≤ cur.length * 3 := by omega
        repeat' (first | ((repeat ((fail_if_success (refine hK _ ?_)); clear hK K)); refine hK _ ?_; clear hK K) | ((first | refine b9 fun K1 q6 => ?_ | refine k4 fun K1 q6 => ?_ | refine b7 fun A B hA hB => ?_); simp only [S1, simprocAttr, iB, jl, j0, hnj, hpj, jp0, jpl, kkl, kk0, hnkk, ey, ez, hg, hdy, hdz, heq, hov, hst, hcc, hsl3, eqA, W28, fx]; first | refine q6 _ ?_; clear q6 K1 | (refine hA ?_; clear hA hB A B)) | refine b6 fun K hK => ?_ | ((first | apply b8 | apply i8 | apply b5 | refine i9 ?_ | apply c7 | apply c9); try simp only [NB, simprocAttr]))
        all_goals refine ⟨⟨j + 1, kk + 1, cur.set kk y2⟩, by simp only; omega, ⟨by simp only; omega, by simp only; omega, by simp only [List.length_set]; exact p3, by simp only; rw [← Nat.add_assoc, ho, List.length_append, ← p4]; rfl, by simp only; omega, by
            simp only
            rw [← Nat.add_assoc, ho, ← p6, List.take_add_one, List.getElem?_set_self (by omega), List.take_set_of_le (Nat.le_refl _)]; rfl, fun i hi => by
            simp only at hi ⊢
            rw [List.getElem?_set_ne (by omega)]
            exact p7 i (by omega)⟩, ?_⟩
        all_goals refine ⟨rfl, ⟨[], by simp only [List.append_nil]; rw [← hst, ← hov]; rfl⟩, ?_, trivial⟩
        all_goals simp only [fy]
        all_goals simp only [S1, simprocAttr, KNB] <;> (try and_intros) <;> (try assumption) <;> (try trivial) <;> (try omega)
    · have hjn : k + j = l.length := by omega
      rw [hjn, List.take_length] at p4 p6
      have jl : ¬ (j : Int) < ((l.length - k : Nat) : Int) := by omega
      have kkl : kk ≤ l.length := by omega
      have hnz : ¬ l.length - kk = 0 := by omega
      have hfit : kk * 3 + (l.length - kk) * 3 ≤ cur.length * 3 := by rw [p3]; omega
      have hct := qE kk cur
      rw [p6] at hct
      have hdr : (cLs cur).drop (kk * 3 + (l.length - kk) * 3) = [] := List.drop_of_length_le (by rw [hcc]; omega)
      have hzr := BG (l.length - kk)
      have hst := qF h b g cur (F3 l ++ List.replicate (l.length - kk) (0, 0, 0))
      rw [jb] at hst
      have hg2 := mL hbl g (F3 l ++ List.replicate (l.length - kk) (0, 0, 0))
      repeat' (first | ((repeat ((fail_if_success (refine hK _ ?_)); clear hK K)); refine hK _ ?_; clear hK K) | ((first | refine b9 fun K1 q6 => ?_ | refine b7 fun A B hA hB => ?_); simp only [S1, simprocAttr, iB, jl, kk0, kkl, hnz, hfit, hct, hdr, hzr, hst, hcc, hg, hg2, Nat.le_refl, Nat.zero_le, Nat.sub_zero, Nat.zero_mul, L2]; first | refine q6 _ ?_; clear q6 K1 | (refine hB ?_; clear hA hB A B)) | refine b6 fun K hK => ?_ | ((first | apply b8 | apply b5 | apply f9 | apply d3); try simp only [NB, simprocAttr]))
      all_goals exact ⟨.inr trivial, eO (t := 2) rfl (by rw [fy]; exact Nat.le_refl _) ⟨by rw [p4], by rw [p4]⟩⟩
  · obtain rfl : k = l.length := by omega
    rw [List.take_length] at hon
    repeat' (first | ((repeat ((fail_if_success (refine hK _ ?_)); clear hK K)); refine hK _ ?_; clear hK K) | ((first | refine b9 fun K1 q6 => ?_ | refine b7 fun A B hA hB => ?_); simp only [S1, simprocAttr, iB, Int.lt_irrefl]; first | refine q6 _ ?_; clear q6 K1 | (refine hB ?_; clear hA hB A B)) | refine b6 fun K hK => ?_ | ((first | apply b8 | apply b5 | apply f9 | apply d3); try simp only [NB, simprocAttr]))
    all_goals exact ⟨.inr trivial, eO (t := 2) rfl (by simp) ⟨by rw [hon], by rw [hon, Nat.sub_self, List.replicate_zero, List.append_nil, hself]⟩⟩
end
section
attribute [local irreducible] awp n9 k3 l8 o6 n5
variable {G : Nat → Option (List PV)}
theorem yR {h : Heap} {n fuel b g m : Nat} {l : List Lb} {rest : List AV} (hm : m = l.length) (hb : s8 h b g = some (cLs l ++ rest)) (hn : n ≤ b) : pur h n (fuel + 1) (.ref b g 0 3 m) = some (.sl (l.map eL)) := by
  subst hm
  have hch : ∀ l : List Lb, B7 3 l.length ((l.flatMap uL).map (PV.int .i64)) = l.map eL := by
    intro l
    induction l with
    | nil => rfl
    | cons x l ih =>
      rw [List.length_cons, B7, List.flatMap_cons, List.map_append, List.take_left' (by rfl), List.drop_left' (by rfl), ih]; rfl
  unfold pur
  by_cases h0 : l.length = 0
  · rw [if_pos h0]; have := List.eq_nil_of_length_eq_zero h0; subst this; rfl
  · rw [if_neg h0, hb]
    have e : (cLs l).length = l.length * 3 := bc l
    have hle : l.length * 3 ≤ (cLs l ++ rest).length := by rw [List.length_append, e]; omega
    simp only [hn, true_and, Nat.zero_add, hle, if_true, List.drop_zero]
    rw [List.take_left' e]
    unfold cLs
    rw [L9]
    simp only [Option.map_some, hch]
theorem xo {P : Program} {h : Heap} {K : AV → Prop} {x : Exit} {s : St} (hx : x = .normal ∨ x = .ret) {t b g m : Nat} {l : List Lb} {rest : List AV} (hm : m = l.length) (hf : s.fr t = some (.ref b g 0 3 m))
    (hb : s8 s.heap b g = some (cLs l ++ rest)) (hn : h.length ≤ b) (ht : s.heap.take h.length = h) (hle : h.length ≤ s.heap.length) (hk : K (aLs l)) : iL P [.tmp t] h K x s := by
  have key : W8 P [.tmp t] h K s := by
    unfold W8
    simp only [Q3, Q2, I4, hf, F8, E6, yR hm hb hn, Option.map_some]
    exact ⟨ht, hle, hk⟩
  rcases hx with rfl | rfl <;> exact key
theorem qG (l : List Lb) (x : Lb) : cLs (l ++ [x]) = cLs l ++ [.i x.1, .i x.2.1, .i x.2.2] := by rw [jb]; rfl
end
section
attribute [local irreducible] awp n9 k3 l8 o6 n5
def P6 (sl : List Sp) : List Lb := (sl.filter fun y => y.lk ≠ 0).map P2
noncomputable def L6 (ns : List Nd) (fl : List Fl) (l : List Sv) : List Lb := l.flatMap fun s => P6 (n7 ns fl s)
theorem sC {sl : List Sp} {j : Nat} {y : Sp} (h : sl[j]? = some y) : P6 (sl.take (j + 1)) = P6 (sl.take j) ++ if y.lk = 0 then [] else [P2 y] := by
  unfold P6
  rw [List.take_add_one, h, List.filter_append, List.map_append]
  congr 1
  by_cases hc : y.lk = 0 <;> simp [hc]
theorem qH (sl : List Sp) (j : Nat) : (P6 (sl.take j)).length ≤ sl.length := by
  unfold P6
  rw [List.length_map]
  exact Nat.le_trans (List.length_filter_le _ _) (by rw [List.length_take]; omega)
theorem sD {ns : List Nd} {fl : List Fl} {l : List Sv} {j : Nat} {s : Sv} (h : l[j]? = some s) : L6 ns fl (l.take (j + 1)) = L6 ns fl (l.take j) ++ P6 (n7 ns fl s) := by
  unfold L6
  rw [List.take_add_one, h, List.flatMap_append]; simp
theorem kW (ns : List Nd) (fl : List Fl) : ∀ l : List Sv, (L6 ns fl l).length ≤ l.length * 2500
  | [] => by simp [L6]
  | s :: l => by
    have h1 := kW ns fl l
    have h2 := qH (n7 ns fl s) (n7 ns fl s).length
    rw [List.take_length] at h2
    have h3 := M4 (ns := ns) (fl := fl) (S := s)
    unfold L6 at h1 ⊢
    rw [List.flatMap_cons, List.length_append, List.length_cons]; omega
end
section
abbrev Sm (n : Int) : Prop := -2000 ≤ n ∧ n ≤ 2000
theorem xp (t : Tm) (v : Int → Int) (k : Int) : Sm (U8 t v k) := by
  unfold U8 C9 S6
  constructor <;> (repeat' split) <;> simp
theorem Ai {t : Tm} {v : Int → Int} (hv : ∀ i, Num (v i)) : Sm (N8 t v).2 := by
  unfold N8
  split
  · exact xp _ _ _
  · rename_i e
    obtain ⟨g1, g2, g3⟩ := W4 (by simpa using e)
    have := (G9 hv g1).2.2
    constructor <;> simp only <;> omega
theorem Aj {t : Tm} {v : Int → Int} (hv : ∀ i, Num (v i)) : Sm (P1 t v).2 := by
  unfold P1
  split
  · exact xp _ _ _
  · rename_i e
    obtain ⟨g1, g2, g3⟩ := W4 (by simpa using e)
    have := (G9 hv g1).2.2
    constructor <;> simp only <;> omega
theorem ox {fl : List Fl} {v : Int → Int} (hv : ∀ i, Num (v i)) : ∀ {outs : List Int} {x : Int × Int}, chF fl v outs = some x → Sm x.2
  | [], x, h => by cases h
  | f :: r, x, h => by
    unfold chF at h
    split at h
    · exact ox hv h
    · split at h
      · exact ox hv h
      · split at h
        · cases h; exact Aj hv
        · split at h
          · cases h; constructor <;> simp
          · exact ox hv h
theorem vd {fl : List Fl} {v : Int → Int} (hv : ∀ i, Num (v i)) (outs : List Int) : Sm (r8 fl v outs).2 := by
  unfold r8
  cases h : chF fl v outs with
  | none => constructor <;> simp
  | some x => exact ox hv h
def LbS (y : Sp) : Prop := Sm y.lk ∧ Sm y.ln ∧ Sm y.la
theorem O9 {S : List Int} {x : Sp} {fr to : List Int} (hx : LbS x) : ∀ y ∈ m8 S x fr to, LbS y := by
  intro y hy
  unfold m8 at hy
  split at hy
  · cases hy
  · split at hy
    · cases hy
    · rw [List.mem_singleton] at hy; subst hy; exact hx
theorem qI {ns : List Nd} {fl : List Fl} {S : List Int} {node arg c : Int} (hc : Sm c) (fr : List Int) : ∀ y ∈ r5 ns fl S node arg c fr, LbS y := by
  have h3 : LbS ⟨node, arg, 3, c, 0, S.set (44 + (ndA ns c).toNat) (qAt S (ndA ns c) - 1)⟩ := ⟨⟨by show (-2000 : Int) ≤ 3; decide, by show (3 : Int) ≤ 2000; decide⟩, hc, ⟨by show (-2000 : Int) ≤ 0; decide, by show (0 : Int) ≤ 2000; decide⟩⟩
  have h4 : LbS ⟨node, arg, 4, c, 0, S⟩ := ⟨⟨by show (-2000 : Int) ≤ 4; decide, by show (4 : Int) ≤ 2000; decide⟩, hc, ⟨by show (-2000 : Int) ≤ 0; decide, by show (0 : Int) ≤ 2000; decide⟩⟩
  intro y hy
  unfold r5 at hy
  split at hy
  · split at hy
    · cases hy
    · exact O9 h3 y hy
  · exact O9 h4 y hy
theorem cq {n a k l c : Int} {S : List Int} (h1 : Sm k) (h2 : Sm l) (h3 : Sm c) : LbS ⟨n, a, k, l, c, S⟩ := ⟨h1, h2, h3⟩
theorem Z8 {n : Int} (h : (decide (-2000 ≤ n) && decide (n ≤ 2000)) = true) : Sm n := by
  simp only [Bool.and_eq_true, decide_eq_true_eq] at h; exact h
theorem yS {ns : List Nd} {fl : List Fl} {S : List Int} (rt : Right ns fl) (hr : RestOk S) {i : Nat} {k : Nd} (hc : ns[i]? = some k) : ∀ y ∈ m7 ns fl S i k, LbS y := by
  have hi : Sm (i : Int) := by
    have := (List.getElem?_eq_some_iff.mp hc).1
    have := rt.n
    constructor <;> omega
  have hv := tB hr
  have z : Sm 0 := Z8 rfl
  intro y hy
  unfold m7 at hy
  split at hy
  · unfold ci at hy
    split at hy
    · exact O9 (cq (Z8 rfl) z z) y hy
    · exact O9 (cq z z z) y hy
  split at hy
  · unfold N5 at hy
    split at hy
    · cases hy
    split at hy
    · rcases List.mem_append.mp hy with hy | hy
      · exact O9 (cq (Z8 rfl) hi z) y hy
      · exact O9 (cq (Z8 rfl) hi (Z8 rfl)) y hy
    split at hy
    · rw [List.mem_singleton] at hy; subst hy
      exact cq (Z8 rfl) hi (Ai hv)
    · exact O9 (cq (Z8 rfl) hi z) y hy
  split at hy
  · unfold O6 at hy
    split at hy
    · obtain ⟨f, _, hy⟩ := List.mem_flatMap.mp hy
      exact O9 (cq z z z) y hy
    split at hy
    · cases hy
    split at hy
    · rw [List.mem_singleton] at hy; subst hy
      exact cq (Z8 rfl) hi (vd hv _)
    · exact O9 (cq z z z) y hy
  split at hy
  · exact O9 (cq z z z) y hy
  split at hy
  · rename_i h7
    obtain ⟨f, hf, hy⟩ := List.mem_flatMap.mp hy
    obtain ⟨c, k', e, hc', _⟩ := (rt.ar7 hc h7).2.2 f hf
    have := (List.getElem?_eq_some_iff.mp hc').1
    have := rt.n
    rw [e] at hy
    exact qI (by constructor <;> omega) _ y hy
  split at hy
  · exact qI hi _ y hy
  · cases hy
theorem qJ {ns : List Nd} {fl : List Fl} {S : List Int} (rt : Right ns fl) (hr : RestOk S) : ∀ j, ∀ y ∈ u0 ns fl S j, LbS y
  | 0, y, hy => by cases hy
  | j + 1, y, hy => by
    unfold u0 at hy
    rcases List.mem_append.mp hy with hy | hy
    · exact qJ rt hr j y hy
    · split at hy
      · rename_i k hk; exact yS rt hr hk y hy
      · cases hy
theorem qK {ns : List Nd} {S : List Int} : ∀ m, m ≤ 4 → ∀ y ∈ o7 ns S m, LbS y
  | 0, _, y, hy => by cases hy
  | m + 1, hm, y, hy => by
    unfold o7 at hy
    rcases List.mem_append.mp hy with hy | hy
    · exact qK m (by omega) y hy
    · unfold G1 at hy
      split at hy
      · exact O9 (cq (Z8 rfl) (Z8 rfl) (by constructor <;> omega)) y hy
      · cases hy
theorem xq {ns : List Nd} {fl : List Fl} {S : List Int} (hS : S.length = 49) : ∀ y ∈ n7 ns fl S, LbS y := by
  intro y hy
  unfold n7 at hy
  split at hy
  · cases hy
  · rename_i h0
    rw [not_or] at h0
    obtain ⟨h1, h2⟩ := W5 (by simpa using h0.1)
    have rt := Right.of h1
    have hr := (wT hS h2).2
    rcases List.mem_append.mp hy with hy | hy
    · exact qJ rt hr _ y hy
    · exact qK 4 (Nat.le_refl _) y hy
theorem gF {n : Int} (h : Sm n) : u4 .i64 n := by
  have hmin : IntKind.i64.min = -9223372036854775808 := by decide
  have hmax : IntKind.i64.max = 9223372036854775807 := by decide
  unfold u4
  rw [hmin, hmax]
  omega
theorem xr {ns : List Nd} {fl : List Fl} {l : List Sv} (h49 : D1 l) : ∀ x ∈ L6 ns fl l, Sm x.1 ∧ Sm x.2.1 ∧ Sm x.2.2 := by
  intro x hx
  unfold L6 P6 at hx
  obtain ⟨s, hs, hx⟩ := List.mem_flatMap.mp hx
  obtain ⟨y, hy, rfl⟩ := List.mem_map.mp hx
  exact xq (h49 s hs) y (List.mem_filter.mp hy).1
end
end Go.Proofs.YtbbmfemplmelhaaGreatDoor.AM
namespace Go.Proofs
open Go.Shelf
def Tryz.sortIv_ren : Go.Shelf.Ren := ⟨fun | 6 => 39 | 15 => 61 | 14 => 60 | 28 => 92 | 29 => 93 | 20 => 84 | 21 => 85 | 22 => 86 | 23 => 87 | 24 => 88 | 25 => 89 | 26 => 90 | 27 => 91 | 46 => 121 | 47 => 122 | 48 => 123 | 49 => 124 | 50 => 125 | 57 => 143 | n => n, fun | 22 => 44 | 24 => 28 | 25 => 94 | 3 => 3 | 39 => 124 | 0 => 0 | 53 => 157 | 55 => 159 | 4 => 4 | 46 => 150 | 45 => 149 | 50 => 154 | 5 => 5 | 9 => 9 | 66 => 176 | 70 => 180 | 76 => 192 | 77 => 51 | n => n, fun | n => n⟩
theorem Tryz.sortIv : Go.Proofs.SlLaysF0.n6 Tryz.prog Tryz.sortIv_ren := {
  mixed := by kernel_rfl
  f6 := ⟨Tryz.f39.name, by decide, Tryz.func39.trans (congrArg some (by kernel_rfl))⟩
  f14 := ⟨Tryz.f60.name, by decide, Tryz.func60.trans (congrArg some (by kernel_rfl))⟩
  f15 := Tryz.func61.trans (congrArg some (by kernel_rfl))
  f20 := ⟨Tryz.f84.name, by decide, Tryz.func84.trans (congrArg some (by kernel_rfl))⟩
  f21 := ⟨Tryz.f85.name, by decide, Tryz.func85.trans (congrArg some (by kernel_rfl))⟩
  f22 := ⟨Tryz.f86.name, by decide, Tryz.func86.trans (congrArg some (by kernel_rfl))⟩
  f23 := ⟨Tryz.f87.name, by decide, Tryz.func87.trans (congrArg some (by kernel_rfl))⟩
  f24 := ⟨Tryz.f88.name, by decide, Tryz.func88.trans (congrArg some (by kernel_rfl))⟩
  f25 := ⟨Tryz.f89.name, by decide, Tryz.func89.trans (congrArg some (by kernel_rfl))⟩
  f26 := ⟨Tryz.f90.name, by decide, Tryz.func90.trans (congrArg some (by kernel_rfl))⟩
  f27 := ⟨Tryz.f91.name, by decide, Tryz.func91.trans (congrArg some (by kernel_rfl))⟩
  f28 := Tryz.func92.trans (congrArg some (by kernel_rfl))
  f29 := Tryz.func93.trans (congrArg some (by kernel_rfl))
  f46 := ⟨Tryz.f121.name, by decide, Tryz.func121.trans (congrArg some (by kernel_rfl))⟩
  f47 := Tryz.func122.trans (congrArg some (by kernel_rfl))
  f48 := Tryz.func123.trans (congrArg some (by kernel_rfl))
  f49 := ⟨Tryz.f124.name, by decide, Tryz.func124.trans (congrArg some (by kernel_rfl))⟩
  f50 := ⟨Tryz.f125.name, by decide, Tryz.func125.trans (congrArg some (by kernel_rfl))⟩
  f57 := ⟨Tryz.f143.name, by decide, Tryz.func143.trans (congrArg some (by kernel_rfl))⟩
  t0 := Tryz.underlying0
  a0 := Tryz.isAgg0
  z0 := Tryz.sizeOf0
  v0 := Tryz.zeroValue0
  t3 := Tryz.underlying3
  a3 := Tryz.isAgg3
  z3 := Tryz.sizeOf3
  v3 := Tryz.zeroValue3
  t4 := Tryz.underlying4
  a4 := Tryz.isAgg4
  z4 := Tryz.sizeOf4
  v4 := Tryz.zeroValue4
  t5 := Tryz.underlying5
  a5 := Tryz.isAgg5
  z5 := Tryz.sizeOf5
  v5 := Tryz.zeroValue5
  t9 := Tryz.underlying9
  a9 := Tryz.isAgg9
  z9 := Tryz.sizeOf9
  v9 := Tryz.zeroValue9
  t22 := Tryz.underlying44
  a22 := Tryz.isAgg44
  z22 := Tryz.sizeOf44
  v22 := Tryz.zeroValue44
  t25 := Tryz.underlying94
  a25 := Tryz.isAgg94
  z25 := Tryz.sizeOf94
  v25 := Tryz.zeroValue94
  t39 := Tryz.underlying124
  a39 := Tryz.isAgg124
  z39 := Tryz.sizeOf124
  v39 := Tryz.zeroValue124
  t45 := Tryz.underlying149
  a45 := Tryz.isAgg149
  z45 := Tryz.sizeOf149
  v45 := Tryz.zeroValue149
  t46 := Tryz.underlying150
  a46 := Tryz.isAgg150
  z46 := Tryz.sizeOf150
  v46 := Tryz.zeroValue150
  t50 := Tryz.underlying154
  a50 := Tryz.isAgg154
  z50 := Tryz.sizeOf154
  v50 := Tryz.zeroValue154
  t53 := Tryz.underlying157
  a53 := Tryz.isAgg157
  z53 := Tryz.sizeOf157
  v53 := Tryz.zeroValue157
  t55 := Tryz.underlying159
  a55 := Tryz.isAgg159
  z55 := Tryz.sizeOf159
  v55 := Tryz.zeroValue159
  t66 := Tryz.underlying176
  a66 := Tryz.isAgg176
  z66 := Tryz.sizeOf176
  v66 := Tryz.zeroValue176
  t70 := Tryz.underlying180
  a70 := Tryz.isAgg180
  z70 := Tryz.sizeOf180
  v70 := Tryz.zeroValue180
  t76 := Tryz.underlying192
  a76 := Tryz.isAgg192
  z76 := Tryz.sizeOf192
  v76 := Tryz.zeroValue192
  t77 := Tryz.underlying51
  a77 := Tryz.isAgg51
  z77 := Tryz.sizeOf51
  v77 := Tryz.zeroValue51 }
end Go.Proofs
namespace Go.Proofs.YtbbmfemplmelhaaGreatDoor.AM
open Go Go.Proofs Go.Sort
theorem yT {k : Nat} (x : Rec k) : (Q6 x).length = k := by rw [Q6, List.length_map, x.2.1]
theorem yU {k : Nat} (x : Rec k) : ∀ v ∈ Q6 x, v.oneCell' = true := by
  intro v hv
  obtain ⟨n, _, rfl⟩ := List.mem_map.mp hv
  rfl
theorem BH : sc Tryz.prog 39 40 3 := by
  intro cf hO blk off cap d w hcmp hH hblk hsz
  have eg : ∀ args w, (callFunc 40 args).run Tryz.prog w = .ok (.enter 40 args) w := enters_of Tryz.func40 (by kernel_rfl) rfl
  exact AnyQ.slices_SortFunc Tryz.sortIv 3 (fun w => fG T28 w) (fun w => F6 T28 w) Q6 yT yU cf hO 40 #[] blk off cap d w eg hcmp hH hblk hsz
end Go.Proofs.YtbbmfemplmelhaaGreatDoor.AM
namespace Go.Proofs.YtbbmfemplmelhaaGreatDoor.AM
open Go Go.Proofs
end Go.Proofs.YtbbmfemplmelhaaGreatDoor.AM
