/- Proved here, in parts, for one law: contracts of the functions that the laws call, and the plain facts behind them. Conditions: none. -/
import Derived.Test.YtjpphhcimpclpaaGreatDoorZTokenMovesE
set_option linter.unusedVariables false
set_option linter.unusedSimpArgs false
set_option linter.defProp false
set_option maxRecDepth 4000
set_option maxHeartbeats 4000000
namespace Go.Proofs.YtjpphhcimpclpaaGreatDoor.AM
open Go Go.Proofs
section
def Q3 := And.intro T2 (And.intro T3 (And.intro T4 (And.intro T22 (And.intro T23 (And.intro T25 (And.intro T26 (And.intro T27 (And.intro T34 (And.intro T46 (And.intro T53 (And.intro T68 (And.intro T70 (And.intro T73 (And.intro T79 (And.intro T80 (And.intro T83 (And.intro fq (And.intro fu (And.intro jZ gp)))))))))))))))))))
attribute [local irreducible] awp q9 m7 n7 r5 q8
section
variable {h : Heap} {b lb : Nat} {ns : List Nd} {fl : List Fl} {S : List Int} {l : List Sp}
theorem tz (nk : NetOk ns fl) (rt : Right ns fl) (ok : GmOk h b lb S l) (st : StOk S) (few : l.length ≤ 900000) (c : Nat) {k : Nd} (hc : ns[c]? = some k) (hk : k.kind = 3) (m : Nat) (hm : m < 40) (hin : p5 fl c = [(m : Int)]) (h0 : tk S (m : Int) ≠ 0) :
    f9 Tryz.prog gW 39 [.ptr b 0 0, .i c] (m3 h b lb ns fl S l) (fun r h' => r = .undef ∧ h' = m3 h b lb ns fl S (l ++ o7 ns fl S c k)) := by
  have hb := ok.hb
  have hl := ok.hl
  have hne := ok.ne
  have hS := ok.held.1
  have gl := v4 (ns := ns) (fl := fl) (lb := lb) (n := l.length) hS
  have gv := D4 (ns := ns) (fl := fl) (lb := lb) (n := l.length) hS
  have t49 := v8 (ns := ns) (fl := fl) (lb := lb) (n := l.length) hS
  have c0 : (0 : Int) ≤ (c : Int) := by omega
  have hc' := B8 hc
  have hf := rt.f
  have hf' : fl.length ≤ 100 := by omega
  have hkd := rt.kind hc
  have hi := J5 hf c
  have ho := A0 hf c
  obtain ⟨hv, v0, v3⟩ := ok.held.at hm
  have gk := U2 (ns := ns) (fl := fl) (lb := lb) (n := l.length) hv
  have f0 : (0 : Int) ≤ (m : Int) := by omega
  have f40 : (m : Int) < 40 := by omega
  have hz' : (tk S (m : Int) == 0) = false := by simp [h0]
  have hil : (((p5 fl c).length : Int) == 1) = true := by rw [hin]; rfl
  have hi0 : (p5 fl c)[0]? = some (m : Int) := by rw [hin]; rfl
  have hei : eI (m : Int) = [.int .i64 (m : Int)] := rfl
  have hin0 : (0 : Int) ≤ 0 := Int.le_refl 0
  have e2 : (k.kind == 2) = false := by simp [hk]
  have e3 : (k.kind == 3) = true := by simp [hk]
  have e4 : (k.kind == 4) = false := by simp [hk]
  have e5 : (k.kind == 5) = false := by simp [hk]
  have e6 : (k.kind == 6) = false := by simp [hk]
  have e7 : (k.kind == 7) = false := by simp [hk]
  have e8 : (k.kind == 8) = false := by simp [hk]
  have e1 : (k.kind != 1) = true := by simp [hk]
  obtain ⟨a, hka⟩ := Int.eq_ofNat_of_zero_le hkd.2.1
  have a4 : a < 4 := by have := hkd.2.2.1 (by omega); omega
  have hS2 : ∀ v, (S.set (40 + a) v).length = 49 := fun v => by rw [List.length_set, hS]
  have eg : o7 ns fl S c k = p9 S ⟨c, 0, 1, c, 0, S.set (40 + a) 0⟩ (p5 fl c) (k3 fl c) ++ p9 S ⟨c, 1, 1, c, 1, S.set (40 + a) 1⟩ (p5 fl c) (k3 fl c) := by
    unfold o7; rw [if_neg (by omega), if_pos (.inl hk)]
    unfold P2; rw [hin, List.headD_cons, if_neg h0, if_pos hk, hka, Int.toNat_natCast]
  rw [eg]
  let acc : Nat → List Sp := fun j => (if j = 0 then [] else p9 S ⟨c, 0, 1, c, 0, S.set (40 + a) 0⟩ (p5 fl c) (k3 fl c)) ++ (if j ≤ 1 then [] else p9 S ⟨c, 1, 1, c, 1, S.set (40 + a) 1⟩ (p5 fl c) (k3 fl c))
  have hto : ∀ j, ∀ y ∈ acc j, y.to.length = 49 := by
    intro j y hy
    simp only [acc] at hy
    rcases List.mem_append.mp hy with hy | hy
    · split at hy
      · cases hy
      · exact x7 hS (hS2 _) y hy
    · split at hy
      · cases hy
      · exact x7 hS (hS2 _) y hy
  have hal : ∀ j, (acc j).length ≤ 2 := by
    intro j
    simp only [acc, List.length_append]
    have h1 := A2 S ⟨c, 0, 1, c, 0, S.set (40 + a) 0⟩ (p5 fl c) (k3 fl c)
    have h2 := A2 S ⟨c, 1, 1, c, 1, S.set (40 + a) 1⟩ (p5 fl c) (k3 fl c)
    split <;> split <;> simp <;> omega
  have e22 : acc 2 = p9 S ⟨c, 0, 1, c, 0, S.set (40 + a) 0⟩ (p5 fl c) (k3 fl c) ++ p9 S ⟨c, 1, 1, c, 1, S.set (40 + a) 1⟩ (p5 fl c) (k3 fl c) := by simp only [acc]; rfl
  rw [← e22]
  refine j8 (rl := []) i6 Tryz.func39 rfl (rs := []) rfl Tryz.ntmps39 (by simp) ?_
  repeat' (first | ((first | refine c8 ?_ | refine b8 ?_ | refine o5 ?_ | refine m9 ?_); (try simp only [NB])) | ((repeat ((fail_if_success (refine hK _ ?_)); clear hK K)); refine hK _ ?_; clear hK K) | ((first | refine d8 fun K1 p7 => ?_ | refine d6 fun K1 p7 => ?_ | refine o6 rfl rfl rfl fun K1 p7 => ?_ | refine b5 fun A B hA hB => ?_); simp only [S1, simprocAttr, Q3, e1, e2, e3, e4, e5, e6, e7, e8, hil, hi0, hei, hin0, f0, f40, gk, hz', hka, c0, hc', eN, i9, k8, TSz, i8, i7, j3, PGB, n6 hb hne, k9 hl, l6 hb hne, j9 hl, gmB, spB, gl]; first | (refine p7 _ ?_; clear p7 K1) | ((first | refine hA ?_ | refine hB ?_); clear hA hB A B) | ((first | apply b9 E62 | apply c7 E62); exact (l9 _ fl hf' _ _); (refine p7 _ ?_; clear p7 K1)) | ((first | apply b9 E29 | apply c7 E29); exact (k4 _ fl hf' _ _); (refine p7 _ ?_; clear p7 K1)) | (refine g8 (v := ?_) (fun hg p8 => ?_) ?_; rotate_left; (focus (try ((try simp only [BN] at hg); simp only [S1, simprocAttr, Q3, e1, e2, e3, e4, e5, e6, e7, e8, hil, hi0, hei, hin0, f0, f40, gk, hz', hka, c0, hc', eN, i9, k8, TSz, i8, i7, j3, PGB, n6 hb hne, k9 hl, l6 hb hne, j9 hl, gmB, spB, gl, hg] at p8 ⊢)); first | exact p8 | ((first | apply b9 E62 | apply c7 E62); exact (l9 _ fl hf' _ _); exact p8) | ((first | apply b9 E29 | apply c7 E29); exact (k4 _ fl hf' _ _); exact p8)); (refine p7 _ ?_; clear p7 K1)) | (((first | (refine ⟨fun hg => hA ?_, fun hg => hB ?_⟩ <;> clear hA hB A B) | refine ⟨fun hg => ?_, fun hg => ?_⟩) <;> (try simp only [BN2] at hg) <;> (try simp only [hg, cndB])) <;> (try (refine p7 _ ?_; clear p7 K1)) <;> (try simp only [BN3] at hg))) | ((first | refine t9 (v := ?_) rfl rfl rfl rfl (by decide) (fun R1 K1 p7 => ?_) ?_ | refine t8 (v := ?_) rfl rfl rfl (by decide) (fun K1 p7 => ?_) ?_ | refine r8 (v := ?_) rfl rfl rfl (by decide) (fun K1 p7 => ?_) ?_); rotate_left; (focus (simp only [S1, simprocAttr, Q3, e1, e2, e3, e4, e5, e6, e7, e8, hil, hi0, hei, hin0, f0, f40, gk, hz', hka, c0, hc', eN, i9, k8, TSz, i8, i7, j3, PGB, n6 hb hne, k9 hl, l6 hb hne, j9 hl, gmB, spB, gl]; first | (exact p7 _ _ _) | ((first | apply b9 E62 | apply c7 E62); exact (l9 _ fl hf' _ _); exact p7 _ _ _) | ((first | apply b9 E29 | apply c7 E29); exact (k4 _ fl hf' _ _); exact p7 _ _ _)))) | (refine n5 rfl rfl rfl ?_) | ((first | refine i3 (z := ?_) 0 rfl rfl rfl rfl (by decide) rfl ?_ ?_ | refine i3 (z := ?_) 1 rfl rfl rfl rfl (by decide) rfl ?_ ?_ | refine i3 (z := ?_) 2 rfl rfl rfl rfl (by decide) rfl ?_ ?_); rotate_left; (focus (simp only [S1, simprocAttr, Q3, e1, e2, e3, e4, e5, e6, e7, e8, hil, hi0, hei, hin0, f0, f40, gk, hz', hka, c0, hc', eN, i9, k8, TSz, i8, i7, j3, PGB, n6 hb hne, k9 hl, l6 hb hne, j9 hl, gmB, spB, gl, u9]; rfl))) | (refine b6 fun K hK => ?_) | (refine B9 [0, 1, 2, 3, 4, 5, 6, 7, 8, 9, 10, 11, 12, 13] (fs := []) rfl rfl (by kernel_rfl) (by kernel_rfl) ?_) | ((first | refine a9 ?_ | refine j4 (by kernel_rfl) ?_ | refine b7 ?_ | refine c9 ?_ | refine d4 ?_ | refine d7 ?_); try simp only [NB, simprocAttr]))
  refine S6 2 174 (fun j => m3 h b lb ns fl S (l ++ acc j)) (fun j => [(59, .i j), (6, aI (k3 fl c)), (5, aI (p5 fl c)), (4, .ptr h.length 0 0), (1, .i c), (0, .ptr b 0 0)]) (fun j => [xB k a]) (fun j => True) (fun j => ⟨by rw [j7, j7], aa hl⟩) ?_ trivial fun j hj hp K hK => ?_
  · have e0 : acc 0 = [] := by simp [acc]
    simp only [e0, List.append_nil]
    refine ⟨rfl, ⟨[], by simp only [List.append_nil]⟩, ?_, ?_⟩
    · simp only [S1, simprocAttr, KNB, j7] <;> (try and_intros) <;> (try assumption) <;> (try trivial) <;> (try omega)
    · exact ⟨⟨trivial, trivial, trivial, trivial, trivial, trivial⟩, trivial⟩
  have okj : GmOk h b lb S (l ++ acc j) := ok.app (hto j) (by have := hal j; omega)
  rcases Nat.lt_or_ge j 2 with hlt | hge
  · have hlt' : decide ((j : Int) < 2) = true := decide_eq_true (by omega)
    have hnx : IntKind.i64.wrap ((j : Int) + 1) = ((j + 1 : Nat) : Int) := by rw [IntWalk.i64_in _ (by omega)]; omega
    have es := F4 hS (m := ⟨c, j, 1, c, j, S⟩) (Chg.set hS (k := 40 + a) (by omega) (j : Int)) hi ho
    have ea' : l ++ acc (j + 1) = (l ++ acc j) ++ stF S ⟨c, j, 1, c, j, S⟩ (fun T => T.set (40 + a) (j : Int)) (p5 fl c) (k3 fl c) := by
      rw [es, List.append_assoc]
      congr 1
      match j, hlt with
      | 0, _ => simp [acc]
      | 1, _ => simp [acc]
    generalize hlj : l ++ acc j = lj at ea' okj ⊢
    have hst := U5 (G := gW) (ns := ns) (fl := fl) okj ⟨c, j, 1, c, j, S⟩ (p5 fl c) (k3 fl c) hi ho [xB k a, some ⟨0, [.i j]⟩] E63 (caps := [.ptr (h.length + 1) 0 0, .ptr h.length 0 0]) ⟨by simp [y6], by simp [y6], trivial⟩ (fun T hT => by rw [List.length_set, hT]) (fun A T hT _ => rZ k a4 j 0 A T hT)
    repeat' (first | ((repeat ((fail_if_success (refine hK _ ?_)); clear hK K)); refine hK _ ?_; clear hK K) | ((first | refine d8 fun K1 p7 => ?_ | refine d6 fun K1 p7 => ?_ | refine b5 fun A B hA hB => ?_); simp only [S1, simprocAttr, Q3, hlt', hnx, TSz, i8, i7, j3, PGB, n6 hb hne, k9 hl, l6 hb hne, j9 hl, gmB, spB, gl]; first | refine p7 _ ?_; clear p7 K1 | ((first | refine hA ?_ | refine hB ?_); clear hA hB A B) | ((first | apply b9 E41 | apply c7 E41); exact hst; refine p7 _ ?_; clear p7 K1) | (refine g8 (v := ?_) (fun hg p8 => ?_) ?_; rotate_left; (focus (try ((try simp only [BN] at hg); simp only [S1, simprocAttr, Q3, hlt', hnx, TSz, i8, i7, j3, PGB, n6 hb hne, k9 hl, l6 hb hne, j9 hl, gmB, spB, gl, hg] at p8 ⊢)); first | exact p8 | ((first | apply b9 E41 | apply c7 E41); exact hst; exact p8)); refine p7 _ ?_; clear p7 K1) | (((first | (refine ⟨fun hg => hA ?_, fun hg => hB ?_⟩ <;> clear hA hB A B) | refine ⟨fun hg => ?_, fun hg => ?_⟩) <;> (try simp only [BN2] at hg) <;> (try simp only [hg, cndB])) <;> (try (refine p7 _ ?_; clear p7 K1)) <;> (try simp only [BN3] at hg))) | refine b6 fun K hK => ?_ | ((first | apply c8 | apply b8 | apply a9 | refine d5 ?_ | apply b7 | apply c9 | apply d4 | apply d7); try simp only [NB, simprocAttr]))
    all_goals refine ⟨hlt, trivial, ?_⟩
    all_goals simp only [ea']
    all_goals refine ⟨rfl, ⟨_, rfl⟩, ?_, ?_⟩
    · simp only [S1, simprocAttr, KNB, j7] <;> (try and_intros) <;> (try assumption) <;> (try trivial) <;> (try omega)
    · exact ⟨⟨trivial, trivial, trivial, trivial, trivial, trivial⟩, trivial⟩
  · obtain rfl : j = 2 := by omega
    repeat' (first | ((repeat ((fail_if_success (refine hK _ ?_)); clear hK K)); refine hK _ ?_; clear hK K) | ((first | refine d8 fun K1 p7 => ?_ | refine d6 fun K1 p7 => ?_ | refine b5 fun A B hA hB => ?_); simp only [S1, simprocAttr, Q3, (show decide (((2 : Nat) : Int) < 2) = false by decide)]; first | refine p7 _ ?_; clear p7 K1 | ((first | refine hA ?_ | refine hB ?_); clear hA hB A B) | (refine g8 (v := ?_) (fun hg p8 => ?_) ?_; rotate_left; (focus (try ((try simp only [BN] at hg); simp only [S1, simprocAttr, Q3, (show decide (((2 : Nat) : Int) < 2) = false by decide), hg] at p8 ⊢)); first | exact p8); refine p7 _ ?_; clear p7 K1) | (((first | (refine ⟨fun hg => hA ?_, fun hg => hB ?_⟩ <;> clear hA hB A B) | refine ⟨fun hg => ?_, fun hg => ?_⟩) <;> (try simp only [BN2] at hg) <;> (try simp only [hg, cndB])) <;> (try (refine p7 _ ?_; clear p7 K1)) <;> (try simp only [BN3] at hg))) | refine b6 fun K hK => ?_ | ((first | apply c8 | apply b8 | apply a9 | refine d5 ?_ | apply b7 | apply c9 | apply d4 | apply d7); try simp only [NB, simprocAttr]))
    all_goals simp only [S1, simprocAttr, ENB, y8, y1, j7, m8, l8] <;> first | exact i5 hl | exact ⟨i5 hl, rfl⟩ | exact ⟨i5 hl, rfl, rfl⟩
theorem tA (nk : NetOk ns fl) (rt : Right ns fl) (ok : GmOk h b lb S l) (st : StOk S) (few : l.length ≤ 900000) (c : Nat) {k : Nd} (hc : ns[c]? = some k) (hk : k.kind = 4) (m : Nat) (hm : m < 40) (hin : p5 fl c = [(m : Int)]) (h0 : tk S (m : Int) ≠ 0) :
    f9 Tryz.prog gW 39 [.ptr b 0 0, .i c] (m3 h b lb ns fl S l) (fun r h' => r = .undef ∧ h' = m3 h b lb ns fl S (l ++ o7 ns fl S c k)) := by
  have hb := ok.hb
  have hl := ok.hl
  have hne := ok.ne
  have hS := ok.held.1
  have gl := v4 (ns := ns) (fl := fl) (lb := lb) (n := l.length) hS
  have gv := D4 (ns := ns) (fl := fl) (lb := lb) (n := l.length) hS
  have t49 := v8 (ns := ns) (fl := fl) (lb := lb) (n := l.length) hS
  have c0 : (0 : Int) ≤ (c : Int) := by omega
  have hc' := B8 hc
  have hf := rt.f
  have hf' : fl.length ≤ 100 := by omega
  have hkd := rt.kind hc
  have hi := J5 hf c
  have ho := A0 hf c
  obtain ⟨hv, v0, v3⟩ := ok.held.at hm
  have gk := U2 (ns := ns) (fl := fl) (lb := lb) (n := l.length) hv
  have f0 : (0 : Int) ≤ (m : Int) := by omega
  have f40 : (m : Int) < 40 := by omega
  have hz' : (tk S (m : Int) == 0) = false := by simp [h0]
  have hil : (((p5 fl c).length : Int) == 1) = true := by rw [hin]; rfl
  have hi0 : (p5 fl c)[0]? = some (m : Int) := by rw [hin]; rfl
  have hei : eI (m : Int) = [.int .i64 (m : Int)] := rfl
  have hin0 : (0 : Int) ≤ 0 := Int.le_refl 0
  have e2 : (k.kind == 2) = false := by simp [hk]
  have e3 : (k.kind == 3) = false := by simp [hk]
  have e4 : (k.kind == 4) = true := by simp [hk]
  have e5 : (k.kind == 5) = false := by simp [hk]
  have e6 : (k.kind == 6) = false := by simp [hk]
  have e7 : (k.kind == 7) = false := by simp [hk]
  have e8 : (k.kind == 8) = false := by simp [hk]
  have e1 : (k.kind != 1) = true := by simp [hk]
  obtain ⟨a, hka⟩ := Int.eq_ofNat_of_zero_le hkd.2.1
  have a4 : a < 4 := by have := hkd.2.2.1 (by omega); omega
  have hS2 : ∀ v, (S.set (40 + a) v).length = 49 := fun v => by rw [List.length_set, hS]
  obtain ⟨mm, hmm, ht⟩ := nk.tn
  have ch := fun h => kG (ht k (List.mem_of_getElem? hc)) (vS S) kJ h
  by_cases h2 : (N8 k.term (vS S)).2 = 0
  · have h2' : ((N8 k.term (vS S)).2 != 0) = false := by simp [h2]
    have eg : o7 ns fl S c k = p9 S ⟨c, 0, 2, c, 0, S.set (40 + a) (N8 k.term (vS S)).1⟩ (p5 fl c) (k3 fl c) := by
      unfold o7; rw [if_neg (by omega), if_pos (.inr hk)]
      unfold P2; rw [hin, List.headD_cons, if_neg h0, if_neg (by omega), if_neg (by simpa using h2), hka, Int.toNat_natCast]
    generalize (N8 k.term (vS S)).1 = w at *
    have es := F4 hS (m := ⟨c, 0, 2, c, 0, S⟩) (Chg.set hS (k := 40 + a) (by omega) w) hi ho
    simp only at es
    rw [eg, ← es]
    have hst := U5 (G := gW) (ns := ns) (fl := fl) ok ⟨c, 0, 2, c, 0, S⟩ (p5 fl c) (k3 fl c) hi ho [xB k a, some ⟨1, [.i w]⟩] E66 (caps := [.ptr (h.length + 1) 1 0, .ptr h.length 0 0]) ⟨by simp [y6], by simp [y6], trivial⟩ (fun T hT => by rw [List.length_set, hT]) (fun A T hT _ => sa k a4 w 1 A T hT)
    refine j8 (rl := []) i6 Tryz.func39 rfl (rs := []) rfl Tryz.ntmps39 (by simp) ?_
    repeat' (first | ((first | refine c8 ?_ | refine b8 ?_ | refine o5 ?_ | refine m9 ?_); (try simp only [NB])) | ((repeat ((fail_if_success (refine hK _ ?_)); clear hK K)); refine hK _ ?_; clear hK K) | ((first | refine d8 fun K1 p7 => ?_ | refine d6 fun K1 p7 => ?_ | refine o6 rfl rfl rfl fun K1 p7 => ?_ | refine b5 fun A B hA hB => ?_); simp only [S1, simprocAttr, Q3, e1, e2, e3, e4, e5, e6, e7, e8, hil, hi0, hei, hin0, f0, f40, gk, hz', hka, h2', gv, c0, hc', eN, i9, k8, TSz, i8, i7, j3, PGB, n6 hb hne, k9 hl, l6 hb hne, j9 hl, gmB, spB, gl]; first | (refine p7 _ ?_; clear p7 K1) | ((first | refine hA ?_ | refine hB ?_); clear hA hB A B) | ((first | apply b9 E62 | apply c7 E62); exact (l9 _ fl hf' _ _); (refine p7 _ ?_; clear p7 K1)) | ((first | apply b9 E29 | apply c7 E29); exact (k4 _ fl hf' _ _); (refine p7 _ ?_; clear p7 K1)) | ((first | apply b9 E64 | apply c7 E64); exact (ch _); (refine p7 _ ?_; clear p7 K1)) | ((first | apply b9 E41 | apply c7 E41); exact hst; (refine p7 _ ?_; clear p7 K1)) | (refine g8 (v := ?_) (fun hg p8 => ?_) ?_; rotate_left; (focus (try ((try simp only [BN] at hg); simp only [S1, simprocAttr, Q3, e1, e2, e3, e4, e5, e6, e7, e8, hil, hi0, hei, hin0, f0, f40, gk, hz', hka, h2', gv, c0, hc', eN, i9, k8, TSz, i8, i7, j3, PGB, n6 hb hne, k9 hl, l6 hb hne, j9 hl, gmB, spB, gl, hg] at p8 ⊢)); first | exact p8 | ((first | apply b9 E62 | apply c7 E62); exact (l9 _ fl hf' _ _); exact p8) | ((first | apply b9 E29 | apply c7 E29); exact (k4 _ fl hf' _ _); exact p8) | ((first | apply b9 E64 | apply c7 E64); exact (ch _); exact p8) | ((first | apply b9 E41 | apply c7 E41); exact hst; exact p8)); (refine p7 _ ?_; clear p7 K1)) | (((first | (refine ⟨fun hg => hA ?_, fun hg => hB ?_⟩ <;> clear hA hB A B) | refine ⟨fun hg => ?_, fun hg => ?_⟩) <;> (try simp only [BN2] at hg) <;> (try simp only [hg, cndB])) <;> (try (refine p7 _ ?_; clear p7 K1)) <;> (try simp only [BN3] at hg))) | ((first | refine t9 (v := ?_) rfl rfl rfl rfl (by decide) (fun R1 K1 p7 => ?_) ?_ | refine t8 (v := ?_) rfl rfl rfl (by decide) (fun K1 p7 => ?_) ?_ | refine r8 (v := ?_) rfl rfl rfl (by decide) (fun K1 p7 => ?_) ?_); rotate_left; (focus (simp only [S1, simprocAttr, Q3, e1, e2, e3, e4, e5, e6, e7, e8, hil, hi0, hei, hin0, f0, f40, gk, hz', hka, h2', gv, c0, hc', eN, i9, k8, TSz, i8, i7, j3, PGB, n6 hb hne, k9 hl, l6 hb hne, j9 hl, gmB, spB, gl]; first | (exact p7 _ _ _) | ((first | apply b9 E62 | apply c7 E62); exact (l9 _ fl hf' _ _); exact p7 _ _ _) | ((first | apply b9 E29 | apply c7 E29); exact (k4 _ fl hf' _ _); exact p7 _ _ _) | ((first | apply b9 E64 | apply c7 E64); exact (ch _); exact p7 _ _ _) | ((first | apply b9 E41 | apply c7 E41); exact hst; exact p7 _ _ _)))) | (refine n5 rfl rfl rfl ?_) | ((first | refine i3 (z := ?_) 0 rfl rfl rfl rfl (by decide) rfl ?_ ?_ | refine i3 (z := ?_) 1 rfl rfl rfl rfl (by decide) rfl ?_ ?_ | refine i3 (z := ?_) 2 rfl rfl rfl rfl (by decide) rfl ?_ ?_); rotate_left; (focus (simp only [S1, simprocAttr, Q3, e1, e2, e3, e4, e5, e6, e7, e8, hil, hi0, hei, hin0, f0, f40, gk, hz', hka, h2', gv, c0, hc', eN, i9, k8, TSz, i8, i7, j3, PGB, n6 hb hne, k9 hl, l6 hb hne, j9 hl, gmB, spB, gl, u9]; rfl))) | (refine b6 fun K hK => ?_) | (refine B9 [0, 1, 2, 3, 4, 5, 6, 7, 8, 9, 10, 11, 12, 13] (fs := []) rfl rfl (by kernel_rfl) (by kernel_rfl) ?_) | (refine p6 [0, 1, 2, 3, 4, 5, 6, 7, 8, 9, 10, 11, 12, 13] 1 (fs := []) rfl (by kernel_rfl) (by kernel_rfl) ?_) | ((first | refine a9 ?_ | refine j4 (by kernel_rfl) ?_ | refine b7 ?_ | refine c9 ?_ | refine d4 ?_ | refine d7 ?_); try simp only [NB, simprocAttr]))
    all_goals simp only [S1, simprocAttr, ENB, y8, y1, j7, m8, l8] <;> first | exact i5 hl | exact ⟨i5 hl, rfl⟩ | exact ⟨i5 hl, rfl, rfl⟩
  · have h2' : ((N8 k.term (vS S)).2 != 0) = true := by simp [h2]
    have eg : o7 ns fl S c k = [u4 S c (N8 k.term (vS S)).2] := by
      unfold o7; rw [if_neg (by omega), if_pos (.inr hk)]
      unfold P2; rw [hin, List.headD_cons, if_neg h0, if_neg (by omega), if_pos h2]
    rw [eg]
    refine j8 (rl := []) i6 Tryz.func39 rfl (rs := []) rfl Tryz.ntmps39 (by simp) ?_
    repeat' (first | ((first | refine c8 ?_ | refine b8 ?_ | refine o5 ?_ | refine m9 ?_); (try simp only [NB])) | ((repeat ((fail_if_success (refine hK _ ?_)); clear hK K)); refine hK _ ?_; clear hK K) | ((first | refine d8 fun K1 p7 => ?_ | refine d6 fun K1 p7 => ?_ | refine o6 rfl rfl rfl fun K1 p7 => ?_ | refine b5 fun A B hA hB => ?_); simp only [S1, simprocAttr, Q3, e1, e2, e3, e4, e5, e6, e7, e8, hil, hi0, hei, hin0, f0, f40, gk, hz', hka, h2', gv, c0, hc', eN, i9, k8, TSz, i8, i7, j3, PGB, n6 hb hne, k9 hl, l6 hb hne, j9 hl, gmB, spB, gl]; first | (refine p7 _ ?_; clear p7 K1) | ((first | refine hA ?_ | refine hB ?_); clear hA hB A B) | ((first | apply b9 E62 | apply c7 E62); exact (l9 _ fl hf' _ _); (refine p7 _ ?_; clear p7 K1)) | ((first | apply b9 E29 | apply c7 E29); exact (k4 _ fl hf' _ _); (refine p7 _ ?_; clear p7 K1)) | ((first | apply b9 E64 | apply c7 E64); exact (ch _); (refine p7 _ ?_; clear p7 K1)) | ((first | apply b9 E65 | apply c7 E65); exact (ee ok c (N8 k.term (vS S)).2 _); (refine p7 _ ?_; clear p7 K1)) | (refine g8 (v := ?_) (fun hg p8 => ?_) ?_; rotate_left; (focus (try ((try simp only [BN] at hg); simp only [S1, simprocAttr, Q3, e1, e2, e3, e4, e5, e6, e7, e8, hil, hi0, hei, hin0, f0, f40, gk, hz', hka, h2', gv, c0, hc', eN, i9, k8, TSz, i8, i7, j3, PGB, n6 hb hne, k9 hl, l6 hb hne, j9 hl, gmB, spB, gl, hg] at p8 ⊢)); first | exact p8 | ((first | apply b9 E62 | apply c7 E62); exact (l9 _ fl hf' _ _); exact p8) | ((first | apply b9 E29 | apply c7 E29); exact (k4 _ fl hf' _ _); exact p8) | ((first | apply b9 E64 | apply c7 E64); exact (ch _); exact p8) | ((first | apply b9 E65 | apply c7 E65); exact (ee ok c (N8 k.term (vS S)).2 _); exact p8)); (refine p7 _ ?_; clear p7 K1)) | (((first | (refine ⟨fun hg => hA ?_, fun hg => hB ?_⟩ <;> clear hA hB A B) | refine ⟨fun hg => ?_, fun hg => ?_⟩) <;> (try simp only [BN2] at hg) <;> (try simp only [hg, cndB])) <;> (try (refine p7 _ ?_; clear p7 K1)) <;> (try simp only [BN3] at hg))) | ((first | refine t9 (v := ?_) rfl rfl rfl rfl (by decide) (fun R1 K1 p7 => ?_) ?_ | refine t8 (v := ?_) rfl rfl rfl (by decide) (fun K1 p7 => ?_) ?_ | refine r8 (v := ?_) rfl rfl rfl (by decide) (fun K1 p7 => ?_) ?_); rotate_left; (focus (simp only [S1, simprocAttr, Q3, e1, e2, e3, e4, e5, e6, e7, e8, hil, hi0, hei, hin0, f0, f40, gk, hz', hka, h2', gv, c0, hc', eN, i9, k8, TSz, i8, i7, j3, PGB, n6 hb hne, k9 hl, l6 hb hne, j9 hl, gmB, spB, gl]; first | (exact p7 _ _ _) | ((first | apply b9 E62 | apply c7 E62); exact (l9 _ fl hf' _ _); exact p7 _ _ _) | ((first | apply b9 E29 | apply c7 E29); exact (k4 _ fl hf' _ _); exact p7 _ _ _) | ((first | apply b9 E64 | apply c7 E64); exact (ch _); exact p7 _ _ _) | ((first | apply b9 E65 | apply c7 E65); exact (ee ok c (N8 k.term (vS S)).2 _); exact p7 _ _ _)))) | (refine n5 rfl rfl rfl ?_) | ((first | refine i3 (z := ?_) 0 rfl rfl rfl rfl (by decide) rfl ?_ ?_ | refine i3 (z := ?_) 1 rfl rfl rfl rfl (by decide) rfl ?_ ?_ | refine i3 (z := ?_) 2 rfl rfl rfl rfl (by decide) rfl ?_ ?_); rotate_left; (focus (simp only [S1, simprocAttr, Q3, e1, e2, e3, e4, e5, e6, e7, e8, hil, hi0, hei, hin0, f0, f40, gk, hz', hka, h2', gv, c0, hc', eN, i9, k8, TSz, i8, i7, j3, PGB, n6 hb hne, k9 hl, l6 hb hne, j9 hl, gmB, spB, gl, u9]; rfl))) | (refine b6 fun K hK => ?_) | (refine B9 [0, 1, 2, 3, 4, 5, 6, 7, 8, 9, 10, 11, 12, 13] (fs := []) rfl rfl (by kernel_rfl) (by kernel_rfl) ?_) | (refine p6 [0, 1, 2, 3, 4, 5, 6, 7, 8, 9, 10, 11, 12, 13] 1 (fs := []) rfl (by kernel_rfl) (by kernel_rfl) ?_) | ((first | refine a9 ?_ | refine j4 (by kernel_rfl) ?_ | refine b7 ?_ | refine c9 ?_ | refine d4 ?_ | refine d7 ?_); try simp only [NB, simprocAttr]))
    all_goals simp only [S1, simprocAttr, ENB, y8, y1, j7, m8, l8] <;> first | exact i5 hl | exact ⟨i5 hl, rfl⟩ | exact ⟨i5 hl, rfl, rfl⟩
end
end
section
structure TokOk (n : Nat) (S : List Int) : Prop where
  len : S.length = 49
  tok : ∀ k : Nat, k < 40 → 0 ≤ tk S k ∧ tk S k ≤ 3
  off : ∀ k : Nat, n ≤ k → k < 40 → tk S k = 0
structure RestOk (S : List Int) : Prop where
  q : ∀ k : Nat, k < 4 → 0 ≤ qAt S k ∧ qAt S k ≤ 3
  v : ∀ k : Nat, k < 4 → Num (S.getD (40 + k) 0)
  md : 0 ≤ mdS S ∧ mdS S ≤ 2
def dq (S : List Int) : Int := (S.take 40).sum
theorem pn : ∀ (l : List Int) (k : Nat) (x v : Int), l[k]? = some x → (l.set k v).sum = l.sum - x + v
  | [], k, x, v, h => by simp at h
  | a :: r, 0, x, v, h => by
    simp only [List.getElem?_cons_zero, Option.some.injEq] at h
    subst h
    simp only [List.set_cons_zero, List.sum_cons]; omega
  | a :: r, k + 1, x, v, h => by
    rw [List.getElem?_cons_succ] at h
    have := pn r k x v h
    simp only [List.set_cons_succ, List.sum_cons, this]; omega
theorem ur {S : List Int} (hS : S.length = 49) {k : Nat} (hk : k < 40) : S[k]? = some (tk S k) := F8 hS (by omega)
theorem mC {S : List Int} (hS : S.length = 49) {k : Nat} (hk : k < 40) (v : Int) : dq (S.set k v) = dq S - tk S k + v := by
  unfold dq
  rw [List.take_set]
  exact pn _ _ _ _ (by rw [List.getElem?_take_of_lt hk]; exact ur hS hk)
theorem sf {S : List Int} (hS : S.length = 49) {k j : Nat} (hk : k < 40) (v : Int) : tk (S.set k v) j = if j = k then v else tk S j := by
  unfold tk
  rw [Int.toNat_natCast, List.getD_eq_getElem?_getD, List.getElem?_set]
  by_cases e : k = j
  · subst e; rw [if_pos rfl, if_pos rfl, if_pos (by omega)]; rfl
  · rw [if_neg e, if_neg (fun h => e h.symm), ← List.getD_eq_getElem?_getD]
theorem ip {S : List Int} {k : Nat} (hk : k < 40) (v : Int) : (S.set k v).drop 40 = S.drop 40 := List.drop_set_of_lt hk
theorem TokOk.set {n : Nat} {S : List Int} (h : TokOk n S) {k : Nat} (hn : k < n) (hk : k < 40) {v : Int} (h0 : 0 ≤ v) (h3 : v ≤ 3) : TokOk n (S.set k v) := by
  refine ⟨by rw [List.length_set, h.len], fun j hj => ?_, fun j hnj hj => ?_⟩
  · rw [sf h.len hk]
    split
    · exact ⟨h0, h3⟩
    · exact h.tok j hj
  · rw [sf h.len hk, if_neg (by omega)]
    exact h.off j hnj hj
def ow (n : Nat) (l : List Int) : Prop := ∀ f ∈ l, ∃ j : Nat, f = (j : Int) ∧ j < n ∧ j < 40
theorem po {n : Nat} : ∀ {l S T : List Int}, TokOk n S → ow n l → P6 Q2 l S = some T → TokOk n T ∧ T.drop 40 = S.drop 40 ∧ dq T = dq S - l.length
  | [], S, T, h, _, e => by cases e; exact ⟨h, rfl, by simp⟩
  | f :: r, S, T, h, hi, e => by
    obtain ⟨j, rfl, hn, hj⟩ := hi f (by simp)
    unfold P6 at e
    rw [List.foldlM_cons] at e
    obtain ⟨U, e1, e2⟩ := Option.bind_eq_some_iff.mp e
    unfold Q2 at e1
    split at e1
    · cases e1
    · rename_i h1
      cases e1
      rw [Int.toNat_natCast] at e2
      have ht := h.tok j hj
      obtain ⟨a1, a2, a3⟩ := po (h.set hn hj (v := tk S j - 1) (by omega) (by omega)) (fun f hf => hi f (by simp [hf])) e2
      refine ⟨a1, by rw [a2, ip hj], ?_⟩
      rw [a3, mC h.len hj, List.length_cons]; omega
theorem pp {n : Nat} : ∀ {l S T : List Int}, TokOk n S → ow n l → P6 U3 l S = some T → TokOk n T ∧ T.drop 40 = S.drop 40 ∧ dq T = dq S + l.length
  | [], S, T, h, _, e => by cases e; exact ⟨h, rfl, by simp⟩
  | f :: r, S, T, h, hi, e => by
    obtain ⟨j, rfl, hn, hj⟩ := hi f (by simp)
    unfold P6 at e
    rw [List.foldlM_cons] at e
    obtain ⟨U, e1, e2⟩ := Option.bind_eq_some_iff.mp e
    unfold U3 at e1
    split at e1
    · cases e1
    · rename_i h1
      cases e1
      rw [Int.toNat_natCast] at e2
      have ht := h.tok j hj
      obtain ⟨a1, a2, a3⟩ := pp (h.set hn hj (v := tk S j + 1) (by omega) (by omega)) (fun f hf => hi f (by simp [hf])) e2
      refine ⟨a1, by rw [a2, ip hj], ?_⟩
      rw [a3, mC h.len hj, List.length_cons]; omega
theorem mD {S T : List Int} (hS : S.length = 49) {k : Nat} (hk : k < 40) : tk (z8 S T) k = tk S k := by
  unfold tk z8
  rw [Int.toNat_natCast, List.getD_eq_getElem?_getD, List.getElem?_append_left (by rw [List.length_take]; omega), List.getElem?_take_of_lt (by omega), ← List.getD_eq_getElem?_getD]
theorem sg {n : Nat} {S T : List Int} (h : TokOk n S) (hT : T.length = 49) : TokOk n (z8 S T) := by
  refine ⟨by simp [z8, h.len, hT], fun k hk => by rw [mD h.len hk]; exact h.tok k hk, fun k hn hk => by rw [mD h.len hk]; exact h.off k hn hk⟩
theorem ox {S T : List Int} (hS : S.length = 49) : (z8 S T).drop 40 = T.drop 40 := by
  unfold z8
  rw [List.drop_append_of_le_length (by rw [List.length_take]; omega), List.drop_of_length_le (by rw [List.length_take]; omega), List.nil_append]
theorem qB {S T : List Int} (hS : S.length = 49) : dq (z8 S T) = dq S := by
  unfold dq z8
  rw [List.take_append_of_le_length (by rw [List.length_take]; omega), List.take_take]
  rfl
theorem RestOk.drop {S T : List Int} (h : RestOk S) (e : T.drop 40 = S.drop 40) : RestOk T := by
  have g : ∀ k, T.getD (40 + k) 0 = S.getD (40 + k) 0 := fun k => by
    rw [List.getD_eq_getElem?_getD, List.getD_eq_getElem?_getD, ← List.getElem?_drop, ← List.getElem?_drop, e]
  refine ⟨fun k hk => ?_, fun k hk => by rw [g]; exact h.v k hk, ?_⟩
  · have := h.q k hk
    unfold qAt at this ⊢
    rw [Int.toNat_natCast] at this ⊢
    rwa [show 44 + k = 40 + (4 + k) by omega, g, show 40 + (4 + k) = 44 + k by omega]
  · have := h.md
    unfold mdS at this ⊢
    rwa [show 48 = 40 + 8 by rfl, g]
theorem sh {S T : List Int} (e : T.drop 40 = S.drop 40) : mdS T = mdS S := by
  unfold mdS
  rw [List.getD_eq_getElem?_getD, List.getD_eq_getElem?_getD, show 48 = 40 + 8 by rfl, ← List.getElem?_drop, ← List.getElem?_drop, e]
theorem tB {n : Nat} {S : List Int} (h : TokOk n S) {x : Sp} (hx : x.to.length = 49) {fr to : List Int} (hf : ow n fr) (ht : ow n to) : ∀ y ∈ p9 S x fr to,
    TokOk n y.to ∧ y.to.drop 40 = x.to.drop 40 ∧ y.node = x.node ∧ y.arg = x.arg ∧ y.lk = x.lk ∧ y.ln = x.ln ∧ y.la = x.la ∧ dq y.to = dq S - fr.length + to.length := by
  intro y hy
  unfold p9 at hy
  split at hy
  · cases hy
  rename_i T hT
  split at hy
  · cases hy
  rename_i U hU
  obtain rfl := List.mem_singleton.mp hy
  obtain ⟨a1, a2, a3⟩ := po (sg h hx) hf hT
  obtain ⟨b1, b2, b3⟩ := pp a1 ht hU
  exact ⟨b1, by simp only; rw [b2, a2, ox h.len], rfl, rfl, rfl, rfl, rfl, by simp only; rw [b3, a3, qB h.len]⟩
theorem qC {ns : List Nd} {fl : List Fl} (rt : Right ns fl) (i : Int) : ow fl.length (k3 fl i) := by
  intro f hm
  obtain ⟨j, _, h1, rfl, _⟩ := F5 hm
  exact ⟨j, rfl, h1, by have := rt.f; omega⟩
structure StepOk (n : Nat) (S : List Int) (y : Sp) (d : Int) : Prop where
  tok : TokOk n y.to
  rest : RestOk y.to
  sum : dq y.to = dq S + d
  md : (y.lk = 7 ∧ mdS y.to = 1) ∨ (y.lk = 6 ∧ mdS y.to = 2) ∨ (y.lk ≠ 7 ∧ y.lk ≠ 6 ∧ mdS y.to = 0)
theorem StepOk.move {n : Nat} {S : List Int} (h : TokOk n S) {x : Sp} (hx : x.to.length = 49) (hr : RestOk x.to) {fr to : List Int} (hf : ow n fr) (ht : ow n to)
    (hm : (x.lk = 7 ∧ mdS x.to = 1) ∨ (x.lk = 6 ∧ mdS x.to = 2) ∨ (x.lk ≠ 7 ∧ x.lk ≠ 6 ∧ mdS x.to = 0)) : ∀ y ∈ p9 S x fr to, StepOk n S y ((to.length : Int) - fr.length) := by
  intro y hy
  obtain ⟨a1, a2, a3, a4, a5, a6, a7, a8⟩ := tB h hx hf ht y hy
  exact ⟨a1, hr.drop a2, by rw [a8]; omega, by rw [a5, sh a2]; exact hm⟩
def B7 := And.intro T2 (And.intro T3 (And.intro T4 (And.intro T22 (And.intro T23 (And.intro T25 (And.intro T26 (And.intro T27 (And.intro T32 (And.intro T40 (And.intro T46 (And.intro T53 (And.intro T61 (And.intro T68 (And.intro T70 (And.intro T73 (And.intro T84 T86))))))))))))))))
attribute [local irreducible] awp q9 m7 n7 r5 q8
abbrev oy (l : List Sp) : AV := .p (.sl (l.map eSp))
theorem Y1 : ∀ (l c : List AV) (k : Nat), k + l.length ≤ c.length → w9 c k l = c.take k ++ l ++ c.drop (k + l.length)
  | [], c, k, h => by simp [w9]
  | x :: r, c, k, h => by
    simp only [List.length_cons] at h
    simp only [w9]
    rw [Y1 r (c.set k x) (k + 1) (by simp; omega)]
    rw [List.take_add_one, List.getElem?_set_self (by omega), List.take_set_of_le (Nat.le_refl k), List.drop_set_of_lt (by omega)]
    simp only [Option.toList_some, List.length_cons, List.append_assoc, List.cons_append, List.nil_append]
    congr 4
    omega
theorem mF {S : List Int} (hS : S.length = 49) (a b : AV) (t : List AV) (ht : t.length = 50) : w9 (a :: b :: t) 2 (S.map AV.i) = a :: b :: (S.map AV.i ++ t.drop 49) := by
  have h51 : 2 + (S.map AV.i).length ≤ (a :: b :: t).length := by rw [List.length_map, hS, List.length_cons, List.length_cons, ht]; decide
  rw [Y1 (S.map AV.i) (a :: b :: t) 2 h51]
  rw [List.length_map, hS]; rfl
def kN (x : Sp) : List PV := if x.to.length = 49 then eSp x else List.replicate 54 (.int .i64 0)
theorem mG (x : Sp) : (kN x).length = 54 := by
  unfold kN
  split
  · rename_i h; unfold eSp; rw [List.length_map, G4 h]
  · rw [List.length_replicate]
theorem pq (r : Sp) : ∀ x ∈ kN r, x ≠ .nils := by
  intro x hx
  unfold kN at hx
  split at hx
  · exact un r x hx
  · rw [(List.mem_replicate.mp hx).2]; exact fun e => by cases e
theorem iq {l : List Sp} (h : ∀ y ∈ l, y.to.length = 49) : l.map kN = l.map eSp := by
  apply List.map_congr_left
  intro x hx
  unfold kN; rw [if_pos (h x hx)]
theorem si {l : List Sp} (h : ∀ y ∈ l, y.to.length = 49) : dO l = (V2 kN l).map AV.p := by
  unfold V2
  rw [List.flatMap_def, iq h, ← List.flatMap_def]
  unfold dO eSp
  rw [List.map_flatMap, List.map_flatMap]
  congr 1; funext x
  rw [List.map_map]; rfl
theorem sj {α : Type} {p : α → Bool} {l : List α} {j : Nat} {x : α} (h : l[j]? = some x) : (l.take (j + 1)).any p = ((l.take j).any p || p x) := by
  rw [List.take_add_one, h, List.any_append]; simp
theorem t5.game {P : Program} {G : Nat → Option (List PV)} {h : Heap} {s : St} {A B : Option Blk} {ns : List Nd} {fl : List Fl} {S : List Int} (hS : S.length = 49) (hh : s.heap = h ++ [A, B, some ⟨0, .p (.sl (ns.map eN)) :: .p (.sl (fl.map eF)) :: (S.map AV.i ++ [.p .nils])⟩]) : t5 P G h s ⟨s.fr, s.nt, h ++ [A, B, gmB ns fl S (h.length + 3) [], spB []]⟩ := by
  have := t5.adoptCell (P := P) (G := G) (h0 := h) (s := s) (b := h.length + 2) (j := 51) (bk := ⟨0, .p (.sl (ns.map eN)) :: .p (.sl (fl.map eF)) :: (S.map AV.i ++ [.p .nils])⟩) 54 (by rw [hh]; simp [q7]) (by simp [hS]) (by omega)
  rw [hh] at this
  have e : (AV.p (.sl (ns.map eN)) :: .p (.sl (fl.map eF)) :: (S.map AV.i ++ [.p .nils])).set 51 (.ref (h.length + 3) 0 0 54 0) = gmC ns fl S (h.length + 3) 0 := by
    unfold gmC
    rw [show (51 : Nat) = 49 + 1 + 1 by rfl, List.set_cons_succ, List.set_cons_succ, List.set_append_right _ _ (by simp [hS])]
    simp [hS]
  simp only [List.length_append, List.length_cons, List.length_nil, List.append_assoc, List.cons_append, List.nil_append, cK, List.set_cons_succ, List.set_cons_zero, Nat.zero_add, Nat.reduceAdd, e] at this
  exact this
theorem C5 {ns : List Nd} {fl : List Fl} {S : List Int} {m lb n : Nat} (hl : lb < m) : q6 m (gmC ns fl S lb n) := by
  have : ∀ (m : Nat) (a c : List AV), q6 m a → q6 m c → q6 m (a ++ c) := by
    intro m a c ha hc
    induction a with
    | nil => exact hc
    | cons x r ih => exact ⟨ha.1, ih ha.2⟩
  exact ⟨trivial, trivial, this _ _ _ (j6 _ S) ⟨hl, trivial⟩⟩
theorem an {ns : List Nd} {fl : List Fl} (nk : NetOk ns fl) {S : List Int} (hS : S.length = 49) (h : Heap) :
    f9 Tryz.prog gW 13 [N5 ns fl, aS S] h (fun r h' => r = oy (u6 ns fl S) ∧ h' = h) := by
  have hne := U1 hS
  have hck := fun h => ct nk hS h
  have dm := J1 (F8 hS (k := 48) (by omega))
  have emd : S.getD 48 0 = mdS S := rfl
  rw [emd] at dm
  have t49 : ((S.map AV.i).drop 0).take 49 = S.map AV.i := by rw [List.drop_zero]; exact List.take_of_length_le (by rw [List.length_map, hS]; exact Nat.le_refl _)
  have t49' : (S.map AV.i).take 49 = S.map AV.i := by rwa [List.drop_zero] at t49
  by_cases h0 : stC ns fl S = 0
  case neg =>
    have e : u6 ns fl S = [] := by unfold u6; rw [if_pos (.inl h0)]
    have f0 : (stC ns fl S != 0) = true := by simp [h0]
    rw [e]
    refine d9 (rl := []) i6 Tryz.func13 rfl (rs := [.tmp 4]) rfl Tryz.ntmps13 (by simp) ?_
    repeat' (first | ((repeat ((fail_if_success (refine hK _ ?_)); clear hK K)); refine hK _ ?_; clear hK K) | ((first | refine d8 fun K1 p7 => ?_ | refine d6 fun K1 p7 => ?_ | refine b5 fun A B hA hB => ?_); simp only [S1, simprocAttr, B7, f0, hne, hS, e9, t49', dm, g9, h9, List.length_map]; first | refine p7 _ ?_; clear p7 K1 | ((first | refine hA ?_ | refine hB ?_); clear hA hB A B) | ((first | apply b9 E10 | apply c7 E10); exact (hck _); refine p7 _ ?_; clear p7 K1) | (refine g8 (v := ?_) (fun hg p8 => ?_) ?_; rotate_left; (focus (try ((try simp only [BN] at hg); simp only [S1, simprocAttr, B7, f0, hne, hS, e9, t49', dm, g9, h9, List.length_map, hg] at p8 ⊢)); first | exact p8 | ((first | apply b9 E10 | apply c7 E10); exact (hck _); exact p8)); refine p7 _ ?_; clear p7 K1) | (((first | (refine ⟨fun hg => hA ?_, fun hg => hB ?_⟩ <;> clear hA hB A B) | refine ⟨fun hg => ?_, fun hg => ?_⟩) <;> (try simp only [BN2] at hg) <;> (try simp only [hg, cndB])) <;> (try (refine p7 _ ?_; clear p7 K1)) <;> (try simp only [BN3] at hg))) | refine b6 fun K hK => ?_ | ((first | apply c8 | apply b8 | apply a9 | refine d5 ?_ | apply b7 | apply c9 | apply d4 | apply d7); try simp only [NB, simprocAttr]))
    all_goals simp only [S1, simprocAttr, ENB, B7]
    all_goals rfl
  have f0 : (stC ns fl S != 0) = false := by simp [h0]
  by_cases h1 : mdS S = 0
  case neg =>
    have e : u6 ns fl S = [] := by unfold u6; rw [if_pos (.inr h1)]
    have f1 : (mdS S != 0) = true := by simp [h1]
    rw [e]
    refine d9 (rl := []) i6 Tryz.func13 rfl (rs := [.tmp 4]) rfl Tryz.ntmps13 (by simp) ?_
    repeat' (first | ((repeat ((fail_if_success (refine hK _ ?_)); clear hK K)); refine hK _ ?_; clear hK K) | ((first | refine d8 fun K1 p7 => ?_ | refine d6 fun K1 p7 => ?_ | refine b5 fun A B hA hB => ?_); simp only [S1, simprocAttr, B7, f0, f1, hne, hS, e9, t49', dm, g9, h9, List.length_map]; first | refine p7 _ ?_; clear p7 K1 | ((first | refine hA ?_ | refine hB ?_); clear hA hB A B) | ((first | apply b9 E10 | apply c7 E10); exact (hck _); refine p7 _ ?_; clear p7 K1) | (refine g8 (v := ?_) (fun hg p8 => ?_) ?_; rotate_left; (focus (try ((try simp only [BN] at hg); simp only [S1, simprocAttr, B7, f0, f1, hne, hS, e9, t49', dm, g9, h9, List.length_map, hg] at p8 ⊢)); first | exact p8 | ((first | apply b9 E10 | apply c7 E10); exact (hck _); exact p8)); refine p7 _ ?_; clear p7 K1) | (((first | (refine ⟨fun hg => hA ?_, fun hg => hB ?_⟩ <;> clear hA hB A B) | refine ⟨fun hg => ?_, fun hg => ?_⟩) <;> (try simp only [BN2] at hg) <;> (try simp only [hg, cndB])) <;> (try (refine p7 _ ?_; clear p7 K1)) <;> (try simp only [BN3] at hg))) | refine b6 fun K hK => ?_ | ((first | apply c8 | apply b8 | apply a9 | refine d5 ?_ | apply b7 | apply c9 | apply d4 | apply d7); try simp only [NB, simprocAttr]))
    all_goals simp only [S1, simprocAttr, ENB, B7]
    all_goals rfl
  have f1 : (mdS S != 0) = false := by simp [h1]
  have e : u6 ns fl S = y2 ns fl S ns.length ++ r7 ns S 4 := by unfold u6; rw [if_neg (by simp [h0, h1])]
  rw [e]
  refine d9 (rl := []) i6 Tryz.func13 rfl (rs := [.tmp 4]) rfl Tryz.ntmps13 (by simp) ?_
  have ov2 := mF hS
  repeat' (first | ((repeat ((fail_if_success (refine hK _ ?_)); clear hK K)); refine hK _ ?_; clear hK K) | ((first | refine d8 fun K1 p7 => ?_ | refine d6 fun K1 p7 => ?_ | refine b5 fun A B hA hB => ?_); simp only [S1, simprocAttr, B7, f0, f1, hne, hS, ov2, e9, t49', dm, g9, h9, List.length_map, List.drop_succ_cons, List.drop_zero, List.all_append]; first | refine p7 _ ?_; clear p7 K1 | ((first | refine hA ?_ | refine hB ?_); clear hA hB A B) | ((first | apply b9 E10 | apply c7 E10); exact (hck _); refine p7 _ ?_; clear p7 K1) | (refine g8 (v := ?_) (fun hg p8 => ?_) ?_; rotate_left; (focus (try ((try simp only [BN] at hg); simp only [S1, simprocAttr, B7, f0, f1, hne, hS, ov2, e9, t49', dm, g9, h9, List.length_map, List.drop_succ_cons, List.drop_zero, List.all_append, hg] at p8 ⊢)); first | exact p8 | ((first | apply b9 E10 | apply c7 E10); exact (hck _); exact p8)); refine p7 _ ?_; clear p7 K1) | (((first | (refine ⟨fun hg => hA ?_, fun hg => hB ?_⟩ <;> clear hA hB A B) | refine ⟨fun hg => ?_, fun hg => ?_⟩) <;> (try simp only [BN2] at hg) <;> (try simp only [hg, cndB])) <;> (try (refine p7 _ ?_; clear p7 K1)) <;> (try simp only [BN3] at hg))) | refine b6 fun K hK => ?_ | ((first | apply c8 | apply b8 | apply a9 | refine d5 ?_ | apply b7 | apply c9 | apply d4 | apply d7); try simp only [NB, simprocAttr]))
  obtain ⟨hn0, hok⟩ := im h0
  have rt := Right.of hn0
  have st := rY hS hok
  have hn := rt.n
  have hf := rt.f
  have hnl : ∀ j, j ≤ ns.length → (y2 ns fl S j).length ≤ 2400 := fun j hj => Nat.le_trans (ai ns fl S hf j) (by omega)
  have gok : ∀ l : List Sp, (∀ y ∈ l, y.to.length = 49) → l.length ≤ 3000 → GmOk (h ++ [some ⟨0, D1 ns fl⟩, some ⟨0, S.map AV.i⟩, none, none]) (h.length + 2) (h.length + 3) S l :=
    fun l h1 h2 => ⟨by simp, by simp, by omega, st.held, h1, by omega⟩
  have hnode : ∀ (l : List Sp), (∀ y ∈ l, y.to.length = 49) → l.length ≤ 3000 → ∀ (c : Nat) (k : Nd), ns[c]? = some k → f9 Tryz.prog gW 27 [.ptr (h.length + 2) 0 0, .i c] (h ++ [some ⟨0, D1 ns fl⟩, some ⟨0, S.map AV.i⟩, gmB ns fl S (h.length + 3) l, spB l])
      (fun r h' => r = .undef ∧ h' = h ++ [some ⟨0, D1 ns fl⟩, some ⟨0, S.map AV.i⟩, gmB ns fl S (h.length + 3) (l ++ o7 ns fl S c k), spB (l ++ o7 ns fl S c k)]) := by
    intro l h1 h2 c k hc
    have := mA nk rt (gok l h1 h2) st (by omega) c hc
    have e1 := V8 h (some ⟨0, D1 ns fl⟩) (some ⟨0, S.map AV.i⟩) none none [] ns fl S l
    have e2 := V8 h (some ⟨0, D1 ns fl⟩) (some ⟨0, S.map AV.i⟩) none none [] ns fl S (l ++ o7 ns fl S c k)
    rw [List.append_nil] at e1 e2
    rwa [e1, e2] at this
  refine T1 ns.length 87 (fun j => [(28, .i j), (27, .i ns.length), (5, .ptr (h.length + 2) 0 0), (3, .ptr (h.length + 1) 0 0), (2, .ptr h.length 0 0)])
    (fun j => [some ⟨0, D1 ns fl⟩, some ⟨0, S.map AV.i⟩, gmB ns fl S (h.length + 3) (y2 ns fl S j), spB (y2 ns fl S j)]) (fun j => True) ?_ trivial fun j hj hp K hK => ?_
  · refine (t5.game hS rfl).trans (Sub.ghost ⟨rfl, ⟨[], by simp only [List.append_nil]; rfl⟩, ?_, ⟨trivial, trivial, trivial⟩, j6 _ _, C5 (by simp), j6 _ _, trivial⟩)
    simp only [S1, simprocAttr, KNB] <;> (try and_intros) <;> (try assumption) <;> (try trivial) <;> (try omega)
  rcases Nat.lt_or_ge j ns.length with hlt | hge
  · obtain ⟨k, hx⟩ : ∃ k, ns[j]? = some k := ⟨_, List.getElem?_eq_getElem hlt⟩
    have ej : y2 ns fl S (j + 1) = y2 ns fl S j ++ o7 ns fl S j k := by rw [y2, hx]
    have hnd := hnode (y2 ns fl S j) (R7 hS j) (by have := hnl j hj; omega) j k hx
    repeat' (first | ((repeat ((fail_if_success (refine hK _ ?_)); clear hK K)); refine hK _ ?_; clear hK K) | ((first | refine d8 fun K1 p7 => ?_ | refine d6 fun K1 p7 => ?_ | refine b5 fun A B hA hB => ?_); simp only [S1, simprocAttr, B7, I9 hlt, A9 nk.n hlt]; first | refine p7 _ ?_; clear p7 K1 | ((first | refine hA ?_ | refine hB ?_); clear hA hB A B) | ((first | apply b9 E27 | apply c7 E27); exact hnd; refine p7 _ ?_; clear p7 K1) | (refine g8 (v := ?_) (fun hg p8 => ?_) ?_; rotate_left; (focus (try ((try simp only [BN] at hg); simp only [S1, simprocAttr, B7, I9 hlt, A9 nk.n hlt, hg] at p8 ⊢)); first | exact p8 | ((first | apply b9 E27 | apply c7 E27); exact hnd; exact p8)); refine p7 _ ?_; clear p7 K1) | (((first | (refine ⟨fun hg => hA ?_, fun hg => hB ?_⟩ <;> clear hA hB A B) | refine ⟨fun hg => ?_, fun hg => ?_⟩) <;> (try simp only [BN2] at hg) <;> (try simp only [hg, cndB])) <;> (try (refine p7 _ ?_; clear p7 K1)) <;> (try simp only [BN3] at hg))) | refine b6 fun K hK => ?_ | ((first | apply c8 | apply b8 | apply a9 | refine d5 ?_ | apply b7 | apply c9 | apply d4 | apply d7); try simp only [NB, simprocAttr]))
    all_goals refine ⟨hlt, trivial, ?_⟩
    all_goals simp only [ej]
    all_goals refine ⟨rfl, ⟨_, rfl⟩, ?_, ⟨trivial, trivial, trivial⟩, j6 _ _, C5 (by simp), j6 _ _, trivial⟩
    all_goals simp only [S1, simprocAttr, KNB] <;> (try and_intros) <;> (try assumption) <;> (try trivial) <;> (try omega)
  obtain rfl : j = ns.length := by omega
  repeat' (first | ((repeat ((fail_if_success (refine hK _ ?_)); clear hK K)); refine hK _ ?_; clear hK K) | ((first | refine d8 fun K1 p7 => ?_ | refine d6 fun K1 p7 => ?_ | refine b5 fun A B hA hB => ?_); simp only [S1, simprocAttr, B7, T5]; first | refine p7 _ ?_; clear p7 K1 | ((first | refine hA ?_ | refine hB ?_); clear hA hB A B) | (refine g8 (v := ?_) (fun hg p8 => ?_) ?_; rotate_left; (focus (try ((try simp only [BN] at hg); simp only [S1, simprocAttr, B7, T5, hg] at p8 ⊢)); first | exact p8); refine p7 _ ?_; clear p7 K1) | (((first | (refine ⟨fun hg => hA ?_, fun hg => hB ?_⟩ <;> clear hA hB A B) | refine ⟨fun hg => ?_, fun hg => ?_⟩) <;> (try simp only [BN2] at hg) <;> (try simp only [hg, cndB])) <;> (try (refine p7 _ ?_; clear p7 K1)) <;> (try simp only [BN3] at hg))) | refine b6 fun K hK => ?_ | ((first | apply c8 | apply b8 | apply a9 | refine d5 ?_ | apply b7 | apply c9 | apply d4 | apply d7); try simp only [NB, simprocAttr]))
  have hl0 : ∀ y ∈ y2 ns fl S ns.length, y.to.length = 49 := R7 hS ns.length
  have hl1 : (y2 ns fl S ns.length).length ≤ 2400 := hnl _ (Nat.le_refl _)
  generalize y2 ns fl S ns.length = l0 at *
  have hlm : ∀ m, m ≤ 4 → (l0 ++ r7 ns S m).length ≤ 2500 := fun m hm => by
    rw [List.length_append]; have := aj ns S m; omega
  have htm : ∀ m, ∀ y ∈ l0 ++ r7 ns S m, y.to.length = 49 := fun m y hy => (List.mem_append.mp hy).elim (hl0 y) (bF hS m y)
  refine s5 4 87 (fun m => [(7, .i m), (5, .ptr (h.length + 2) 0 0), (3, .ptr (h.length + 1) 0 0), (2, .ptr h.length 0 0)])
    (fun m => [some ⟨0, D1 ns fl⟩, some ⟨0, S.map AV.i⟩, gmB ns fl S (h.length + 3) (l0 ++ r7 ns S m), spB (l0 ++ r7 ns S m)]) (fun m => True) ?_ trivial fun m hm hp K hK => ?_
  · have s0 : r7 ns S 0 = [] := rfl
    simp only [s0, List.append_nil]
    refine ⟨rfl, ⟨[], by simp only [List.append_nil]⟩, ?_, ⟨trivial, trivial, trivial⟩, j6 _ _, C5 (by simp), j6 _ _, trivial⟩
    simp only [S1, simprocAttr, KNB] <;> (try and_intros) <;> (try assumption) <;> (try trivial) <;> (try omega)
  rcases Nat.lt_or_ge m 4 with hlt | hge
  · have m0 : (0 : Int) ≤ (m : Int) := by omega
    have m4 : (m : Int) < 4 := by omega
    repeat' (first | ((repeat ((fail_if_success (refine hK _ ?_)); clear hK K)); refine hK _ ?_; clear hK K) | ((first | refine d8 fun K1 p7 => ?_ | refine d6 fun K1 p7 => ?_ | refine b5 fun A B hA hB => ?_); simp only [S1, simprocAttr, B7, m4, List.length_map]; first | refine p7 _ ?_; clear p7 K1 | ((first | refine hA ?_ | refine hB ?_); clear hA hB A B) | (refine g8 (v := ?_) (fun hg p8 => ?_) ?_; rotate_left; (focus (try ((try simp only [BN] at hg); simp only [S1, simprocAttr, B7, m4, List.length_map, hg] at p8 ⊢)); first | exact p8); refine p7 _ ?_; clear p7 K1) | (((first | (refine ⟨fun hg => hA ?_, fun hg => hB ?_⟩ <;> clear hA hB A B) | refine ⟨fun hg => ?_, fun hg => ?_⟩) <;> (try simp only [BN2] at hg) <;> (try simp only [hg, cndB])) <;> (try (refine p7 _ ?_; clear p7 K1)) <;> (try simp only [BN3] at hg))) | refine b6 fun K hK => ?_ | ((first | apply c8 | apply b8 | apply a9 | refine d5 ?_ | apply b7 | apply c9 | apply d4 | apply d7); try simp only [NB, simprocAttr]))
    refine s5 ns.length 87 (fun j => [(42, .i j), (41, .i ns.length), (40, .p (.sl (ns.map eN))), (8, .b ((ns.take j).any fun k => k.kind == 8 && k.a == m)), (7, .i m), (5, .ptr (h.length + 2) 0 0), (3, .ptr (h.length + 1) 0 0), (2, .ptr h.length 0 0)])
      (fun j => [some ⟨0, D1 ns fl⟩, some ⟨0, S.map AV.i⟩, gmB ns fl S (h.length + 3) (l0 ++ r7 ns S m), spB (l0 ++ r7 ns S m)]) (fun j => True) ?_ trivial fun j hj hp K hK => ?_
    · refine ⟨rfl, ⟨[], by simp only [List.append_nil]⟩, ?_, ⟨trivial, trivial, trivial⟩, j6 _ _, C5 (by simp), j6 _ _, trivial⟩
      simp only [List.take_zero, List.any_nil]
      simp only [S1, simprocAttr, KNB] <;> (try and_intros) <;> (try assumption) <;> (try trivial) <;> (try omega)
    rcases Nat.lt_or_ge j ns.length with hltj | hgej
    · obtain ⟨k, hx⟩ : ∃ k, ns[j]? = some k := ⟨_, List.getElem?_eq_getElem hltj⟩
      have hat := sj (p := fun k : Nd => k.kind == 8 && k.a == (m : Int)) hx
      generalize (ns.take j).any (fun k : Nd => k.kind == 8 && k.a == (m : Int)) = u at *
      have kh : ∀ v : Bool, (ns.take (j + 1)).any (fun k : Nd => k.kind == 8 && k.a == (m : Int)) = v → (u || (k.kind == 8 && k.a == (m : Int))) = v := fun v e => by rw [← hat]; exact e
      cases u with
      | true =>
        have hat' : (ns.take (j + 1)).any (fun k : Nd => k.kind == 8 && k.a == (m : Int)) = true := by rw [hat]; rfl
        repeat' (first | ((repeat ((fail_if_success (refine hK _ ?_)); clear hK K)); refine hK _ ?_; clear hK K) | ((first | refine d8 fun K1 p7 => ?_ | refine d6 fun K1 p7 => ?_ | refine b5 fun A B hA hB => ?_); simp only [S1, simprocAttr, B7, B8 hx, I9 hltj, A9 nk.n hltj, eN]; first | refine p7 _ ?_; clear p7 K1 | ((first | refine hA ?_ | refine hB ?_); clear hA hB A B) | (refine g8 (v := ?_) (fun hg p8 => ?_) ?_; rotate_left; (focus (try ((try simp only [BN] at hg); simp only [S1, simprocAttr, B7, B8 hx, I9 hltj, A9 nk.n hltj, eN, hg] at p8 ⊢)); first | exact p8); refine p7 _ ?_; clear p7 K1) | (((first | (refine ⟨fun hg => hA ?_, fun hg => hB ?_⟩ <;> clear hA hB A B) | refine ⟨fun hg => ?_, fun hg => ?_⟩) <;> (try simp only [BN2] at hg) <;> (try simp only [hg, cndB])) <;> (try (refine p7 _ ?_; clear p7 K1)) <;> (try simp only [BN3] at hg))) | refine b6 fun K hK => ?_ | ((first | apply c8 | apply b8 | apply a9 | refine d5 ?_ | apply b7 | apply c9 | apply d4 | apply d7); try simp only [NB, simprocAttr]))
        all_goals refine ⟨hltj, trivial, ?_⟩
        all_goals simp only [hat']
        all_goals refine ⟨rfl, ⟨_, rfl⟩, ?_, ⟨trivial, trivial, trivial⟩, j6 _ _, C5 (by simp), j6 _ _, trivial⟩
        all_goals simp only [S1, simprocAttr, KNB] <;> (try and_intros) <;> (try assumption) <;> (try trivial) <;> (try omega)
      | false =>
      cases e8 : (k.kind == 8) with
      | false =>
        have hat' : (ns.take (j + 1)).any (fun k : Nd => k.kind == 8 && k.a == (m : Int)) = false := by rw [hat, e8]; rfl
        repeat' (first | ((repeat ((fail_if_success (refine hK _ ?_)); clear hK K)); refine hK _ ?_; clear hK K) | ((first | refine d8 fun K1 p7 => ?_ | refine d6 fun K1 p7 => ?_ | refine b5 fun A B hA hB => ?_); simp only [S1, simprocAttr, B7, B8 hx, I9 hltj, A9 nk.n hltj, eN, e8]; first | refine p7 _ ?_; clear p7 K1 | ((first | refine hA ?_ | refine hB ?_); clear hA hB A B) | (refine g8 (v := ?_) (fun hg p8 => ?_) ?_; rotate_left; (focus (try ((try simp only [BN] at hg); simp only [S1, simprocAttr, B7, B8 hx, I9 hltj, A9 nk.n hltj, eN, e8, hg] at p8 ⊢)); first | exact p8); refine p7 _ ?_; clear p7 K1) | (((first | (refine ⟨fun hg => hA ?_, fun hg => hB ?_⟩ <;> clear hA hB A B) | refine ⟨fun hg => ?_, fun hg => ?_⟩) <;> (try simp only [BN2] at hg) <;> (try simp only [hg, cndB])) <;> (try (refine p7 _ ?_; clear p7 K1)) <;> (try simp only [BN3] at hg))) | refine b6 fun K hK => ?_ | ((first | apply c8 | apply b8 | apply a9 | refine d5 ?_ | apply b7 | apply c9 | apply d4 | apply d7); try simp only [NB, simprocAttr]))
        all_goals refine ⟨hltj, trivial, ?_⟩
        all_goals simp only [hat']
        all_goals refine ⟨rfl, ⟨_, rfl⟩, ?_, ⟨trivial, trivial, trivial⟩, j6 _ _, C5 (by simp), j6 _ _, trivial⟩
        all_goals simp only [S1, simprocAttr, KNB] <;> (try and_intros) <;> (try assumption) <;> (try trivial) <;> (try omega)
      | true =>
      cases em : (k.a == (m : Int)) with
      | false =>
        have hat' : (ns.take (j + 1)).any (fun k : Nd => k.kind == 8 && k.a == (m : Int)) = false := by rw [hat, e8, em]; rfl
        repeat' (first | ((repeat ((fail_if_success (refine hK _ ?_)); clear hK K)); refine hK _ ?_; clear hK K) | ((first | refine d8 fun K1 p7 => ?_ | refine d6 fun K1 p7 => ?_ | refine b5 fun A B hA hB => ?_); simp only [S1, simprocAttr, B7, B8 hx, I9 hltj, A9 nk.n hltj, eN, e8, em]; first | refine p7 _ ?_; clear p7 K1 | ((first | refine hA ?_ | refine hB ?_); clear hA hB A B) | (refine g8 (v := ?_) (fun hg p8 => ?_) ?_; rotate_left; (focus (try ((try simp only [BN] at hg); simp only [S1, simprocAttr, B7, B8 hx, I9 hltj, A9 nk.n hltj, eN, e8, em, hg] at p8 ⊢)); first | exact p8); refine p7 _ ?_; clear p7 K1) | (((first | (refine ⟨fun hg => hA ?_, fun hg => hB ?_⟩ <;> clear hA hB A B) | refine ⟨fun hg => ?_, fun hg => ?_⟩) <;> (try simp only [BN2] at hg) <;> (try simp only [hg, cndB])) <;> (try (refine p7 _ ?_; clear p7 K1)) <;> (try simp only [BN3] at hg))) | refine b6 fun K hK => ?_ | ((first | apply c8 | apply b8 | apply a9 | refine d5 ?_ | apply b7 | apply c9 | apply d4 | apply d7); try simp only [NB, simprocAttr]))
        all_goals refine ⟨hltj, trivial, ?_⟩
        all_goals simp only [hat']
        all_goals refine ⟨rfl, ⟨_, rfl⟩, ?_, ⟨trivial, trivial, trivial⟩, j6 _ _, C5 (by simp), j6 _ _, trivial⟩
        all_goals simp only [S1, simprocAttr, KNB] <;> (try and_intros) <;> (try assumption) <;> (try trivial) <;> (try omega)
      | true =>
        have hat' : (ns.take (j + 1)).any (fun k : Nd => k.kind == 8 && k.a == (m : Int)) = true := by rw [hat, e8, em]; rfl
        repeat' (first | ((repeat ((fail_if_success (refine hK _ ?_)); clear hK K)); refine hK _ ?_; clear hK K) | ((first | refine d8 fun K1 p7 => ?_ | refine d6 fun K1 p7 => ?_ | refine b5 fun A B hA hB => ?_); simp only [S1, simprocAttr, B7, B8 hx, I9 hltj, A9 nk.n hltj, eN, e8, em]; first | refine p7 _ ?_; clear p7 K1 | ((first | refine hA ?_ | refine hB ?_); clear hA hB A B) | (refine g8 (v := ?_) (fun hg p8 => ?_) ?_; rotate_left; (focus (try ((try simp only [BN] at hg); simp only [S1, simprocAttr, B7, B8 hx, I9 hltj, A9 nk.n hltj, eN, e8, em, hg] at p8 ⊢)); first | exact p8); refine p7 _ ?_; clear p7 K1) | (((first | (refine ⟨fun hg => hA ?_, fun hg => hB ?_⟩ <;> clear hA hB A B) | refine ⟨fun hg => ?_, fun hg => ?_⟩) <;> (try simp only [BN2] at hg) <;> (try simp only [hg, cndB])) <;> (try (refine p7 _ ?_; clear p7 K1)) <;> (try simp only [BN3] at hg))) | refine b6 fun K hK => ?_ | ((first | apply c8 | apply b8 | apply a9 | refine d5 ?_ | apply b7 | apply c9 | apply d4 | apply d7); try simp only [NB, simprocAttr]))
        all_goals refine ⟨hltj, trivial, ?_⟩
        all_goals simp only [hat']
        all_goals refine ⟨rfl, ⟨_, rfl⟩, ?_, ⟨trivial, trivial, trivial⟩, j6 _ _, C5 (by simp), j6 _ _, trivial⟩
        all_goals simp only [S1, simprocAttr, KNB] <;> (try and_intros) <;> (try assumption) <;> (try trivial) <;> (try omega)
    obtain rfl : j = ns.length := by omega
    have eaw : ((ns.take ns.length).any fun k : Nd => k.kind == 8 && k.a == (m : Int)) = bD ns m := by rw [List.take_length]; rfl
    simp only [eaw]
    obtain ⟨hq, q0, q3⟩ := st.q hlt
    have es : r7 ns S (m + 1) = r7 ns S m ++ J3 ns S m := rfl
    cases ew : bD ns m with
    | false =>
      have hs : J3 ns S m = [] := by unfold J3; rw [if_neg (by simp [ew])]
      repeat' (first | ((repeat ((fail_if_success (refine hK _ ?_)); clear hK K)); refine hK _ ?_; clear hK K) | ((first | refine d8 fun K1 p7 => ?_ | refine d6 fun K1 p7 => ?_ | refine b5 fun A B hA hB => ?_); simp only [S1, simprocAttr, B7, T5, A8 (n := 4) (by omega) hlt]; first | refine p7 _ ?_; clear p7 K1 | ((first | refine hA ?_ | refine hB ?_); clear hA hB A B) | (refine g8 (v := ?_) (fun hg p8 => ?_) ?_; rotate_left; (focus (try ((try simp only [BN] at hg); simp only [S1, simprocAttr, B7, T5, A8 (n := 4) (by omega) hlt, hg] at p8 ⊢)); first | exact p8); refine p7 _ ?_; clear p7 K1) | (((first | (refine ⟨fun hg => hA ?_, fun hg => hB ?_⟩ <;> clear hA hB A B) | refine ⟨fun hg => ?_, fun hg => ?_⟩) <;> (try simp only [BN2] at hg) <;> (try simp only [hg, cndB])) <;> (try (refine p7 _ ?_; clear p7 K1)) <;> (try simp only [BN3] at hg))) | refine b6 fun K hK => ?_ | ((first | apply c8 | apply b8 | apply a9 | refine d5 ?_ | apply b7 | apply c9 | apply d4 | apply d7); try simp only [NB, simprocAttr]))
      all_goals refine ⟨hlt, trivial, ?_⟩
      all_goals simp only [es, hs, List.append_nil]
      all_goals refine ⟨rfl, ⟨_, rfl⟩, ?_, ⟨trivial, trivial, trivial⟩, j6 _ _, C5 (by simp), j6 _ _, trivial⟩
      all_goals simp only [S1, simprocAttr, KNB] <;> (try and_intros) <;> (try assumption) <;> (try trivial) <;> (try omega)
    | true =>
      have dr := J1 hq
      by_cases h3 : qAt S (m : Int) < 3
      · have h3' : decide (qAt S (m : Int) < 3) = true := decide_eq_true h3
        have hs : J3 ns S m = p9 S ⟨-1, m, 5, 0, m, S.set (44 + m) (qAt S m + 1)⟩ [] [] := by unfold J3; rw [if_pos ⟨ew, h3⟩]
        generalize qAt S (m : Int) = q at *
        have hw : IntKind.i64.wrap (q + 1) = q + 1 := IntWalk.i64_in _ (by omega)
        have hov := n9 (cs := S.map AV.i) (n := 49) (by rw [List.length_map, hS])
        have hS2 : (S.set (44 + m) (q + 1)).length = 49 := by rw [List.length_set, hS]
        have htk : ((S.set (44 + m) (q + 1)).map AV.i).take 49 = (S.set (44 + m) (q + 1)).map AV.i := List.take_of_length_le (by rw [List.length_map, hS2]; exact Nat.le_refl _)
        have htl := F6 hS2
        have hset := F0 S (44 + m) (q + 1)
        have h49 : 44 + m + 1 ≤ 49 := by omega
        have hadd : ∀ L : Heap, f9 Tryz.prog gW 28 [.ptr (h.length + 2) 0 0, aSp ⟨-1, m, 5, 0, m, S.set (44 + m) (q + 1)⟩, .p .nils, .p .nils] (h ++ (some ⟨0, D1 ns fl⟩ :: some ⟨0, S.map AV.i⟩ :: gmB ns fl S (h.length + 3) (l0 ++ r7 ns S m) :: spB (l0 ++ r7 ns S m) :: L))
            (fun r h' => r = .undef ∧ h' = h ++ (some ⟨0, D1 ns fl⟩ :: some ⟨0, S.map AV.i⟩ :: gmB ns fl S (h.length + 3) (l0 ++ r7 ns S m ++ J3 ns S m) :: spB (l0 ++ r7 ns S m ++ J3 ns S m) :: L)) := by
          intro L
          have := rV (ns := ns) (fl := fl) (gok _ (htm m) (by have := hlm m (by omega); omega)) ⟨-1, m, 5, 0, m, S.set (44 + m) (q + 1)⟩ hS2 L
          rw [hs]
          rwa [V8, V8] at this
        repeat' (first | ((repeat ((fail_if_success (refine hK _ ?_)); clear hK K)); refine hK _ ?_; clear hK K) | ((first | refine d8 fun K1 p7 => ?_ | refine d6 fun K1 p7 => ?_ | refine b5 fun A B hA hB => ?_); simp only [S1, simprocAttr, B7, T5, A8 (n := 4) (by omega) hlt, m0, m4, dr, h3', hw, hov, hS, hS2, htk, htl, hset, h49, t49', g9, h9, List.length_map, e9, Nat.mul_one]; first | refine p7 _ ?_; clear p7 K1 | ((first | refine hA ?_ | refine hB ?_); clear hA hB A B) | ((first | apply b9 E28 | apply c7 E28); exact (hadd _); refine p7 _ ?_; clear p7 K1) | (refine g8 (v := ?_) (fun hg p8 => ?_) ?_; rotate_left; (focus (try ((try simp only [BN] at hg); simp only [S1, simprocAttr, B7, T5, A8 (n := 4) (by omega) hlt, m0, m4, dr, h3', hw, hov, hS, hS2, htk, htl, hset, h49, t49', g9, h9, List.length_map, e9, Nat.mul_one, hg] at p8 ⊢)); first | exact p8 | ((first | apply b9 E28 | apply c7 E28); exact (hadd _); exact p8)); refine p7 _ ?_; clear p7 K1) | (((first | (refine ⟨fun hg => hA ?_, fun hg => hB ?_⟩ <;> clear hA hB A B) | refine ⟨fun hg => ?_, fun hg => ?_⟩) <;> (try simp only [BN2] at hg) <;> (try simp only [hg, cndB])) <;> (try (refine p7 _ ?_; clear p7 K1)) <;> (try simp only [BN3] at hg))) | refine b6 fun K hK => ?_ | ((first | apply c8 | apply b8 | apply a9 | refine d5 ?_ | apply b7 | apply c9 | apply d4 | apply d7); try simp only [NB, simprocAttr]))
        all_goals refine ⟨hlt, trivial, ?_⟩
        all_goals simp only [es, ← List.append_assoc]
        all_goals refine ⟨rfl, ⟨_, by simp only [List.append_assoc, List.cons_append, List.nil_append]; rfl⟩, ?_, ⟨trivial, trivial, trivial⟩, j6 _ _, C5 (by simp), j6 _ _, trivial⟩
        all_goals simp only [S1, simprocAttr, KNB] <;> (try and_intros) <;> (try assumption) <;> (try trivial) <;> (try omega)
      · have h3' : decide (qAt S (m : Int) < 3) = false := decide_eq_false h3
        have hs : J3 ns S m = [] := by unfold J3; rw [if_neg (by simp [h3])]
        repeat' (first | ((repeat ((fail_if_success (refine hK _ ?_)); clear hK K)); refine hK _ ?_; clear hK K) | ((first | refine d8 fun K1 p7 => ?_ | refine d6 fun K1 p7 => ?_ | refine b5 fun A B hA hB => ?_); simp only [S1, simprocAttr, B7, T5, A8 (n := 4) (by omega) hlt, m0, m4, dr, h3', g9, h9, List.length_map, Nat.mul_one]; first | refine p7 _ ?_; clear p7 K1 | ((first | refine hA ?_ | refine hB ?_); clear hA hB A B) | (refine g8 (v := ?_) (fun hg p8 => ?_) ?_; rotate_left; (focus (try ((try simp only [BN] at hg); simp only [S1, simprocAttr, B7, T5, A8 (n := 4) (by omega) hlt, m0, m4, dr, h3', g9, h9, List.length_map, Nat.mul_one, hg] at p8 ⊢)); first | exact p8); refine p7 _ ?_; clear p7 K1) | (((first | (refine ⟨fun hg => hA ?_, fun hg => hB ?_⟩ <;> clear hA hB A B) | refine ⟨fun hg => ?_, fun hg => ?_⟩) <;> (try simp only [BN2] at hg) <;> (try simp only [hg, cndB])) <;> (try (refine p7 _ ?_; clear p7 K1)) <;> (try simp only [BN3] at hg))) | refine b6 fun K hK => ?_ | ((first | apply c8 | apply b8 | apply a9 | refine d5 ?_ | apply b7 | apply c9 | apply d4 | apply d7); try simp only [NB, simprocAttr]))
        all_goals refine ⟨hlt, trivial, ?_⟩
        all_goals simp only [es, hs, List.append_nil]
        all_goals refine ⟨rfl, ⟨_, rfl⟩, ?_, ⟨trivial, trivial, trivial⟩, j6 _ _, C5 (by simp), j6 _ _, trivial⟩
        all_goals simp only [S1, simprocAttr, KNB] <;> (try and_intros) <;> (try assumption) <;> (try trivial) <;> (try omega)
  obtain rfl : m = 4 := by omega
  have hz := htm 4
  have hrf := Z9 (ns := ns) (fl := fl) (lb := h.length + 3) (n := (l0 ++ r7 ns S 4).length) hS
  rw [List.length_append] at hrf
  repeat' (first | ((repeat ((fail_if_success (refine hK _ ?_)); clear hK K)); refine hK _ ?_; clear hK K) | ((first | refine d8 fun K1 p7 => ?_ | refine d6 fun K1 p7 => ?_ | refine b5 fun A B hA hB => ?_); simp only [S1, simprocAttr, B7, gmB, hrf]; first | refine p7 _ ?_; clear p7 K1 | ((first | refine hA ?_ | refine hB ?_); clear hA hB A B) | (refine g8 (v := ?_) (fun hg p8 => ?_) ?_; rotate_left; (focus (try ((try simp only [BN] at hg); simp only [S1, simprocAttr, B7, gmB, hrf, hg] at p8 ⊢)); first | exact p8); refine p7 _ ?_; clear p7 K1) | (((first | (refine ⟨fun hg => hA ?_, fun hg => hB ?_⟩ <;> clear hA hB A B) | refine ⟨fun hg => ?_, fun hg => ?_⟩) <;> (try simp only [BN2] at hg) <;> (try simp only [hg, cndB])) <;> (try (refine p7 _ ?_; clear p7 K1)) <;> (try simp only [BN3] at hg))) | refine b6 fun K hK => ?_ | ((first | apply c8 | apply b8 | apply a9 | refine d5 ?_ | apply b7 | apply c9 | apply d4 | apply d7); try simp only [NB, simprocAttr]))
  rw [show oy (l0 ++ r7 ns S 4) = .p (.sl ((l0 ++ r7 ns S 4).map kN)) from congrArg (fun x => AV.p (.sl x)) (iq hz).symm]
  exact dN mG pq (.inr rfl) (l := l0 ++ r7 ns S 4) (List.length_append).symm rfl (by simp only [spB, si hz, t4, q7, List.getElem?_cons_succ, List.getElem?_cons_zero, List.length_append, if_true]) (by omega) (by simp) (by simp) rfl
end
section
def Y2 := And.intro T2 (And.intro T3 (And.intro T4 (And.intro T22 (And.intro T23 (And.intro T25 (And.intro T26 (And.intro T27 (And.intro T29 (And.intro T34 (And.intro T53 (And.intro T70 T73)))))))))))
attribute [local irreducible] awp q9 m7 n7 r5 q8
variable {G : Nat → Option (List PV)}
def okH (l : List Int) : Bool := l.all fun x => !(decide (x < 0) || decide (3 < x))
theorem sk {l : List Int} {i : Nat} {x : Int} (h : l[i]? = some x) : okH (l.take (i + 1)) = (okH (l.take i) && !(decide (x < 0) || decide (3 < x))) := by
  unfold okH
  rw [List.take_add_one, h, List.all_append]; simp
theorem sm {l : List Int} {i : Nat} {x : Int} (h : l[i]? = some x) (hx : (decide (x < 0) || decide (3 < x)) = true) : okH l = false := by
  unfold okH
  rw [List.all_eq_false]
  exact ⟨x, List.mem_of_getElem? h, by rw [hx]; decide⟩
theorem ir {h : Heap} {b g off n : Nat} {S : List Int} (hb : h[b]? = some (some ⟨g, S.map AV.i⟩)) (hn : off + n ≤ S.length) (h1 : n ≤ 100) :
    f9 Tryz.prog G 23 [.ref b g off 1 n] h (fun r h' => r = .b (okH ((S.drop off).take n)) ∧ h' = h) := by
  have hlt : b < h.length := (List.getElem?_eq_some_iff.mp hb).1
  refine d9 (rl := []) i6 Tryz.func23 rfl (rs := [.tmp 2]) rfl Tryz.ntmps23 (by simp) ?_
  repeat' (first | ((repeat ((fail_if_success (refine hK _ ?_)); clear hK K)); refine hK _ ?_; clear hK K) | ((first | refine d8 fun K1 p7 => ?_ | refine d6 fun K1 p7 => ?_ | refine b5 fun A B hA hB => ?_); simp only [S1, simprocAttr, Y2]; first | refine p7 _ ?_; clear p7 K1 | ((first | refine hA ?_ | refine hB ?_); clear hA hB A B) | (refine g8 (v := ?_) (fun hg p8 => ?_) ?_; rotate_left; (focus (try ((try simp only [BN] at hg); simp only [S1, simprocAttr, Y2, hg] at p8 ⊢)); first | exact p8); refine p7 _ ?_; clear p7 K1) | (((first | (refine ⟨fun hg => hA ?_, fun hg => hB ?_⟩ <;> clear hA hB A B) | refine ⟨fun hg => ?_, fun hg => ?_⟩) <;> (try simp only [BN2] at hg) <;> (try simp only [hg, cndB])) <;> (try (refine p7 _ ?_; clear p7 K1)) <;> (try simp only [BN3] at hg))) | refine b6 fun K hK => ?_ | ((first | apply c8 | apply b8 | apply a9 | refine d5 ?_ | apply b7 | apply c9 | apply d4 | apply d7); try simp only [NB, simprocAttr]))
  refine s5 n 18 (fun i => [(7, .i i), (6, .i n), (5, .ref b g off 1 n)]) (fun i => []) (fun i => okH (((S.drop off).take n).take i) = true) ?_ rfl fun i hi hp K hK => ?_
  · refine ⟨rfl, ⟨[], by simp only [List.append_nil]⟩, ?_, trivial⟩
    simp only [S1, simprocAttr, KNB] <;> (try and_intros) <;> (try assumption) <;> (try trivial) <;> (try omega)
  rcases Nat.lt_or_ge i n with hlti | hge
  · have hx0 : S[off + i]? = some (S.getD (off + i) 0) := by rw [List.getD_eq_getElem?_getD, List.getElem?_eq_getElem (by omega)]; rfl
    generalize S.getD (off + i) 0 = x at *
    have hx : ((S.drop off).take n)[i]? = some x := by rw [List.getElem?_take_of_lt hlti, List.getElem?_drop]; exact hx0
    have dr := J1 hx0
    have hst := sk hx
    have i0 : (0 : Int) ≤ (i : Int) := by omega
    have hlt' : (i : Int) < (n : Int) := by omega
    cases f1 : decide (x < 0) with
    | true =>
      have ho := sm hx (by rw [f1]; rfl)
      rw [ho]
      repeat' (first | ((repeat ((fail_if_success (refine hK _ ?_)); clear hK K)); refine hK _ ?_; clear hK K) | ((first | refine d8 fun K1 p7 => ?_ | refine d6 fun K1 p7 => ?_ | refine b5 fun A B hA hB => ?_); simp only [S1, simprocAttr, Y2, hb, hlt', i0, dr, f1, Nat.mul_one]; first | refine p7 _ ?_; clear p7 K1 | ((first | refine hA ?_ | refine hB ?_); clear hA hB A B) | (refine g8 (v := ?_) (fun hg p8 => ?_) ?_; rotate_left; (focus (try ((try simp only [BN] at hg); simp only [S1, simprocAttr, Y2, hb, hlt', i0, dr, f1, Nat.mul_one, hg] at p8 ⊢)); first | exact p8); refine p7 _ ?_; clear p7 K1) | (((first | (refine ⟨fun hg => hA ?_, fun hg => hB ?_⟩ <;> clear hA hB A B) | refine ⟨fun hg => ?_, fun hg => ?_⟩) <;> (try simp only [BN2] at hg) <;> (try simp only [hg, cndB])) <;> (try (refine p7 _ ?_; clear p7 K1)) <;> (try simp only [BN3] at hg))) | refine b6 fun K hK => ?_ | ((first | apply c8 | apply b8 | apply a9 | refine d5 ?_ | apply b7 | apply c9 | apply d4 | apply d7); try simp only [NB, simprocAttr]))
      all_goals simp only [S1, simprocAttr, ENB, Y2]
    | false =>
    cases f2 : decide (3 < x) with
    | true =>
      have ho := sm hx (by rw [f1, f2]; rfl)
      rw [ho]
      repeat' (first | ((repeat ((fail_if_success (refine hK _ ?_)); clear hK K)); refine hK _ ?_; clear hK K) | ((first | refine d8 fun K1 p7 => ?_ | refine d6 fun K1 p7 => ?_ | refine b5 fun A B hA hB => ?_); simp only [S1, simprocAttr, Y2, hb, hlt', i0, dr, f1, f2, Nat.mul_one]; first | refine p7 _ ?_; clear p7 K1 | ((first | refine hA ?_ | refine hB ?_); clear hA hB A B) | (refine g8 (v := ?_) (fun hg p8 => ?_) ?_; rotate_left; (focus (try ((try simp only [BN] at hg); simp only [S1, simprocAttr, Y2, hb, hlt', i0, dr, f1, f2, Nat.mul_one, hg] at p8 ⊢)); first | exact p8); refine p7 _ ?_; clear p7 K1) | (((first | (refine ⟨fun hg => hA ?_, fun hg => hB ?_⟩ <;> clear hA hB A B) | refine ⟨fun hg => ?_, fun hg => ?_⟩) <;> (try simp only [BN2] at hg) <;> (try simp only [hg, cndB])) <;> (try (refine p7 _ ?_; clear p7 K1)) <;> (try simp only [BN3] at hg))) | refine b6 fun K hK => ?_ | ((first | apply c8 | apply b8 | apply a9 | refine d5 ?_ | apply b7 | apply c9 | apply d4 | apply d7); try simp only [NB, simprocAttr]))
      all_goals simp only [S1, simprocAttr, ENB, Y2]
    | false =>
      rw [hp, f1, f2] at hst
      repeat' (first | ((repeat ((fail_if_success (refine hK _ ?_)); clear hK K)); refine hK _ ?_; clear hK K) | ((first | refine d8 fun K1 p7 => ?_ | refine d6 fun K1 p7 => ?_ | refine b5 fun A B hA hB => ?_); simp only [S1, simprocAttr, Y2, hb, hlt', A8 (n := n) (by omega) hlti, i0, dr, f1, f2, Nat.mul_one]; first | refine p7 _ ?_; clear p7 K1 | ((first | refine hA ?_ | refine hB ?_); clear hA hB A B) | (refine g8 (v := ?_) (fun hg p8 => ?_) ?_; rotate_left; (focus (try ((try simp only [BN] at hg); simp only [S1, simprocAttr, Y2, hb, hlt', A8 (n := n) (by omega) hlti, i0, dr, f1, f2, Nat.mul_one, hg] at p8 ⊢)); first | exact p8); refine p7 _ ?_; clear p7 K1) | (((first | (refine ⟨fun hg => hA ?_, fun hg => hB ?_⟩ <;> clear hA hB A B) | refine ⟨fun hg => ?_, fun hg => ?_⟩) <;> (try simp only [BN2] at hg) <;> (try simp only [hg, cndB])) <;> (try (refine p7 _ ?_; clear p7 K1)) <;> (try simp only [BN3] at hg))) | refine b6 fun K hK => ?_ | ((first | apply c8 | apply b8 | apply a9 | refine d5 ?_ | apply b7 | apply c9 | apply d4 | apply d7); try simp only [NB, simprocAttr]))
      all_goals refine ⟨hlti, hst, ?_⟩
      all_goals refine ⟨rfl, ⟨[], by simp only [List.append_nil]⟩, ?_, trivial⟩
      all_goals simp only [S1, simprocAttr, KNB] <;> (try and_intros) <;> (try assumption) <;> (try trivial) <;> (try omega)
  · obtain rfl : i = n := by omega
    rw [List.take_take, Nat.min_self] at hp
    repeat' (first | ((repeat ((fail_if_success (refine hK _ ?_)); clear hK K)); refine hK _ ?_; clear hK K) | ((first | refine d8 fun K1 p7 => ?_ | refine d6 fun K1 p7 => ?_ | refine b5 fun A B hA hB => ?_); simp only [S1, simprocAttr, Y2, Int.lt_irrefl]; first | refine p7 _ ?_; clear p7 K1 | ((first | refine hA ?_ | refine hB ?_); clear hA hB A B) | (refine g8 (v := ?_) (fun hg p8 => ?_) ?_; rotate_left; (focus (try ((try simp only [BN] at hg); simp only [S1, simprocAttr, Y2, Int.lt_irrefl, hg] at p8 ⊢)); first | exact p8); refine p7 _ ?_; clear p7 K1) | (((first | (refine ⟨fun hg => hA ?_, fun hg => hB ?_⟩ <;> clear hA hB A B) | refine ⟨fun hg => ?_, fun hg => ?_⟩) <;> (try simp only [BN2] at hg) <;> (try simp only [hg, cndB])) <;> (try (refine p7 _ ?_; clear p7 K1)) <;> (try simp only [BN3] at hg))) | refine b6 fun K hK => ?_ | ((first | apply c8 | apply b8 | apply a9 | refine d5 ?_ | apply b7 | apply c9 | apply d4 | apply d7); try simp only [NB, simprocAttr]))
    all_goals simp only [S1, simprocAttr, ENB, Y2]
    all_goals rw [hp]
end
section
attribute [local irreducible] awp q9 m7 n7 r5 q8
def L5 (S : List Int) (j : Nat) : List Int := List.replicate j 0 ++ (S.take 40).drop j
theorem bI {S : List Int} (hS : S.length = 49) {j : Nat} (hj : j ≤ 40) : (L5 S j).length = 40 := by simp [L5, hS]; omega
theorem qD {S : List Int} (hS : S.length = 49) {j : Nat} (hj : j < 40) : (L5 S j).set j 0 = L5 S (j + 1) := by
  have hl : j < (S.take 40).length := by rw [List.length_take]; omega
  unfold L5
  rw [List.set_append_right _ _ (by simp), List.length_replicate, Nat.sub_self, List.drop_eq_getElem_cons hl, List.set_cons_zero, List.replicate_succ', List.append_assoc]; rfl
theorem eqI : ∀ {S T : List Int}, S.length = T.length → u7 true (S.map AV.i) (T.map AV.i) = some (S == T)
  | [], [], _ => rfl
  | x :: r, [], h => by cases h
  | [], y :: q, h => by cases h
  | x :: r, y :: q, h => by
    have := eqI (S := r) (T := q) (by simpa using h)
    simp only [List.map_cons, u7, this]
    rfl
theorem sn {S : List Int} {n : Nat} (hS : S.length = 49) (hn : n ≤ 40) : (L5 S n == List.replicate 40 0) = (List.range 40).all fun i => !(decide ((n : Int) ≤ (i : Int)) && (tk S i != 0)) := by
  rw [Bool.eq_iff_iff, beq_iff_eq, List.all_eq_true]
  constructor
  · intro e i hi
    have hi := List.mem_range.mp hi
    by_cases h : n ≤ i
    · have e1 : (L5 S n)[i]? = some 0 := by rw [e, List.getElem?_replicate, if_pos hi]
      unfold L5 at e1
      rw [List.getElem?_append_right (by simpa using h), List.length_replicate, List.getElem?_drop, show n + (i - n) = i by omega, List.getElem?_take_of_lt hi, F8 hS (by omega)] at e1
      have e2 : tk S (i : Int) = 0 := Option.some.inj e1
      simp [e2]
    · have : decide ((n : Int) ≤ (i : Int)) = false := decide_eq_false (by omega)
      rw [this]; rfl
  · intro h
    apply List.ext_getElem?
    intro i
    rw [List.getElem?_replicate]
    split
    · rename_i hi
      unfold L5
      by_cases hni : n ≤ i
      · have h1 := h i (List.mem_range.mpr hi)
        have : decide ((n : Int) ≤ (i : Int)) = true := decide_eq_true (by omega)
        rw [this] at h1
        simp at h1
        rw [List.getElem?_append_right (by simpa using hni), List.length_replicate, List.getElem?_drop, show n + (i - n) = i by omega, List.getElem?_take_of_lt hi, F8 hS (by omega)]
        exact congrArg some h1
      · rw [List.getElem?_append_left (by simp; omega), List.getElem?_replicate, if_pos (by omega)]
    · exact List.getElem?_eq_none (by rw [bI hS hn]; omega)
theorem ut {n : Nat} {S : List Int} (hS : S.length = 49) (hn : n ≤ 40) : okS n S = ((L5 S n == List.replicate 40 0) && (okH (S.take 40) && (okH ((S.drop 44).take 4) && (inV (vS S) && (decide (0 ≤ mdS S) && decide (mdS S ≤ 2)))))) := by
  have a : (List.range 40).all (fun i => !dY n S i) = ((L5 S n == List.replicate 40 0) && okH (S.take 40)) := by
    rw [sn hS hn, Bool.eq_iff_iff]
    unfold okH dY
    simp only [Bool.and_eq_true, List.all_eq_true, List.mem_range, Bool.not_eq_true', Bool.or_eq_false_iff]
    constructor
    · refine fun h => ⟨fun i hi => (h i hi).2, fun x hx => ?_⟩
      obtain ⟨i, hi, e⟩ := List.mem_iff_getElem.mp hx
      rw [List.length_take] at hi
      have h1 := (h i (by omega)).1
      have e2 : tk S (i : Int) = x := by
        have := F8 hS (k := i) (by omega)
        rw [← e, List.getElem_take]
        rw [List.getElem?_eq_getElem (by omega)] at this
        exact (Option.some.inj this).symm
      rw [e2] at h1; exact h1
    · refine fun h i hi => ⟨?_, h.1 i hi⟩
      have := h.2 (tk S i) (List.mem_of_getElem? (i := i) (by rw [List.getElem?_take_of_lt hi]; exact F8 hS (by omega)))
      exact this
  have b : (List.range 4).all (fun i => !ij S i) = okH ((S.drop 44).take 4) := by
    rw [Bool.eq_iff_iff]
    unfold okH ij
    simp only [List.all_eq_true, List.mem_range, Bool.not_eq_true', Bool.or_eq_false_iff]
    constructor
    · intro h x hx
      obtain ⟨i, hi, e⟩ := List.mem_iff_getElem.mp hx
      rw [List.length_take, List.length_drop] at hi
      have h1 := h i (by omega)
      have e2 : qAt S (i : Int) = x := by
        have := F8 hS (k := 44 + i) (by omega)
        rw [← e, List.getElem_take, List.getElem_drop]
        rw [List.getElem?_eq_getElem (by omega)] at this
        exact (Option.some.inj this).symm
      rw [e2] at h1; exact h1
    · intro h i hi
      exact h (qAt S i) (List.mem_of_getElem? (i := i) (by rw [List.getElem?_take_of_lt hi, List.getElem?_drop]; exact F8 hS (by omega)))
  unfold okS
  rw [a, b]
  simp only [Bool.and_assoc]
end
section
def D0 := And.intro T2 (And.intro T3 (And.intro T4 (And.intro T22 (And.intro T23 (And.intro T25 (And.intro T26 (And.intro T27 (And.intro T29 (And.intro T34 (And.intro T53 (And.intro T70 T73)))))))))))
attribute [local irreducible] awp q9 m7 n7 r5 q8
theorem cw {ns : List Nd} {fl : List Fl} (nk : NetOk ns fl) {S : List Int} (hS : S.length = 49) (h : Heap) :
    f9 Tryz.prog gW 9 [N5 ns fl, aS S] h (fun r h' => r = .i (stC ns fl S) ∧ h' = h) := by
  have hne := U1 hS
  have hc := fun h => eV ns fl nk h
  by_cases h0 : (E5 ns fl).1 = 0
  case neg =>
    have h0' : ((E5 ns fl).1 != 0) = true := by simp [h0]
    have hst : stC ns fl S = 4 := by unfold stC; rw [if_pos h0]
    rw [hst]
    refine d9 (rl := []) i6 Tryz.func9 rfl (rs := [.tmp 4]) rfl Tryz.ntmps9 (by simp) ?_
    repeat' (first | ((repeat ((fail_if_success (refine hK _ ?_)); clear hK K)); refine hK _ ?_; clear hK K) | ((first | refine d8 fun K1 p7 => ?_ | refine d6 fun K1 p7 => ?_ | refine b5 fun A B hA hB => ?_); simp only [S1, simprocAttr, D0, List.length_map, hS, hne, e9, h0']; first | refine p7 _ ?_; clear p7 K1 | ((first | refine hA ?_ | refine hB ?_); clear hA hB A B) | ((first | apply b9 E22 | apply c7 E22); exact (hc _); refine p7 _ ?_; clear p7 K1) | (refine g8 (v := ?_) (fun hg p8 => ?_) ?_; rotate_left; (focus (try ((try simp only [BN] at hg); simp only [S1, simprocAttr, D0, List.length_map, hS, hne, e9, h0', hg] at p8 ⊢)); first | exact p8 | ((first | apply b9 E22 | apply c7 E22); exact (hc _); exact p8)); refine p7 _ ?_; clear p7 K1) | (((first | (refine ⟨fun hg => hA ?_, fun hg => hB ?_⟩ <;> clear hA hB A B) | refine ⟨fun hg => ?_, fun hg => ?_⟩) <;> (try simp only [BN2] at hg) <;> (try simp only [hg, cndB])) <;> (try (refine p7 _ ?_; clear p7 K1)) <;> (try simp only [BN3] at hg))) | refine b6 fun K hK => ?_ | ((first | apply c8 | apply b8 | apply a9 | refine d5 ?_ | apply b7 | apply c9 | apply d4 | apply d7); try simp only [NB, simprocAttr]))
    all_goals simp only [S1, simprocAttr, ENB, D0]
  have h0' : ((E5 ns fl).1 != 0) = false := by simp [h0]
  have rt := Right.of h0
  have hf := rt.f
  have t40 : (S.map AV.i).take 40 = (S.take 40).map AV.i := by rw [List.map_take]
  have l40 : (S.take 40).length = 40 := by rw [List.length_take, hS]; rfl
  have hov := n9 (cs := (S.take 40).map AV.i) (n := 40) (by rw [List.length_map, l40])
  refine d9 (rl := []) i6 Tryz.func9 rfl (rs := [.tmp 4]) rfl Tryz.ntmps9 (by simp) ?_
  repeat' (first | ((repeat ((fail_if_success (refine hK _ ?_)); clear hK K)); refine hK _ ?_; clear hK K) | ((first | refine d8 fun K1 p7 => ?_ | refine d6 fun K1 p7 => ?_ | refine b5 fun A B hA hB => ?_); simp only [S1, simprocAttr, D0, h0', t40, l40, hov, hne, hS, e9, g9, h9, eqA, Q26, LNB]; first | refine p7 _ ?_; clear p7 K1 | ((first | refine hA ?_ | refine hB ?_); clear hA hB A B) | ((first | apply b9 E22 | apply c7 E22); exact (hc _); refine p7 _ ?_; clear p7 K1) | (refine g8 (v := ?_) (fun hg p8 => ?_) ?_; rotate_left; (focus (try ((try simp only [BN] at hg); simp only [S1, simprocAttr, D0, h0', t40, l40, hov, hne, hS, e9, g9, h9, eqA, Q26, LNB, hg] at p8 ⊢)); first | exact p8 | ((first | apply b9 E22 | apply c7 E22); exact (hc _); exact p8)); refine p7 _ ?_; clear p7 K1) | (((first | (refine ⟨fun hg => hA ?_, fun hg => hB ?_⟩ <;> clear hA hB A B) | refine ⟨fun hg => ?_, fun hg => ?_⟩) <;> (try simp only [BN2] at hg) <;> (try simp only [hg, cndB])) <;> (try (refine p7 _ ?_; clear p7 K1)) <;> (try simp only [BN3] at hg))) | refine b6 fun K hK => ?_ | ((first | apply c8 | apply b8 | apply a9 | refine d5 ?_ | apply b7 | apply c9 | apply d4 | apply d7); try simp only [NB, simprocAttr]))
  refine s5 fl.length 58 (fun j => [(21, .i j), (20, .i fl.length), (7, .ptr (h.length + 2) 0 0), (3, .ptr (h.length + 1) 0 0), (2, .ptr h.length 0 0)])
    (fun j => [some ⟨0, D1 ns fl⟩, some ⟨0, S.map AV.i⟩, some ⟨0, (L5 S j).map AV.i⟩]) (fun j => True) ?_ trivial fun j hj hp K hK => ?_
  · have r0 : L5 S 0 = S.take 40 := rfl
    simp only [r0]
    refine ⟨rfl, ⟨[], by simp only [List.append_nil]⟩, ?_, ⟨trivial, trivial, trivial⟩, j6 _ _, j6 _ _, trivial⟩
    simp only [S1, simprocAttr, KNB] <;> (try and_intros) <;> (try assumption) <;> (try trivial) <;> (try omega)
  rcases Nat.lt_or_ge j fl.length with hlt | hge
  · have j0 : (0 : Int) ≤ (j : Int) := by omega
    have j40 : (j : Int) < 40 := by omega
    have jl : (j : Int) < (fl.length : Int) := by omega
    have hj41 : j + 1 ≤ 40 := by omega
    have rl := bI hS (j := j) (by omega)
    have rs : ((L5 S j).map AV.i).set j (.p (.int .i64 0)) = (L5 S (j + 1)).map AV.i := by rw [F0, qD hS (by omega)]
    repeat' (first | ((repeat ((fail_if_success (refine hK _ ?_)); clear hK K)); refine hK _ ?_; clear hK K) | ((first | refine d8 fun K1 p7 => ?_ | refine d6 fun K1 p7 => ?_ | refine b5 fun A B hA hB => ?_); simp only [S1, simprocAttr, D0, jl, A8 (n := fl.length) (by omega) hlt, j0, j40, hj41, rl, rs, hne, hS, e9, g9, h9, eqA, Q26, LNB]; first | refine p7 _ ?_; clear p7 K1 | ((first | refine hA ?_ | refine hB ?_); clear hA hB A B) | (refine g8 (v := ?_) (fun hg p8 => ?_) ?_; rotate_left; (focus (try ((try simp only [BN] at hg); simp only [S1, simprocAttr, D0, jl, A8 (n := fl.length) (by omega) hlt, j0, j40, hj41, rl, rs, hne, hS, e9, g9, h9, eqA, Q26, LNB, hg] at p8 ⊢)); first | exact p8); refine p7 _ ?_; clear p7 K1) | (((first | (refine ⟨fun hg => hA ?_, fun hg => hB ?_⟩ <;> clear hA hB A B) | refine ⟨fun hg => ?_, fun hg => ?_⟩) <;> (try simp only [BN2] at hg) <;> (try simp only [hg, cndB])) <;> (try (refine p7 _ ?_; clear p7 K1)) <;> (try simp only [BN3] at hg))) | refine b6 fun K hK => ?_ | ((first | apply c8 | apply b8 | apply a9 | refine d5 ?_ | apply b7 | apply c9 | apply d4 | apply d7); try simp only [NB, simprocAttr]))
    all_goals refine ⟨hlt, trivial, ?_⟩
    all_goals refine ⟨rfl, ⟨[], by simp only [List.append_nil]⟩, ?_, ⟨trivial, trivial, trivial⟩, j6 _ _, j6 _ _, trivial⟩
    all_goals simp only [S1, simprocAttr, KNB] <;> (try and_intros) <;> (try assumption) <;> (try trivial) <;> (try omega)
  obtain rfl : j = fl.length := by omega
  have hok := ut hS hf
  have hst : stC ns fl S = if okS fl.length S = true then 0 else 1 := by unfold stC; rw [if_neg (by simpa using h0)]
  rw [hok] at hst
  have hH : ∀ j, (h ++ [some ⟨0, D1 ns fl⟩, some ⟨0, S.map AV.i⟩, some ⟨0, (L5 S j).map AV.i⟩])[h.length + 1]? = some (some ⟨0, S.map AV.i⟩) := fun j => by simp [q7]
  have hh1 := ir (G := gW) (off := 0) (n := 40) (hH fl.length) (by omega) (by omega)
  have hh2 := ir (G := gW) (off := 44) (n := 4) (hH fl.length) (by omega) (by omega)
  rw [List.drop_zero] at hh1
  have hf4 := fun h => ff (G := gW) (vS S) h
  have eq0 := eqI (S := L5 S fl.length) (T := List.replicate 40 0) (by rw [bI hS hf, List.length_replicate])
  generalize (L5 S fl.length == List.replicate 40 0) = z0 at eq0 hst
  simp only [List.replicate_succ, List.replicate_zero, List.map_cons, List.map_nil] at eq0
  have rl := bI hS (j := fl.length) hf
  have ar := rW hS
  have dm := J1 (F8 hS (k := 48) (by omega))
  have emd : S.getD 48 0 = mdS S := rfl
  rw [emd] at dm
  have rtk : ((L5 S fl.length).map AV.i).take 40 = (L5 S fl.length).map AV.i := List.take_of_length_le (by rw [List.length_map, rl]; exact Nat.le_refl _)
  generalize mdS S = v at hst dm
  cases z0 with
  | false =>
    repeat' (first | ((repeat ((fail_if_success (refine hK _ ?_)); clear hK K)); refine hK _ ?_; clear hK K) | ((first | refine d8 fun K1 p7 => ?_ | refine d6 fun K1 p7 => ?_ | refine b5 fun A B hA hB => ?_); simp only [S1, simprocAttr, D0, Int.lt_irrefl, eq0, rl, rtk, ar, dm, hne, hS, e9, g9, h9, eqA, Q26, LNB]; first | refine p7 _ ?_; clear p7 K1 | ((first | refine hA ?_ | refine hB ?_); clear hA hB A B) | ((first | apply b9 E23 | apply c7 E23); exact hh1; refine p7 _ ?_; clear p7 K1) | ((first | apply b9 E23 | apply c7 E23); exact hh2; refine p7 _ ?_; clear p7 K1) | ((first | apply b9 E24 | apply c7 E24); exact (hf4 _); refine p7 _ ?_; clear p7 K1) | (refine g8 (v := ?_) (fun hg p8 => ?_) ?_; rotate_left; (focus (try ((try simp only [BN] at hg); simp only [S1, simprocAttr, D0, Int.lt_irrefl, eq0, rl, rtk, ar, dm, hne, hS, e9, g9, h9, eqA, Q26, LNB, hg] at p8 ⊢)); first | exact p8 | ((first | apply b9 E23 | apply c7 E23); exact hh1; exact p8) | ((first | apply b9 E23 | apply c7 E23); exact hh2; exact p8) | ((first | apply b9 E24 | apply c7 E24); exact (hf4 _); exact p8)); refine p7 _ ?_; clear p7 K1) | (((first | (refine ⟨fun hg => hA ?_, fun hg => hB ?_⟩ <;> clear hA hB A B) | refine ⟨fun hg => ?_, fun hg => ?_⟩) <;> (try simp only [BN2] at hg) <;> (try simp only [hg, cndB])) <;> (try (refine p7 _ ?_; clear p7 K1)) <;> (try simp only [BN3] at hg))) | refine b6 fun K hK => ?_ | ((first | apply c8 | apply b8 | apply a9 | refine d5 ?_ | apply b7 | apply c9 | apply d4 | apply d7); try simp only [NB, simprocAttr]))
    all_goals simp only [S1, simprocAttr, ENB, D0]
    all_goals rw [hst]; rfl
  | true =>
  cases f1 : okH (S.take 40) with
  | false =>
    rw [f1] at hst hh1
    repeat' (first | ((repeat ((fail_if_success (refine hK _ ?_)); clear hK K)); refine hK _ ?_; clear hK K) | ((first | refine d8 fun K1 p7 => ?_ | refine d6 fun K1 p7 => ?_ | refine b5 fun A B hA hB => ?_); simp only [S1, simprocAttr, D0, Int.lt_irrefl, eq0, rl, rtk, ar, dm, hne, hS, e9, g9, h9, eqA, Q26, LNB]; first | refine p7 _ ?_; clear p7 K1 | ((first | refine hA ?_ | refine hB ?_); clear hA hB A B) | ((first | apply b9 E23 | apply c7 E23); exact hh1; refine p7 _ ?_; clear p7 K1) | ((first | apply b9 E23 | apply c7 E23); exact hh2; refine p7 _ ?_; clear p7 K1) | ((first | apply b9 E24 | apply c7 E24); exact (hf4 _); refine p7 _ ?_; clear p7 K1) | (refine g8 (v := ?_) (fun hg p8 => ?_) ?_; rotate_left; (focus (try ((try simp only [BN] at hg); simp only [S1, simprocAttr, D0, Int.lt_irrefl, eq0, rl, rtk, ar, dm, hne, hS, e9, g9, h9, eqA, Q26, LNB, hg] at p8 ⊢)); first | exact p8 | ((first | apply b9 E23 | apply c7 E23); exact hh1; exact p8) | ((first | apply b9 E23 | apply c7 E23); exact hh2; exact p8) | ((first | apply b9 E24 | apply c7 E24); exact (hf4 _); exact p8)); refine p7 _ ?_; clear p7 K1) | (((first | (refine ⟨fun hg => hA ?_, fun hg => hB ?_⟩ <;> clear hA hB A B) | refine ⟨fun hg => ?_, fun hg => ?_⟩) <;> (try simp only [BN2] at hg) <;> (try simp only [hg, cndB])) <;> (try (refine p7 _ ?_; clear p7 K1)) <;> (try simp only [BN3] at hg))) | refine b6 fun K hK => ?_ | ((first | apply c8 | apply b8 | apply a9 | refine d5 ?_ | apply b7 | apply c9 | apply d4 | apply d7); try simp only [NB, simprocAttr]))
    all_goals simp only [S1, simprocAttr, ENB, D0]
    all_goals rw [hst]; rfl
  | true =>
  rw [f1] at hst hh1
  cases f2 : okH ((S.drop 44).take 4) with
  | false =>
    rw [f2] at hst hh2
    repeat' (first | ((repeat ((fail_if_success (refine hK _ ?_)); clear hK K)); refine hK _ ?_; clear hK K) | ((first | refine d8 fun K1 p7 => ?_ | refine d6 fun K1 p7 => ?_ | refine b5 fun A B hA hB => ?_); simp only [S1, simprocAttr, D0, Int.lt_irrefl, eq0, rl, rtk, ar, dm, hne, hS, e9, g9, h9, eqA, Q26, LNB]; first | refine p7 _ ?_; clear p7 K1 | ((first | refine hA ?_ | refine hB ?_); clear hA hB A B) | ((first | apply b9 E23 | apply c7 E23); exact hh1; refine p7 _ ?_; clear p7 K1) | ((first | apply b9 E23 | apply c7 E23); exact hh2; refine p7 _ ?_; clear p7 K1) | ((first | apply b9 E24 | apply c7 E24); exact (hf4 _); refine p7 _ ?_; clear p7 K1) | (refine g8 (v := ?_) (fun hg p8 => ?_) ?_; rotate_left; (focus (try ((try simp only [BN] at hg); simp only [S1, simprocAttr, D0, Int.lt_irrefl, eq0, rl, rtk, ar, dm, hne, hS, e9, g9, h9, eqA, Q26, LNB, hg] at p8 ⊢)); first | exact p8 | ((first | apply b9 E23 | apply c7 E23); exact hh1; exact p8) | ((first | apply b9 E23 | apply c7 E23); exact hh2; exact p8) | ((first | apply b9 E24 | apply c7 E24); exact (hf4 _); exact p8)); refine p7 _ ?_; clear p7 K1) | (((first | (refine ⟨fun hg => hA ?_, fun hg => hB ?_⟩ <;> clear hA hB A B) | refine ⟨fun hg => ?_, fun hg => ?_⟩) <;> (try simp only [BN2] at hg) <;> (try simp only [hg, cndB])) <;> (try (refine p7 _ ?_; clear p7 K1)) <;> (try simp only [BN3] at hg))) | refine b6 fun K hK => ?_ | ((first | apply c8 | apply b8 | apply a9 | refine d5 ?_ | apply b7 | apply c9 | apply d4 | apply d7); try simp only [NB, simprocAttr]))
    all_goals simp only [S1, simprocAttr, ENB, D0]
    all_goals rw [hst]; rfl
  | true =>
  rw [f2] at hst hh2
  cases f3 : inV (vS S) with
  | false =>
    rw [f3] at hst hf4
    repeat' (first | ((repeat ((fail_if_success (refine hK _ ?_)); clear hK K)); refine hK _ ?_; clear hK K) | ((first | refine d8 fun K1 p7 => ?_ | refine d6 fun K1 p7 => ?_ | refine b5 fun A B hA hB => ?_); simp only [S1, simprocAttr, D0, Int.lt_irrefl, eq0, rl, rtk, ar, dm, hne, hS, e9, g9, h9, eqA, Q26, LNB]; first | refine p7 _ ?_; clear p7 K1 | ((first | refine hA ?_ | refine hB ?_); clear hA hB A B) | ((first | apply b9 E23 | apply c7 E23); exact hh1; refine p7 _ ?_; clear p7 K1) | ((first | apply b9 E23 | apply c7 E23); exact hh2; refine p7 _ ?_; clear p7 K1) | ((first | apply b9 E24 | apply c7 E24); exact (hf4 _); refine p7 _ ?_; clear p7 K1) | (refine g8 (v := ?_) (fun hg p8 => ?_) ?_; rotate_left; (focus (try ((try simp only [BN] at hg); simp only [S1, simprocAttr, D0, Int.lt_irrefl, eq0, rl, rtk, ar, dm, hne, hS, e9, g9, h9, eqA, Q26, LNB, hg] at p8 ⊢)); first | exact p8 | ((first | apply b9 E23 | apply c7 E23); exact hh1; exact p8) | ((first | apply b9 E23 | apply c7 E23); exact hh2; exact p8) | ((first | apply b9 E24 | apply c7 E24); exact (hf4 _); exact p8)); refine p7 _ ?_; clear p7 K1) | (((first | (refine ⟨fun hg => hA ?_, fun hg => hB ?_⟩ <;> clear hA hB A B) | refine ⟨fun hg => ?_, fun hg => ?_⟩) <;> (try simp only [BN2] at hg) <;> (try simp only [hg, cndB])) <;> (try (refine p7 _ ?_; clear p7 K1)) <;> (try simp only [BN3] at hg))) | refine b6 fun K hK => ?_ | ((first | apply c8 | apply b8 | apply a9 | refine d5 ?_ | apply b7 | apply c9 | apply d4 | apply d7); try simp only [NB, simprocAttr]))
    all_goals simp only [S1, simprocAttr, ENB, D0]
    all_goals rw [hst]; rfl
  | true =>
  rw [f3] at hst hf4
  by_cases h1 : v < 0
  · have f4 : decide (v < 0) = true := decide_eq_true h1
    have f5 : decide (0 ≤ v) = false := decide_eq_false (by omega)
    rw [f5] at hst
    repeat' (first | ((repeat ((fail_if_success (refine hK _ ?_)); clear hK K)); refine hK _ ?_; clear hK K) | ((first | refine d8 fun K1 p7 => ?_ | refine d6 fun K1 p7 => ?_ | refine b5 fun A B hA hB => ?_); simp only [S1, simprocAttr, D0, Int.lt_irrefl, eq0, rl, rtk, ar, dm, f4, hne, hS, e9, g9, h9, eqA, Q26, LNB]; first | refine p7 _ ?_; clear p7 K1 | ((first | refine hA ?_ | refine hB ?_); clear hA hB A B) | ((first | apply b9 E23 | apply c7 E23); exact hh1; refine p7 _ ?_; clear p7 K1) | ((first | apply b9 E23 | apply c7 E23); exact hh2; refine p7 _ ?_; clear p7 K1) | ((first | apply b9 E24 | apply c7 E24); exact (hf4 _); refine p7 _ ?_; clear p7 K1) | (refine g8 (v := ?_) (fun hg p8 => ?_) ?_; rotate_left; (focus (try ((try simp only [BN] at hg); simp only [S1, simprocAttr, D0, Int.lt_irrefl, eq0, rl, rtk, ar, dm, f4, hne, hS, e9, g9, h9, eqA, Q26, LNB, hg] at p8 ⊢)); first | exact p8 | ((first | apply b9 E23 | apply c7 E23); exact hh1; exact p8) | ((first | apply b9 E23 | apply c7 E23); exact hh2; exact p8) | ((first | apply b9 E24 | apply c7 E24); exact (hf4 _); exact p8)); refine p7 _ ?_; clear p7 K1) | (((first | (refine ⟨fun hg => hA ?_, fun hg => hB ?_⟩ <;> clear hA hB A B) | refine ⟨fun hg => ?_, fun hg => ?_⟩) <;> (try simp only [BN2] at hg) <;> (try simp only [hg, cndB])) <;> (try (refine p7 _ ?_; clear p7 K1)) <;> (try simp only [BN3] at hg))) | refine b6 fun K hK => ?_ | ((first | apply c8 | apply b8 | apply a9 | refine d5 ?_ | apply b7 | apply c9 | apply d4 | apply d7); try simp only [NB, simprocAttr]))
    all_goals simp only [S1, simprocAttr, ENB, D0]
    all_goals rw [hst]; rfl
  have f4 : decide (v < 0) = false := decide_eq_false h1
  have f5 : decide (0 ≤ v) = true := decide_eq_true (by omega)
  by_cases h2 : 2 < v
  · have f6 : decide (2 < v) = true := decide_eq_true h2
    have f7 : decide (v ≤ 2) = false := decide_eq_false (by omega)
    rw [f5, f7] at hst
    repeat' (first | ((repeat ((fail_if_success (refine hK _ ?_)); clear hK K)); refine hK _ ?_; clear hK K) | ((first | refine d8 fun K1 p7 => ?_ | refine d6 fun K1 p7 => ?_ | refine b5 fun A B hA hB => ?_); simp only [S1, simprocAttr, D0, Int.lt_irrefl, eq0, rl, rtk, ar, dm, f4, f6, hne, hS, e9, g9, h9, eqA, Q26, LNB]; first | refine p7 _ ?_; clear p7 K1 | ((first | refine hA ?_ | refine hB ?_); clear hA hB A B) | ((first | apply b9 E23 | apply c7 E23); exact hh1; refine p7 _ ?_; clear p7 K1) | ((first | apply b9 E23 | apply c7 E23); exact hh2; refine p7 _ ?_; clear p7 K1) | ((first | apply b9 E24 | apply c7 E24); exact (hf4 _); refine p7 _ ?_; clear p7 K1) | (refine g8 (v := ?_) (fun hg p8 => ?_) ?_; rotate_left; (focus (try ((try simp only [BN] at hg); simp only [S1, simprocAttr, D0, Int.lt_irrefl, eq0, rl, rtk, ar, dm, f4, f6, hne, hS, e9, g9, h9, eqA, Q26, LNB, hg] at p8 ⊢)); first | exact p8 | ((first | apply b9 E23 | apply c7 E23); exact hh1; exact p8) | ((first | apply b9 E23 | apply c7 E23); exact hh2; exact p8) | ((first | apply b9 E24 | apply c7 E24); exact (hf4 _); exact p8)); refine p7 _ ?_; clear p7 K1) | (((first | (refine ⟨fun hg => hA ?_, fun hg => hB ?_⟩ <;> clear hA hB A B) | refine ⟨fun hg => ?_, fun hg => ?_⟩) <;> (try simp only [BN2] at hg) <;> (try simp only [hg, cndB])) <;> (try (refine p7 _ ?_; clear p7 K1)) <;> (try simp only [BN3] at hg))) | refine b6 fun K hK => ?_ | ((first | apply c8 | apply b8 | apply a9 | refine d5 ?_ | apply b7 | apply c9 | apply d4 | apply d7); try simp only [NB, simprocAttr]))
    all_goals simp only [S1, simprocAttr, ENB, D0]
    all_goals rw [hst]; rfl
  have f6 : decide (2 < v) = false := decide_eq_false h2
  have f7 : decide (v ≤ 2) = true := decide_eq_true (by omega)
  rw [f5, f7] at hst
  repeat' (first | ((repeat ((fail_if_success (refine hK _ ?_)); clear hK K)); refine hK _ ?_; clear hK K) | ((first | refine d8 fun K1 p7 => ?_ | refine d6 fun K1 p7 => ?_ | refine b5 fun A B hA hB => ?_); simp only [S1, simprocAttr, D0, Int.lt_irrefl, eq0, rl, rtk, ar, dm, f4, f6, hne, hS, e9, g9, h9, eqA, Q26, LNB]; first | refine p7 _ ?_; clear p7 K1 | ((first | refine hA ?_ | refine hB ?_); clear hA hB A B) | ((first | apply b9 E23 | apply c7 E23); exact hh1; refine p7 _ ?_; clear p7 K1) | ((first | apply b9 E23 | apply c7 E23); exact hh2; refine p7 _ ?_; clear p7 K1) | ((first | apply b9 E24 | apply c7 E24); exact (hf4 _); refine p7 _ ?_; clear p7 K1) | (refine g8 (v := ?_) (fun hg p8 => ?_) ?_; rotate_left; (focus (try ((try simp only [BN] at hg); simp only [S1, simprocAttr, D0, Int.lt_irrefl, eq0, rl, rtk, ar, dm, f4, f6, hne, hS, e9, g9, h9, eqA, Q26, LNB, hg] at p8 ⊢)); first | exact p8 | ((first | apply b9 E23 | apply c7 E23); exact hh1; exact p8) | ((first | apply b9 E23 | apply c7 E23); exact hh2; exact p8) | ((first | apply b9 E24 | apply c7 E24); exact (hf4 _); exact p8)); refine p7 _ ?_; clear p7 K1) | (((first | (refine ⟨fun hg => hA ?_, fun hg => hB ?_⟩ <;> clear hA hB A B) | refine ⟨fun hg => ?_, fun hg => ?_⟩) <;> (try simp only [BN2] at hg) <;> (try simp only [hg, cndB])) <;> (try (refine p7 _ ?_; clear p7 K1)) <;> (try simp only [BN3] at hg))) | refine b6 fun K hK => ?_ | ((first | apply c8 | apply b8 | apply a9 | refine d5 ?_ | apply b7 | apply c9 | apply d4 | apply d7); try simp only [NB, simprocAttr]))
  all_goals simp only [S1, simprocAttr, ENB, D0]
  all_goals rw [hst]; rfl
end
section
def tokF (S : List Int) : Int → Int := fun i => if 0 ≤ i ∧ i < 40 then tk S i else 0
def pr (t : Int → Int) : List Int := (List.range 40).map fun (i : Nat) => t (i : Int)
theorem oz {S : List Int} (hS : S.length = 49) : pr (tokF S) = S.take 40 := by
  apply List.ext_getElem?
  intro i
  unfold pr
  rw [List.getElem?_map]
  rcases Nat.lt_or_ge i 40 with hi | hi
  · rw [List.getElem?_range hi, List.getElem?_take_of_lt hi, F8 hS (by omega)]
    unfold tokF
    rw [Option.map_some, if_pos ⟨by omega, by omega⟩]; rfl
  · rw [List.getElem?_eq_none (by simpa using hi), List.getElem?_eq_none (by rw [List.length_take]; omega)]; rfl
structure RelT (S : List Int) (t : Int → Int) : Prop where
  len : S.length = 49
  eq : ∀ i : Int, 0 ≤ i → i < 40 → tk S i = t i
theorem RelT.tokF {S : List Int} (hS : S.length = 49) : RelT S (tokF S) := ⟨hS, fun i h0 h1 => by unfold AM.tokF; rw [if_pos ⟨h0, h1⟩]⟩
theorem RelT.take {S : List Int} {t : Int → Int} (h : RelT S t) : S.take 40 = pr t := by
  rw [← oz h.len]
  unfold pr
  apply List.map_congr_left
  intro i hi
  have := List.mem_range.mp hi
  unfold AM.tokF
  rw [if_pos ⟨by omega, by omega⟩, h.eq _ (by omega) (by omega)]
theorem RelT.set {S : List Int} {t : Int → Int} (h : RelT S t) {f v : Int} (h0 : 0 ≤ f) (h1 : f < 40) : RelT (S.set f.toNat v) (uA t f v) := by
  have hl := h.len
  refine ⟨by rw [List.length_set, hl], fun i i0 i1 => ?_⟩
  unfold tk uA
  rw [List.getD_eq_getElem?_getD, List.getElem?_set]
  by_cases e : i = f
  · subst e; rw [if_pos rfl, if_pos rfl, if_pos (by omega)]; rfl
  · rw [if_neg (by omega), if_neg e, ← List.getD_eq_getElem?_getD]
    exact h.eq i i0 i1
theorem Right.ar2 {ns : List Nd} {fl : List Fl} (h : Right ns fl) {i : Nat} {k : Nd} (hc : ns[i]? = some k) (h2 : k.kind = 2) : (p5 fl i).length = 1 := by
  have := h.three (List.getElem?_eq_some_iff.mp hc).1
  unfold C8 at this
  simp only [N9 hc, h2, Int.reduceEq, reduceIte, Bool.and_eq_true, beq_iff_eq] at this
  exact this.1
theorem Right.ar1 {ns : List Nd} {fl : List Fl} (h : Right ns fl) {i : Nat} {k : Nd} (hc : ns[i]? = some k) (h1 : k.kind = 1) : (p5 fl i).length = 0 ∧ (k3 fl i).length = 1 := by
  have := h.three (List.getElem?_eq_some_iff.mp hc).1
  unfold C8 at this
  simp only [N9 hc, h1, Int.reduceEq, reduceIte, Bool.and_eq_true, beq_iff_eq] at this
  exact this
theorem Right.ar11 {ns : List Nd} {fl : List Fl} (h : Right ns fl) {i : Nat} {k : Nd} (hc : ns[i]? = some k) (h3 : k.kind = 3 ∨ k.kind = 4 ∨ k.kind = 8) : (p5 fl i).length = 1 ∧ (k3 fl i).length = 1 := by
  have := h.three (List.getElem?_eq_some_iff.mp hc).1
  unfold C8 at this
  rcases h3 with h3 | h3 | h3
  all_goals simp only [N9 hc, h3, Int.reduceEq, reduceIte, Bool.and_eq_true, beq_iff_eq] at this
  all_goals exact this
theorem Right.ar7 {ns : List Nd} {fl : List Fl} (h : Right ns fl) {i : Nat} {k : Nd} (hc : ns[i]? = some k) (h7 : k.kind = 7) : (p5 fl i).length = 1 ∧ 2 ≤ (k3 fl i).length ∧ ∀ f ∈ k3 fl i, ∃ (c : Nat) (k' : Nd), V4 fl f = (c : Int) ∧ ns[c]? = some k' ∧ k'.kind = 8 := by
  have := h.three (List.getElem?_eq_some_iff.mp hc).1
  unfold C8 at this
  simp only [N9 hc, h7, Int.reduceEq, reduceIte, Bool.and_eq_true, beq_iff_eq, decide_eq_true_eq] at this
  refine ⟨this.1.1, this.1.2, fun f hf => ?_⟩
  have h0 := this.2
  unfold Z7 at h0
  rw [List.take_length, List.countP_eq_zero] at h0
  have h1 := h0 f hf
  obtain ⟨j, x, hj, rfl, hx, _⟩ := F5 hf
  unfold V1 at h1
  unfold V4
  rw [Int.toNat_natCast, hx] at h1 ⊢
  simp only [bne_iff_ne, ne_eq, Decidable.not_not] at h1
  have hi := h.isIn x (List.mem_of_getElem? hx)
  obtain ⟨d0, d1⟩ := hi.2
  obtain ⟨c, hcd⟩ := Int.eq_ofNat_of_zero_le d0
  have hlt : c < ns.length := by omega
  refine ⟨c, ns[c], hcd, List.getElem?_eq_getElem hlt, ?_⟩
  rw [hcd] at h1
  rw [← N9 (List.getElem?_eq_getElem hlt)]; exact h1
section
variable {ns : List Nd} {fl : List Fl} {S : List Int}
theorem tC {α : Type} {l : List α} (h : l.length = 1) : ∃ a, l = [a] := by
  match l, h with
  | [a], _ => exact ⟨a, rfl⟩
end
end
section
attribute [local irreducible] awp q9 m7 n7 r5 q8
section
variable {h : Heap} {b lb : Nat} {ns : List Nd} {fl : List Fl} {S : List Int} {l : List Sp}
theorem mH (nk : NetOk ns fl) (rt : Right ns fl) (ok : GmOk h b lb S l) (st : StOk S) (few : l.length ≤ 900000) (c : Nat) {k : Nd} (hc : ns[c]? = some k) :
    f9 Tryz.prog gW 39 [.ptr b 0 0, .i c] (m3 h b lb ns fl S l) (fun r h' => r = .undef ∧ h' = m3 h b lb ns fl S (l ++ o7 ns fl S c k)) := by
  have hkd := rt.kind hc
  have hS := ok.held.1
  by_cases h1 : k.kind = 1
  · exact tw nk rt ok st few c hc h1
  have hne := rt.ins hc h1
  by_cases hl1 : (p5 fl c).length = 1
  · obtain ⟨m0, hm0⟩ : ∃ m0, p5 fl c = [m0] := by
      match hq : p5 fl c, hl1 with
      | [a], _ => exact ⟨a, rfl⟩
    obtain ⟨f0, f40⟩ := (J5 rt.f c).2 m0 (by rw [hm0]; simp)
    obtain ⟨m, rfl⟩ := Int.eq_ofNat_of_zero_le f0
    have m40 : m < 40 := by omega
    by_cases h0 : tk S (m : Int) = 0
    · have := ou (ns := ns) (fl := fl) nk rt ok c hc m m40 hm0 h1 h0
      have hz := qz (ns := ns) hS m40 hm0 h0 (k := k) fun h5 hx => by
        have := rt.xor (List.getElem?_eq_some_iff.mp hc).1 (by rw [N9 hc]; exact h5)
        omega
      rw [hz, List.append_nil]
      exact this
    · by_cases h2 : k.kind = 2
      · exact tv nk rt ok st few c hc h2 m m40 hm0 h0
      by_cases h3 : k.kind = 3
      · exact tz nk rt ok st few c hc h3 m m40 hm0 h0
      by_cases h4 : k.kind = 4
      · exact tA nk rt ok st few c hc h4 m m40 hm0 h0
      by_cases h5 : k.kind = 5
      · exact sb nk rt ok st few c hc h5 m m40 hm0 h0
      by_cases h6 : k.kind = 6
      · exact sd nk rt ok st few c hc h6 m m40 hm0 h0
      by_cases h7 : k.kind = 7
      · exact tx nk rt ok st few c hc h7 m m40 hm0 h0
      · exact tu nk rt ok st few c hc (by omega) m m40 hm0 h0
  · by_cases h5 : k.kind = 5
    · exact sc nk rt ok st few c hc h5 hl1
    by_cases h6 : k.kind = 6
    · exact se nk rt ok st few c hc h6 hl1
    exfalso
    by_cases h2 : k.kind = 2
    · exact hl1 (rt.ar2 hc h2)
    by_cases h7 : k.kind = 7
    · exact hl1 (rt.ar7 hc h7).1
    exact hl1 (rt.ar11 hc (by omega)).1
end
end
section
def L6 := And.intro T2 (And.intro T3 (And.intro T4 (And.intro T22 (And.intro T25 (And.intro T26 (And.intro T27 (And.intro T34 (And.intro T46 (And.intro T53 (And.intro T70 (And.intro T79 (And.intro T80 (And.intro T83 (And.intro fq (And.intro fu (And.intro jZ gp))))))))))))))))
attribute [local irreducible] awp q9 m7 n7 r5 q8
theorem oA {h : Heap} {b lb : Nat} {ns : List Nd} {fl : List Fl} {S : List Int} {l : List Sp} (ok : GmOk h b lb S l) (m : Sp) (L : Heap) {f : FuncId} (hE : j5 Tryz.prog f) {caps : List AV} (hcap : q6 (h.length + L.length) caps) {chg : List Int → List Int} (hlen : ∀ T : List Int, T.length = 49 → (chg T).length = 49)
    (hC : ∀ (A : Option Blk) (T : List Int), T.length = 49 → T.drop 40 = S.drop 40 → f9 Tryz.prog gW f (.ptr (h.length + L.length + 1) 0 0 :: caps) (m3 h b lb ns fl S l ++ (L ++ [A, some ⟨0, T.map AV.i⟩])) (fun r h' => r = .undef ∧ h' = m3 h b lb ns fl S l ++ (L ++ [A, some ⟨0, (chg T).map AV.i⟩]))) :
    f9 Tryz.prog gW 41 [.ptr b 0 0, aMv m, .p .nils, .p .nils, .fn f caps] (m3 h b lb ns fl S l ++ L) (fun r h' => r = .undef ∧ h' = m3 h b lb ns fl S (l ++ stF S m chg [] []) ++ L) := by
  have := U5 (G := gW) (ns := ns) (fl := fl) ok m [] [] ⟨by simp, by simp⟩ ⟨by simp, by simp⟩ L hE hcap hlen hC
  refine f9.nrm ?_
  simp only [X2, gA, nrm]
  exact this
theorem tD {h : Heap} {b lb : Nat} {ns : List Nd} {fl : List Fl} {S : List Int} {l : List Sp} {a : Nat} (ha : a < 4) {q : Int} (hq : S[44 + a]? = some q) (hq0 : 0 ≤ q ∧ q ≤ 3) (A : Option Blk) (T : List Int) (hT : T.length = 49) (hd : T.drop 40 = S.drop 40) :
    f9 Tryz.prog gW 42 [.ptr (h.length + 1 + 1) 0 0, .ptr h.length 0 0] (m3 h b lb ns fl S l ++ ([some ⟨0, [.i a]⟩] ++ [A, some ⟨0, T.map AV.i⟩]))
    (fun r h' => r = .undef ∧ h' = m3 h b lb ns fl S l ++ ([some ⟨0, [.i a]⟩] ++ [A, some ⟨0, (T.set (44 + a) (q + 1)).map AV.i⟩])) := by
  have hqT : T[44 + a]? = some q := by
    have e : (T.drop 40)[4 + a]? = (S.drop 40)[4 + a]? := by rw [hd]
    rw [List.getElem?_drop, List.getElem?_drop, show 40 + (4 + a) = 44 + a by omega] at e
    rw [e, hq]
  have := om (G := gW) (H := m3 h b lb ns fl S l ++ ([some ⟨0, [.i a]⟩] ++ [A, some ⟨0, T.map AV.i⟩])) (c := h.length + 2) (r := h.length) (gc := 0) (gr := 0) (by rw [s4]; rfl) hT ha (by rw [u0]; rfl) hqT hq0
  rw [t6] at this
  exact this
theorem dt {ns : List Nd} {fl : List Fl} (nk : NetOk ns fl) {S : List Int} (hS : S.length = 49) (h : Heap) :
    f9 Tryz.prog gW 26 [N5 ns fl, aS S] h (fun r h' => r = oy (u6 ns fl S) ∧ h' = h) := by
  have hne := U1 hS
  have hck := fun h => cw nk hS h
  have dm := J1 (F8 hS (k := 48) (by omega))
  have emd : S.getD 48 0 = mdS S := rfl
  rw [emd] at dm
  have t49 : ((S.map AV.i).drop 0).take 49 = S.map AV.i := by rw [List.drop_zero]; exact List.take_of_length_le (by rw [List.length_map, hS]; exact Nat.le_refl _)
  have t49' : (S.map AV.i).take 49 = S.map AV.i := by rwa [List.drop_zero] at t49
  by_cases h0 : stC ns fl S = 0
  case neg =>
    have e : u6 ns fl S = [] := by unfold u6; rw [if_pos (.inl h0)]
    have f0 : (stC ns fl S != 0) = true := by simp [h0]
    rw [e]
    refine d9 (rl := []) i6 Tryz.func26 rfl (rs := [.tmp 4]) rfl Tryz.ntmps26 (by simp) ?_
    repeat' (first | ((repeat ((fail_if_success (refine hK _ ?_)); clear hK K)); refine hK _ ?_; clear hK K) | ((first | refine d8 fun K1 p7 => ?_ | refine d6 fun K1 p7 => ?_ | refine b5 fun A B hA hB => ?_); simp only [S1, simprocAttr, L6, TSz, i8, i7, j3, f0, hne, hS, e9, t49', dm, g9, h9, List.length_map]; first | refine p7 _ ?_; clear p7 K1 | ((first | refine hA ?_ | refine hB ?_); clear hA hB A B) | ((first | apply b9 E9 | apply c7 E9); exact (hck _); refine p7 _ ?_; clear p7 K1) | (refine g8 (v := ?_) (fun hg p8 => ?_) ?_; rotate_left; (focus (try ((try simp only [BN] at hg); simp only [S1, simprocAttr, L6, TSz, i8, i7, j3, f0, hne, hS, e9, t49', dm, g9, h9, List.length_map, hg] at p8 ⊢)); first | exact p8 | ((first | apply b9 E9 | apply c7 E9); exact (hck _); exact p8)); refine p7 _ ?_; clear p7 K1) | (((first | (refine ⟨fun hg => hA ?_, fun hg => hB ?_⟩ <;> clear hA hB A B) | refine ⟨fun hg => ?_, fun hg => ?_⟩) <;> (try simp only [BN2] at hg) <;> (try simp only [hg, cndB])) <;> (try (refine p7 _ ?_; clear p7 K1)) <;> (try simp only [BN3] at hg))) | refine b6 fun K hK => ?_ | ((first | apply c8 | apply b8 | apply a9 | refine d5 ?_ | apply b7 | apply c9 | apply d4 | apply d7); try simp only [NB, simprocAttr]))
    all_goals simp only [S1, simprocAttr, ENB, L6]
    all_goals rfl
  have f0 : (stC ns fl S != 0) = false := by simp [h0]
  by_cases h1 : mdS S = 0
  case neg =>
    have e : u6 ns fl S = [] := by unfold u6; rw [if_pos (.inr h1)]
    have f1 : (mdS S != 0) = true := by simp [h1]
    rw [e]
    refine d9 (rl := []) i6 Tryz.func26 rfl (rs := [.tmp 4]) rfl Tryz.ntmps26 (by simp) ?_
    repeat' (first | ((repeat ((fail_if_success (refine hK _ ?_)); clear hK K)); refine hK _ ?_; clear hK K) | ((first | refine d8 fun K1 p7 => ?_ | refine d6 fun K1 p7 => ?_ | refine b5 fun A B hA hB => ?_); simp only [S1, simprocAttr, L6, TSz, i8, i7, j3, f0, f1, hne, hS, e9, t49', dm, g9, h9, List.length_map]; first | refine p7 _ ?_; clear p7 K1 | ((first | refine hA ?_ | refine hB ?_); clear hA hB A B) | ((first | apply b9 E9 | apply c7 E9); exact (hck _); refine p7 _ ?_; clear p7 K1) | (refine g8 (v := ?_) (fun hg p8 => ?_) ?_; rotate_left; (focus (try ((try simp only [BN] at hg); simp only [S1, simprocAttr, L6, TSz, i8, i7, j3, f0, f1, hne, hS, e9, t49', dm, g9, h9, List.length_map, hg] at p8 ⊢)); first | exact p8 | ((first | apply b9 E9 | apply c7 E9); exact (hck _); exact p8)); refine p7 _ ?_; clear p7 K1) | (((first | (refine ⟨fun hg => hA ?_, fun hg => hB ?_⟩ <;> clear hA hB A B) | refine ⟨fun hg => ?_, fun hg => ?_⟩) <;> (try simp only [BN2] at hg) <;> (try simp only [hg, cndB])) <;> (try (refine p7 _ ?_; clear p7 K1)) <;> (try simp only [BN3] at hg))) | refine b6 fun K hK => ?_ | ((first | apply c8 | apply b8 | apply a9 | refine d5 ?_ | apply b7 | apply c9 | apply d4 | apply d7); try simp only [NB, simprocAttr]))
    all_goals simp only [S1, simprocAttr, ENB, L6]
    all_goals rfl
  have f1 : (mdS S != 0) = false := by simp [h1]
  have e : u6 ns fl S = y2 ns fl S ns.length ++ r7 ns S 4 := by unfold u6; rw [if_neg (by simp [h0, h1])]
  rw [e]
  refine d9 (rl := []) i6 Tryz.func26 rfl (rs := [.tmp 4]) rfl Tryz.ntmps26 (by simp) ?_
  have ov2 := mF hS
  repeat' (first | ((repeat ((fail_if_success (refine hK _ ?_)); clear hK K)); refine hK _ ?_; clear hK K) | ((first | refine d8 fun K1 p7 => ?_ | refine d6 fun K1 p7 => ?_ | refine b5 fun A B hA hB => ?_); simp only [S1, simprocAttr, L6, TSz, i8, i7, j3, f0, f1, hne, hS, ov2, e9, t49', dm, g9, h9, List.length_map, List.drop_succ_cons, List.drop_zero, List.all_append]; first | refine p7 _ ?_; clear p7 K1 | ((first | refine hA ?_ | refine hB ?_); clear hA hB A B) | ((first | apply b9 E9 | apply c7 E9); exact (hck _); refine p7 _ ?_; clear p7 K1) | (refine g8 (v := ?_) (fun hg p8 => ?_) ?_; rotate_left; (focus (try ((try simp only [BN] at hg); simp only [S1, simprocAttr, L6, TSz, i8, i7, j3, f0, f1, hne, hS, ov2, e9, t49', dm, g9, h9, List.length_map, List.drop_succ_cons, List.drop_zero, List.all_append, hg] at p8 ⊢)); first | exact p8 | ((first | apply b9 E9 | apply c7 E9); exact (hck _); exact p8)); refine p7 _ ?_; clear p7 K1) | (((first | (refine ⟨fun hg => hA ?_, fun hg => hB ?_⟩ <;> clear hA hB A B) | refine ⟨fun hg => ?_, fun hg => ?_⟩) <;> (try simp only [BN2] at hg) <;> (try simp only [hg, cndB])) <;> (try (refine p7 _ ?_; clear p7 K1)) <;> (try simp only [BN3] at hg))) | refine b6 fun K hK => ?_ | ((first | apply c8 | apply b8 | apply a9 | refine d5 ?_ | apply b7 | apply c9 | apply d4 | apply d7); try simp only [NB, simprocAttr]))
  obtain ⟨hn0, hok⟩ := im h0
  have rt := Right.of hn0
  have st := rY hS hok
  have hn := rt.n
  have hf := rt.f
  have hnl : ∀ j, j ≤ ns.length → (y2 ns fl S j).length ≤ 2400 := fun j hj => Nat.le_trans (ai ns fl S hf j) (by omega)
  have gok : ∀ l : List Sp, (∀ y ∈ l, y.to.length = 49) → l.length ≤ 3000 → GmOk (h ++ [some ⟨0, D1 ns fl⟩, some ⟨0, S.map AV.i⟩, none, none]) (h.length + 2) (h.length + 3) S l :=
    fun l h1 h2 => ⟨by simp, by simp, by omega, st.held, h1, by omega⟩
  have hnode : ∀ (l : List Sp), (∀ y ∈ l, y.to.length = 49) → l.length ≤ 3000 → ∀ (c : Nat) (k : Nd), ns[c]? = some k → f9 Tryz.prog gW 39 [.ptr (h.length + 2) 0 0, .i c] (h ++ [some ⟨0, D1 ns fl⟩, some ⟨0, S.map AV.i⟩, gmB ns fl S (h.length + 3) l, spB l])
      (fun r h' => r = .undef ∧ h' = h ++ [some ⟨0, D1 ns fl⟩, some ⟨0, S.map AV.i⟩, gmB ns fl S (h.length + 3) (l ++ o7 ns fl S c k), spB (l ++ o7 ns fl S c k)]) := by
    intro l h1 h2 c k hc
    have := mH nk rt (gok l h1 h2) st (by omega) c hc
    have e1 := V8 h (some ⟨0, D1 ns fl⟩) (some ⟨0, S.map AV.i⟩) none none [] ns fl S l
    have e2 := V8 h (some ⟨0, D1 ns fl⟩) (some ⟨0, S.map AV.i⟩) none none [] ns fl S (l ++ o7 ns fl S c k)
    rw [List.append_nil] at e1 e2
    rwa [e1, e2] at this
  refine T1 ns.length 57 (fun j => [(25, .i j), (24, .i ns.length), (5, .ptr (h.length + 2) 0 0), (3, .ptr (h.length + 1) 0 0), (2, .ptr h.length 0 0)])
    (fun j => [some ⟨0, D1 ns fl⟩, some ⟨0, S.map AV.i⟩, gmB ns fl S (h.length + 3) (y2 ns fl S j), spB (y2 ns fl S j)]) (fun j => True) ?_ trivial fun j hj hp K hK => ?_
  · refine (t5.game hS rfl).trans (Sub.ghost ⟨rfl, ⟨[], by simp only [List.append_nil]; rfl⟩, ?_, ⟨trivial, trivial, trivial⟩, j6 _ _, C5 (by simp), j6 _ _, trivial⟩)
    simp only [S1, simprocAttr, KNB] <;> (try and_intros) <;> (try assumption) <;> (try trivial) <;> (try omega)
  rcases Nat.lt_or_ge j ns.length with hlt | hge
  · obtain ⟨k, hx⟩ : ∃ k, ns[j]? = some k := ⟨_, List.getElem?_eq_getElem hlt⟩
    have ej : y2 ns fl S (j + 1) = y2 ns fl S j ++ o7 ns fl S j k := by rw [y2, hx]
    have hnd := hnode (y2 ns fl S j) (R7 hS j) (by have := hnl j hj; omega) j k hx
    repeat' (first | ((repeat ((fail_if_success (refine hK _ ?_)); clear hK K)); refine hK _ ?_; clear hK K) | ((first | refine d8 fun K1 p7 => ?_ | refine d6 fun K1 p7 => ?_ | refine b5 fun A B hA hB => ?_); simp only [S1, simprocAttr, L6, I9 hlt, A9 nk.n hlt]; first | refine p7 _ ?_; clear p7 K1 | ((first | refine hA ?_ | refine hB ?_); clear hA hB A B) | ((first | apply b9 E39 | apply c7 E39); exact hnd; refine p7 _ ?_; clear p7 K1) | (refine g8 (v := ?_) (fun hg p8 => ?_) ?_; rotate_left; (focus (try ((try simp only [BN] at hg); simp only [S1, simprocAttr, L6, I9 hlt, A9 nk.n hlt, hg] at p8 ⊢)); first | exact p8 | ((first | apply b9 E39 | apply c7 E39); exact hnd; exact p8)); refine p7 _ ?_; clear p7 K1) | (((first | (refine ⟨fun hg => hA ?_, fun hg => hB ?_⟩ <;> clear hA hB A B) | refine ⟨fun hg => ?_, fun hg => ?_⟩) <;> (try simp only [BN2] at hg) <;> (try simp only [hg, cndB])) <;> (try (refine p7 _ ?_; clear p7 K1)) <;> (try simp only [BN3] at hg))) | refine b6 fun K hK => ?_ | ((first | apply c8 | apply b8 | apply a9 | refine d5 ?_ | apply b7 | apply c9 | apply d4 | apply d7); try simp only [NB, simprocAttr]))
    all_goals refine ⟨hlt, trivial, ?_⟩
    all_goals simp only [ej]
    all_goals refine ⟨rfl, ⟨_, rfl⟩, ?_, ⟨trivial, trivial, trivial⟩, j6 _ _, C5 (by simp), j6 _ _, trivial⟩
    all_goals simp only [S1, simprocAttr, KNB] <;> (try and_intros) <;> (try assumption) <;> (try trivial) <;> (try omega)
  obtain rfl : j = ns.length := by omega
  have ar44 : ((S.map AV.i).drop 44).take 4 = ((S.drop 44).take 4).map AV.i := by rw [List.map_take, List.map_drop]
  have l4 : ((S.drop 44).take 4).length = 4 := by simp [hS]
  repeat' (first | ((repeat ((fail_if_success (refine hK _ ?_)); clear hK K)); refine hK _ ?_; clear hK K) | ((first | refine d8 fun K1 p7 => ?_ | refine d6 fun K1 p7 => ?_ | refine b5 fun A B hA hB => ?_); simp only [S1, simprocAttr, L6, TSz, i8, T5, ar44, hS, g9, h9, List.length_map, List.length_drop, List.length_take]; first | refine p7 _ ?_; clear p7 K1 | ((first | refine hA ?_ | refine hB ?_); clear hA hB A B) | (refine g8 (v := ?_) (fun hg p8 => ?_) ?_; rotate_left; (focus (try ((try simp only [BN] at hg); simp only [S1, simprocAttr, L6, TSz, i8, T5, ar44, hS, g9, h9, List.length_map, List.length_drop, List.length_take, hg] at p8 ⊢)); first | exact p8); refine p7 _ ?_; clear p7 K1) | (((first | (refine ⟨fun hg => hA ?_, fun hg => hB ?_⟩ <;> clear hA hB A B) | refine ⟨fun hg => ?_, fun hg => ?_⟩) <;> (try simp only [BN2] at hg) <;> (try simp only [hg, cndB])) <;> (try (refine p7 _ ?_; clear p7 K1)) <;> (try simp only [BN3] at hg))) | refine b6 fun K hK => ?_ | ((first | apply c8 | apply b8 | apply a9 | refine d5 ?_ | apply b7 | apply c9 | apply d4 | apply d7); try simp only [NB, simprocAttr]))
  have hl0 : ∀ y ∈ y2 ns fl S ns.length, y.to.length = 49 := R7 hS ns.length
  have hl1 : (y2 ns fl S ns.length).length ≤ 2400 := hnl _ (Nat.le_refl _)
  generalize y2 ns fl S ns.length = l0 at *
  have hlm : ∀ m, m ≤ 4 → (l0 ++ r7 ns S m).length ≤ 2500 := fun m hm => by
    rw [List.length_append]; have := aj ns S m; omega
  have htm : ∀ m, ∀ y ∈ l0 ++ r7 ns S m, y.to.length = 49 := fun m y hy => (List.mem_append.mp hy).elim (hl0 y) (bF hS m y)
  refine s5 4 57 (fun m => [(34, .i m), (33, .agg (((S.drop 44).take 4).map AV.i)), (5, .ptr (h.length + 2) 0 0), (3, .ptr (h.length + 1) 0 0), (2, .ptr h.length 0 0)])
    (fun m => [some ⟨0, D1 ns fl⟩, some ⟨0, S.map AV.i⟩, gmB ns fl S (h.length + 3) (l0 ++ r7 ns S m), spB (l0 ++ r7 ns S m)]) (fun m => True) ?_ trivial fun m hm hp K hK => ?_
  · have s0 : r7 ns S 0 = [] := rfl
    simp only [s0, List.append_nil]
    refine ⟨rfl, ⟨[], by simp only [List.append_nil]⟩, ?_, ⟨trivial, trivial, trivial⟩, j6 _ _, C5 (by simp), j6 _ _, trivial⟩
    simp only [S1, simprocAttr, KNB] <;> (try and_intros) <;> (try assumption) <;> (try trivial) <;> (try omega)
    all_goals exact j6 _ _
  rcases Nat.lt_or_ge m 4 with hlt | hge
  · have m0 : (0 : Int) ≤ (m : Int) := by omega
    have m4 : (m : Int) < 4 := by omega
    obtain ⟨hq, q0, q3⟩ := st.q hlt
    have hq4 : ((S.drop 44).take 4)[m]? = some (qAt S m) := by rw [List.getElem?_take_of_lt hlt, List.getElem?_drop]; exact hq
    have hdq := J1 hq4
    have hw9 := fun h => kM (G := gW) ns fl nk.n m hlt h
    have es : r7 ns S (m + 1) = r7 ns S m ++ J3 ns S m := rfl
    cases ew : bD ns m with
    | false =>
      rw [ew] at hw9
      have hs : J3 ns S m = [] := by unfold J3; rw [if_neg (by simp [ew])]
      repeat' (first | ((repeat ((fail_if_success (refine hK _ ?_)); clear hK K)); refine hK _ ?_; clear hK K) | ((first | refine d8 fun K1 p7 => ?_ | refine d6 fun K1 p7 => ?_ | refine b5 fun A B hA hB => ?_); simp only [S1, simprocAttr, L6, m0, m4, A8 (n := 4) (by omega) hlt, hdq, l4, List.length_map, Nat.mul_one]; first | refine p7 _ ?_; clear p7 K1 | ((first | refine hA ?_ | refine hB ?_); clear hA hB A B) | ((first | apply b9 E40 | apply c7 E40); exact (hw9 _); refine p7 _ ?_; clear p7 K1) | (refine g8 (v := ?_) (fun hg p8 => ?_) ?_; rotate_left; (focus (try ((try simp only [BN] at hg); simp only [S1, simprocAttr, L6, m0, m4, A8 (n := 4) (by omega) hlt, hdq, l4, List.length_map, Nat.mul_one, hg] at p8 ⊢)); first | exact p8 | ((first | apply b9 E40 | apply c7 E40); exact (hw9 _); exact p8)); refine p7 _ ?_; clear p7 K1) | (((first | (refine ⟨fun hg => hA ?_, fun hg => hB ?_⟩ <;> clear hA hB A B) | refine ⟨fun hg => ?_, fun hg => ?_⟩) <;> (try simp only [BN2] at hg) <;> (try simp only [hg, cndB])) <;> (try (refine p7 _ ?_; clear p7 K1)) <;> (try simp only [BN3] at hg))) | refine b6 fun K hK => ?_ | ((first | apply c8 | apply b8 | apply a9 | refine d5 ?_ | apply b7 | apply c9 | apply d4 | apply d7); try simp only [NB, simprocAttr]))
      all_goals refine ⟨hlt, trivial, ?_⟩
      all_goals simp only [es, hs, List.append_nil]
      all_goals refine ⟨rfl, ⟨_, rfl⟩, ?_, ⟨trivial, trivial, trivial⟩, j6 _ _, C5 (by simp), j6 _ _, trivial⟩
      all_goals simp only [S1, simprocAttr, KNB] <;> (try and_intros) <;> (try assumption) <;> (try trivial) <;> (try omega)
      all_goals exact j6 _ _
    | true =>
      rw [ew] at hw9
      by_cases h3 : qAt S (m : Int) < 3
      · have h3' : decide (qAt S (m : Int) < 3) = true := decide_eq_true h3
        have hs : J3 ns S m = p9 S ⟨-1, m, 5, 0, m, S.set (44 + m) (qAt S m + 1)⟩ [] [] := by unfold J3; rw [if_pos ⟨ew, h3⟩]
        generalize qAt S (m : Int) = q at *
        have em := F4 hS (m := ⟨-1, m, 5, 0, m, S⟩) (Chg.set hS (k := 44 + m) (by omega) (q + 1)) (fr := []) (to := []) ⟨by simp, by simp⟩ ⟨by simp, by simp⟩
        simp only at em
        have hadd : f9 Tryz.prog gW 41 [.ptr (h.length + 2) 0 0, aMv ⟨-1, m, 5, 0, m, S⟩, .p .nils, .p .nils, .fn 42 [.ptr (h.length + 4) 0 0]] (h ++ (some ⟨0, D1 ns fl⟩ :: some ⟨0, S.map AV.i⟩ :: gmB ns fl S (h.length + 3) (l0 ++ r7 ns S m) :: spB (l0 ++ r7 ns S m) :: [some ⟨0, [.i m]⟩]))
            (fun r h' => r = .undef ∧ h' = h ++ (some ⟨0, D1 ns fl⟩ :: some ⟨0, S.map AV.i⟩ :: gmB ns fl S (h.length + 3) (l0 ++ r7 ns S m ++ J3 ns S m) :: spB (l0 ++ r7 ns S m ++ J3 ns S m) :: [some ⟨0, [.i m]⟩])) := by
          have := oA (ns := ns) (fl := fl) (gok _ (htm m) (by have := hlm m (by omega); omega)) ⟨-1, m, 5, 0, m, S⟩ [some ⟨0, [.i m]⟩] E42 (caps := [.ptr (h.length + 4) 0 0]) ⟨by simp [y6], trivial⟩ (chg := fun T => T.set (44 + m) (q + 1)) (fun T hT => by rw [List.length_set, hT])
            (fun A T hT hd => by
              have := tD (h := h ++ [some ⟨0, D1 ns fl⟩, some ⟨0, S.map AV.i⟩, none, none]) (b := h.length + 2) (lb := h.length + 3) (ns := ns) (fl := fl) (S := S) (l := l0 ++ r7 ns S m) hlt hq ⟨q0, q3⟩ A T hT hd
              simpa using this)
          rw [em, ← hs] at this
          rwa [V8, V8] at this
        repeat' (first | ((repeat ((fail_if_success (refine hK _ ?_)); clear hK K)); refine hK _ ?_; clear hK K) | ((first | refine d8 fun K1 p7 => ?_ | refine d6 fun K1 p7 => ?_ | refine b5 fun A B hA hB => ?_); simp only [S1, simprocAttr, L6, m0, m4, A8 (n := 4) (by omega) hlt, hdq, l4, h3', List.length_map, Nat.mul_one]; first | refine p7 _ ?_; clear p7 K1 | ((first | refine hA ?_ | refine hB ?_); clear hA hB A B) | ((first | apply b9 E40 | apply c7 E40); exact (hw9 _); refine p7 _ ?_; clear p7 K1) | ((first | apply b9 E41 | apply c7 E41); exact hadd; refine p7 _ ?_; clear p7 K1) | (refine g8 (v := ?_) (fun hg p8 => ?_) ?_; rotate_left; (focus (try ((try simp only [BN] at hg); simp only [S1, simprocAttr, L6, m0, m4, A8 (n := 4) (by omega) hlt, hdq, l4, h3', List.length_map, Nat.mul_one, hg] at p8 ⊢)); first | exact p8 | ((first | apply b9 E40 | apply c7 E40); exact (hw9 _); exact p8) | ((first | apply b9 E41 | apply c7 E41); exact hadd; exact p8)); refine p7 _ ?_; clear p7 K1) | (((first | (refine ⟨fun hg => hA ?_, fun hg => hB ?_⟩ <;> clear hA hB A B) | refine ⟨fun hg => ?_, fun hg => ?_⟩) <;> (try simp only [BN2] at hg) <;> (try simp only [hg, cndB])) <;> (try (refine p7 _ ?_; clear p7 K1)) <;> (try simp only [BN3] at hg))) | refine b6 fun K hK => ?_ | ((first | apply c8 | apply b8 | apply a9 | refine d5 ?_ | apply b7 | apply c9 | apply d4 | apply d7); try simp only [NB, simprocAttr]))
        all_goals refine ⟨hlt, trivial, ?_⟩
        all_goals simp only [es, ← List.append_assoc]
        all_goals refine ⟨rfl, ⟨_, by simp only [List.append_assoc, List.cons_append, List.nil_append]; rfl⟩, ?_, ⟨trivial, trivial, trivial⟩, j6 _ _, C5 (by simp), j6 _ _, trivial⟩
        all_goals simp only [S1, simprocAttr, KNB] <;> (try and_intros) <;> (try assumption) <;> (try trivial) <;> (try omega)
        all_goals exact j6 _ _
      · have h3' : decide (qAt S (m : Int) < 3) = false := decide_eq_false h3
        have hs : J3 ns S m = [] := by unfold J3; rw [if_neg (by simp [h3])]
        repeat' (first | ((repeat ((fail_if_success (refine hK _ ?_)); clear hK K)); refine hK _ ?_; clear hK K) | ((first | refine d8 fun K1 p7 => ?_ | refine d6 fun K1 p7 => ?_ | refine b5 fun A B hA hB => ?_); simp only [S1, simprocAttr, L6, m0, m4, A8 (n := 4) (by omega) hlt, hdq, l4, h3', List.length_map, Nat.mul_one]; first | refine p7 _ ?_; clear p7 K1 | ((first | refine hA ?_ | refine hB ?_); clear hA hB A B) | ((first | apply b9 E40 | apply c7 E40); exact (hw9 _); refine p7 _ ?_; clear p7 K1) | (refine g8 (v := ?_) (fun hg p8 => ?_) ?_; rotate_left; (focus (try ((try simp only [BN] at hg); simp only [S1, simprocAttr, L6, m0, m4, A8 (n := 4) (by omega) hlt, hdq, l4, h3', List.length_map, Nat.mul_one, hg] at p8 ⊢)); first | exact p8 | ((first | apply b9 E40 | apply c7 E40); exact (hw9 _); exact p8)); refine p7 _ ?_; clear p7 K1) | (((first | (refine ⟨fun hg => hA ?_, fun hg => hB ?_⟩ <;> clear hA hB A B) | refine ⟨fun hg => ?_, fun hg => ?_⟩) <;> (try simp only [BN2] at hg) <;> (try simp only [hg, cndB])) <;> (try (refine p7 _ ?_; clear p7 K1)) <;> (try simp only [BN3] at hg))) | refine b6 fun K hK => ?_ | ((first | apply c8 | apply b8 | apply a9 | refine d5 ?_ | apply b7 | apply c9 | apply d4 | apply d7); try simp only [NB, simprocAttr]))
        all_goals refine ⟨hlt, trivial, ?_⟩
        all_goals simp only [es, hs, List.append_nil]
        all_goals refine ⟨rfl, ⟨_, rfl⟩, ?_, ⟨trivial, trivial, trivial⟩, j6 _ _, C5 (by simp), j6 _ _, trivial⟩
        all_goals simp only [S1, simprocAttr, KNB] <;> (try and_intros) <;> (try assumption) <;> (try trivial) <;> (try omega)
        all_goals exact j6 _ _
  obtain rfl : m = 4 := by omega
  have hz := htm 4
  have hrf := Z9 (ns := ns) (fl := fl) (lb := h.length + 3) (n := (l0 ++ r7 ns S 4).length) hS
  rw [List.length_append] at hrf
  repeat' (first | ((repeat ((fail_if_success (refine hK _ ?_)); clear hK K)); refine hK _ ?_; clear hK K) | ((first | refine d8 fun K1 p7 => ?_ | refine d6 fun K1 p7 => ?_ | refine b5 fun A B hA hB => ?_); simp only [S1, simprocAttr, L6, gmB, hrf]; first | refine p7 _ ?_; clear p7 K1 | ((first | refine hA ?_ | refine hB ?_); clear hA hB A B) | (refine g8 (v := ?_) (fun hg p8 => ?_) ?_; rotate_left; (focus (try ((try simp only [BN] at hg); simp only [S1, simprocAttr, L6, gmB, hrf, hg] at p8 ⊢)); first | exact p8); refine p7 _ ?_; clear p7 K1) | (((first | (refine ⟨fun hg => hA ?_, fun hg => hB ?_⟩ <;> clear hA hB A B) | refine ⟨fun hg => ?_, fun hg => ?_⟩) <;> (try simp only [BN2] at hg) <;> (try simp only [hg, cndB])) <;> (try (refine p7 _ ?_; clear p7 K1)) <;> (try simp only [BN3] at hg))) | refine b6 fun K hK => ?_ | ((first | apply c8 | apply b8 | apply a9 | refine d5 ?_ | apply b7 | apply c9 | apply d4 | apply d7); try simp only [NB, simprocAttr]))
  rw [show oy (l0 ++ r7 ns S 4) = .p (.sl ((l0 ++ r7 ns S 4).map kN)) from congrArg (fun x => AV.p (.sl x)) (iq hz).symm]
  exact dN mG pq (.inr rfl) (l := l0 ++ r7 ns S 4) (List.length_append).symm rfl (by simp only [spB, si hz, t4, q7, List.getElem?_cons_succ, List.getElem?_cons_zero, List.length_append, if_true]) (by omega) (by simp) (by simp) rfl
end
section
def P4 := And.intro T2 (And.intro T3 (And.intro T4 (And.intro T22 (And.intro T25 (And.intro T26 (And.intro T27 (And.intro T34 (And.intro T38 (And.intro T46 (And.intro T53 (And.intro T70 (And.intro T79 (And.intro T80 T83)))))))))))))
attribute [local irreducible] awp q9 m7 n7 r5 q8
theorem R9 {ns : List Nd} {fl : List Fl} {S : List Int} (hS : S.length = 49) : ∀ y ∈ u6 ns fl S, y.to.length = 49 := by
  intro y hy
  unfold u6 at hy
  split at hy
  · cases hy
  · rcases List.mem_append.mp hy with h | h
    · exact R7 hS _ y h
    · exact bF hS _ y h
theorem cx {ns : List Nd} {fl : List Fl} {S : List Int} : (u6 ns fl S).length ≤ 2500 := by
  unfold u6
  split
  · simp
  · rename_i h0
    rw [not_or] at h0
    have rt := Right.of (im (by simpa using h0.1)).1
    have hn := rt.n
    have hf := rt.f
    have h1 := ai ns fl S hf ns.length
    have h2 := aj ns S 4
    rw [List.length_append]
    have : 100 * ns.length ≤ 100 * 24 := Nat.mul_le_mul_left _ hn
    omega
def cMv (y : Sp) : List Int := [y.node, y.arg, y.lk, y.ln, y.la]
def eMv (y : Sp) : List PV := (cMv y).map (PV.int .i64)
def iu (l : List Sp) : List Int := l.flatMap cMv
abbrev uu (l : List Sp) : AV := .p (.sl (l.map eMv))
theorem tE (y : Sp) : (eMv y).length = 5 := rfl
theorem uv (y : Sp) : ∀ x ∈ eMv y, x ≠ .nils := by
  intro x hx
  obtain ⟨n, _, rfl⟩ := List.mem_map.mp hx
  exact fun e => by cases e
theorem uw (l : List Sp) : (iu l).map AV.i = (V2 eMv l).map AV.p := by
  unfold V2 iu eMv
  rw [List.map_flatMap, List.map_flatMap]
  congr 1
theorem mI : ∀ l : List Sp, (iu l).length = l.length * 5
  | [] => rfl
  | x :: r => by
    have := mI r
    unfold iu at this ⊢
    rw [List.flatMap_cons, List.length_append, this, List.length_cons]; simp [cMv] <;> omega
theorem qE {l : List Sp} {j : Nat} {y : Sp} (h : l[j]? = some y) : iu (l.take (j + 1)) = iu (l.take j) ++ [y.node, y.arg, y.lk, y.ln, y.la] := by
  unfold iu
  rw [List.take_add_one, h, List.flatMap_append]
  simp [cMv]
theorem mJ {ns : List Nd} {fl : List Fl} (nk : NetOk ns fl) {S : List Int} (hS : S.length = 49) (h : Heap) :
    f9 Tryz.prog gW 12 [N5 ns fl, aS S] h (fun r h' => r = uu (u6 ns fl S) ∧ h' = h) := by
  have hne := U1 hS
  have hst := fun h => dt nk hS h
  have hto := R9 (ns := ns) (fl := fl) hS
  have hln := cx (ns := ns) (fl := fl) (S := S)
  have t49' : (S.map AV.i).take 49 = S.map AV.i := List.take_of_length_le (by rw [List.length_map, hS]; exact Nat.le_refl _)
  refine d9 (rl := []) i6 Tryz.func12 rfl (rs := [.tmp 4]) rfl Tryz.ntmps12 (by simp) ?_
  repeat' (first | ((repeat ((fail_if_success (refine hK _ ?_)); clear hK K)); refine hK _ ?_; clear hK K) | ((first | refine d8 fun K1 p7 => ?_ | refine d6 fun K1 p7 => ?_ | refine b5 fun A B hA hB => ?_); simp only [S1, simprocAttr, P4, TSz, i8, i7, j3, hne, hS, e9, t49', g9, h9, List.length_map]; first | refine p7 _ ?_; clear p7 K1 | ((first | refine hA ?_ | refine hB ?_); clear hA hB A B) | ((first | apply b9 E26 | apply c7 E26); exact (hst _); refine p7 _ ?_; clear p7 K1) | (((first | (refine ⟨fun hg => hA ?_, fun hg => hB ?_⟩ <;> clear hA hB A B) | refine ⟨fun hg => ?_, fun hg => ?_⟩) <;> (try simp only [BN2] at hg) <;> (try simp only [hg, cndB])) <;> (try (refine p7 _ ?_; clear p7 K1)) <;> (try simp only [BN3] at hg))) | refine b6 fun K hK => ?_ | ((first | apply c8 | apply b8 | apply a9 | refine d5 ?_ | apply b7 | apply c9 | apply d4 | apply d7); try simp only [NB, simprocAttr]))
  clear hst
  generalize u6 ns fl S = sl at *
  refine T1 sl.length 23 (fun j => [(12, .i j), (11, .i sl.length), (10, oy sl), (5, .ref (h.length + 2) j 0 5 j)])
    (fun j => [some ⟨0, D1 ns fl⟩, some ⟨0, S.map AV.i⟩, some ⟨j, (iu (sl.take j)).map AV.i⟩]) (fun j => True) ?_ trivial fun j hj hp K hK => ?_
  · refine (t5.adopt 5 5 rfl).trans (Sub.ghost ⟨rfl, ⟨[], by simp [iu]⟩, ?_, ⟨trivial, trivial, trivial⟩, j6 _ _, j6 _ _, trivial⟩)
    simp only [S5, y6, U9, frL, List.length_cons, List.length_nil]
    simp
  rcases Nat.lt_or_ge j sl.length with hlt | hge
  · obtain ⟨y, hy⟩ : ∃ y, sl[j]? = some y := ⟨_, List.getElem?_eq_getElem hlt⟩
    have hxy : (sl.map eSp)[j]? = some ((cSp y).map (PV.int .i64)) := by rw [List.getElem?_map, hy]; rfl
    have hyl := hto y (List.mem_of_getElem? hy)
    have jl : (j : Int) < (sl.length : Int) := by omega
    have j0 : (0 : Int) ≤ (j : Int) := by omega
    have hnx : IntKind.i64.wrap ((j : Int) + 1) = ((j + 1 : Nat) : Int) := by rw [IntWalk.i64_in _ (by omega)]; omega
    have y54 : (cSp y).length = 54 := G4 hyl
    have ymm := (z9 (cSp y)).trans (rJ y)
    have yov := F6 hyl
    have yt49 : (y.to.map AV.i).take 49 = y.to.map AV.i := List.take_of_length_le (by rw [List.length_map, hyl]; exact Nat.le_refl _)
    have hmax : j + 1 ≤ o9 := by unfold o9; omega
    have hcl : (iu (sl.take j)).length = j * 5 := by rw [mI, List.length_take, Nat.min_eq_left (by omega)]
    have hcs := qE hy
    repeat' (first | ((repeat ((fail_if_success (refine hK _ ?_)); clear hK K)); refine hK _ ?_; clear hK K) | ((first | refine d8 fun K1 p7 => ?_ | refine d6 fun K1 p7 => ?_ | refine b5 fun A B hA hB => ?_); simp only [S1, simprocAttr, P4, jl, j0, hxy, hnx, y54, ymm, yov, yt49, hyl, hmax, hcl, g9, h9, e9, List.length_map, Nat.mul_one]; first | refine p7 _ ?_; clear p7 K1 | ((first | refine hA ?_ | refine hB ?_); clear hA hB A B) | (((first | (refine ⟨fun hg => hA ?_, fun hg => hB ?_⟩ <;> clear hA hB A B) | refine ⟨fun hg => ?_, fun hg => ?_⟩) <;> (try simp only [BN2] at hg) <;> (try simp only [hg, cndB])) <;> (try (refine p7 _ ?_; clear p7 K1)) <;> (try simp only [BN3] at hg))) | refine b6 fun K hK => ?_ | ((first | apply c8 | apply b8 | apply a9 | refine d5 ?_ | apply b7 | apply c9 | apply d4 | apply d7); try simp only [NB, simprocAttr]))
    all_goals refine ⟨hlt, trivial, ?_⟩
    all_goals simp only [hcs, List.map_append, List.map_cons, List.map_nil]
    all_goals refine ⟨rfl, ⟨_, rfl⟩, ?_, ⟨trivial, trivial, trivial⟩, j6 _ _, (by have := j6 (h.length + 3) (iu (sl.take j) ++ [y.node, y.arg, y.lk, y.ln, y.la]); simpa using this), trivial⟩
    all_goals simp only [S1, simprocAttr, KNB] <;> (try and_intros) <;> (try assumption) <;> (try trivial) <;> (try omega)
  · obtain rfl : j = sl.length := by omega
    repeat' (first | ((repeat ((fail_if_success (refine hK _ ?_)); clear hK K)); refine hK _ ?_; clear hK K) | ((first | refine d8 fun K1 p7 => ?_ | refine d6 fun K1 p7 => ?_ | refine b5 fun A B hA hB => ?_); simp only [S1, simprocAttr, P4, Int.lt_irrefl]; first | refine p7 _ ?_; clear p7 K1 | ((first | refine hA ?_ | refine hB ?_); clear hA hB A B) | (((first | (refine ⟨fun hg => hA ?_, fun hg => hB ?_⟩ <;> clear hA hB A B) | refine ⟨fun hg => ?_, fun hg => ?_⟩) <;> (try simp only [BN2] at hg) <;> (try simp only [hg, cndB])) <;> (try (refine p7 _ ?_; clear p7 K1)) <;> (try simp only [BN3] at hg))) | refine b6 fun K hK => ?_ | ((first | apply c8 | apply b8 | apply a9 | refine d5 ?_ | apply b7 | apply c9 | apply d4 | apply d7); try simp only [NB, simprocAttr]))
    exact dN tE uv (.inr rfl) (l := sl) rfl rfl (by simp only [uw, List.take_length, t4, q7, List.getElem?_cons_succ, List.getElem?_cons_zero, if_true]) (by omega) (by simp) (by simp) rfl
def zSp : Sp := ⟨0, 0, 0, 0, 0, zS⟩
noncomputable def doG (ns : List Nd) (fl : List Fl) (S : List Int) (i : Int) : Sp × Int :=
  if stC ns fl S ≠ 0 then (zSp, stC ns fl S) else if i < 0 then (zSp, 6) else match (u6 ns fl S)[i.toNat]? with | some y => (y, 0) | none => (zSp, 6)
abbrev aLb (y : Sp) : AV := .agg [.i y.lk, .i y.ln, .i y.la]
theorem mK {ns : List Nd} {fl : List Fl} (nk : NetOk ns fl) {S : List Int} (hS : S.length = 49) (i : Int) (h : Heap) :
    f9 Tryz.prog gW 16 [N5 ns fl, aS S, .i i] h (fun r h' => r = .tup [aS (doG ns fl S i).1.to, aLb (doG ns fl S i).1, .i (doG ns fl S i).2] ∧ h' = h) := by
  have hne := U1 hS
  have hst := fun h => dt nk hS h
  have hck := fun h => cw nk hS h
  have hto := R9 (ns := ns) (fl := fl) hS
  have t49' : (S.map AV.i).take 49 = S.map AV.i := List.take_of_length_le (by rw [List.length_map, hS]; exact Nat.le_refl _)
  have hzl : (zS.map AV.i).length = 49 := by rw [List.length_map]; rfl
  have hem : (zS.map AV.i).isEmpty = false := rfl
  have hzz : w9 (zS.map AV.i) 0 (zS.map AV.i) = zS.map AV.i := n9 (n := 49) (by rw [List.length_map]; rfl) _ hzl
  have hzt : (zS.map AV.i).take 49 = zS.map AV.i := List.take_of_length_le (by rw [hzl]; exact Nat.le_refl _)
  by_cases h0 : stC ns fl S = 0
  case neg =>
    have f0 : (stC ns fl S != 0) = true := by simp [h0]
    have e : doG ns fl S i = (zSp, stC ns fl S) := by unfold doG; rw [if_pos h0]
    rw [e]
    refine d9 (rl := []) i6 Tryz.func16 rfl (rs := [.cell 6 29, .cell 7 46, .tmp 8]) rfl Tryz.ntmps16 (by simp) ?_
    repeat' (first | ((repeat ((fail_if_success (refine hK _ ?_)); clear hK K)); refine hK _ ?_; clear hK K) | ((first | refine d8 fun K1 p7 => ?_ | refine d6 fun K1 p7 => ?_ | refine b5 fun A B hA hB => ?_); simp only [S1, simprocAttr, P4, f0, TSz, i8, i7, j3, hem, hzz, hzt, hne, hS, e9, t49', g9, h9, List.length_map]; first | refine p7 _ ?_; clear p7 K1 | ((first | refine hA ?_ | refine hB ?_); clear hA hB A B) | ((first | apply b9 E9 | apply c7 E9); exact (hck _); refine p7 _ ?_; clear p7 K1) | (refine g8 (v := ?_) (fun hg p8 => ?_) ?_; rotate_left; (focus (try ((try simp only [BN] at hg); simp only [S1, simprocAttr, P4, f0, TSz, i8, i7, j3, hem, hzz, hzt, hne, hS, e9, t49', g9, h9, List.length_map, hg] at p8 ⊢)); first | exact p8 | ((first | apply b9 E9 | apply c7 E9); exact (hck _); exact p8)); refine p7 _ ?_; clear p7 K1) | (((first | (refine ⟨fun hg => hA ?_, fun hg => hB ?_⟩ <;> clear hA hB A B) | refine ⟨fun hg => ?_, fun hg => ?_⟩) <;> (try simp only [BN2] at hg) <;> (try simp only [hg, cndB])) <;> (try (refine p7 _ ?_; clear p7 K1)) <;> (try simp only [BN3] at hg))) | refine b6 fun K hK => ?_ | ((first | apply c8 | apply b8 | apply a9 | refine d5 ?_ | apply b7 | apply c9 | apply d4 | apply d7); try simp only [NB, simprocAttr]))
    all_goals simp only [S1, simprocAttr, ENB, P4, hzt, hzl, List.length_map, j3, TSz, h9, F1, z9]
    all_goals rfl
  have f0 : (stC ns fl S != 0) = false := by simp [h0]
  rw [h0] at hck
  by_cases h1 : i < 0
  · have f1 : decide (i < 0) = true := decide_eq_true h1
    have e : doG ns fl S i = (zSp, 6) := by unfold doG; rw [if_neg (by simpa using h0), if_pos h1]
    rw [e]
    refine d9 (rl := []) i6 Tryz.func16 rfl (rs := [.cell 6 29, .cell 7 46, .tmp 8]) rfl Tryz.ntmps16 (by simp) ?_
    repeat' (first | ((repeat ((fail_if_success (refine hK _ ?_)); clear hK K)); refine hK _ ?_; clear hK K) | ((first | refine d8 fun K1 p7 => ?_ | refine d6 fun K1 p7 => ?_ | refine b5 fun A B hA hB => ?_); simp only [S1, simprocAttr, P4, f1, TSz, i8, i7, j3, hem, hzz, hzt, hne, hS, e9, t49', g9, h9, List.length_map]; first | refine p7 _ ?_; clear p7 K1 | ((first | refine hA ?_ | refine hB ?_); clear hA hB A B) | ((first | apply b9 E9 | apply c7 E9); exact (hck _); refine p7 _ ?_; clear p7 K1) | ((first | apply b9 E26 | apply c7 E26); exact (hst _); refine p7 _ ?_; clear p7 K1) | (refine g8 (v := ?_) (fun hg p8 => ?_) ?_; rotate_left; (focus (try ((try simp only [BN] at hg); simp only [S1, simprocAttr, P4, f1, TSz, i8, i7, j3, hem, hzz, hzt, hne, hS, e9, t49', g9, h9, List.length_map, hg] at p8 ⊢)); first | exact p8 | ((first | apply b9 E9 | apply c7 E9); exact (hck _); exact p8) | ((first | apply b9 E26 | apply c7 E26); exact (hst _); exact p8)); refine p7 _ ?_; clear p7 K1) | (((first | (refine ⟨fun hg => hA ?_, fun hg => hB ?_⟩ <;> clear hA hB A B) | refine ⟨fun hg => ?_, fun hg => ?_⟩) <;> (try simp only [BN2] at hg) <;> (try simp only [hg, cndB])) <;> (try (refine p7 _ ?_; clear p7 K1)) <;> (try simp only [BN3] at hg))) | refine b6 fun K hK => ?_ | ((first | apply c8 | apply b8 | apply a9 | refine d5 ?_ | apply b7 | apply c9 | apply d4 | apply d7); try simp only [NB, simprocAttr]))
    all_goals simp only [S1, simprocAttr, ENB, P4, hzt, hzl, List.length_map, j3, TSz, h9, F1, z9]
    all_goals rfl
  have f1 : decide (i < 0) = false := decide_eq_false h1
  obtain ⟨n, rfl⟩ := Int.eq_ofNat_of_zero_le (by omega : 0 ≤ i)
  rcases Nat.lt_or_ge n (u6 ns fl S).length with hlt | hge
  · obtain ⟨y, hy⟩ : ∃ y, (u6 ns fl S)[n]? = some y := ⟨_, List.getElem?_eq_getElem hlt⟩
    have e : doG ns fl S (n : Int) = (y, 0) := by unfold doG; rw [if_neg (by simpa using h0), if_neg h1, Int.toNat_natCast, hy]
    rw [e]
    have hyl := hto y (List.mem_of_getElem? hy)
    generalize u6 ns fl S = sl at *
    have hxy : (sl.map eSp)[n]? = some ((cSp y).map (PV.int .i64)) := by rw [List.getElem?_map, hy]; rfl
    have f2 : decide ((sl.length : Int) ≤ (n : Int)) = false := by simp; omega
    have n0 : (0 : Int) ≤ (n : Int) := by omega
    have y54 : (cSp y).length = 54 := G4 hyl
    have ymm := (z9 (cSp y)).trans (rJ y)
    have ycons : (cSp y).map (PV.int .i64) = .int .i64 y.node :: .int .i64 y.arg :: .int .i64 y.lk :: .int .i64 y.ln :: .int .i64 y.la :: y.to.map (PV.int .i64) := rfl
    have yto : (y.to.map (PV.int .i64)).map AV.p = y.to.map AV.i := z9 y.to
    have yt49 : (y.to.map AV.i).take 49 = y.to.map AV.i := List.take_of_length_le (by rw [List.length_map, hyl]; exact Nat.le_refl _)
    have yt49p : (y.to.map (PV.int .i64)).take 49 = y.to.map (PV.int .i64) := List.take_of_length_le (by rw [List.length_map, hyl]; exact Nat.le_refl _)
    have hyz : w9 (zS.map AV.i) 0 (y.to.map AV.i) = y.to.map AV.i := n9 (n := 49) (by rw [List.length_map, hyl]) _ hzl
    refine d9 (rl := []) i6 Tryz.func16 rfl (rs := [.cell 6 29, .cell 7 46, .tmp 8]) rfl Tryz.ntmps16 (by simp) ?_
    repeat' (first | ((first | refine c8 ?_ | refine b8 ?_ | refine o5 ?_ | refine m9 ?_); (try simp only [NB])) | ((repeat ((fail_if_success (refine hK _ ?_)); clear hK K)); refine hK _ ?_; clear hK K) | ((first | refine d8 fun K1 p7 => ?_ | refine d6 fun K1 p7 => ?_ | refine o6 rfl rfl rfl fun K1 p7 => ?_ | refine b5 fun A B hA hB => ?_); simp only [S1, simprocAttr, P4, f1, f2, n0, hxy, y54, ymm, ycons, yto, yt49, yt49p, hyz, hyl, TSz, i8, i7, j3, hem, hne, hS, e9, t49', g9, h9, LNB]; first | (refine p7 _ ?_; clear p7 K1) | ((first | refine hA ?_ | refine hB ?_); clear hA hB A B) | ((first | apply b9 E9 | apply c7 E9); exact (hck _); (refine p7 _ ?_; clear p7 K1)) | ((first | apply b9 E26 | apply c7 E26); exact (hst _); (refine p7 _ ?_; clear p7 K1)) | (refine g8 (v := ?_) (fun hg p8 => ?_) ?_; rotate_left; (focus (try ((try simp only [BN] at hg); simp only [S1, simprocAttr, P4, f1, f2, n0, hxy, y54, ymm, ycons, yto, yt49, yt49p, hyz, hyl, TSz, i8, i7, j3, hem, hne, hS, e9, t49', g9, h9, LNB, hg] at p8 ⊢)); first | exact p8 | ((first | apply b9 E9 | apply c7 E9); exact (hck _); exact p8) | ((first | apply b9 E26 | apply c7 E26); exact (hst _); exact p8)); (refine p7 _ ?_; clear p7 K1)) | (((first | (refine ⟨fun hg => hA ?_, fun hg => hB ?_⟩ <;> clear hA hB A B) | refine ⟨fun hg => ?_, fun hg => ?_⟩) <;> (try simp only [BN2] at hg) <;> (try simp only [hg, cndB])) <;> (try (refine p7 _ ?_; clear p7 K1)) <;> (try simp only [BN3] at hg))) | ((first | refine t9 (v := ?_) rfl rfl rfl rfl (by decide) (fun R1 K1 p7 => ?_) ?_ | refine t8 (v := ?_) rfl rfl rfl (by decide) (fun K1 p7 => ?_) ?_ | refine r8 (v := ?_) rfl rfl rfl (by decide) (fun K1 p7 => ?_) ?_ | refine tN (v := ?_) rfl rfl rfl rfl (by decide) (fun H1 K1 p7 => ?_) ?_); rotate_left; (focus (simp only [S1, simprocAttr, P4, f1, f2, n0, hxy, y54, ymm, ycons, yto, yt49, yt49p, hyz, hyl, TSz, i8, i7, j3, hem, hne, hS, e9, t49', g9, h9, LNB]; first | (exact p7 _ _ _) | ((first | apply b9 E9 | apply c7 E9); exact (hck _); exact p7 _ _ _) | ((first | apply b9 E26 | apply c7 E26); exact (hst _); exact p7 _ _ _)))) | (refine n5 rfl rfl rfl ?_) | ((first | refine i3 (z := ?_) 0 rfl rfl rfl rfl (by decide) rfl ?_ ?_ | refine i3 (z := ?_) 1 rfl rfl rfl rfl (by decide) rfl ?_ ?_ | refine i3 (z := ?_) 2 rfl rfl rfl rfl (by decide) rfl ?_ ?_); rotate_left; (focus (simp only [S1, simprocAttr, P4, f1, f2, n0, hxy, y54, ymm, ycons, yto, yt49, yt49p, hyz, hyl, TSz, i8, i7, j3, hem, hne, hS, e9, t49', g9, h9, LNB, u9]; rfl))) | (refine b6 fun K hK => ?_) | (refine p6 [0, 1, 2, 3, 4, 5, 6, 7, 8, 9, 10, 11, 12, 13] 0 (fs := [2, 7, 10]) rfl (by kernel_rfl) (by kernel_rfl) ?_) | ((first | refine a9 ?_ | refine j4 (by kernel_rfl) ?_ | refine b7 ?_ | refine c9 ?_ | refine d4 ?_ | refine d7 ?_); try simp only [NB, simprocAttr]))
    all_goals simp only [S1, simprocAttr, ENB, P4, yt49, hyl, List.length_map, TSz, h9, F1, z9]
  · have e : doG ns fl S (n : Int) = (zSp, 6) := by unfold doG; rw [if_neg (by simpa using h0), if_neg h1, Int.toNat_natCast, List.getElem?_eq_none hge]
    rw [e]
    generalize u6 ns fl S = sl at *
    have f2 : decide ((sl.length : Int) ≤ (n : Int)) = true := by simp; omega
    refine d9 (rl := []) i6 Tryz.func16 rfl (rs := [.cell 6 29, .cell 7 46, .tmp 8]) rfl Tryz.ntmps16 (by simp) ?_
    repeat' (first | ((repeat ((fail_if_success (refine hK _ ?_)); clear hK K)); refine hK _ ?_; clear hK K) | ((first | refine d8 fun K1 p7 => ?_ | refine d6 fun K1 p7 => ?_ | refine b5 fun A B hA hB => ?_); simp only [S1, simprocAttr, P4, f1, f2, TSz, i8, i7, j3, hem, hzz, hzt, hne, hS, e9, t49', g9, h9, List.length_map]; first | refine p7 _ ?_; clear p7 K1 | ((first | refine hA ?_ | refine hB ?_); clear hA hB A B) | ((first | apply b9 E9 | apply c7 E9); exact (hck _); refine p7 _ ?_; clear p7 K1) | ((first | apply b9 E26 | apply c7 E26); exact (hst _); refine p7 _ ?_; clear p7 K1) | (refine g8 (v := ?_) (fun hg p8 => ?_) ?_; rotate_left; (focus (try ((try simp only [BN] at hg); simp only [S1, simprocAttr, P4, f1, f2, TSz, i8, i7, j3, hem, hzz, hzt, hne, hS, e9, t49', g9, h9, List.length_map, hg] at p8 ⊢)); first | exact p8 | ((first | apply b9 E9 | apply c7 E9); exact (hck _); exact p8) | ((first | apply b9 E26 | apply c7 E26); exact (hst _); exact p8)); refine p7 _ ?_; clear p7 K1) | (((first | (refine ⟨fun hg => hA ?_, fun hg => hB ?_⟩ <;> clear hA hB A B) | refine ⟨fun hg => ?_, fun hg => ?_⟩) <;> (try simp only [BN2] at hg) <;> (try simp only [hg, cndB])) <;> (try (refine p7 _ ?_; clear p7 K1)) <;> (try simp only [BN3] at hg))) | refine b6 fun K hK => ?_ | ((first | apply c8 | apply b8 | apply a9 | refine d5 ?_ | apply b7 | apply c9 | apply d4 | apply d7); try simp only [NB, simprocAttr]))
    all_goals simp only [S1, simprocAttr, ENB, P4, hzt, hzl, List.length_map, j3, TSz, h9, F1, z9]
    all_goals rfl
end
section
def jH := And.intro T2 (And.intro T3 (And.intro T4 (And.intro T22 (And.intro T25 (And.intro T26 (And.intro T27 (And.intro T34 (And.intro T53 T70))))))))
attribute [local irreducible] awp q9 m7 n7 r5 q8
theorem mL {α : Type} {p : α → Bool} : ∀ {l : List α} {i : Nat}, 0 ≤ G2 p l i → ∃ (j : Nat) (k : α), G2 p l i = ((i + j : Nat) : Int) ∧ l[j]? = some k ∧ p k = true
  | [], i, h => by simp [G2] at h
  | k :: r, i, h => by
    unfold G2 at h ⊢
    cases hp : p k with
    | true => exact ⟨0, k, by simp, rfl, hp⟩
    | false =>
      rw [hp] at h
      simp only [Bool.false_eq_true, if_false] at h ⊢
      obtain ⟨j, k', h1, h2, h3⟩ := mL (l := r) (i := i + 1) h
      exact ⟨j + 1, k', by rw [h1]; congr 1; omega, h2, h3⟩
theorem Right.begin {ns : List Nd} {fl : List Fl} (h : Right ns fl) : ∃ (s f : Nat), o4 ns 1 = (s : Int) ∧ k3 fl (s : Int) = [(f : Int)] ∧ f < fl.length := by
  obtain ⟨⟨h0, h1⟩, _⟩ := kv h.ends
  obtain ⟨s, k, e, hk, hp⟩ := mL (p := fun x : Nd => x.kind == 1) (l := ns) (i := 0) h0
  have hk1 : k.kind = 1 := by simpa using hp
  have ar := (h.ar1 hk hk1).2
  have e' : o4 ns 1 = (s : Int) := by unfold o4; rw [e]; simp
  obtain ⟨a, ha⟩ := tC ar
  obtain ⟨f, hf, hlt, _⟩ := qC h (s : Int) a (by rw [ha]; simp)
  exact ⟨s, f, e', by rw [ha, hf], hlt⟩
noncomputable def I5 (ns : List Nd) (fl : List Fl) : List Int × Int := if (E5 ns fl).1 ≠ 0 then (zS, 4) else (zS.set ((k3 fl (o4 ns 1)).headD 0).toNat 1, 0)
theorem kO {ns : List Nd} {fl : List Fl} (nk : NetOk ns fl) (h : Heap) :
    f9 Tryz.prog gW 18 [N5 ns fl] h (fun r h' => r = .tup [aS (I5 ns fl).1, .i (I5 ns fl).2] ∧ h' = h) := by
  have hnet := fun h => eV ns fl nk h
  have hzl : (zS.map AV.i).length = 49 := by rw [List.length_map]; rfl
  have hem : (zS.map AV.i).isEmpty = false := rfl
  have hzz : w9 (zS.map AV.i) 0 (zS.map AV.i) = zS.map AV.i := n9 (n := 49) (by rw [List.length_map]; rfl) _ hzl
  have hzt : (zS.map AV.i).take 49 = zS.map AV.i := List.take_of_length_le (by rw [hzl]; exact Nat.le_refl _)
  by_cases h0 : (E5 ns fl).1 = 0
  case neg =>
    have f0 : ((E5 ns fl).1 != 0) = true := by simp [h0]
    have e : I5 ns fl = (zS, 4) := by unfold I5; rw [if_pos h0]
    rw [e]
    refine d9 (rl := []) i6 Tryz.func18 rfl (rs := [.cell 2 29, .tmp 3]) rfl Tryz.ntmps18 (by simp) ?_
    repeat' (first | ((repeat ((fail_if_success (refine hK _ ?_)); clear hK K)); refine hK _ ?_; clear hK K) | ((first | refine d8 fun K1 p7 => ?_ | refine d6 fun K1 p7 => ?_ | refine b5 fun A B hA hB => ?_); simp only [S1, simprocAttr, jH, f0, TSz, i8, i7, j3, hem, hzz, hzt, e9, g9, h9, List.length_map]; first | refine p7 _ ?_; clear p7 K1 | ((first | refine hA ?_ | refine hB ?_); clear hA hB A B) | ((first | apply b9 E22 | apply c7 E22); exact (hnet _); refine p7 _ ?_; clear p7 K1) | (((first | (refine ⟨fun hg => hA ?_, fun hg => hB ?_⟩ <;> clear hA hB A B) | refine ⟨fun hg => ?_, fun hg => ?_⟩) <;> (try simp only [BN2] at hg) <;> (try simp only [hg, cndB])) <;> (try (refine p7 _ ?_; clear p7 K1)) <;> (try simp only [BN3] at hg))) | refine b6 fun K hK => ?_ | ((first | apply c8 | apply b8 | apply a9 | refine d5 ?_ | apply b7 | apply c9 | apply d4 | apply d7); try simp only [NB, simprocAttr]))
    all_goals simp only [S1, simprocAttr, ENB, jH, hzt, hzl, List.length_map, j3, TSz, h9, F1, z9]
  have f0 : ((E5 ns fl).1 != 0) = false := by simp [h0]
  have rt := Right.of h0
  obtain ⟨s, f, e1, e2, e3⟩ := rt.begin
  have hf := rt.f
  have e : I5 ns fl = (zS.set f 1, 0) := by unfold I5; rw [if_neg (by simpa using h0), e1, e2]; rfl
  rw [e]
  have hs := fun h => B0 (G := gW) ns nk.n (fl.map eF) h
  have ho := fun h => k4 (G := gW) (ns.map eN) fl nk.f (s : Int) h
  rw [e1] at hs
  rw [e2] at ho
  have f40 : (f : Int) < 40 := by omega
  have f0' : (0 : Int) ≤ (f : Int) := by omega
  have f49 : f + 1 ≤ 49 := by omega
  have hset := F0 zS f 1
  have hzs : (zS.set f 1).length = 49 := by rw [List.length_set]; rfl
  have hzt2 : ((zS.set f 1).map AV.i).take 49 = (zS.set f 1).map AV.i := List.take_of_length_le (by rw [List.length_map, hzs]; exact Nat.le_refl _)
  have hzz2 : w9 (zS.map AV.i) 0 ((zS.set f 1).map AV.i) = (zS.set f 1).map AV.i := n9 (n := 49) (by rw [List.length_map, hzs]) _ hzl
  have hei : eI (f : Int) = [.int .i64 (f : Int)] := rfl
  have hi0 : (0 : Int) ≤ 0 := Int.le_refl 0
  refine d9 (rl := []) i6 Tryz.func18 rfl (rs := [.cell 2 29, .tmp 3]) rfl Tryz.ntmps18 (by simp) ?_
  repeat' (first | ((first | refine c8 ?_ | refine b8 ?_ | refine o5 ?_ | refine m9 ?_); (try simp only [NB])) | ((repeat ((fail_if_success (refine hK _ ?_)); clear hK K)); refine hK _ ?_; clear hK K) | ((first | refine d8 fun K1 p7 => ?_ | refine d6 fun K1 p7 => ?_ | refine o6 rfl rfl rfl fun K1 p7 => ?_ | refine b5 fun A B hA hB => ?_); simp only [S1, simprocAttr, jH, f0, f40, f0', f49, hset, hzs, hzt2, hzz2, hei, hi0, TSz, i8, i7, j3, hem, hzz, hzt, e9, g9, h9, List.length_map, List.getElem?_cons_zero, Nat.mul_one]; first | (refine p7 _ ?_; clear p7 K1) | ((first | refine hA ?_ | refine hB ?_); clear hA hB A B) | ((first | apply b9 E22 | apply c7 E22); exact (hnet _); (refine p7 _ ?_; clear p7 K1)) | ((first | apply b9 E30 | apply c7 E30); exact (hs _); (refine p7 _ ?_; clear p7 K1)) | ((first | apply b9 E29 | apply c7 E29); exact (ho _); (refine p7 _ ?_; clear p7 K1)) | (((first | (refine ⟨fun hg => hA ?_, fun hg => hB ?_⟩ <;> clear hA hB A B) | refine ⟨fun hg => ?_, fun hg => ?_⟩) <;> (try simp only [BN2] at hg) <;> (try simp only [hg, cndB])) <;> (try (refine p7 _ ?_; clear p7 K1)) <;> (try simp only [BN3] at hg))) | ((first | refine t9 (v := ?_) rfl rfl rfl rfl (by decide) (fun R1 K1 p7 => ?_) ?_ | refine t8 (v := ?_) rfl rfl rfl (by decide) (fun K1 p7 => ?_) ?_ | refine r8 (v := ?_) rfl rfl rfl (by decide) (fun K1 p7 => ?_) ?_); rotate_left; (focus (simp only [S1, simprocAttr, jH, f0, f40, f0', f49, hset, hzs, hzt2, hzz2, hei, hi0, TSz, i8, i7, j3, hem, hzz, hzt, e9, g9, h9, List.length_map, List.getElem?_cons_zero, Nat.mul_one]; first | (exact p7 _ _ _) | ((first | apply b9 E22 | apply c7 E22); exact (hnet _); exact p7 _ _ _) | ((first | apply b9 E30 | apply c7 E30); exact (hs _); exact p7 _ _ _) | ((first | apply b9 E29 | apply c7 E29); exact (ho _); exact p7 _ _ _)))) | (refine n5 rfl rfl rfl ?_) | ((first | refine i3 (z := ?_) 0 rfl rfl rfl rfl (by decide) rfl ?_ ?_ | refine i3 (z := ?_) 1 rfl rfl rfl rfl (by decide) rfl ?_ ?_ | refine i3 (z := ?_) 2 rfl rfl rfl rfl (by decide) rfl ?_ ?_); rotate_left; (focus (simp only [S1, simprocAttr, jH, f0, f40, f0', f49, hset, hzs, hzt2, hzz2, hei, hi0, TSz, i8, i7, j3, hem, hzz, hzt, e9, g9, h9, List.length_map, List.getElem?_cons_zero, Nat.mul_one, u9]; rfl))) | (refine b6 fun K hK => ?_) | (refine p6 [0, 1, 2, 3, 4, 5, 6, 7, 8] 0 (fs := []) rfl (by kernel_rfl) (by kernel_rfl) ?_) | ((first | refine a9 ?_ | refine j4 (by kernel_rfl) ?_ | refine b7 ?_ | refine c9 ?_ | refine d4 ?_ | refine d7 ?_); try simp only [NB, simprocAttr]))
  all_goals simp only [S1, simprocAttr, ENB, jH, hzt2, hzs, List.length_map, j3, TSz, h9, F1, z9]
end
section
def Y3 := And.intro T2 (And.intro T3 (And.intro T4 (And.intro T63 (And.intro T65 (And.intro T66 T68)))))
attribute [local irreducible] awp q9 m7
variable {G : Nat → Option (List PV)}
theorem mM (t : Tm) : ∀ (d n : Int) (b g : Nat) (h : Heap), 0 ≤ n → n ≤ 3000 → 1 ≤ d → d ≤ 41 → h[b]? = some (rB g n) →
    f9 Tryz.prog G 21 [aT t, .ptr b g 0, .i d] h (fun r h' => r = .b (lgT t d n).1 ∧ h' = w7 h b (rB g (lgT t d n).2)) := by
  refine Tm.ind (p := fun t => ∀ (d n : Int) (b g : Nat) (h : Heap), 0 ≤ n → n ≤ 3000 → 1 ≤ d → d ≤ 41 → h[b]? = some (rB g n) →
    f9 Tryz.prog G 21 [aT t, .ptr b g 0, .i d] h (fun r h' => r = .b (lgT t d n).1 ∧ h' = w7 h b (rB g (lgT t d n).2))) (fun t ih => ?_) t
  intro d n b g h hn hn2 hd hd2 hb
  have hlt : b < h.length := (List.getElem?_eq_some_iff.mp hb).1
  have hself := sU hb
  have hw : IntKind.i64.wrap (n - 1) = n - 1 := IntWalk.i64_in _ (by omega)
  rw [nN]
  refine j8 (rl := []) i6 Tryz.func21 rfl (rs := [.tmp 6]) rfl Tryz.ntmps21 (by simp) ?_
  rw [← hself]
  by_cases hbig : n - 1 < 0 ∨ 40 < d ∨ 50 < (t.kids.length : Int)
  · rw [if_pos hbig]
    have f1 : ((decide (n - 1 < 0) || decide (40 < d)) || decide (50 < (t.kids.length : Int))) = true := by
      simp; omega
    repeat' (first | ((repeat ((fail_if_success (refine hK _ ?_)); clear hK K)); refine hK _ ?_; clear hK K) | ((first | refine d8 fun K1 p7 => ?_ | refine d6 fun K1 p7 => ?_ | refine b5 fun A B hA hB => ?_); simp only [S1, simprocAttr, Y3, f1, hw, List.length_map, ab hlt, cW hlt, W6, ad hlt, V5, V6, z4]; first | refine p7 _ ?_; clear p7 K1 | ((first | refine hA ?_ | refine hB ?_); clear hA hB A B) | (refine g8 (v := ?_) (fun hg p8 => ?_) ?_; rotate_left; (focus (try ((try simp only [BN] at hg); simp only [S1, simprocAttr, Y3, f1, hw, List.length_map, ab hlt, cW hlt, W6, ad hlt, V5, V6, z4, hg] at p8 ⊢)); first | exact p8); refine p7 _ ?_; clear p7 K1) | (((first | (refine ⟨fun hg => hA ?_, fun hg => hB ?_⟩ <;> clear hA hB A B) | refine ⟨fun hg => ?_, fun hg => ?_⟩) <;> (try simp only [BN2] at hg) <;> (try simp only [hg, cndB])) <;> (try (refine p7 _ ?_; clear p7 K1)) <;> (try simp only [BN3] at hg))) | refine b6 fun K hK => ?_ | ((first | apply c8 | apply b8 | apply a9 | refine d5 ?_ | apply b7 | apply c9 | apply d4 | apply d7); try simp only [NB, simprocAttr]))
    all_goals simp only [y8, y1, Q6, S4, K6, F2, D8, D3, pur, I2, z4, ky, gU, rK, S1, simprocAttr, Y3, Nat.le_add_right, Nat.le_refl]
    all_goals first | exact M5 | exact ⟨M5, rfl⟩ | exact ⟨M5, rfl, rfl⟩
  · rw [if_neg hbig]
    have f1 : ((decide (n - 1 < 0) || decide (40 < d)) || decide (50 < (t.kids.length : Int))) = false := by
      simp; omega
    have hkl : t.kids.length ≤ 100 := by omega
    have hm0 : 0 ≤ n - 1 := by omega
    have hd3 : IntKind.i64.wrap (d + 1) = d + 1 := IntWalk.i64_in _ (by omega)
    let m := fun i => (lgS (t.kids.take i) (d + 1) (n - 1)).2
    refine b6 fun K hK => ?_
    repeat' (first | ((repeat ((fail_if_success (refine hK _ ?_)); clear hK K)); refine hK _ ?_; clear hK K) | ((first | refine d8 fun K1 p7 => ?_ | refine d6 fun K1 p7 => ?_ | refine b5 fun A B hA hB => ?_); simp only [S1, simprocAttr, Y3, f1, hw, List.length_map, ab hlt, cW hlt, W6, ad hlt, V5, V6, z4]; first | refine p7 _ ?_; clear p7 K1 | ((first | refine hA ?_ | refine hB ?_); clear hA hB A B) | (refine g8 (v := ?_) (fun hg p8 => ?_) ?_; rotate_left; (focus (try ((try simp only [BN] at hg); simp only [S1, simprocAttr, Y3, f1, hw, List.length_map, ab hlt, cW hlt, W6, ad hlt, V5, V6, z4, hg] at p8 ⊢)); first | exact p8); refine p7 _ ?_; clear p7 K1) | (((first | (refine ⟨fun hg => hA ?_, fun hg => hB ?_⟩ <;> clear hA hB A B) | refine ⟨fun hg => ?_, fun hg => ?_⟩) <;> (try simp only [BN2] at hg) <;> (try simp only [hg, cndB])) <;> (try (refine p7 _ ?_; clear p7 K1)) <;> (try simp only [BN3] at hg))) | refine b6 fun K hK => ?_ | ((first | apply c8 | apply b8 | apply a9 | refine d5 ?_ | apply b7 | apply c9 | apply d4 | apply d7); try simp only [NB, simprocAttr]))
    refine S6 t.kids.length 45 (fun i => w7 h b (rB g (m i))) (fun i => [(35, .i i), (34, .i t.kids.length), (33, .p (.sl (t.kids.map eT))), (1, .ptr b g 0), (2, .i d)]) (fun i => []) (fun i => (lgS (t.kids.take i) (d + 1) (n - 1)).1 = false)
      (fun i => ⟨by rw [z4, z4], oY⟩) ?_ (by simp [lgS]) fun i hi hp K hK => ?_
    · have e0 : m 0 = n - 1 := by simp [m, lgS]
      simp only [e0]
      refine ⟨rfl, ⟨_, rfl⟩, ?_, ?_⟩
      · simp [S5, y6, U9, z4]; omega
      · simp [A6]
    rcases Nat.lt_or_ge i t.kids.length with hlti | hge
    · obtain ⟨k, hx⟩ : ∃ k, t.kids[i]? = some k := ⟨_, List.getElem?_eq_getElem hlti⟩
      have hmem := List.mem_of_getElem? hx
      have hmi : 0 ≤ m i ∧ m i ≤ n - 1 := by
        have := gS (l := t.kids.take i) (d := d + 1) hm0
        exact ⟨this.2.2 hp, this.2.1⟩
      have hr : ∀ L : Heap, f9 Tryz.prog G 21 [aT k, .ptr b g 0, .i (d + 1)] (w7 h b (rB g (m i)) ++ L) (fun r h' => r = .b (lgT k (d + 1) (m i)).1 ∧ h' = w7 h b (rB g (lgT k (d + 1) (m i)).2) ++ L) := fun L => by
        have := ih k hmem (d + 1) (m i) b g (w7 h b (rB g (m i)) ++ L) hmi.1 (by omega) (by omega) (by omega) (ab hlt L)
        rwa [ud L hlt] at this
      cases hb1 : (lgT k (d + 1) (m i)).1 with
      | false =>
        rw [hb1] at hr
        have hs := cV hx hp
        repeat' (first | ((repeat ((fail_if_success (refine hK _ ?_)); clear hK K)); refine hK _ ?_; clear hK K) | ((first | refine d8 fun K1 p7 => ?_ | refine d6 fun K1 p7 => ?_ | refine b5 fun A B hA hB => ?_); simp only [S1, simprocAttr, Y3, W3 hx, Q7 hlti, M3 hkl hlti, n8, hd3, List.length_map, ab hlt, cW hlt, W6, ad hlt, V5, V6, z4, fE, fF]; first | refine p7 _ ?_; clear p7 K1 | ((first | refine hA ?_ | refine hB ?_); clear hA hB A B) | ((first | apply b9 E21 | apply c7 E21); exact (hr _); refine p7 _ ?_; clear p7 K1) | (refine g8 (v := ?_) (fun hg p8 => ?_) ?_; rotate_left; (focus (try ((try simp only [BN] at hg); simp only [S1, simprocAttr, Y3, W3 hx, Q7 hlti, M3 hkl hlti, n8, hd3, List.length_map, ab hlt, cW hlt, W6, ad hlt, V5, V6, z4, fE, fF, hg] at p8 ⊢)); first | exact p8 | ((first | apply b9 E21 | apply c7 E21); exact (hr _); exact p8)); refine p7 _ ?_; clear p7 K1) | (((first | (refine ⟨fun hg => hA ?_, fun hg => hB ?_⟩ <;> clear hA hB A B) | refine ⟨fun hg => ?_, fun hg => ?_⟩) <;> (try simp only [BN2] at hg) <;> (try simp only [hg, cndB])) <;> (try (refine p7 _ ?_; clear p7 K1)) <;> (try simp only [BN3] at hg))) | refine b6 fun K hK => ?_ | ((first | apply c8 | apply b8 | apply a9 | refine d5 ?_ | apply b7 | apply c9 | apply d4 | apply d7); try simp only [NB, simprocAttr]))
        refine ⟨hlti, by rw [hs]; exact hb1, ?_⟩
        have em : m (i + 1) = (lgT k (d + 1) (m i)).2 := by simp only [m, hs]
        rw [em]
        refine ⟨rfl, ⟨_, rfl⟩, ?_, ?_⟩
        · simp [S5, y6, U9, frL, z4]; omega
        · simp [A6]
      | true =>
        rw [hb1] at hr
        have hs := gR hx hp hb1
        repeat' (first | ((repeat ((fail_if_success (refine hK _ ?_)); clear hK K)); refine hK _ ?_; clear hK K) | ((first | refine d8 fun K1 p7 => ?_ | refine d6 fun K1 p7 => ?_ | refine b5 fun A B hA hB => ?_); simp only [S1, simprocAttr, Y3, W3 hx, Q7 hlti, M3 hkl hlti, n8, hd3, List.length_map, ab hlt, cW hlt, W6, ad hlt, V5, V6, z4, fE, fF]; first | refine p7 _ ?_; clear p7 K1 | ((first | refine hA ?_ | refine hB ?_); clear hA hB A B) | ((first | apply b9 E21 | apply c7 E21); exact (hr _); refine p7 _ ?_; clear p7 K1) | (refine g8 (v := ?_) (fun hg p8 => ?_) ?_; rotate_left; (focus (try ((try simp only [BN] at hg); simp only [S1, simprocAttr, Y3, W3 hx, Q7 hlti, M3 hkl hlti, n8, hd3, List.length_map, ab hlt, cW hlt, W6, ad hlt, V5, V6, z4, fE, fF, hg] at p8 ⊢)); first | exact p8 | ((first | apply b9 E21 | apply c7 E21); exact (hr _); exact p8)); refine p7 _ ?_; clear p7 K1) | (((first | (refine ⟨fun hg => hA ?_, fun hg => hB ?_⟩ <;> clear hA hB A B) | refine ⟨fun hg => ?_, fun hg => ?_⟩) <;> (try simp only [BN2] at hg) <;> (try simp only [hg, cndB])) <;> (try (refine p7 _ ?_; clear p7 K1)) <;> (try simp only [BN3] at hg))) | refine b6 fun K hK => ?_ | ((first | apply c8 | apply b8 | apply a9 | refine d5 ?_ | apply b7 | apply c9 | apply d4 | apply d7); try simp only [NB, simprocAttr]))
        rw [hs, hb1]
        simp only [y8, y1, Q6, S4, K6, F2, D8, D3, pur, I2, z4, ky, gU, rK, S1, simprocAttr, Y3, Nat.le_add_right, Nat.le_refl]
        first | exact M5 | exact ⟨M5, rfl⟩ | exact ⟨M5, rfl, rfl⟩
    · obtain rfl : i = t.kids.length := by omega
      repeat' (first | ((repeat ((fail_if_success (refine hK _ ?_)); clear hK K)); refine hK _ ?_; clear hK K) | ((first | refine d8 fun K1 p7 => ?_ | refine d6 fun K1 p7 => ?_ | refine b5 fun A B hA hB => ?_); simp only [S1, simprocAttr, Y3, Z4]; first | refine p7 _ ?_; clear p7 K1 | ((first | refine hA ?_ | refine hB ?_); clear hA hB A B) | (refine g8 (v := ?_) (fun hg p8 => ?_) ?_; rotate_left; (focus (try ((try simp only [BN] at hg); simp only [S1, simprocAttr, Y3, Z4, hg] at p8 ⊢)); first | exact p8); refine p7 _ ?_; clear p7 K1) | (((first | (refine ⟨fun hg => hA ?_, fun hg => hB ?_⟩ <;> clear hA hB A B) | refine ⟨fun hg => ?_, fun hg => ?_⟩) <;> (try simp only [BN2] at hg) <;> (try simp only [hg, cndB])) <;> (try (refine p7 _ ?_; clear p7 K1)) <;> (try simp only [BN3] at hg))) | refine b6 fun K hK => ?_ | ((first | apply c8 | apply b8 | apply a9 | refine d5 ?_ | apply b7 | apply c9 | apply d4 | apply d7); try simp only [NB, simprocAttr]))
      have e : t.kids.take t.kids.length = t.kids := List.take_length
      rw [e] at hp
      have em : m t.kids.length = (lgS t.kids (d + 1) (n - 1)).2 := by simp only [m, e]
      rw [em, hp]
      simp only [y8, y1, Q6, S4, K6, F2, D8, D3, pur, I2, z4, ky, gU, rK, S1, simprocAttr, Y3, Nat.le_add_right, Nat.le_refl]
      first | exact M5 | exact ⟨M5, rfl⟩ | exact ⟨M5, rfl, rfl⟩
end
section
def L7 := And.intro T2 (And.intro T3 (And.intro T4 (And.intro T22 (And.intro T23 (And.intro T25 (And.intro T63 (And.intro T65 (And.intro T66 (And.intro T68 (And.intro T70 T73))))))))))
attribute [local irreducible] awp q9 m7 n7 r5 q8
variable {G : Nat → Option (List PV)}
def W7 (ns : List Nd) (fl : List Fl) : Bool := (decide (30 < (ns.length : Int)) || decide (50 < (fl.length : Int))) || (lgS (M6 ns fl) 1 2000).1
theorem ei {ns : List Nd} {fl : List Fl} (h : W7 ns fl = false) : NetOk ns fl := by
  unfold W7 at h
  simp only [Bool.or_eq_false_iff, decide_eq_false_iff_not] at h
  obtain ⟨⟨h1, h2⟩, h3⟩ := h
  have ha := sV (by omega) h3
  refine ⟨by omega, by omega, ⟨40, by omega, fun k hk => ha _ ?_⟩, ⟨40, by omega, fun k hk => ha _ ?_⟩⟩
  · unfold M6; exact List.mem_append_left _ (List.mem_map.mpr ⟨k, hk, rfl⟩)
  · unfold M6; exact List.mem_append_right _ (List.mem_map.mpr ⟨k, hk, rfl⟩)
theorem mN (k : Tm) (n : Int) (hn : 0 ≤ n) (hn2 : n ≤ 3000) (h : Heap) (A : Option Blk) (L : Heap) :
    f9 Tryz.prog G 21 [aT k, .ptr (h.length + 1) 0 0, .i 1] (h ++ (A :: some ⟨0, [.i n]⟩ :: L)) (fun r h' => r = .b (lgT k 1 n).1 ∧ h' = h ++ (A :: some ⟨0, [.i (lgT k 1 n).2]⟩ :: L)) := by
  have := mM (G := G) k 1 n (h.length + 1) 0 (h ++ (A :: some ⟨0, [.i n]⟩ :: L)) hn hn2 (by omega) (by omega) (by simp [q7])
  simpa only [w7, cK, List.set_cons_succ, List.set_cons_zero] using this
theorem ao (ns : List Nd) (fl : List Fl) (h : Heap) : f9 Tryz.prog G 6 [N5 ns fl] h (fun r h' => r = .b (W7 ns fl) ∧ h' = h) := by
  cases hsz : (decide (30 < (ns.length : Int)) || decide (50 < (fl.length : Int))) with
  | true =>
    have e : W7 ns fl = true := by unfold W7; rw [hsz]; rfl
    rw [e]
    refine d9 (rl := []) i6 Tryz.func6 rfl (rs := [.tmp 2]) rfl Tryz.ntmps6 (by simp) ?_
    repeat' (first | ((repeat ((fail_if_success (refine hK _ ?_)); clear hK K)); refine hK _ ?_; clear hK K) | ((first | refine d8 fun K1 p7 => ?_ | refine d6 fun K1 p7 => ?_ | refine b5 fun A B hA hB => ?_); simp only [S1, simprocAttr, L7, List.length_map, hsz]; first | refine p7 _ ?_; clear p7 K1 | ((first | refine hA ?_ | refine hB ?_); clear hA hB A B) | (refine g8 (v := ?_) (fun hg p8 => ?_) ?_; rotate_left; (focus (try ((try simp only [BN] at hg); simp only [S1, simprocAttr, L7, List.length_map, hsz, hg] at p8 ⊢)); first | exact p8); refine p7 _ ?_; clear p7 K1) | (((first | (refine ⟨fun hg => hA ?_, fun hg => hB ?_⟩ <;> clear hA hB A B) | refine ⟨fun hg => ?_, fun hg => ?_⟩) <;> (try simp only [BN2] at hg) <;> (try simp only [hg, cndB])) <;> (try (refine p7 _ ?_; clear p7 K1)) <;> (try simp only [BN3] at hg))) | refine b6 fun K hK => ?_ | ((first | apply c8 | apply b8 | apply a9 | refine d5 ?_ | apply b7 | apply c9 | apply d4 | apply d7); try simp only [NB, simprocAttr]))
    all_goals simp only [S1, simprocAttr, ENB, L7]
  | false =>
    have e : W7 ns fl = (lgS (M6 ns fl) 1 2000).1 := by unfold W7; rw [hsz]; rfl
    have hn : ns.length ≤ 100 := by simp at hsz; omega
    have hl : fl.length ≤ 100 := by simp at hsz; omega
    rw [e]
    let m := fun j => (lgS ((ns.map (·.term)).take j) 1 2000)
    let m2 := fun j => (lgS (ns.map (·.term) ++ (fl.map (·.cond)).take j) 1 2000)
    refine d9 (rl := []) i6 Tryz.func6 rfl (rs := [.tmp 2]) rfl Tryz.ntmps6 (by simp) ?_
    repeat' (first | ((repeat ((fail_if_success (refine hK _ ?_)); clear hK K)); refine hK _ ?_; clear hK K) | ((first | refine d8 fun K1 p7 => ?_ | refine d6 fun K1 p7 => ?_ | refine b5 fun A B hA hB => ?_); simp only [S1, simprocAttr, L7, List.length_map, hsz]; first | refine p7 _ ?_; clear p7 K1 | ((first | refine hA ?_ | refine hB ?_); clear hA hB A B) | (refine g8 (v := ?_) (fun hg p8 => ?_) ?_; rotate_left; (focus (try ((try simp only [BN] at hg); simp only [S1, simprocAttr, L7, List.length_map, hsz, hg] at p8 ⊢)); first | exact p8); refine p7 _ ?_; clear p7 K1) | (((first | (refine ⟨fun hg => hA ?_, fun hg => hB ?_⟩ <;> clear hA hB A B) | refine ⟨fun hg => ?_, fun hg => ?_⟩) <;> (try simp only [BN2] at hg) <;> (try simp only [hg, cndB])) <;> (try (refine p7 _ ?_; clear p7 K1)) <;> (try simp only [BN3] at hg))) | refine b6 fun K hK => ?_ | ((first | apply c8 | apply b8 | apply a9 | refine d5 ?_ | apply b7 | apply c9 | apply d4 | apply d7); try simp only [NB, simprocAttr]))
    refine s5 ns.length 44 (fun j => [(23, .i j), (22, .i ns.length), (21, .p (.sl (ns.map eN))), (3, .ptr (h.length + 1) 0 0), (1, .ptr h.length 0 0)])
      (fun j => [some ⟨0, D1 ns fl⟩, some ⟨0, [.i (m j).2]⟩]) (fun j => (m j).1 = false) ?_ (by simp [m, lgS]) fun j hj hp K hK => ?_
    · have e0 : (m 0).2 = 2000 := by simp [m, lgS]
      simp only [e0]
      (refine ⟨rfl, (by first | exact ⟨_, rfl⟩ | exact ⟨[], by simp⟩), ?_, ?_⟩ <;> simp only [S1, simprocAttr, KNB] <;> (try and_intros) <;> (try assumption) <;> (try trivial) <;> (try omega))
    rcases Nat.lt_or_ge j ns.length with hlt | hge
    · obtain ⟨k, hx⟩ : ∃ k, ns[j]? = some k := ⟨_, List.getElem?_eq_getElem hlt⟩
      have hx2 : (ns.map (·.term))[j]? = some k.term := by simp [hx]
      have hr := gS (l := (ns.map (·.term)).take j) (d := 1) (n := 2000) (by omega)
      have hd := fun A L => mN (G := G) k.term (m j).2 (hr.2.2 hp) (by have := hr.2.1; show (lgS _ _ _).2 ≤ 3000; omega) h A L
      cases hq : (lgT k.term 1 (m j).2).1 with
      | false =>
        have hs := cV hx2 hp
        rw [hq] at hd
        repeat' (first | ((repeat ((fail_if_success (refine hK _ ?_)); clear hK K)); refine hK _ ?_; clear hK K) | ((first | refine d8 fun K1 p7 => ?_ | refine d6 fun K1 p7 => ?_ | refine b5 fun A B hA hB => ?_); simp only [S1, simprocAttr, L7, B8 hx, I9 hlt, A9 hn hlt, eN, List.length_map]; first | refine p7 _ ?_; clear p7 K1 | ((first | refine hA ?_ | refine hB ?_); clear hA hB A B) | ((first | apply b9 E21 | apply c7 E21); exact (hd _ _); refine p7 _ ?_; clear p7 K1) | (refine g8 (v := ?_) (fun hg p8 => ?_) ?_; rotate_left; (focus (try ((try simp only [BN] at hg); simp only [S1, simprocAttr, L7, B8 hx, I9 hlt, A9 hn hlt, eN, List.length_map, hg] at p8 ⊢)); first | exact p8 | ((first | apply b9 E21 | apply c7 E21); exact (hd _ _); exact p8)); refine p7 _ ?_; clear p7 K1) | (((first | (refine ⟨fun hg => hA ?_, fun hg => hB ?_⟩ <;> clear hA hB A B) | refine ⟨fun hg => ?_, fun hg => ?_⟩) <;> (try simp only [BN2] at hg) <;> (try simp only [hg, cndB])) <;> (try (refine p7 _ ?_; clear p7 K1)) <;> (try simp only [BN3] at hg))) | refine b6 fun K hK => ?_ | ((first | apply c8 | apply b8 | apply a9 | refine d5 ?_ | apply b7 | apply c9 | apply d4 | apply d7); try simp only [NB, simprocAttr]))
        refine ⟨hlt, by show (lgS _ _ _).1 = false; rw [hs]; exact hq, ?_⟩
        have em : m (j + 1) = lgT k.term 1 (m j).2 := hs
        rw [em]
        (refine ⟨rfl, (by first | exact ⟨_, rfl⟩ | exact ⟨[], by simp⟩), ?_, ?_⟩ <;> simp only [S1, simprocAttr, KNB] <;> (try and_intros) <;> (try assumption) <;> (try trivial) <;> (try omega))
      | true =>
        have hs : (lgS (M6 ns fl) 1 2000).1 = true := by
          unfold M6
          rw [fD, gR hx2 hp hq, if_pos hq]; exact hq
        rw [hq] at hd
        repeat' (first | ((repeat ((fail_if_success (refine hK _ ?_)); clear hK K)); refine hK _ ?_; clear hK K) | ((first | refine d8 fun K1 p7 => ?_ | refine d6 fun K1 p7 => ?_ | refine b5 fun A B hA hB => ?_); simp only [S1, simprocAttr, L7, B8 hx, I9 hlt, A9 hn hlt, eN, List.length_map]; first | refine p7 _ ?_; clear p7 K1 | ((first | refine hA ?_ | refine hB ?_); clear hA hB A B) | ((first | apply b9 E21 | apply c7 E21); exact (hd _ _); refine p7 _ ?_; clear p7 K1) | (refine g8 (v := ?_) (fun hg p8 => ?_) ?_; rotate_left; (focus (try ((try simp only [BN] at hg); simp only [S1, simprocAttr, L7, B8 hx, I9 hlt, A9 hn hlt, eN, List.length_map, hg] at p8 ⊢)); first | exact p8 | ((first | apply b9 E21 | apply c7 E21); exact (hd _ _); exact p8)); refine p7 _ ?_; clear p7 K1) | (((first | (refine ⟨fun hg => hA ?_, fun hg => hB ?_⟩ <;> clear hA hB A B) | refine ⟨fun hg => ?_, fun hg => ?_⟩) <;> (try simp only [BN2] at hg) <;> (try simp only [hg, cndB])) <;> (try (refine p7 _ ?_; clear p7 K1)) <;> (try simp only [BN3] at hg))) | refine b6 fun K hK => ?_ | ((first | apply c8 | apply b8 | apply a9 | refine d5 ?_ | apply b7 | apply c9 | apply d4 | apply d7); try simp only [NB, simprocAttr]))
        all_goals simp only [S1, simprocAttr, ENB, L7]
        all_goals rw [hs]
    obtain rfl : j = ns.length := by omega
    have ef : (ns.map (·.term)).take ns.length = ns.map (·.term) := List.take_of_length_le (by simp)
    have hp0 : (lgS (ns.map (·.term)) 1 2000).1 = false := by have := hp; simp only [m, ef] at this; exact this
    have m0 : m2 0 = m ns.length := by simp only [m, m2, ef, List.take_zero, List.append_nil]
    repeat' (first | ((repeat ((fail_if_success (refine hK _ ?_)); clear hK K)); refine hK _ ?_; clear hK K) | ((first | refine d8 fun K1 p7 => ?_ | refine d6 fun K1 p7 => ?_ | refine b5 fun A B hA hB => ?_); simp only [S1, simprocAttr, L7, T5, List.length_map]; first | refine p7 _ ?_; clear p7 K1 | ((first | refine hA ?_ | refine hB ?_); clear hA hB A B) | (refine g8 (v := ?_) (fun hg p8 => ?_) ?_; rotate_left; (focus (try ((try simp only [BN] at hg); simp only [S1, simprocAttr, L7, T5, List.length_map, hg] at p8 ⊢)); first | exact p8); refine p7 _ ?_; clear p7 K1) | (((first | (refine ⟨fun hg => hA ?_, fun hg => hB ?_⟩ <;> clear hA hB A B) | refine ⟨fun hg => ?_, fun hg => ?_⟩) <;> (try simp only [BN2] at hg) <;> (try simp only [hg, cndB])) <;> (try (refine p7 _ ?_; clear p7 K1)) <;> (try simp only [BN3] at hg))) | refine b6 fun K hK => ?_ | ((first | apply c8 | apply b8 | apply a9 | refine d5 ?_ | apply b7 | apply c9 | apply d4 | apply d7); try simp only [NB, simprocAttr]))
    refine s5 fl.length 44 (fun j => [(35, .i j), (34, .i fl.length), (33, .p (.sl (fl.map eF))), (3, .ptr (h.length + 1) 0 0), (1, .ptr h.length 0 0)])
      (fun j => [some ⟨0, D1 ns fl⟩, some ⟨0, [.i (m2 j).2]⟩]) (fun j => (m2 j).1 = false) ?_ (by rw [m0]; exact hp) fun j hj hp K hK => ?_
    · simp only [m0]
      (refine ⟨rfl, (by first | exact ⟨_, rfl⟩ | exact ⟨[], by simp⟩), ?_, ?_⟩ <;> simp only [S1, simprocAttr, KNB] <;> (try and_intros) <;> (try assumption) <;> (try trivial) <;> (try omega))
    rcases Nat.lt_or_ge j fl.length with hlt | hge
    · obtain ⟨k, hx⟩ : ∃ k, fl[j]? = some k := ⟨_, List.getElem?_eq_getElem hlt⟩
      have hx2 : (M6 ns fl)[ns.length + j]? = some k.cond := by
        unfold M6
        rw [List.getElem?_append_right (by simp)]
        simp [hx]
      have et : ∀ i, i ≤ fl.length → (M6 ns fl).take (ns.length + i) = ns.map (·.term) ++ (fl.map (·.cond)).take i := by
        intro i hi
        unfold M6
        have : ns.length = (ns.map (·.term)).length := by simp
        rw [this, List.take_length_add_append]
      have hp' : (lgS ((M6 ns fl).take (ns.length + j)) 1 2000).1 = false := by rw [et j hj]; exact hp
      have em2 : (lgS ((M6 ns fl).take (ns.length + j)) 1 2000) = m2 j := by rw [et j hj]
      have hr := gS (l := ns.map (·.term) ++ (fl.map (·.cond)).take j) (d := 1) (n := 2000) (by omega)
      have hd := fun A L => mN (G := G) k.cond (m2 j).2 (hr.2.2 hp) (by have := hr.2.1; show (lgS _ _ _).2 ≤ 3000; omega) h A L
      cases hq : (lgT k.cond 1 (m2 j).2).1 with
      | false =>
        have hs := cV hx2 hp'
        rw [em2] at hs
        have em : m2 (j + 1) = lgT k.cond 1 (m2 j).2 := by
          rw [← hs, Nat.add_assoc, et (j + 1) hlt]
        rw [hq] at hd
        repeat' (first | ((repeat ((fail_if_success (refine hK _ ?_)); clear hK K)); refine hK _ ?_; clear hK K) | ((first | refine d8 fun K1 p7 => ?_ | refine d6 fun K1 p7 => ?_ | refine b5 fun A B hA hB => ?_); simp only [S1, simprocAttr, L7, I8 hx, Q9 hlt, G1 hl hlt, eF, List.length_map]; first | refine p7 _ ?_; clear p7 K1 | ((first | refine hA ?_ | refine hB ?_); clear hA hB A B) | ((first | apply b9 E21 | apply c7 E21); exact (hd _ _); refine p7 _ ?_; clear p7 K1) | (refine g8 (v := ?_) (fun hg p8 => ?_) ?_; rotate_left; (focus (try ((try simp only [BN] at hg); simp only [S1, simprocAttr, L7, I8 hx, Q9 hlt, G1 hl hlt, eF, List.length_map, hg] at p8 ⊢)); first | exact p8 | ((first | apply b9 E21 | apply c7 E21); exact (hd _ _); exact p8)); refine p7 _ ?_; clear p7 K1) | (((first | (refine ⟨fun hg => hA ?_, fun hg => hB ?_⟩ <;> clear hA hB A B) | refine ⟨fun hg => ?_, fun hg => ?_⟩) <;> (try simp only [BN2] at hg) <;> (try simp only [hg, cndB])) <;> (try (refine p7 _ ?_; clear p7 K1)) <;> (try simp only [BN3] at hg))) | refine b6 fun K hK => ?_ | ((first | apply c8 | apply b8 | apply a9 | refine d5 ?_ | apply b7 | apply c9 | apply d4 | apply d7); try simp only [NB, simprocAttr]))
        refine ⟨hlt, by rw [em]; exact hq, ?_⟩
        rw [em]
        (refine ⟨rfl, (by first | exact ⟨_, rfl⟩ | exact ⟨[], by simp⟩), ?_, ?_⟩ <;> simp only [S1, simprocAttr, KNB] <;> (try and_intros) <;> (try assumption) <;> (try trivial) <;> (try omega))
      | true =>
        have hs : (lgS (M6 ns fl) 1 2000).1 = true := by
          rw [gR hx2 hp' (by rw [em2]; exact hq), em2]; exact hq
        rw [hq] at hd
        repeat' (first | ((repeat ((fail_if_success (refine hK _ ?_)); clear hK K)); refine hK _ ?_; clear hK K) | ((first | refine d8 fun K1 p7 => ?_ | refine d6 fun K1 p7 => ?_ | refine b5 fun A B hA hB => ?_); simp only [S1, simprocAttr, L7, I8 hx, Q9 hlt, G1 hl hlt, eF, List.length_map]; first | refine p7 _ ?_; clear p7 K1 | ((first | refine hA ?_ | refine hB ?_); clear hA hB A B) | ((first | apply b9 E21 | apply c7 E21); exact (hd _ _); refine p7 _ ?_; clear p7 K1) | (refine g8 (v := ?_) (fun hg p8 => ?_) ?_; rotate_left; (focus (try ((try simp only [BN] at hg); simp only [S1, simprocAttr, L7, I8 hx, Q9 hlt, G1 hl hlt, eF, List.length_map, hg] at p8 ⊢)); first | exact p8 | ((first | apply b9 E21 | apply c7 E21); exact (hd _ _); exact p8)); refine p7 _ ?_; clear p7 K1) | (((first | (refine ⟨fun hg => hA ?_, fun hg => hB ?_⟩ <;> clear hA hB A B) | refine ⟨fun hg => ?_, fun hg => ?_⟩) <;> (try simp only [BN2] at hg) <;> (try simp only [hg, cndB])) <;> (try (refine p7 _ ?_; clear p7 K1)) <;> (try simp only [BN3] at hg))) | refine b6 fun K hK => ?_ | ((first | apply c8 | apply b8 | apply a9 | refine d5 ?_ | apply b7 | apply c9 | apply d4 | apply d7); try simp only [NB, simprocAttr]))
        all_goals simp only [S1, simprocAttr, ENB, L7]
        all_goals rw [hs]
    obtain rfl : j = fl.length := by omega
    have ef2 : (fl.map (·.cond)).take fl.length = fl.map (·.cond) := List.take_of_length_le (by simp)
    have hs : (lgS (M6 ns fl) 1 2000).1 = false := by have := hp; simp only [m2, ef2] at this; exact this
    repeat' (first | ((repeat ((fail_if_success (refine hK _ ?_)); clear hK K)); refine hK _ ?_; clear hK K) | ((first | refine d8 fun K1 p7 => ?_ | refine d6 fun K1 p7 => ?_ | refine b5 fun A B hA hB => ?_); simp only [S1, simprocAttr, L7, iC]; first | refine p7 _ ?_; clear p7 K1 | ((first | refine hA ?_ | refine hB ?_); clear hA hB A B) | (refine g8 (v := ?_) (fun hg p8 => ?_) ?_; rotate_left; (focus (try ((try simp only [BN] at hg); simp only [S1, simprocAttr, L7, iC, hg] at p8 ⊢)); first | exact p8); refine p7 _ ?_; clear p7 K1) | (((first | (refine ⟨fun hg => hA ?_, fun hg => hB ?_⟩ <;> clear hA hB A B) | refine ⟨fun hg => ?_, fun hg => ?_⟩) <;> (try simp only [BN2] at hg) <;> (try simp only [hg, cndB])) <;> (try (refine p7 _ ?_; clear p7 K1)) <;> (try simp only [BN3] at hg))) | refine b6 fun K hK => ?_ | ((first | apply c8 | apply b8 | apply a9 | refine d5 ?_ | apply b7 | apply c9 | apply d4 | apply d7); try simp only [NB, simprocAttr]))
    all_goals simp only [S1, simprocAttr, ENB, L7]
    all_goals rw [hs]
end
section
theorem qF : jw Tryz.prog gW ["net.go:137"] 60 30 7 [] [] = some (.b true, []) := by kernel_rfl
theorem bq (h : Heap) : f9 Tryz.prog gW 7 [] h (fun r h' => r = .b true ∧ h' = h) :=
  f9.bool_lift (cq (rl := ["net.go:137"]) i6 60 30 _ _ _ _ _ qF).2 h
theorem jI {fuel : Nat} {xs : List PV} (h : Ty Tryz.prog fuel 29 xs) : ∃ S : List Int, S.length = 49 ∧ dT Tryz.prog 29 xs = aS S := by
  obtain ⟨m, rows, e, hl, rfl, hf⟩ := X7 T29 h
  match rows, hl with
  | [r0, r1, r2, r3], _ =>
    have h0 : Ty Tryz.prog m 26 r0 := hf 0 _ r0 rfl rfl
    have h1 : Ty Tryz.prog m 27 r1 := hf 1 _ r1 rfl rfl
    have h2 : Ty Tryz.prog m 27 r2 := hf 2 _ r2 rfl rfl
    have h3 : Ty Tryz.prog m 3 r3 := hf 3 _ r3 rfl rfl
    obtain ⟨l0, hl0, _, rfl⟩ := dU T26 T3 h0
    obtain ⟨l1, hl1, _, rfl⟩ := dU T27 T3 h1
    obtain ⟨l2, hl2, _, rfl⟩ := dU T27 T3 h2
    obtain ⟨o, _, rfl⟩ := af T3 h3
    refine ⟨l0 ++ (l1 ++ (l2 ++ [o])), by simp only [List.length_append, List.length_cons, List.length_nil]; omega, ?_⟩
    rw [fG T29]
    have e2 : (([l0.map (PV.int .i64), l1.map (PV.int .i64), l2.map (PV.int .i64), [.int .i64 o]] : List (List PV)).flatMap id).map AV.p = (l0 ++ (l1 ++ (l2 ++ [o]))).map AV.i := by
      simp only [List.flatMap_cons, List.flatMap_nil, List.append_nil, id_eq, List.map_append, List.map_map, List.map_cons, List.map_nil]; rfl
    rw [e2]; rfl
theorem tF {fuel : Nat} {xs : List PV} (h : Ty Tryz.prog fuel 3 xs) : ∃ n : Int, dT Tryz.prog 3 xs = .i n := by
  obtain ⟨n, hn, rfl⟩ := af T3 h
  exact ⟨n, by rw [fG T3]; simp [TI.isAgg]⟩
theorem sq {fuel : Nat} {xs : List PV} (h : Ty Tryz.prog fuel 53 xs) : ∃ l : List Int, dT Tryz.prog 53 xs = aI l := by
  obtain ⟨m, rows, _, rfl, hr⟩ := cX T53 h
  obtain ⟨l, _, _, hl⟩ := kA T3 rows hr
  exact ⟨l, by rw [fG T53, hl]; simp [TI.isAgg, eI]⟩
def du := And.intro T2 (And.intro T3 (And.intro T4 (And.intro T25 (And.intro T26 (And.intro T27 (And.intro T38 (And.intro T40 (And.intro T46 (And.intro T53 (And.intro T61 T79))))))))))
attribute [local irreducible] awp q9 m7 n7 r5 q8
theorem TRz : l7 Tryz.prog 32 = some ⟨.struct [(0, 40, 26), (40, 4, 27), (44, 4, 27), (48, 1, 3)], 49, 392, some z49⟩ := by rw [T32]; rfl
theorem mO {S : List Int} (hS : S.length = 49) (c : List AV) (hc : c.length = 49) : (w9 (w9 (w9 c 0 ((S.take 40).map AV.i)) 40 (((S.drop 40).take 4).map AV.i)) 44 (((S.drop 44).take 4).map AV.i)).set 48 (.p (.int .i64 (mdS S))) = S.map AV.i := by
  have l1 : ((S.take 40).map AV.i).length = 40 := by simp [hS]
  have l2 : (((S.drop 40).take 4).map AV.i).length = 4 := by simp [hS]
  have l3 : (((S.drop 44).take 4).map AV.i).length = 4 := by simp [hS]
  have eS : S.map AV.i = (S.take 40).map AV.i ++ (((S.drop 40).take 4).map AV.i ++ (((S.drop 44).take 4).map AV.i ++ [.p (.int .i64 (mdS S))])) := by
    have h1 : S = S.take 40 ++ ((S.drop 40).take 4 ++ ((S.drop 44).take 4 ++ [mdS S])) := by
      have a1 : S.drop 48 = [mdS S] := by
        rw [List.drop_eq_getElem_cons (by omega), List.drop_of_length_le (by omega)]
        congr 1
        have := F8 hS (k := 48) (by omega)
        rw [List.getElem?_eq_getElem (by omega)] at this
        exact Option.some.inj this
      have a2 : S.drop 44 = (S.drop 44).take 4 ++ [mdS S] := by
        rw [← a1, show S.drop 48 = (S.drop 44).drop 4 by rw [List.drop_drop], List.take_append_drop]
      have a3 : S.drop 40 = (S.drop 40).take 4 ++ ((S.drop 44).take 4 ++ [mdS S]) := by
        rw [← a2, show S.drop 44 = (S.drop 40).drop 4 by rw [List.drop_drop], List.take_append_drop]
      rw [← a3, List.take_append_drop]
    conv => lhs; rw [h1]
    simp only [List.map_append, List.map_cons, List.map_nil]
  generalize (S.take 40).map AV.i = A at *
  generalize ((S.drop 40).take 4).map AV.i = B at *
  generalize ((S.drop 44).take 4).map AV.i = C at *
  have o1 : w9 c 0 A = A ++ c.drop 40 := by rw [Y1 _ c 0 (by omega)]; simp [l1]
  have o2 : w9 (A ++ c.drop 40) 40 B = A ++ (B ++ c.drop 44) := by
    rw [Y1 _ _ 40 (by rw [List.length_append, List.length_drop]; omega)]
    rw [List.take_left' l1, l2, List.drop_append, l1, List.drop_of_length_le (by omega), List.drop_drop, List.append_assoc]; rfl
  have o3 : w9 (A ++ (B ++ c.drop 44)) 44 C = A ++ (B ++ (C ++ c.drop 48)) := by
    have l4 : (A ++ B).length = 44 := by rw [List.length_append]; omega
    rw [← List.append_assoc, Y1 _ _ 44 (by rw [List.length_append, List.length_drop]; omega)]
    rw [List.take_left' l4, l3, List.drop_append, l4, List.drop_of_length_le (by omega), List.drop_drop, List.append_assoc, List.append_assoc]; rfl
  rw [o1, o2, o3, eS]
  have l5 : (A ++ (B ++ C)).length = 48 := by rw [List.length_append, List.length_append]; omega
  have c1 : ∃ x, c.drop 48 = [x] := List.length_eq_one_iff.mp (by rw [List.length_drop]; omega)
  obtain ⟨x, hx⟩ := c1
  rw [hx, show A ++ (B ++ (C ++ [x])) = (A ++ (B ++ C)) ++ [x] by simp only [List.append_assoc], List.set_append_right _ _ (by omega), l5]
  simp only [List.append_assoc]; rfl
theorem Y4 {S : List Int} (hS : S.length = 49) (h : Heap) : f9 Tryz.prog gW 8 [aS S] h (fun r h' => r = aS S ∧ h' = h) := by
  have hne := U1 hS
  have dm := J1 (F8 hS (k := 48) (by omega))
  have emd : S.getD 48 0 = mdS S := rfl
  rw [emd] at dm
  have t49' : (S.map AV.i).take 49 = S.map AV.i := List.take_of_length_le (by rw [List.length_map, hS]; exact Nat.le_refl _)
  have t40 : (S.map AV.i).take 40 = (S.take 40).map AV.i := by rw [List.map_take]
  have ar40 : ((S.map AV.i).drop 40).take 4 = ((S.drop 40).take 4).map AV.i := by rw [List.map_take, List.map_drop]
  have ar44 : ((S.map AV.i).drop 44).take 4 = ((S.drop 44).take 4).map AV.i := by rw [List.map_take, List.map_drop]
  have hzl : (zS.map AV.i).length = 49 := by rw [List.length_map]; rfl
  have hem : (zS.map AV.i).isEmpty = false := rfl
  have hb := mO hS (zS.map AV.i) hzl
  have hso : w9 (zS.map AV.i) 0 (S.map AV.i) = S.map AV.i := n9 (n := 49) (by rw [List.length_map, hS]) _ hzl
  refine d9 (rl := []) i6 Tryz.func8 rfl (rs := [.cell 2 32]) rfl Tryz.ntmps8 (by simp) ?_
  repeat' (first | ((repeat ((fail_if_success (refine hK _ ?_)); clear hK K)); refine hK _ ?_; clear hK K) | ((first | refine d8 fun K1 p7 => ?_ | refine d6 fun K1 p7 => ?_ | refine b5 fun A B hA hB => ?_); simp only [S1, simprocAttr, du, TSz, TRz, i8, i7, j3, hem, hb, hso, z6, hne, hS, e9, t49', t40, ar40, ar44, dm, g9, h9, List.length_map, List.length_take, List.length_drop]; first | refine p7 _ ?_; clear p7 K1 | ((first | refine hA ?_ | refine hB ?_); clear hA hB A B) | (((first | (refine ⟨fun hg => hA ?_, fun hg => hB ?_⟩ <;> clear hA hB A B) | refine ⟨fun hg => ?_, fun hg => ?_⟩) <;> (try simp only [BN2] at hg) <;> (try simp only [hg, cndB])) <;> (try (refine p7 _ ?_; clear p7 K1)) <;> (try simp only [BN3] at hg))) | refine b6 fun K hK => ?_ | ((first | apply c8 | apply b8 | apply a9 | refine d5 ?_ | apply b7 | apply c9 | apply d4 | apply d7); try simp only [NB, simprocAttr]))
  all_goals simp only [S1, simprocAttr, ENB, du, t49', hS, List.length_map, TRz, h9, F1, z9]
theorem pt (x : Int) : (x != x) = false := by simp
theorem oB {sl : List Sp} (hl : sl.length ≤ 2500) (hw : ∀ y ∈ sl, y.to.length = 49) (h : Heap) : f9 Tryz.prog gW 11 [uu sl, oy sl] h (fun r h' => r = .b true ∧ h' = h) := by
  refine d9 (rl := []) i6 Tryz.func11 rfl (rs := [.tmp 4]) rfl Tryz.ntmps11 (by simp) ?_
  repeat' (first | ((repeat ((fail_if_success (refine hK _ ?_)); clear hK K)); refine hK _ ?_; clear hK K) | ((first | refine d8 fun K1 p7 => ?_ | refine d6 fun K1 p7 => ?_ | refine b5 fun A B hA hB => ?_); simp only [S1, simprocAttr, du, List.length_map, pt]; first | refine p7 _ ?_; clear p7 K1 | ((first | refine hA ?_ | refine hB ?_); clear hA hB A B) | (refine g8 (v := ?_) (fun hg p8 => ?_) ?_; rotate_left; (focus (try ((try simp only [BN] at hg); simp only [S1, simprocAttr, du, List.length_map, pt, hg] at p8 ⊢)); first | exact p8); refine p7 _ ?_; clear p7 K1) | (((first | (refine ⟨fun hg => hA ?_, fun hg => hB ?_⟩ <;> clear hA hB A B) | refine ⟨fun hg => ?_, fun hg => ?_⟩) <;> (try simp only [BN2] at hg) <;> (try simp only [hg, cndB])) <;> (try (refine p7 _ ?_; clear p7 K1)) <;> (try simp only [BN3] at hg))) | refine b6 fun K hK => ?_ | ((first | apply c8 | apply b8 | apply a9 | refine d5 ?_ | apply b7 | apply c9 | apply d4 | apply d7); try simp only [NB, simprocAttr]))
  refine s5 sl.length 54 (fun j => [(13, .i j), (12, .i sl.length), (1, oy sl), (0, uu sl)]) (fun j => []) (fun j => True) ?_ trivial fun j hj hp K hK => ?_
  · (refine ⟨rfl, (by first | exact ⟨_, rfl⟩ | exact ⟨[], by simp⟩), ?_, ?_⟩ <;> simp only [S1, simprocAttr, KNB] <;> (try and_intros) <;> (try assumption) <;> (try trivial) <;> (try omega))
  rcases Nat.lt_or_ge j sl.length with hlt | hge
  · obtain ⟨y, hy⟩ : ∃ y, sl[j]? = some y := ⟨_, List.getElem?_eq_getElem hlt⟩
    have hy49 : y.to.length = 49 := hw y (List.mem_of_getElem? hy)
    have hx1 : (sl.map eMv)[j]? = some [.int .i64 y.node, .int .i64 y.arg, .int .i64 y.lk, .int .i64 y.ln, .int .i64 y.la] := by rw [List.getElem?_map, hy]; rfl
    have hx2 : (sl.map eSp)[j]? = some (.int .i64 y.node :: .int .i64 y.arg :: .int .i64 y.lk :: .int .i64 y.ln :: .int .i64 y.la :: y.to.map (PV.int .i64)) := by rw [List.getElem?_map, hy]; rfl
    have jl : (j : Int) < (sl.length : Int) := by omega
    have jl' : decide ((j : Int) < (sl.length : Int)) = true := decide_eq_true jl
    have j0 : (0 : Int) ≤ (j : Int) := by omega
    have hnx : IntKind.i64.wrap ((j : Int) + 1) = ((j + 1 : Nat) : Int) := by rw [IntWalk.i64_in _ (by omega)]; omega
    have heq : u7 true [.p (.int .i64 y.lk), .p (.int .i64 y.ln), .p (.int .i64 y.la)] [.p (.int .i64 y.lk), .p (.int .i64 y.ln), .p (.int .i64 y.la)] = some true := by simp [u7]
    repeat' (first | ((repeat ((fail_if_success (refine hK _ ?_)); clear hK K)); refine hK _ ?_; clear hK K) | ((first | refine d8 fun K1 p7 => ?_ | refine d6 fun K1 p7 => ?_ | refine b5 fun A B hA hB => ?_); simp only [S1, simprocAttr, du, jl, jl', j0, hx1, hx2, hy49, hnx, pt, heq, eqA, W46, h9, List.length_map, Nat.mul_one]; first | refine p7 _ ?_; clear p7 K1 | ((first | refine hA ?_ | refine hB ?_); clear hA hB A B) | (refine g8 (v := ?_) (fun hg p8 => ?_) ?_; rotate_left; (focus (try ((try simp only [BN] at hg); simp only [S1, simprocAttr, du, jl, jl', j0, hx1, hx2, hy49, hnx, pt, heq, eqA, W46, h9, List.length_map, Nat.mul_one, hg] at p8 ⊢)); first | exact p8); refine p7 _ ?_; clear p7 K1) | (((first | (refine ⟨fun hg => hA ?_, fun hg => hB ?_⟩ <;> clear hA hB A B) | refine ⟨fun hg => ?_, fun hg => ?_⟩) <;> (try simp only [BN2] at hg) <;> (try simp only [hg, cndB])) <;> (try (refine p7 _ ?_; clear p7 K1)) <;> (try simp only [BN3] at hg))) | refine b6 fun K hK => ?_ | ((first | apply c8 | apply b8 | apply a9 | refine d5 ?_ | apply b7 | apply c9 | apply d4 | apply d7); try simp only [NB, simprocAttr]))
    all_goals refine ⟨hlt, trivial, ?_⟩
    all_goals (refine ⟨rfl, (by first | exact ⟨_, rfl⟩ | exact ⟨[], by simp⟩), ?_, ?_⟩ <;> simp only [S1, simprocAttr, KNB] <;> (try and_intros) <;> (try assumption) <;> (try trivial) <;> (try omega))
  · obtain rfl : j = sl.length := by omega
    repeat' (first | ((repeat ((fail_if_success (refine hK _ ?_)); clear hK K)); refine hK _ ?_; clear hK K) | ((first | refine d8 fun K1 p7 => ?_ | refine d6 fun K1 p7 => ?_ | refine b5 fun A B hA hB => ?_); simp only [S1, simprocAttr, du, Int.lt_irrefl]; first | refine p7 _ ?_; clear p7 K1 | ((first | refine hA ?_ | refine hB ?_); clear hA hB A B) | (refine g8 (v := ?_) (fun hg p8 => ?_) ?_; rotate_left; (focus (try ((try simp only [BN] at hg); simp only [S1, simprocAttr, du, Int.lt_irrefl, hg] at p8 ⊢)); first | exact p8); refine p7 _ ?_; clear p7 K1) | (((first | (refine ⟨fun hg => hA ?_, fun hg => hB ?_⟩ <;> clear hA hB A B) | refine ⟨fun hg => ?_, fun hg => ?_⟩) <;> (try simp only [BN2] at hg) <;> (try simp only [hg, cndB])) <;> (try (refine p7 _ ?_; clear p7 K1)) <;> (try simp only [BN3] at hg))) | refine b6 fun K hK => ?_ | ((first | apply c8 | apply b8 | apply a9 | refine d5 ?_ | apply b7 | apply c9 | apply d4 | apply d7); try simp only [NB, simprocAttr]))
    all_goals simp only [S1, simprocAttr, ENB, du]
end
section
def N2 := And.intro T2 (And.intro T3 (And.intro T4 (And.intro T25 (And.intro T26 (And.intro T27 (And.intro T40 (And.intro T46 (And.intro T53 T61))))))))
attribute [local irreducible] awp q9 m7 n7 r5 q8
def z53 : List PV := List.replicate 53 (.int .i64 0)
def zD : List Int := List.replicate 53 0
theorem TDz : l7 Tryz.prog 50 = some ⟨.struct [(0, 49, 32), (49, 3, 46), (52, 1, 3)], 53, 424, some z53⟩ := by rw [T50]; rfl
theorem I6 : (z53 = []) = False := by simp [z53]
theorem G5 : z53.map AV.p = zD.map AV.i := rfl
theorem M7 : zD.length = 53 := rfl
def lDn (y : Sp) (e : Int) : List Int := y.to ++ [y.lk, y.ln, y.la, e]
abbrev aDn (y : Sp) (e : Int) : AV := .agg ((lDn y e).map AV.i)
theorem bJ {y : Sp} {e : Int} (h : y.to.length = 49) : (lDn y e).length = 53 := by simp [lDn, h]
theorem eo (e : Int) : zD.set 52 e = lDn zSp e := rfl
theorem oC {y : Sp} (h : y.to.length = 49) (e : Int) (c : List AV) (hc : c.length = 53) : ((((w9 c 0 (y.to.map AV.i)).set 49 (.p (.int .i64 y.lk))).set 50 (.p (.int .i64 y.ln))).set 51 (.p (.int .i64 y.la))).set 52 (.p (.int .i64 e)) = (lDn y e).map AV.i := by
  have hl : (y.to.map AV.i).length = 49 := by rw [List.length_map, h]
  rw [Y1 _ c 0 (by omega)]
  obtain ⟨a0, a1, a2, a3, hd⟩ : ∃ a0 a1 a2 a3, c.drop (0 + (y.to.map AV.i).length) = [a0, a1, a2, a3] := by
    have h4 : (c.drop (0 + (y.to.map AV.i).length)).length = 4 := by rw [List.length_drop]; omega
    match c.drop (0 + (y.to.map AV.i).length), h4 with
    | [a0, a1, a2, a3], _ => exact ⟨a0, a1, a2, a3, rfl⟩
  rw [hd]
  simp only [List.take_zero, List.nil_append]
  unfold lDn
  rw [List.map_append]
  generalize y.to.map AV.i = A at *
  rw [List.set_append_right _ _ (by omega), List.set_append_right _ _ (by omega), List.set_append_right _ _ (by omega), List.set_append_right _ _ (by omega), hl]
  rfl
theorem qG {ns : List Nd} {fl : List Fl} (nk : NetOk ns fl) {S : List Int} (hS : S.length = 49) (i : Int) (h : Heap) :
    f9 Tryz.prog gW 17 [N5 ns fl, aS S, .i i] h (fun r h' => r = aDn (doG ns fl S i).1 (doG ns fl S i).2 ∧ h' = h) := by
  have hne := U1 hS
  have hst := fun h => an nk hS h
  have hck := fun h => ct nk hS h
  have hto := R9 (ns := ns) (fl := fl) hS
  have t49' : (S.map AV.i).take 49 = S.map AV.i := List.take_of_length_le (by rw [List.length_map, hS]; exact Nat.le_refl _)
  have hzl : (zD.map AV.i).length = 53 := by rw [List.length_map]; rfl
  have hem : (zD.map AV.i).isEmpty = false := rfl
  have hset := fun v => F0 zD 52 v
  have hov : ∀ (y : Sp) (e : Int), y.to.length = 49 → w9 (zD.map AV.i) 0 ((lDn y e).map AV.i) = (lDn y e).map AV.i := fun y e h => n9 (n := 53) (by rw [List.length_map, bJ h]) _ hzl
  have htk : ∀ (y : Sp) (e : Int), y.to.length = 49 → ((lDn y e).map AV.i).take 53 = (lDn y e).map AV.i := fun y e h => List.take_of_length_le (by rw [List.length_map, bJ h]; exact Nat.le_refl _)
  have hz := fun e => hov zSp e rfl
  have hzt := fun e => htk zSp e rfl
  have hzn := fun e => bJ (y := zSp) (e := e) rfl
  by_cases h0 : stC ns fl S = 0
  case neg =>
    have f0 : (stC ns fl S != 0) = true := by simp [h0]
    have e : doG ns fl S i = (zSp, stC ns fl S) := by unfold doG; rw [if_pos h0]
    rw [e]
    refine d9 (rl := []) i6 Tryz.func17 rfl (rs := [.cell 6 50]) rfl Tryz.ntmps17 (by simp) ?_
    repeat' (first | ((repeat ((fail_if_success (refine hK _ ?_)); clear hK K)); refine hK _ ?_; clear hK K) | ((first | refine d8 fun K1 p7 => ?_ | refine d6 fun K1 p7 => ?_ | refine b5 fun A B hA hB => ?_); simp only [S1, simprocAttr, N2, f0, TDz, I6, G5, M7, TRz, hem, hset, eo, hz, hzt, hzn, hne, hS, e9, t49', g9, h9, List.length_map, List.length_set]; first | refine p7 _ ?_; clear p7 K1 | ((first | refine hA ?_ | refine hB ?_); clear hA hB A B) | ((first | apply b9 E10 | apply c7 E10); exact (hck _); refine p7 _ ?_; clear p7 K1) | (refine g8 (v := ?_) (fun hg p8 => ?_) ?_; rotate_left; (focus (try ((try simp only [BN] at hg); simp only [S1, simprocAttr, N2, f0, TDz, I6, G5, M7, TRz, hem, hset, eo, hz, hzt, hzn, hne, hS, e9, t49', g9, h9, List.length_map, List.length_set, hg] at p8 ⊢)); first | exact p8 | ((first | apply b9 E10 | apply c7 E10); exact (hck _); exact p8)); refine p7 _ ?_; clear p7 K1) | (((first | (refine ⟨fun hg => hA ?_, fun hg => hB ?_⟩ <;> clear hA hB A B) | refine ⟨fun hg => ?_, fun hg => ?_⟩) <;> (try simp only [BN2] at hg) <;> (try simp only [hg, cndB])) <;> (try (refine p7 _ ?_; clear p7 K1)) <;> (try simp only [BN3] at hg))) | refine b6 fun K hK => ?_ | ((first | apply c8 | apply b8 | apply a9 | refine d5 ?_ | apply b7 | apply c9 | apply d4 | apply d7); try simp only [NB, simprocAttr]))
    all_goals simp only [S1, simprocAttr, ENB, N2, hzt, hzn, List.length_map, TDz, h9, F1, z9]
  have f0 : (stC ns fl S != 0) = false := by simp [h0]
  by_cases h1 : i < 0
  · have f1 : decide (i < 0) = true := decide_eq_true h1
    have e : doG ns fl S i = (zSp, 6) := by unfold doG; rw [if_neg (by simpa using h0), if_pos h1]
    rw [e]
    refine d9 (rl := []) i6 Tryz.func17 rfl (rs := [.cell 6 50]) rfl Tryz.ntmps17 (by simp) ?_
    repeat' (first | ((repeat ((fail_if_success (refine hK _ ?_)); clear hK K)); refine hK _ ?_; clear hK K) | ((first | refine d8 fun K1 p7 => ?_ | refine d6 fun K1 p7 => ?_ | refine b5 fun A B hA hB => ?_); simp only [S1, simprocAttr, N2, f0, f1, TDz, I6, G5, M7, TRz, hem, hset, eo, hz, hzt, hzn, hne, hS, e9, t49', g9, h9, List.length_map, List.length_set]; first | refine p7 _ ?_; clear p7 K1 | ((first | refine hA ?_ | refine hB ?_); clear hA hB A B) | ((first | apply b9 E10 | apply c7 E10); exact (hck _); refine p7 _ ?_; clear p7 K1) | ((first | apply b9 E13 | apply c7 E13); exact (hst _); refine p7 _ ?_; clear p7 K1) | (refine g8 (v := ?_) (fun hg p8 => ?_) ?_; rotate_left; (focus (try ((try simp only [BN] at hg); simp only [S1, simprocAttr, N2, f0, f1, TDz, I6, G5, M7, TRz, hem, hset, eo, hz, hzt, hzn, hne, hS, e9, t49', g9, h9, List.length_map, List.length_set, hg] at p8 ⊢)); first | exact p8 | ((first | apply b9 E10 | apply c7 E10); exact (hck _); exact p8) | ((first | apply b9 E13 | apply c7 E13); exact (hst _); exact p8)); refine p7 _ ?_; clear p7 K1) | (((first | (refine ⟨fun hg => hA ?_, fun hg => hB ?_⟩ <;> clear hA hB A B) | refine ⟨fun hg => ?_, fun hg => ?_⟩) <;> (try simp only [BN2] at hg) <;> (try simp only [hg, cndB])) <;> (try (refine p7 _ ?_; clear p7 K1)) <;> (try simp only [BN3] at hg))) | refine b6 fun K hK => ?_ | ((first | apply c8 | apply b8 | apply a9 | refine d5 ?_ | apply b7 | apply c9 | apply d4 | apply d7); try simp only [NB, simprocAttr]))
    all_goals simp only [S1, simprocAttr, ENB, N2, hzt, hzn, List.length_map, TDz, h9, F1, z9]
  have f1 : decide (i < 0) = false := decide_eq_false h1
  obtain ⟨n, rfl⟩ := Int.eq_ofNat_of_zero_le (by omega : 0 ≤ i)
  rcases Nat.lt_or_ge n (u6 ns fl S).length with hlt | hge
  · obtain ⟨y, hy⟩ : ∃ y, (u6 ns fl S)[n]? = some y := ⟨_, List.getElem?_eq_getElem hlt⟩
    have e : doG ns fl S (n : Int) = (y, 0) := by unfold doG; rw [if_neg (by simpa using h0), if_neg h1, Int.toNat_natCast, hy]
    rw [e]
    have hyl := hto y (List.mem_of_getElem? hy)
    generalize u6 ns fl S = sl at *
    have hxy : (sl.map eSp)[n]? = some (.int .i64 y.node :: .int .i64 y.arg :: .int .i64 y.lk :: .int .i64 y.ln :: .int .i64 y.la :: y.to.map (PV.int .i64)) := by rw [List.getElem?_map, hy]; rfl
    have f2 : decide ((sl.length : Int) ≤ (n : Int)) = false := by simp; omega
    have n0 : (0 : Int) ≤ (n : Int) := by omega
    have yto : (y.to.map (PV.int .i64)).map AV.p = y.to.map AV.i := z9 y.to
    have yt49 : (y.to.map AV.i).take 49 = y.to.map AV.i := List.take_of_length_le (by rw [List.length_map, hyl]; exact Nat.le_refl _)
    have yt49p : (y.to.map (PV.int .i64)).take 49 = y.to.map (PV.int .i64) := List.take_of_length_le (by rw [List.length_map, hyl]; exact Nat.le_refl _)
    have hb := fun e => oC hyl e (zD.map AV.i) hzl
    have hyo := fun e => hov y e hyl
    have hyt := fun e => htk y e hyl
    have hyn := fun e => bJ (e := e) hyl
    refine d9 (rl := []) i6 Tryz.func17 rfl (rs := [.cell 6 50]) rfl Tryz.ntmps17 (by simp) ?_
    repeat' (first | ((first | refine c8 ?_ | refine b8 ?_ | refine o5 ?_ | refine m9 ?_); (try simp only [NB])) | ((repeat ((fail_if_success (refine hK _ ?_)); clear hK K)); refine hK _ ?_; clear hK K) | ((first | refine d8 fun K1 p7 => ?_ | refine d6 fun K1 p7 => ?_ | refine o6 rfl rfl rfl fun K1 p7 => ?_ | refine b5 fun A B hA hB => ?_); simp only [S1, simprocAttr, N2, f0, f1, f2, n0, hxy, yto, yt49, yt49p, hyl, hb, hyo, hyt, hyn, z6, TDz, I6, G5, M7, TRz, hem, hne, hS, e9, t49', g9, h9, List.length_map, List.length_set, List.length_take, List.length_drop, Nat.mul_one]; first | (refine p7 _ ?_; clear p7 K1) | ((first | refine hA ?_ | refine hB ?_); clear hA hB A B) | ((first | apply b9 E10 | apply c7 E10); exact (hck _); (refine p7 _ ?_; clear p7 K1)) | ((first | apply b9 E13 | apply c7 E13); exact (hst _); (refine p7 _ ?_; clear p7 K1)) | (refine g8 (v := ?_) (fun hg p8 => ?_) ?_; rotate_left; (focus (try ((try simp only [BN] at hg); simp only [S1, simprocAttr, N2, f0, f1, f2, n0, hxy, yto, yt49, yt49p, hyl, hb, hyo, hyt, hyn, z6, TDz, I6, G5, M7, TRz, hem, hne, hS, e9, t49', g9, h9, List.length_map, List.length_set, List.length_take, List.length_drop, Nat.mul_one, hg] at p8 ⊢)); first | exact p8 | ((first | apply b9 E10 | apply c7 E10); exact (hck _); exact p8) | ((first | apply b9 E13 | apply c7 E13); exact (hst _); exact p8)); (refine p7 _ ?_; clear p7 K1)) | (((first | (refine ⟨fun hg => hA ?_, fun hg => hB ?_⟩ <;> clear hA hB A B) | refine ⟨fun hg => ?_, fun hg => ?_⟩) <;> (try simp only [BN2] at hg) <;> (try simp only [hg, cndB])) <;> (try (refine p7 _ ?_; clear p7 K1)) <;> (try simp only [BN3] at hg))) | ((first | refine t9 (v := ?_) rfl rfl rfl rfl (by decide) (fun R1 K1 p7 => ?_) ?_ | refine t8 (v := ?_) rfl rfl rfl (by decide) (fun K1 p7 => ?_) ?_ | refine r8 (v := ?_) rfl rfl rfl (by decide) (fun K1 p7 => ?_) ?_); rotate_left; (focus (simp only [S1, simprocAttr, N2, f0, f1, f2, n0, hxy, yto, yt49, yt49p, hyl, hb, hyo, hyt, hyn, z6, TDz, I6, G5, M7, TRz, hem, hne, hS, e9, t49', g9, h9, List.length_map, List.length_set, List.length_take, List.length_drop, Nat.mul_one]; first | (exact p7 _ _ _) | ((first | apply b9 E10 | apply c7 E10); exact (hck _); exact p7 _ _ _) | ((first | apply b9 E13 | apply c7 E13); exact (hst _); exact p7 _ _ _)))) | (refine n5 rfl rfl rfl ?_) | ((first | refine i3 (z := ?_) 0 rfl rfl rfl rfl (by decide) rfl ?_ ?_ | refine i3 (z := ?_) 1 rfl rfl rfl rfl (by decide) rfl ?_ ?_ | refine i3 (z := ?_) 2 rfl rfl rfl rfl (by decide) rfl ?_ ?_); rotate_left; (focus (simp only [S1, simprocAttr, N2, f0, f1, f2, n0, hxy, yto, yt49, yt49p, hyl, hb, hyo, hyt, hyn, z6, TDz, I6, G5, M7, TRz, hem, hne, hS, e9, t49', g9, h9, List.length_map, List.length_set, List.length_take, List.length_drop, Nat.mul_one, u9]; rfl))) | (refine b6 fun K hK => ?_) | (refine p6 [0, 1, 2, 3, 4, 5, 6, 7, 8, 9, 10, 11] 0 (fs := []) rfl (by kernel_rfl) (by kernel_rfl) ?_) | ((first | refine a9 ?_ | refine j4 (by kernel_rfl) ?_ | refine b7 ?_ | refine c9 ?_ | refine d4 ?_ | refine d7 ?_); try simp only [NB, simprocAttr]))
    all_goals simp only [S1, simprocAttr, ENB, N2, hyt, hyn, List.length_map, TDz, h9, F1, z9]
  · have e : doG ns fl S (n : Int) = (zSp, 6) := by unfold doG; rw [if_neg (by simpa using h0), if_neg h1, Int.toNat_natCast, List.getElem?_eq_none hge]
    rw [e]
    generalize u6 ns fl S = sl at *
    have f2 : decide ((sl.length : Int) ≤ (n : Int)) = true := by simp; omega
    refine d9 (rl := []) i6 Tryz.func17 rfl (rs := [.cell 6 50]) rfl Tryz.ntmps17 (by simp) ?_
    repeat' (first | ((repeat ((fail_if_success (refine hK _ ?_)); clear hK K)); refine hK _ ?_; clear hK K) | ((first | refine d8 fun K1 p7 => ?_ | refine d6 fun K1 p7 => ?_ | refine b5 fun A B hA hB => ?_); simp only [S1, simprocAttr, N2, f0, f1, f2, TDz, I6, G5, M7, TRz, hem, hset, eo, hz, hzt, hzn, hne, hS, e9, t49', g9, h9, List.length_map, List.length_set]; first | refine p7 _ ?_; clear p7 K1 | ((first | refine hA ?_ | refine hB ?_); clear hA hB A B) | ((first | apply b9 E10 | apply c7 E10); exact (hck _); refine p7 _ ?_; clear p7 K1) | ((first | apply b9 E13 | apply c7 E13); exact (hst _); refine p7 _ ?_; clear p7 K1) | (refine g8 (v := ?_) (fun hg p8 => ?_) ?_; rotate_left; (focus (try ((try simp only [BN] at hg); simp only [S1, simprocAttr, N2, f0, f1, f2, TDz, I6, G5, M7, TRz, hem, hset, eo, hz, hzt, hzn, hne, hS, e9, t49', g9, h9, List.length_map, List.length_set, hg] at p8 ⊢)); first | exact p8 | ((first | apply b9 E10 | apply c7 E10); exact (hck _); exact p8) | ((first | apply b9 E13 | apply c7 E13); exact (hst _); exact p8)); refine p7 _ ?_; clear p7 K1) | (((first | (refine ⟨fun hg => hA ?_, fun hg => hB ?_⟩ <;> clear hA hB A B) | refine ⟨fun hg => ?_, fun hg => ?_⟩) <;> (try simp only [BN2] at hg) <;> (try simp only [hg, cndB])) <;> (try (refine p7 _ ?_; clear p7 K1)) <;> (try simp only [BN3] at hg))) | refine b6 fun K hK => ?_ | ((first | apply c8 | apply b8 | apply a9 | refine d5 ?_ | apply b7 | apply c9 | apply d4 | apply d7); try simp only [NB, simprocAttr]))
    all_goals simp only [S1, simprocAttr, ENB, N2, hzt, hzn, List.length_map, TDz, h9, F1, z9]
theorem kP {ns : List Nd} {fl : List Fl} (nk : NetOk ns fl) (h0 : (E5 ns fl).1 = 0) (h : Heap) :
    f9 Tryz.prog gW 20 [N5 ns fl] h (fun r h' => r = aS (I5 ns fl).1 ∧ h' = h) := by
  have hzl : (zS.map AV.i).length = 49 := by rw [List.length_map]; rfl
  have hem : (zS.map AV.i).isEmpty = false := rfl
  have hzz : w9 (zS.map AV.i) 0 (zS.map AV.i) = zS.map AV.i := n9 (n := 49) (by rw [List.length_map]; rfl) _ hzl
  have hzt : (zS.map AV.i).take 49 = zS.map AV.i := List.take_of_length_le (by rw [hzl]; exact Nat.le_refl _)
  have rt := Right.of h0
  obtain ⟨s, f, e1, e2, e3⟩ := rt.begin
  have hf := rt.f
  have e : (I5 ns fl).1 = zS.set f 1 := by unfold I5; rw [if_neg (by simpa using h0), e1, e2]; rfl
  rw [e]
  have hs := fun h => bc (G := gW) ns nk.n (fl.map eF) 1 h
  have ho := fun h => o8 (G := gW) (ns.map eN) fl nk.f (s : Int) h
  rw [e1] at hs
  rw [e2] at ho
  have f40 : (f : Int) < 40 := by omega
  have f0' : (0 : Int) ≤ (f : Int) := by omega
  have f49 : f + 1 ≤ 49 := by omega
  have hset := F0 zS f 1
  have hzs : (zS.set f 1).length = 49 := by rw [List.length_set]; rfl
  have hzt2 : ((zS.set f 1).map AV.i).take 49 = (zS.set f 1).map AV.i := List.take_of_length_le (by rw [List.length_map, hzs]; exact Nat.le_refl _)
  have hzz2 : w9 (zS.map AV.i) 0 ((zS.set f 1).map AV.i) = (zS.set f 1).map AV.i := n9 (n := 49) (by rw [List.length_map, hzs]) _ hzl
  have hei : eI (f : Int) = [.int .i64 (f : Int)] := rfl
  have hi0 : (0 : Int) ≤ 0 := Int.le_refl 0
  refine d9 (rl := []) i6 Tryz.func20 rfl (rs := [.cell 2 32]) rfl Tryz.ntmps20 (by simp) ?_
  repeat' (first | ((first | refine c8 ?_ | refine b8 ?_ | refine o5 ?_ | refine m9 ?_); (try simp only [NB])) | ((repeat ((fail_if_success (refine hK _ ?_)); clear hK K)); refine hK _ ?_; clear hK K) | ((first | refine d8 fun K1 p7 => ?_ | refine d6 fun K1 p7 => ?_ | refine o6 rfl rfl rfl fun K1 p7 => ?_ | refine b5 fun A B hA hB => ?_); simp only [S1, simprocAttr, N2, f40, f0', f49, hset, hzs, hzt2, hzz2, hei, hi0, TRz, i8, i7, j3, hem, hzz, hzt, e9, g9, h9, List.length_map, List.getElem?_cons_zero, Nat.mul_one]; first | (refine p7 _ ?_; clear p7 K1) | ((first | refine hA ?_ | refine hB ?_); clear hA hB A B) | ((first | apply b9 E33 | apply c7 E33); exact (hs _); (refine p7 _ ?_; clear p7 K1)) | ((first | apply b9 E36 | apply c7 E36); exact (ho _); (refine p7 _ ?_; clear p7 K1)) | (((first | (refine ⟨fun hg => hA ?_, fun hg => hB ?_⟩ <;> clear hA hB A B) | refine ⟨fun hg => ?_, fun hg => ?_⟩) <;> (try simp only [BN2] at hg) <;> (try simp only [hg, cndB])) <;> (try (refine p7 _ ?_; clear p7 K1)) <;> (try simp only [BN3] at hg))) | ((first | refine t9 (v := ?_) rfl rfl rfl rfl (by decide) (fun R1 K1 p7 => ?_) ?_ | refine t8 (v := ?_) rfl rfl rfl (by decide) (fun K1 p7 => ?_) ?_ | refine r8 (v := ?_) rfl rfl rfl (by decide) (fun K1 p7 => ?_) ?_); rotate_left; (focus (simp only [S1, simprocAttr, N2, f40, f0', f49, hset, hzs, hzt2, hzz2, hei, hi0, TRz, i8, i7, j3, hem, hzz, hzt, e9, g9, h9, List.length_map, List.getElem?_cons_zero, Nat.mul_one]; first | (exact p7 _ _ _) | ((first | apply b9 E33 | apply c7 E33); exact (hs _); exact p7 _ _ _) | ((first | apply b9 E36 | apply c7 E36); exact (ho _); exact p7 _ _ _)))) | (refine n5 rfl rfl rfl ?_) | ((first | refine i3 (z := ?_) 0 rfl rfl rfl rfl (by decide) rfl ?_ ?_ | refine i3 (z := ?_) 1 rfl rfl rfl rfl (by decide) rfl ?_ ?_ | refine i3 (z := ?_) 2 rfl rfl rfl rfl (by decide) rfl ?_ ?_); rotate_left; (focus (simp only [S1, simprocAttr, N2, f40, f0', f49, hset, hzs, hzt2, hzz2, hei, hi0, TRz, i8, i7, j3, hem, hzz, hzt, e9, g9, h9, List.length_map, List.getElem?_cons_zero, Nat.mul_one, u9]; rfl))) | (refine b6 fun K hK => ?_) | (refine p6 [0, 1, 2, 3, 4, 5, 6, 7, 8] 0 (fs := []) rfl (by kernel_rfl) (by kernel_rfl) ?_) | ((first | refine a9 ?_ | refine j4 (by kernel_rfl) ?_ | refine b7 ?_ | refine c9 ?_ | refine d4 ?_ | refine d7 ?_); try simp only [NB, simprocAttr]))
  all_goals simp only [S1, simprocAttr, ENB, N2, hzt2, hzs, List.length_map, j3, TRz, h9, F1, z9]
end
section
def V9 := And.intro T2 (And.intro T3 (And.intro T4 (And.intro T25 (And.intro T26 (And.intro T27 (And.intro T34 (And.intro T38 (And.intro T40 (And.intro T46 (And.intro T53 (And.intro T61 T79)))))))))))
attribute [local irreducible] awp q9 m7 n7 r5 q8
theorem jJ (x : Int) : (x == x) = true := by simp
theorem kQ (ns : List Nd) (fl : List Fl) {S : List Int} (hS : S.length = 49) (h : Heap) : f9 Tryz.prog gW 3 [N5 ns fl, aS S] h (fun r h' => r = .b true ∧ h' = h) := by
  have hne := U1 hS
  have hline := fun h => bq h
  have hlg := fun h => ao (G := gW) ns fl h
  have t49' : (S.map AV.i).take 49 = S.map AV.i := List.take_of_length_le (by rw [List.length_map, hS]; exact Nat.le_refl _)
  have hem : (zS.map AV.i).isEmpty = false := rfl
  have hso : w9 (zS.map AV.i) 0 (S.map AV.i) = S.map AV.i := n9 (n := 49) (by rw [List.length_map, hS]) _ (by rw [List.length_map]; rfl)
  cases hl : W7 ns fl with
  | true =>
    rw [hl] at hlg
    refine d9 (rl := []) i6 Tryz.func3 rfl (rs := [.tmp 4]) rfl Tryz.ntmps3 (by simp) ?_
    repeat' (first | ((repeat ((fail_if_success (refine hK _ ?_)); clear hK K)); refine hK _ ?_; clear hK K) | ((first | refine d8 fun K1 p7 => ?_ | refine d6 fun K1 p7 => ?_ | refine b5 fun A B hA hB => ?_); simp only [S1, simprocAttr, V9, TSz, TRz, i8, hne, hS, e9, t49', g9, h9, List.length_map]; first | refine p7 _ ?_; clear p7 K1 | ((first | refine hA ?_ | refine hB ?_); clear hA hB A B) | ((first | apply b9 E6 | apply c7 E6); exact (hlg _); refine p7 _ ?_; clear p7 K1) | ((first | apply b9 E7 | apply c7 E7); exact (hline _); refine p7 _ ?_; clear p7 K1) | (refine g8 (v := ?_) (fun hg p8 => ?_) ?_; rotate_left; (focus (try ((try simp only [BN] at hg); simp only [S1, simprocAttr, V9, TSz, TRz, i8, hne, hS, e9, t49', g9, h9, List.length_map, hg] at p8 ⊢)); first | exact p8 | ((first | apply b9 E6 | apply c7 E6); exact (hlg _); exact p8) | ((first | apply b9 E7 | apply c7 E7); exact (hline _); exact p8)); refine p7 _ ?_; clear p7 K1) | (((first | (refine ⟨fun hg => hA ?_, fun hg => hB ?_⟩ <;> clear hA hB A B) | refine ⟨fun hg => ?_, fun hg => ?_⟩) <;> (try simp only [BN2] at hg) <;> (try simp only [hg, cndB])) <;> (try (refine p7 _ ?_; clear p7 K1)) <;> (try simp only [BN3] at hg))) | refine b6 fun K hK => ?_ | ((first | apply c8 | apply b8 | apply a9 | refine d5 ?_ | apply b7 | apply c9 | apply d4 | apply d7); try simp only [NB, simprocAttr]))
    all_goals simp only [S1, simprocAttr, ENB, V9]
  | false =>
  rw [hl] at hlg
  have nk := ei hl
  have hck := fun h => cw nk hS h
  have hrk := fun h => ct nk hS h
  have hmv := fun h => mJ nk hS h
  have hst := fun h => an nk hS h
  have hsm := fun h => oB (cx (ns := ns) (fl := fl) (S := S)) (R9 (ns := ns) (fl := fl) hS) h
  have htk := fun h => bX (G := gW) S hS h
  have hrt := fun h => W4 (G := gW) S hS h
  have hrf := fun h => Y4 hS h
  refine d9 (rl := []) i6 Tryz.func3 rfl (rs := [.tmp 4]) rfl Tryz.ntmps3 (by simp) ?_
  repeat' (first | ((repeat ((fail_if_success (refine hK _ ?_)); clear hK K)); refine hK _ ?_; clear hK K) | ((first | refine d8 fun K1 p7 => ?_ | refine d6 fun K1 p7 => ?_ | refine b5 fun A B hA hB => ?_); simp only [S1, simprocAttr, V9, TSz, TRz, i8, i7, j3, hem, hso, hne, hS, jJ, e9, t49', g9, h9, List.length_map]; first | refine p7 _ ?_; clear p7 K1 | ((first | refine hA ?_ | refine hB ?_); clear hA hB A B) | ((first | apply b9 E6 | apply c7 E6); exact (hlg _); refine p7 _ ?_; clear p7 K1) | ((first | apply b9 E8 | apply c7 E8); exact (hrf _); refine p7 _ ?_; clear p7 K1) | ((first | apply b9 E9 | apply c7 E9); exact (hck _); refine p7 _ ?_; clear p7 K1) | ((first | apply b9 E10 | apply c7 E10); exact (hrk _); refine p7 _ ?_; clear p7 K1) | ((first | apply b9 E12 | apply c7 E12); exact (hmv _); refine p7 _ ?_; clear p7 K1) | ((first | apply b9 E13 | apply c7 E13); exact (hst _); refine p7 _ ?_; clear p7 K1) | ((first | apply b9 E11 | apply c7 E11); exact (hsm _); refine p7 _ ?_; clear p7 K1) | ((first | apply b9 E14 | apply c7 E14); exact (htk _); refine p7 _ ?_; clear p7 K1) | ((first | apply b9 E15 | apply c7 E15); exact (hrt _); refine p7 _ ?_; clear p7 K1) | ((first | apply b9 E7 | apply c7 E7); exact (hline _); refine p7 _ ?_; clear p7 K1) | (refine g8 (v := ?_) (fun hg p8 => ?_) ?_; rotate_left; (focus (try ((try simp only [BN] at hg); simp only [S1, simprocAttr, V9, TSz, TRz, i8, i7, j3, hem, hso, hne, hS, jJ, e9, t49', g9, h9, List.length_map, hg] at p8 ⊢)); first | exact p8 | ((first | apply b9 E6 | apply c7 E6); exact (hlg _); exact p8) | ((first | apply b9 E8 | apply c7 E8); exact (hrf _); exact p8) | ((first | apply b9 E9 | apply c7 E9); exact (hck _); exact p8) | ((first | apply b9 E10 | apply c7 E10); exact (hrk _); exact p8) | ((first | apply b9 E12 | apply c7 E12); exact (hmv _); exact p8) | ((first | apply b9 E13 | apply c7 E13); exact (hst _); exact p8) | ((first | apply b9 E11 | apply c7 E11); exact (hsm _); exact p8) | ((first | apply b9 E14 | apply c7 E14); exact (htk _); exact p8) | ((first | apply b9 E15 | apply c7 E15); exact (hrt _); exact p8) | ((first | apply b9 E7 | apply c7 E7); exact (hline _); exact p8)); refine p7 _ ?_; clear p7 K1) | (((first | (refine ⟨fun hg => hA ?_, fun hg => hB ?_⟩ <;> clear hA hB A B) | refine ⟨fun hg => ?_, fun hg => ?_⟩) <;> (try simp only [BN2] at hg) <;> (try simp only [hg, cndB])) <;> (try (refine p7 _ ?_; clear p7 K1)) <;> (try simp only [BN3] at hg))) | refine b6 fun K hK => ?_ | ((first | apply c8 | apply b8 | apply a9 | refine d5 ?_ | apply b7 | apply c9 | apply d4 | apply d7); try simp only [NB, simprocAttr]))
  all_goals simp only [S1, simprocAttr, ENB, V9]
theorem mP (ns : List Nd) (fl : List Fl) {S : List Int} (hS : S.length = 49) (i : Int) (h : Heap) : f9 Tryz.prog gW 4 [N5 ns fl, aS S, .i i] h (fun r h' => r = .b true ∧ h' = h) := by
  have hne := U1 hS
  have hline := fun h => bq h
  have hlg := fun h => ao (G := gW) ns fl h
  have t49' : (S.map AV.i).take 49 = S.map AV.i := List.take_of_length_le (by rw [List.length_map, hS]; exact Nat.le_refl _)
  have hem : (zS.map AV.i).isEmpty = false := rfl
  have hemD : (zD.map AV.i).isEmpty = false := rfl
  cases hl : W7 ns fl with
  | true =>
    rw [hl] at hlg
    refine d9 (rl := []) i6 Tryz.func4 rfl (rs := [.tmp 6]) rfl Tryz.ntmps4 (by simp) ?_
    repeat' (first | ((repeat ((fail_if_success (refine hK _ ?_)); clear hK K)); refine hK _ ?_; clear hK K) | ((first | refine d8 fun K1 p7 => ?_ | refine d6 fun K1 p7 => ?_ | refine b5 fun A B hA hB => ?_); simp only [S1, simprocAttr, V9, TSz, TRz, TDz, I6, i8, hne, hS, e9, t49', g9, h9, List.length_map]; first | refine p7 _ ?_; clear p7 K1 | ((first | refine hA ?_ | refine hB ?_); clear hA hB A B) | ((first | apply b9 E6 | apply c7 E6); exact (hlg _); refine p7 _ ?_; clear p7 K1) | ((first | apply b9 E7 | apply c7 E7); exact (hline _); refine p7 _ ?_; clear p7 K1) | (refine g8 (v := ?_) (fun hg p8 => ?_) ?_; rotate_left; (focus (try ((try simp only [BN] at hg); simp only [S1, simprocAttr, V9, TSz, TRz, TDz, I6, i8, hne, hS, e9, t49', g9, h9, List.length_map, hg] at p8 ⊢)); first | exact p8 | ((first | apply b9 E6 | apply c7 E6); exact (hlg _); exact p8) | ((first | apply b9 E7 | apply c7 E7); exact (hline _); exact p8)); refine p7 _ ?_; clear p7 K1) | (((first | (refine ⟨fun hg => hA ?_, fun hg => hB ?_⟩ <;> clear hA hB A B) | refine ⟨fun hg => ?_, fun hg => ?_⟩) <;> (try simp only [BN2] at hg) <;> (try simp only [hg, cndB])) <;> (try (refine p7 _ ?_; clear p7 K1)) <;> (try simp only [BN3] at hg))) | refine b6 fun K hK => ?_ | ((first | apply c8 | apply b8 | apply a9 | refine d5 ?_ | apply b7 | apply c9 | apply d4 | apply d7); try simp only [NB, simprocAttr]))
    all_goals simp only [S1, simprocAttr, ENB, V9]
  | false =>
  rw [hl] at hlg
  have nk := ei hl
  have hdo := fun h => mK nk hS i h
  have hrd := fun h => qG nk hS i h
  have hrf := fun h => Y4 hS h
  have hto := R9 (ns := ns) (fl := fl) hS
  have hyl : (doG ns fl S i).1.to.length = 49 := by
    unfold doG
    split
    · rfl
    · split
      · rfl
      · split
        · rename_i y hy; exact hto y (List.mem_of_getElem? hy)
        · rfl
  generalize (doG ns fl S i).2 = e at *
  generalize (doG ns fl S i).1 = y at *
  have hrf2 := fun h => Y4 hyl h
  have yt49 : (y.to.map AV.i).take 49 = y.to.map AV.i := List.take_of_length_le (by rw [List.length_map, hyl]; exact Nat.le_refl _)
  have hyz : w9 (zS.map AV.i) 0 (y.to.map AV.i) = y.to.map AV.i := n9 (n := 49) (by rw [List.length_map, hyl]) _ (by rw [List.length_map]; rfl)
  have hyd : w9 (zD.map AV.i) 0 ((lDn y e).map AV.i) = (lDn y e).map AV.i := n9 (n := 53) (by rw [List.length_map, bJ hyl]) _ (by rw [List.length_map]; rfl)
  have hdl := bJ (e := e) hyl
  have d49 : ((lDn y e).map AV.i).take 49 = y.to.map AV.i := by
    unfold lDn; rw [List.map_append, List.take_left' (by rw [List.length_map, hyl])]
  have d3 : ((lDn y e).map AV.i).drop 49 = [.p (.int .i64 y.lk), .p (.int .i64 y.ln), .p (.int .i64 y.la), .p (.int .i64 e)] := by
    unfold lDn; rw [List.map_append, List.drop_left' (by rw [List.length_map, hyl])]; rfl
  have d1 : ((lDn y e).map AV.i).drop 52 = [.p (.int .i64 e)] := by
    rw [show 52 = 49 + 3 by rfl, ← List.drop_drop, d3]; rfl
  have heqS : u7 true (y.to.map AV.i) (y.to.map AV.i) = some true := by rw [eqI rfl]; simp
  have heq : u7 true [.p (.int .i64 y.lk), .p (.int .i64 y.ln), .p (.int .i64 y.la)] [.p (.int .i64 y.lk), .p (.int .i64 y.ln), .p (.int .i64 y.la)] = some true := by simp [u7]
  have hey : (y.to.map AV.i).isEmpty = false := U1 hyl
  refine d9 (rl := []) i6 Tryz.func4 rfl (rs := [.tmp 6]) rfl Tryz.ntmps4 (by simp) ?_
  repeat' (first | ((first | refine c8 ?_ | refine b8 ?_ | refine o5 ?_ | refine m9 ?_); (try simp only [NB])) | ((repeat ((fail_if_success (refine hK _ ?_)); clear hK K)); refine hK _ ?_; clear hK K) | ((first | refine d8 fun K1 p7 => ?_ | refine d6 fun K1 p7 => ?_ | refine o6 rfl rfl rfl fun K1 p7 => ?_ | refine b5 fun A B hA hB => ?_); simp only [S1, simprocAttr, V9, TSz, TRz, TDz, I6, G5, M7, i8, i7, j3, hem, hemD, hey, hne, hS, hyl, yt49, hyz, hyd, hdl, d49, d3, d1, heqS, heq, jJ, eqA, W46, W32, e9, t49', g9, h9, List.length_map, List.length_drop]; first | (refine p7 _ ?_; clear p7 K1) | ((first | refine hA ?_ | refine hB ?_); clear hA hB A B) | ((first | apply b9 E6 | apply c7 E6); exact (hlg _); (refine p7 _ ?_; clear p7 K1)) | ((first | apply b9 E16 | apply c7 E16); exact (hdo _); (refine p7 _ ?_; clear p7 K1)) | ((first | apply b9 E8 | apply c7 E8); exact (hrf _); (refine p7 _ ?_; clear p7 K1)) | ((first | apply b9 E8 | apply c7 E8); exact (hrf2 _); (refine p7 _ ?_; clear p7 K1)) | ((first | apply b9 E17 | apply c7 E17); exact (hrd _); (refine p7 _ ?_; clear p7 K1)) | ((first | apply b9 E7 | apply c7 E7); exact (hline _); (refine p7 _ ?_; clear p7 K1)) | (refine g8 (v := ?_) (fun hg p8 => ?_) ?_; rotate_left; (focus (try ((try simp only [BN] at hg); simp only [S1, simprocAttr, V9, TSz, TRz, TDz, I6, G5, M7, i8, i7, j3, hem, hemD, hey, hne, hS, hyl, yt49, hyz, hyd, hdl, d49, d3, d1, heqS, heq, jJ, eqA, W46, W32, e9, t49', g9, h9, List.length_map, List.length_drop, hg] at p8 ⊢)); first | exact p8 | ((first | apply b9 E6 | apply c7 E6); exact (hlg _); exact p8) | ((first | apply b9 E16 | apply c7 E16); exact (hdo _); exact p8) | ((first | apply b9 E8 | apply c7 E8); exact (hrf _); exact p8) | ((first | apply b9 E8 | apply c7 E8); exact (hrf2 _); exact p8) | ((first | apply b9 E17 | apply c7 E17); exact (hrd _); exact p8) | ((first | apply b9 E7 | apply c7 E7); exact (hline _); exact p8)); (refine p7 _ ?_; clear p7 K1)) | (((first | (refine ⟨fun hg => hA ?_, fun hg => hB ?_⟩ <;> clear hA hB A B) | refine ⟨fun hg => ?_, fun hg => ?_⟩) <;> (try simp only [BN2] at hg) <;> (try simp only [hg, cndB])) <;> (try (refine p7 _ ?_; clear p7 K1)) <;> (try simp only [BN3] at hg))) | ((first | refine t9 (v := ?_) rfl rfl rfl rfl (by decide) (fun R1 K1 p7 => ?_) ?_ | refine t8 (v := ?_) rfl rfl rfl (by decide) (fun K1 p7 => ?_) ?_ | refine r8 (v := ?_) rfl rfl rfl (by decide) (fun K1 p7 => ?_) ?_); rotate_left; (focus (simp only [S1, simprocAttr, V9, TSz, TRz, TDz, I6, G5, M7, i8, i7, j3, hem, hemD, hey, hne, hS, hyl, yt49, hyz, hyd, hdl, d49, d3, d1, heqS, heq, jJ, eqA, W46, W32, e9, t49', g9, h9, List.length_map, List.length_drop]; first | (exact p7 _ _ _) | ((first | apply b9 E6 | apply c7 E6); exact (hlg _); exact p7 _ _ _) | ((first | apply b9 E16 | apply c7 E16); exact (hdo _); exact p7 _ _ _) | ((first | apply b9 E8 | apply c7 E8); exact (hrf _); exact p7 _ _ _) | ((first | apply b9 E8 | apply c7 E8); exact (hrf2 _); exact p7 _ _ _) | ((first | apply b9 E17 | apply c7 E17); exact (hrd _); exact p7 _ _ _) | ((first | apply b9 E7 | apply c7 E7); exact (hline _); exact p7 _ _ _)))) | (refine n5 rfl rfl rfl ?_) | ((first | refine i3 (z := ?_) 0 rfl rfl rfl rfl (by decide) rfl ?_ ?_ | refine i3 (z := ?_) 1 rfl rfl rfl rfl (by decide) rfl ?_ ?_ | refine i3 (z := ?_) 2 rfl rfl rfl rfl (by decide) rfl ?_ ?_); rotate_left; (focus (simp only [S1, simprocAttr, V9, TSz, TRz, TDz, I6, G5, M7, i8, i7, j3, hem, hemD, hey, hne, hS, hyl, yt49, hyz, hyd, hdl, d49, d3, d1, heqS, heq, jJ, eqA, W46, W32, e9, t49', g9, h9, List.length_map, List.length_drop, u9]; rfl))) | (refine b6 fun K hK => ?_) | (refine p6 [0, 1, 2, 3, 4, 5, 6] 1 (fs := []) rfl (by kernel_rfl) (by kernel_rfl) ?_) | ((first | refine a9 ?_ | refine j4 (by kernel_rfl) ?_ | refine b7 ?_ | refine c9 ?_ | refine d4 ?_ | refine d7 ?_); try simp only [NB, simprocAttr]))
  all_goals simp only [S1, simprocAttr, ENB, V9]
theorem tmoves_given (xss : List (List PV)) (hl : xss.length = [25, 29].length) (ht : ∀ (j : Nat) t xs, [25, 29][j]? = some t → xss[j]? = some xs → ∃ fuel, Ty Tryz.prog fuel t xs) :
    f9 Tryz.prog gW 3 (List.zipWith (dT Tryz.prog) [25, 29] xss) [] fun r h' => r = .b true ∧ h' = [] := by
  match xss, hl, ht with
  | [x0, x1], _, ht =>
    obtain ⟨_, h0⟩ := ht 0 25 x0 rfl rfl
    obtain ⟨_, h1⟩ := ht 1 29 x1 rfl rfl
    obtain ⟨ns, fl, e0⟩ := kD h0
    obtain ⟨S, hS, e1⟩ := jI h1
    simp only [List.zipWith_cons_cons, List.zipWith_nil_left, e0, e1]
    exact kQ ns fl hS []
theorem tdoes_given (xss : List (List PV)) (hl : xss.length = [25, 29, 3].length) (ht : ∀ (j : Nat) t xs, [25, 29, 3][j]? = some t → xss[j]? = some xs → ∃ fuel, Ty Tryz.prog fuel t xs) :
    f9 Tryz.prog gW 4 (List.zipWith (dT Tryz.prog) [25, 29, 3] xss) [] fun r h' => r = .b true ∧ h' = [] := by
  match xss, hl, ht with
  | [x0, x1, x2], _, ht =>
    obtain ⟨_, h0⟩ := ht 0 25 x0 rfl rfl
    obtain ⟨_, h1⟩ := ht 1 29 x1 rfl rfl
    obtain ⟨_, h2⟩ := ht 2 3 x2 rfl rfl
    obtain ⟨ns, fl, e0⟩ := kD h0
    obtain ⟨S, hS, e1⟩ := jI h1
    obtain ⟨i, e2⟩ := tF h2
    simp only [List.zipWith_cons_cons, List.zipWith_nil_left, e0, e1, e2]
    exact mP ns fl hS i []
end
section
def L8 := And.intro T2 (And.intro T3 (And.intro T4 (And.intro T25 (And.intro T26 (And.intro T27 (And.intro T34 (And.intro T40 (And.intro T46 (And.intro T53 (And.intro T57 T61))))))))))
attribute [local irreducible] awp q9 m7 n7 r5 q8
structure Qr where
  j : Nat
  S : List Int
theorem oD (ns : List Nd) (fl : List Fl) (picks : List Int) (h : Heap) : f9 Tryz.prog gW 5 [N5 ns fl, aI picks] h (fun r h' => r = .b true ∧ h' = h) := by
  have hline := fun h => bq h
  have hlg := fun h => ao (G := gW) ns fl h
  cases hl : W7 ns fl with
  | true =>
    rw [hl] at hlg
    refine d9 (rl := []) i6 Tryz.func5 rfl (rs := [.tmp 4]) rfl Tryz.ntmps5 (by simp) ?_
    repeat' (first | ((repeat ((fail_if_success (refine hK _ ?_)); clear hK K)); refine hK _ ?_; clear hK K) | ((first | refine d8 fun K1 p7 => ?_ | refine d6 fun K1 p7 => ?_ | refine b5 fun A B hA hB => ?_); simp only [S1, simprocAttr, L8, List.length_map]; first | refine p7 _ ?_; clear p7 K1 | ((first | refine hA ?_ | refine hB ?_); clear hA hB A B) | ((first | apply b9 E6 | apply c7 E6); exact (hlg _); refine p7 _ ?_; clear p7 K1) | ((first | apply b9 E7 | apply c7 E7); exact (hline _); refine p7 _ ?_; clear p7 K1) | (refine g8 (v := ?_) (fun hg p8 => ?_) ?_; rotate_left; (focus (try ((try simp only [BN] at hg); simp only [S1, simprocAttr, L8, List.length_map, hg] at p8 ⊢)); first | exact p8 | ((first | apply b9 E6 | apply c7 E6); exact (hlg _); exact p8) | ((first | apply b9 E7 | apply c7 E7); exact (hline _); exact p8)); refine p7 _ ?_; clear p7 K1) | (((first | (refine ⟨fun hg => hA ?_, fun hg => hB ?_⟩ <;> clear hA hB A B) | refine ⟨fun hg => ?_, fun hg => ?_⟩) <;> (try simp only [BN2] at hg) <;> (try simp only [hg, cndB])) <;> (try (refine p7 _ ?_; clear p7 K1)) <;> (try simp only [BN3] at hg))) | refine b6 fun K hK => ?_ | ((first | apply c8 | apply b8 | apply a9 | refine d5 ?_ | apply b7 | apply c9 | apply d4 | apply d7); try simp only [NB, simprocAttr]))
    all_goals simp only [S1, simprocAttr, ENB, L8]
  | false =>
  rw [hl] at hlg
  have nk := ei hl
  by_cases hp40 : picks.length ≤ 40
  case neg =>
    have f40 : decide (40 < (picks.length : Int)) = true := decide_eq_true (by omega)
    refine d9 (rl := []) i6 Tryz.func5 rfl (rs := [.tmp 4]) rfl Tryz.ntmps5 (by simp) ?_
    repeat' (first | ((repeat ((fail_if_success (refine hK _ ?_)); clear hK K)); refine hK _ ?_; clear hK K) | ((first | refine d8 fun K1 p7 => ?_ | refine d6 fun K1 p7 => ?_ | refine b5 fun A B hA hB => ?_); simp only [S1, simprocAttr, L8, f40, List.length_map]; first | refine p7 _ ?_; clear p7 K1 | ((first | refine hA ?_ | refine hB ?_); clear hA hB A B) | ((first | apply b9 E6 | apply c7 E6); exact (hlg _); refine p7 _ ?_; clear p7 K1) | ((first | apply b9 E7 | apply c7 E7); exact (hline _); refine p7 _ ?_; clear p7 K1) | (refine g8 (v := ?_) (fun hg p8 => ?_) ?_; rotate_left; (focus (try ((try simp only [BN] at hg); simp only [S1, simprocAttr, L8, f40, List.length_map, hg] at p8 ⊢)); first | exact p8 | ((first | apply b9 E6 | apply c7 E6); exact (hlg _); exact p8) | ((first | apply b9 E7 | apply c7 E7); exact (hline _); exact p8)); refine p7 _ ?_; clear p7 K1) | (((first | (refine ⟨fun hg => hA ?_, fun hg => hB ?_⟩ <;> clear hA hB A B) | refine ⟨fun hg => ?_, fun hg => ?_⟩) <;> (try simp only [BN2] at hg) <;> (try simp only [hg, cndB])) <;> (try (refine p7 _ ?_; clear p7 K1)) <;> (try simp only [BN3] at hg))) | refine b6 fun K hK => ?_ | ((first | apply c8 | apply b8 | apply a9 | refine d5 ?_ | apply b7 | apply c9 | apply d4 | apply d7); try simp only [NB, simprocAttr]))
    all_goals simp only [S1, simprocAttr, ENB, L8]
  have f40 : decide (40 < (picks.length : Int)) = false := decide_eq_false (by omega)
  have hst := fun h => kO nk h
  have hrc := fun h => M4 (G := gW) ns fl nk h
  have hzl : (zS.map AV.i).length = 49 := by rw [List.length_map]; rfl
  have hem : (zS.map AV.i).isEmpty = false := rfl
  have hzz : w9 (zS.map AV.i) 0 (zS.map AV.i) = zS.map AV.i := n9 (n := 49) (by rw [List.length_map]; rfl) _ hzl
  have hzt : (zS.map AV.i).take 49 = zS.map AV.i := List.take_of_length_le (by rw [hzl]; exact Nat.le_refl _)
  have heqZ : u7 true (zS.map AV.i) (zS.map AV.i) = some true := by rw [eqI rfl]; simp
  by_cases h0 : (E5 ns fl).1 = 0
  case neg =>
    have f0 : ((E5 ns fl).1 != 0) = true := by simp [h0]
    have e : I5 ns fl = (zS, 4) := by unfold I5; rw [if_pos h0]
    rw [e] at hst
    refine d9 (rl := []) i6 Tryz.func5 rfl (rs := [.tmp 4]) rfl Tryz.ntmps5 (by simp) ?_
    repeat' (first | ((repeat ((fail_if_success (refine hK _ ?_)); clear hK K)); refine hK _ ?_; clear hK K) | ((first | refine d8 fun K1 p7 => ?_ | refine d6 fun K1 p7 => ?_ | refine b5 fun A B hA hB => ?_); simp only [S1, simprocAttr, L8, f40, f0, hzz, hzt, heqZ, eqA, W29, hem, TSz, TRz, i8, i7, j3, e9, g9, h9, List.length_map]; first | refine p7 _ ?_; clear p7 K1 | ((first | refine hA ?_ | refine hB ?_); clear hA hB A B) | ((first | apply b9 E6 | apply c7 E6); exact (hlg _); refine p7 _ ?_; clear p7 K1) | ((first | apply b9 E18 | apply c7 E18); exact (hst _); refine p7 _ ?_; clear p7 K1) | ((first | apply b9 E19 | apply c7 E19); exact (hrc _); refine p7 _ ?_; clear p7 K1) | ((first | apply b9 E7 | apply c7 E7); exact (hline _); refine p7 _ ?_; clear p7 K1) | (refine g8 (v := ?_) (fun hg p8 => ?_) ?_; rotate_left; (focus (try ((try simp only [BN] at hg); simp only [S1, simprocAttr, L8, f40, f0, hzz, hzt, heqZ, eqA, W29, hem, TSz, TRz, i8, i7, j3, e9, g9, h9, List.length_map, hg] at p8 ⊢)); first | exact p8 | ((first | apply b9 E6 | apply c7 E6); exact (hlg _); exact p8) | ((first | apply b9 E18 | apply c7 E18); exact (hst _); exact p8) | ((first | apply b9 E19 | apply c7 E19); exact (hrc _); exact p8) | ((first | apply b9 E7 | apply c7 E7); exact (hline _); exact p8)); refine p7 _ ?_; clear p7 K1) | (((first | (refine ⟨fun hg => hA ?_, fun hg => hB ?_⟩ <;> clear hA hB A B) | refine ⟨fun hg => ?_, fun hg => ?_⟩) <;> (try simp only [BN2] at hg) <;> (try simp only [hg, cndB])) <;> (try (refine p7 _ ?_; clear p7 K1)) <;> (try simp only [BN3] at hg))) | refine b6 fun K hK => ?_ | ((first | apply c8 | apply b8 | apply a9 | refine d5 ?_ | apply b7 | apply c9 | apply d4 | apply d7); try simp only [NB, simprocAttr]))
    all_goals simp only [S1, simprocAttr, ENB, L8]
  have f0 : ((E5 ns fl).1 != 0) = false := by simp [h0]
  have hrs := fun h => kP nk h0 h
  have e2 : (I5 ns fl).2 = 0 := by unfold I5; rw [if_neg (by simpa using h0)]
  rw [e2] at hst
  have hsl : (I5 ns fl).1.length = 49 := by
    unfold I5
    split
    · rfl
    · rw [List.length_set]; rfl
  generalize (I5 ns fl).1 = S0 at *
  have hrf0 := fun h => Y4 hsl h
  have hso : w9 (zS.map AV.i) 0 (S0.map AV.i) = S0.map AV.i := n9 (n := 49) (by rw [List.length_map, hsl]) _ hzl
  have hst0 : (S0.map AV.i).take 49 = S0.map AV.i := List.take_of_length_le (by rw [List.length_map, hsl]; exact Nat.le_refl _)
  have hse : (S0.map AV.i).isEmpty = false := U1 hsl
  have heq0 : u7 true (S0.map AV.i) (S0.map AV.i) = some true := by rw [eqI rfl]; simp
  refine d9 (rl := []) i6 Tryz.func5 rfl (rs := [.tmp 4]) rfl Tryz.ntmps5 (by simp) ?_
  repeat' (first | ((repeat ((fail_if_success (refine hK _ ?_)); clear hK K)); refine hK _ ?_; clear hK K) | ((first | refine d8 fun K1 p7 => ?_ | refine d6 fun K1 p7 => ?_ | refine b5 fun A B hA hB => ?_); simp only [S1, simprocAttr, L8, f40, f0, hso, hst0, hse, hsl, heq0, eqA, W32, hem, TSz, TRz, i8, i7, j3, e9, g9, h9, List.length_map]; first | refine p7 _ ?_; clear p7 K1 | ((first | refine hA ?_ | refine hB ?_); clear hA hB A B) | ((first | apply b9 E6 | apply c7 E6); exact (hlg _); refine p7 _ ?_; clear p7 K1) | ((first | apply b9 E18 | apply c7 E18); exact (hst _); refine p7 _ ?_; clear p7 K1) | ((first | apply b9 E19 | apply c7 E19); exact (hrc _); refine p7 _ ?_; clear p7 K1) | ((first | apply b9 E20 | apply c7 E20); exact (hrs _); refine p7 _ ?_; clear p7 K1) | ((first | apply b9 E8 | apply c7 E8); exact (hrf0 _); refine p7 _ ?_; clear p7 K1) | (refine g8 (v := ?_) (fun hg p8 => ?_) ?_; rotate_left; (focus (try ((try simp only [BN] at hg); simp only [S1, simprocAttr, L8, f40, f0, hso, hst0, hse, hsl, heq0, eqA, W32, hem, TSz, TRz, i8, i7, j3, e9, g9, h9, List.length_map, hg] at p8 ⊢)); first | exact p8 | ((first | apply b9 E6 | apply c7 E6); exact (hlg _); exact p8) | ((first | apply b9 E18 | apply c7 E18); exact (hst _); exact p8) | ((first | apply b9 E19 | apply c7 E19); exact (hrc _); exact p8) | ((first | apply b9 E20 | apply c7 E20); exact (hrs _); exact p8) | ((first | apply b9 E8 | apply c7 E8); exact (hrf0 _); exact p8)); refine p7 _ ?_; clear p7 K1) | (((first | (refine ⟨fun hg => hA ?_, fun hg => hB ?_⟩ <;> clear hA hB A B) | refine ⟨fun hg => ?_, fun hg => ?_⟩) <;> (try simp only [BN2] at hg) <;> (try simp only [hg, cndB])) <;> (try (refine p7 _ ?_; clear p7 K1)) <;> (try simp only [BN3] at hg))) | refine b6 fun K hK => ?_ | ((first | apply c8 | apply b8 | apply a9 | refine d5 ?_ | apply b7 | apply c9 | apply d4 | apply d7); try simp only [NB, simprocAttr]))
  refine N6 (σ := Qr) (fun q => picks.length - q.j) 109 (fun q => [(54, .i q.j), (53, .i picks.length), (52, aI picks), (7, .ptr (h.length + 2) 0 0), (5, .ptr (h.length + 1) 0 0), (2, .ptr h.length 0 0)])
    (fun q => [some ⟨0, D1 ns fl⟩, some ⟨0, q.S.map AV.i⟩, some ⟨0, q.S.map AV.i⟩]) (fun q => q.j ≤ picks.length ∧ q.S.length = 49) ⟨0, S0⟩ ?_ ⟨Nat.zero_le _, hsl⟩ fun q hq K hK => ?_
  · refine ⟨rfl, ⟨[], by simp only [List.append_nil]⟩, ?_, ⟨trivial, trivial, trivial⟩, j6 _ _, j6 _ _, trivial⟩
    simp only [S1, simprocAttr, KNB] <;> (try and_intros) <;> (try assumption) <;> (try trivial) <;> (try omega)
  obtain ⟨j, S⟩ := q
  obtain ⟨hj, hS⟩ := hq
  simp only at hj hS
  have t49' : (S.map AV.i).take 49 = S.map AV.i := List.take_of_length_le (by rw [List.length_map, hS]; exact Nat.le_refl _)
  rcases Nat.lt_or_ge j picks.length with hlt | hge
  · obtain ⟨p, hpj⟩ : ∃ p, picks[j]? = some p := ⟨_, List.getElem?_eq_getElem hlt⟩
    have hrsl := fun h => an nk hS h
    have hln := cx (ns := ns) (fl := fl) (S := S)
    have hto := R9 (ns := ns) (fl := fl) hS
    have hc0 : u6 ns fl S ≠ [] → stC ns fl S = 0 := by
      intro hn
      by_cases e : stC ns fl S = 0
      · exact e
      · exfalso; apply hn; unfold u6; rw [if_pos (.inl e)]
    have hdo : ∀ (j : Nat) (y : Sp), (u6 ns fl S)[j]? = some y → ∀ h, f9 Tryz.prog gW 16 [N5 ns fl, aS S, .i j] h (fun r h' => r = .tup [aS y.to, aLb y, .i 0] ∧ h' = h) := by
      intro j y hy h
      have := mK nk hS (j : Int) h
      have e : doG ns fl S (j : Int) = (y, 0) := by unfold doG; rw [if_neg (by simpa using hc0 (List.ne_nil_of_mem (List.mem_of_getElem? hy))), if_neg (by omega), Int.toNat_natCast, hy]
      rw [e] at this
      exact this
    clear hc0
    generalize u6 ns fl S = sl at *
    have hnx := D9 (l := picks) (by omega) hlt
    by_cases hskip : p < 0 ∨ sl = []
    · by_cases hp0 : p < 0
      · have fp : decide (p < 0) = true := decide_eq_true hp0
        repeat' (first | ((repeat ((fail_if_success (refine hK _ ?_)); clear hK K)); refine hK _ ?_; clear hK K) | ((first | refine d8 fun K1 p7 => ?_ | refine d6 fun K1 p7 => ?_ | refine b5 fun A B hA hB => ?_); simp only [S1, simprocAttr, L8, C2 hpj, I3 hlt, hnx, fp, hS, t49', TSz, TRz, i8, i7, j3, e9, g9, h9, List.length_map]; first | refine p7 _ ?_; clear p7 K1 | ((first | refine hA ?_ | refine hB ?_); clear hA hB A B) | ((first | apply b9 E13 | apply c7 E13); exact (hrsl _); refine p7 _ ?_; clear p7 K1) | (refine g8 (v := ?_) (fun hg p8 => ?_) ?_; rotate_left; (focus (try ((try simp only [BN] at hg); simp only [S1, simprocAttr, L8, C2 hpj, I3 hlt, hnx, fp, hS, t49', TSz, TRz, i8, i7, j3, e9, g9, h9, List.length_map, hg] at p8 ⊢)); first | exact p8 | ((first | apply b9 E13 | apply c7 E13); exact (hrsl _); exact p8)); refine p7 _ ?_; clear p7 K1) | (((first | (refine ⟨fun hg => hA ?_, fun hg => hB ?_⟩ <;> clear hA hB A B) | refine ⟨fun hg => ?_, fun hg => ?_⟩) <;> (try simp only [BN2] at hg) <;> (try simp only [hg, cndB])) <;> (try (refine p7 _ ?_; clear p7 K1)) <;> (try simp only [BN3] at hg))) | refine b6 fun K hK => ?_ | ((first | apply c8 | apply b8 | apply a9 | refine d5 ?_ | apply b7 | apply c9 | apply d4 | apply d7); try simp only [NB, simprocAttr]))
        all_goals refine ⟨⟨j + 1, S⟩, by simp only; omega, ⟨hlt, hS⟩, ?_⟩
        all_goals refine ⟨rfl, ⟨_, rfl⟩, ?_, ⟨trivial, trivial, trivial⟩, j6 _ _, j6 _ _, trivial⟩
        all_goals simp only [S1, simprocAttr, KNB] <;> (try and_intros) <;> (try assumption) <;> (try trivial) <;> (try omega)
      · have fp : decide (p < 0) = false := decide_eq_false hp0
        obtain rfl : sl = [] := hskip.resolve_left hp0
        repeat' (first | ((repeat ((fail_if_success (refine hK _ ?_)); clear hK K)); refine hK _ ?_; clear hK K) | ((first | refine d8 fun K1 p7 => ?_ | refine d6 fun K1 p7 => ?_ | refine b5 fun A B hA hB => ?_); simp only [S1, simprocAttr, L8, C2 hpj, I3 hlt, hnx, fp, hS, t49', TSz, TRz, i8, i7, j3, e9, g9, h9, List.length_map]; first | refine p7 _ ?_; clear p7 K1 | ((first | refine hA ?_ | refine hB ?_); clear hA hB A B) | ((first | apply b9 E13 | apply c7 E13); exact (hrsl _); refine p7 _ ?_; clear p7 K1) | (refine g8 (v := ?_) (fun hg p8 => ?_) ?_; rotate_left; (focus (try ((try simp only [BN] at hg); simp only [S1, simprocAttr, L8, C2 hpj, I3 hlt, hnx, fp, hS, t49', TSz, TRz, i8, i7, j3, e9, g9, h9, List.length_map, hg] at p8 ⊢)); first | exact p8 | ((first | apply b9 E13 | apply c7 E13); exact (hrsl _); exact p8)); refine p7 _ ?_; clear p7 K1) | (((first | (refine ⟨fun hg => hA ?_, fun hg => hB ?_⟩ <;> clear hA hB A B) | refine ⟨fun hg => ?_, fun hg => ?_⟩) <;> (try simp only [BN2] at hg) <;> (try simp only [hg, cndB])) <;> (try (refine p7 _ ?_; clear p7 K1)) <;> (try simp only [BN3] at hg))) | refine b6 fun K hK => ?_ | ((first | apply c8 | apply b8 | apply a9 | refine d5 ?_ | apply b7 | apply c9 | apply d4 | apply d7); try simp only [NB, simprocAttr]))
        all_goals refine ⟨⟨j + 1, S⟩, by simp only; omega, ⟨hlt, hS⟩, ?_⟩
        all_goals refine ⟨rfl, ⟨_, rfl⟩, ?_, ⟨trivial, trivial, trivial⟩, j6 _ _, j6 _ _, trivial⟩
        all_goals simp only [S1, simprocAttr, KNB] <;> (try and_intros) <;> (try assumption) <;> (try trivial) <;> (try omega)
    rw [not_or] at hskip
    obtain ⟨hp0, hne⟩ := hskip
    have fp : decide (p < 0) = false := decide_eq_false hp0
    have hpos : 0 < sl.length := List.length_pos_iff.mpr hne
    have fl0 : ((sl.length : Int) == 0) = false := by simp; omega
    have fl0' : ((sl.length : Int) = 0) = False := by simp; omega
    obtain ⟨n, rfl⟩ := Int.eq_ofNat_of_zero_le (by omega : 0 ≤ p)
    obtain ⟨r, hmlt, hmod⟩ : ∃ r : Nat, r < sl.length ∧ Int.tmod (n : Int) (sl.length : Int) = (r : Int) := ⟨n % sl.length, Nat.mod_lt _ hpos, rfl⟩
    have hinr : inR .i64 (r : Int) = true := by
      unfold inR
      simp only [Bool.and_eq_true, decide_eq_true_eq]
      refine ⟨?_, ?_⟩
      · show (-9223372036854775808 : Int) ≤ _; omega
      · show _ ≤ (9223372036854775807 : Int); omega
    obtain ⟨y, hy⟩ : ∃ y, sl[r]? = some y := ⟨_, List.getElem?_eq_getElem hmlt⟩
    have hm := List.mem_of_getElem? hy
    have hd := hdo _ y hy
    have hyl := hto y hm
    have r0 : (0 : Int) ≤ (r : Int) := by omega
    have hxy : (sl.map eSp)[r]? = some (.int .i64 y.node :: .int .i64 y.arg :: .int .i64 y.lk :: .int .i64 y.ln :: .int .i64 y.la :: y.to.map (PV.int .i64)) := by rw [List.getElem?_map, hy]; rfl
    have yt49 : (y.to.map AV.i).take 49 = y.to.map AV.i := List.take_of_length_le (by rw [List.length_map, hyl]; exact Nat.le_refl _)
    have yt49p : (y.to.map (PV.int .i64)).take 49 = y.to.map (PV.int .i64) := List.take_of_length_le (by rw [List.length_map, hyl]; exact Nat.le_refl _)
    have yto : (y.to.map (PV.int .i64)).map AV.p = y.to.map AV.i := z9 y.to
    have hyz : w9 (zS.map AV.i) 0 (y.to.map AV.i) = y.to.map AV.i := n9 (n := 49) (by rw [List.length_map, hyl]) _ hzl
    have hys : w9 (S.map AV.i) 0 (y.to.map AV.i) = y.to.map AV.i := n9 (n := 49) (by rw [List.length_map, hyl]) _ (by rw [List.length_map, hS])
    have hey : (y.to.map AV.i).isEmpty = false := U1 hyl
    have hrf := fun h => Y4 hyl h
    have heqS : u7 true (y.to.map AV.i) (y.to.map AV.i) = some true := by rw [eqI rfl]; simp
    have heq : u7 true [.p (.int .i64 y.lk), .p (.int .i64 y.ln), .p (.int .i64 y.la)] [.p (.int .i64 y.lk), .p (.int .i64 y.ln), .p (.int .i64 y.la)] = some true := by simp [u7]
    repeat' (first | ((repeat ((fail_if_success (refine hK _ ?_)); clear hK K)); refine hK _ ?_; clear hK K) | ((first | refine d8 fun K1 p7 => ?_ | refine d6 fun K1 p7 => ?_ | refine b5 fun A B hA hB => ?_); simp only [S1, simprocAttr, L8, C2 hpj, I3 hlt, hnx, fp, fl0, fl0', hmod, hinr, (show h.length + 2 + 1 = h.length + 3 from rfl), r0, hxy, hS, t49', hyl, yt49, yt49p, yto, hyz, hys, hem, hey, heqS, heq, eqA, W46, W32, TSz, TRz, i8, i7, j3, e9, g9, h9, List.length_map]; first | refine p7 _ ?_; clear p7 K1 | ((first | refine hA ?_ | refine hB ?_); clear hA hB A B) | ((first | apply b9 E13 | apply c7 E13); exact (hrsl _); refine p7 _ ?_; clear p7 K1) | ((first | apply b9 E16 | apply c7 E16); exact (hd _); refine p7 _ ?_; clear p7 K1) | ((first | apply b9 E8 | apply c7 E8); exact (hrf _); refine p7 _ ?_; clear p7 K1) | (refine g8 (v := ?_) (fun hg p8 => ?_) ?_; rotate_left; (focus (try ((try simp only [BN] at hg); simp only [S1, simprocAttr, L8, C2 hpj, I3 hlt, hnx, fp, fl0, fl0', hmod, hinr, (show h.length + 2 + 1 = h.length + 3 from rfl), r0, hxy, hS, t49', hyl, yt49, yt49p, yto, hyz, hys, hem, hey, heqS, heq, eqA, W46, W32, TSz, TRz, i8, i7, j3, e9, g9, h9, List.length_map, hg] at p8 ⊢)); first | exact p8 | ((first | apply b9 E13 | apply c7 E13); exact (hrsl _); exact p8) | ((first | apply b9 E16 | apply c7 E16); exact (hd _); exact p8) | ((first | apply b9 E8 | apply c7 E8); exact (hrf _); exact p8)); refine p7 _ ?_; clear p7 K1) | (((first | (refine ⟨fun hg => hA ?_, fun hg => hB ?_⟩ <;> clear hA hB A B) | refine ⟨fun hg => ?_, fun hg => ?_⟩) <;> (try simp only [BN2] at hg) <;> (try simp only [hg, cndB])) <;> (try (refine p7 _ ?_; clear p7 K1)) <;> (try simp only [BN3] at hg))) | refine b6 fun K hK => ?_ | ((first | apply c8 | apply b8 | apply a9 | refine d5 ?_ | apply b7 | apply c9 | apply d4 | apply d7); try simp only [NB, simprocAttr]))
    all_goals refine ⟨⟨j + 1, y.to⟩, by simp only; omega, ⟨hlt, hyl⟩, ?_⟩
    all_goals refine ⟨rfl, ⟨_, rfl⟩, ?_, ⟨trivial, trivial, trivial⟩, j6 _ _, j6 _ _, trivial⟩
    all_goals simp only [S1, simprocAttr, KNB] <;> (try and_intros) <;> (try assumption) <;> (try trivial) <;> (try omega)
  · obtain rfl : j = picks.length := by omega
    repeat' (first | ((repeat ((fail_if_success (refine hK _ ?_)); clear hK K)); refine hK _ ?_; clear hK K) | ((first | refine d8 fun K1 p7 => ?_ | refine d6 fun K1 p7 => ?_ | refine b5 fun A B hA hB => ?_); simp only [S1, simprocAttr, L8, D6]; first | refine p7 _ ?_; clear p7 K1 | ((first | refine hA ?_ | refine hB ?_); clear hA hB A B) | ((first | apply b9 E7 | apply c7 E7); exact (hline _); refine p7 _ ?_; clear p7 K1) | (refine g8 (v := ?_) (fun hg p8 => ?_) ?_; rotate_left; (focus (try ((try simp only [BN] at hg); simp only [S1, simprocAttr, L8, D6, hg] at p8 ⊢)); first | exact p8 | ((first | apply b9 E7 | apply c7 E7); exact (hline _); exact p8)); refine p7 _ ?_; clear p7 K1) | (((first | (refine ⟨fun hg => hA ?_, fun hg => hB ?_⟩ <;> clear hA hB A B) | refine ⟨fun hg => ?_, fun hg => ?_⟩) <;> (try simp only [BN2] at hg) <;> (try simp only [hg, cndB])) <;> (try (refine p7 _ ?_; clear p7 K1)) <;> (try simp only [BN3] at hg))) | refine b6 fun K hK => ?_ | ((first | apply c8 | apply b8 | apply a9 | refine d5 ?_ | apply b7 | apply c9 | apply d4 | apply d7); try simp only [NB, simprocAttr]))
    all_goals simp only [S1, simprocAttr, ENB, L8]
theorem runs_given (xss : List (List PV)) (hl : xss.length = [25, 53].length) (ht : ∀ (j : Nat) t xs, [25, 53][j]? = some t → xss[j]? = some xs → ∃ fuel, Ty Tryz.prog fuel t xs) :
    f9 Tryz.prog gW 5 (List.zipWith (dT Tryz.prog) [25, 53] xss) [] fun r h' => r = .b true ∧ h' = [] := by
  match xss, hl, ht with
  | [x0, x1], _, ht =>
    obtain ⟨_, h0⟩ := ht 0 25 x0 rfl rfl
    obtain ⟨_, h1⟩ := ht 1 53 x1 rfl rfl
    obtain ⟨ns, fl, e0⟩ := kD h0
    obtain ⟨l, e1⟩ := sq h1
    simp only [List.zipWith_cons_cons, List.zipWith_nil_left, e0, e1]
    exact oD ns fl l []
end
end Go.Proofs.YtjpphhcimpclpaaGreatDoor.AM
