/- Proved here, in parts, for one law: contracts of the functions that the laws call, and the plain facts behind them. Conditions: none. -/
import Derived.Test.YtjpphhcimpclpaaGreatDoorZTokenMovesB
set_option linter.unusedVariables false
set_option linter.unusedSimpArgs false
set_option linter.defProp false
set_option maxRecDepth 4000
set_option maxHeartbeats 4000000
namespace Go.Proofs.YtjpphhcimpclpaaGreatDoor.AM
open Go Go.Proofs
section
def ay := And.intro T2 (And.intro T3 (And.intro T4 (And.intro T22 (And.intro T23 (And.intro T25 (And.intro T53 (And.intro T66 (And.intro T68 (And.intro T70 (And.intro T73 pO))))))))))
attribute [local irreducible] awp q9 m7 n7 r5
variable {G : Nat → Option (List PV)}
def inB (m : Nat) (i : Int) : Bool := decide (0 ≤ i) && decide (i < (m : Int))
def u3 (ns : List Nd) (i : Int) : Int := match ns[i.toNat]? with | some k => k.kind | none => 0
def cP (ns : List Nd) (fl : List Fl) (i : Int) : Bool := u3 ns i == 5 && decide (2 ≤ ((k3 fl i).length : Int))
def Z6 (ns : List Nd) (fl : List Fl) (f : Fl) : Bool :=
  ((inB ns.length f.src && inB ns.length f.dst) && !(f.src == f.dst)) && (if cP ns fl f.src = true then (if f.els = true then aw f.cond else ofB f.cond 2) else (!f.els && aw f.cond))
theorem bw {m : Nat} {i : Int} : inB m i = true ↔ 0 ≤ i ∧ i < m := by simp [inB]
theorem pT (ns : List Nd) (hn : ns.length ≤ 100) (fl : List Fl) (hl : fl.length ≤ 100) (f : Fl) {n : Nat} (ht : Tm.Ok n f.cond) (hn2 : n ≤ 200) (h : Heap) : f9 Tryz.prog G 32 [N5 ns fl, aF f] h (fun r h' => r = .b (Z6 ns fl f) ∧ h' = h) := by
  cases hin : ((inB ns.length f.src && inB ns.length f.dst) && !(f.src == f.dst)) with
  | false =>
    have f1 : ((((decide (f.src < 0) || decide ((ns.length : Int) ≤ f.src)) || decide (f.dst < 0)) || decide ((ns.length : Int) ≤ f.dst)) || (f.src == f.dst)) = true := by
      rw [Bool.eq_false_iff] at hin
      rcases Bool.eq_false_or_eq_true ((((decide (f.src < 0) || decide ((ns.length : Int) ≤ f.src)) || decide (f.dst < 0)) || decide ((ns.length : Int) ≤ f.dst)) || (f.src == f.dst)) with e | e
      · exact e
      · exfalso; apply hin
        simp only [Bool.or_eq_false_iff, decide_eq_false_iff_not] at e
        obtain ⟨⟨⟨⟨e1, e2⟩, e3⟩, e4⟩, e5⟩ := e
        simp only [Bool.and_eq_true, bw, e5, Bool.not_false, and_true]
        omega
    have e : Z6 ns fl f = false := by unfold Z6; rw [hin]; rfl
    rw [e]
    refine d9 (rl := []) i6 Tryz.func32 rfl (rs := [.tmp 4]) rfl Tryz.ntmps32 (by simp) ?_
    repeat' (first | ((repeat ((fail_if_success (refine hK _ ?_)); clear hK K)); refine hK _ ?_; clear hK K) | ((first | refine d8 fun K1 p7 => ?_ | refine d6 fun K1 p7 => ?_ | refine b5 fun A B hA hB => ?_); simp only [S1, simprocAttr, ay, List.length_map, f1]; first | refine p7 _ ?_; clear p7 K1 | ((first | refine hA ?_ | refine hB ?_); clear hA hB A B) | (refine g8 (v := ?_) (fun hg p8 => ?_) ?_; rotate_left; (focus (try ((try simp only [BN] at hg); simp only [S1, simprocAttr, ay, List.length_map, f1, hg] at p8 ⊢)); first | exact p8); refine p7 _ ?_; clear p7 K1) | (((first | (refine ⟨fun hg => hA ?_, fun hg => hB ?_⟩ <;> clear hA hB A B) | refine ⟨fun hg => ?_, fun hg => ?_⟩) <;> (try simp only [BN2] at hg) <;> (try simp only [hg, cndB])) <;> (try (refine p7 _ ?_; clear p7 K1)) <;> (try simp only [BN3] at hg))) | refine b6 fun K hK => ?_ | ((first | apply c8 | apply b8 | apply a9 | refine d5 ?_ | apply b7 | apply c9 | apply d4 | apply d7); try simp only [NB, simprocAttr]))
    all_goals simp only [S1, simprocAttr, ENB, ay]
  | true =>
    simp only [Bool.and_eq_true, bw, Bool.not_eq_true'] at hin
    obtain ⟨⟨⟨a1, a2⟩, b1, b2⟩, c1⟩ := hin
    have g1 : decide (f.src < 0) = false := by simp; omega
    have g2 : decide ((ns.length : Int) ≤ f.src) = false := by simp; omega
    have g3 : decide (f.dst < 0) = false := by simp; omega
    have g4 : decide ((ns.length : Int) ≤ f.dst) = false := by simp; omega
    obtain ⟨k, hx⟩ : ∃ k, ns[f.src.toNat]? = some k := ⟨_, List.getElem?_eq_getElem (by omega)⟩
    have ek : u3 ns f.src = k.kind := by unfold u3; rw [hx]
    have e0 : Z6 ns fl f = (if cP ns fl f.src = true then (if f.els = true then aw f.cond else ofB f.cond 2) else (!f.els && aw f.cond)) := by
      unfold Z6
      rw [bw.mpr ⟨a1, a2⟩, bw.mpr ⟨b1, b2⟩, c1]; simp
    rw [e0]; unfold cP; rw [ek]
    cases hk : (k.kind == 5) with
    | false =>
      have hk' : (k.kind != 5) = true := by unfold bne; rw [hk]; rfl
      refine d9 (rl := []) i6 Tryz.func32 rfl (rs := [.tmp 4]) rfl Tryz.ntmps32 (by simp) ?_
      repeat' (first | ((repeat ((fail_if_success (refine hK _ ?_)); clear hK K)); refine hK _ ?_; clear hK K) | ((first | refine d8 fun K1 p7 => ?_ | refine d6 fun K1 p7 => ?_ | refine b5 fun A B hA hB => ?_); simp only [S1, simprocAttr, ay, List.length_map, g1, g2, g3, g4, c1, a1, b1, hx, eN, hk, hk']; first | refine p7 _ ?_; clear p7 K1 | ((first | refine hA ?_ | refine hB ?_); clear hA hB A B) | ((first | apply b9 E36 | apply c7 E36); exact (o8 _ fl hl _ _); refine p7 _ ?_; clear p7 K1) | ((first | apply b9 E51 | apply c7 E51); exact (O4 ht hn2 _ _); refine p7 _ ?_; clear p7 K1) | ((first | apply b9 E52 | apply c7 E52); exact (y9 f.cond _); refine p7 _ ?_; clear p7 K1) | (refine g8 (v := ?_) (fun hg p8 => ?_) ?_; rotate_left; (focus (try ((try simp only [BN] at hg); simp only [S1, simprocAttr, ay, List.length_map, g1, g2, g3, g4, c1, a1, b1, hx, eN, hk, hk', hg] at p8 ⊢)); first | exact p8 | ((first | apply b9 E36 | apply c7 E36); exact (o8 _ fl hl _ _); exact p8) | ((first | apply b9 E51 | apply c7 E51); exact (O4 ht hn2 _ _); exact p8) | ((first | apply b9 E52 | apply c7 E52); exact (y9 f.cond _); exact p8)); refine p7 _ ?_; clear p7 K1) | (((first | (refine ⟨fun hg => hA ?_, fun hg => hB ?_⟩ <;> clear hA hB A B) | refine ⟨fun hg => ?_, fun hg => ?_⟩) <;> (try simp only [BN2] at hg) <;> (try simp only [hg, cndB])) <;> (try (refine p7 _ ?_; clear p7 K1)) <;> (try simp only [BN3] at hg))) | refine b6 fun K hK => ?_ | ((first | apply c8 | apply b8 | apply a9 | refine d5 ?_ | apply b7 | apply c9 | apply d4 | apply d7); try simp only [NB, simprocAttr]))
      all_goals simp only [S1, simprocAttr, ENB, ay]
      all_goals simp_all
    | true =>
      have hk' : (k.kind != 5) = false := by unfold bne; rw [hk]; rfl
      cases ho : decide (2 ≤ ((k3 fl f.src).length : Int)) with
      | false =>
        have ho' : decide (((k3 fl f.src).length : Int) < 2) = true := by simp at ho ⊢; omega
        refine d9 (rl := []) i6 Tryz.func32 rfl (rs := [.tmp 4]) rfl Tryz.ntmps32 (by simp) ?_
        repeat' (first | ((repeat ((fail_if_success (refine hK _ ?_)); clear hK K)); refine hK _ ?_; clear hK K) | ((first | refine d8 fun K1 p7 => ?_ | refine d6 fun K1 p7 => ?_ | refine b5 fun A B hA hB => ?_); simp only [S1, simprocAttr, ay, List.length_map, g1, g2, g3, g4, c1, a1, b1, hx, eN, hk, hk', ho, ho']; first | refine p7 _ ?_; clear p7 K1 | ((first | refine hA ?_ | refine hB ?_); clear hA hB A B) | ((first | apply b9 E36 | apply c7 E36); exact (o8 _ fl hl _ _); refine p7 _ ?_; clear p7 K1) | ((first | apply b9 E51 | apply c7 E51); exact (O4 ht hn2 _ _); refine p7 _ ?_; clear p7 K1) | ((first | apply b9 E52 | apply c7 E52); exact (y9 f.cond _); refine p7 _ ?_; clear p7 K1) | (refine g8 (v := ?_) (fun hg p8 => ?_) ?_; rotate_left; (focus (try ((try simp only [BN] at hg); simp only [S1, simprocAttr, ay, List.length_map, g1, g2, g3, g4, c1, a1, b1, hx, eN, hk, hk', ho, ho', hg] at p8 ⊢)); first | exact p8 | ((first | apply b9 E36 | apply c7 E36); exact (o8 _ fl hl _ _); exact p8) | ((first | apply b9 E51 | apply c7 E51); exact (O4 ht hn2 _ _); exact p8) | ((first | apply b9 E52 | apply c7 E52); exact (y9 f.cond _); exact p8)); refine p7 _ ?_; clear p7 K1) | (((first | (refine ⟨fun hg => hA ?_, fun hg => hB ?_⟩ <;> clear hA hB A B) | refine ⟨fun hg => ?_, fun hg => ?_⟩) <;> (try simp only [BN2] at hg) <;> (try simp only [hg, cndB])) <;> (try (refine p7 _ ?_; clear p7 K1)) <;> (try simp only [BN3] at hg))) | refine b6 fun K hK => ?_ | ((first | apply c8 | apply b8 | apply a9 | refine d5 ?_ | apply b7 | apply c9 | apply d4 | apply d7); try simp only [NB, simprocAttr]))
        all_goals simp only [S1, simprocAttr, ENB, ay]
        all_goals simp_all
      | true =>
        have ho' : decide (((k3 fl f.src).length : Int) < 2) = false := by simp at ho ⊢; omega
        refine d9 (rl := []) i6 Tryz.func32 rfl (rs := [.tmp 4]) rfl Tryz.ntmps32 (by simp) ?_
        repeat' (first | ((repeat ((fail_if_success (refine hK _ ?_)); clear hK K)); refine hK _ ?_; clear hK K) | ((first | refine d8 fun K1 p7 => ?_ | refine d6 fun K1 p7 => ?_ | refine b5 fun A B hA hB => ?_); simp only [S1, simprocAttr, ay, List.length_map, g1, g2, g3, g4, c1, a1, b1, hx, eN, hk, hk', ho, ho']; first | refine p7 _ ?_; clear p7 K1 | ((first | refine hA ?_ | refine hB ?_); clear hA hB A B) | ((first | apply b9 E36 | apply c7 E36); exact (o8 _ fl hl _ _); refine p7 _ ?_; clear p7 K1) | ((first | apply b9 E51 | apply c7 E51); exact (O4 ht hn2 _ _); refine p7 _ ?_; clear p7 K1) | ((first | apply b9 E52 | apply c7 E52); exact (y9 f.cond _); refine p7 _ ?_; clear p7 K1) | (refine g8 (v := ?_) (fun hg p8 => ?_) ?_; rotate_left; (focus (try ((try simp only [BN] at hg); simp only [S1, simprocAttr, ay, List.length_map, g1, g2, g3, g4, c1, a1, b1, hx, eN, hk, hk', ho, ho', hg] at p8 ⊢)); first | exact p8 | ((first | apply b9 E36 | apply c7 E36); exact (o8 _ fl hl _ _); exact p8) | ((first | apply b9 E51 | apply c7 E51); exact (O4 ht hn2 _ _); exact p8) | ((first | apply b9 E52 | apply c7 E52); exact (y9 f.cond _); exact p8)); refine p7 _ ?_; clear p7 K1) | (((first | (refine ⟨fun hg => hA ?_, fun hg => hB ?_⟩ <;> clear hA hB A B) | refine ⟨fun hg => ?_, fun hg => ?_⟩) <;> (try simp only [BN2] at hg) <;> (try simp only [hg, cndB])) <;> (try (refine p7 _ ?_; clear p7 K1)) <;> (try simp only [BN3] at hg))) | refine b6 fun K hK => ?_ | ((first | apply c8 | apply b8 | apply a9 | refine d5 ?_ | apply b7 | apply c9 | apply d4 | apply d7); try simp only [NB, simprocAttr]))
        all_goals simp only [S1, simprocAttr, ENB, ay]
        all_goals simp_all
end
section
def A1 := And.intro T2 (And.intro T3 (And.intro T4 (And.intro T22 (And.intro T23 (And.intro T25 (And.intro T53 (And.intro T66 (And.intro T68 (And.intro T70 T73)))))))))
attribute [local irreducible] awp q9 m7 n7 r5
variable {G : Nat → Option (List PV)}
theorem F5 {q : Fl → Bool} {l : List Fl} : ∀ {j : Nat} {x : Int}, x ∈ r9 q l j → ∃ i f, i < j ∧ x = (i : Int) ∧ l[i]? = some f ∧ q f = true
  | 0, x, h => by simp [r9] at h
  | j + 1, x, h => by
    unfold r9 at h
    split at h
    · rename_i f hf
      split at h
      · rename_i hq
        rcases List.mem_append.mp h with h | h
        · obtain ⟨i, f', a, b⟩ := F5 h; exact ⟨i, f', by omega, b⟩
        · exact ⟨j, f, by omega, by simpa using h, hf, hq⟩
      · obtain ⟨i, f', a, b⟩ := F5 h; exact ⟨i, f', by omega, b⟩
    · obtain ⟨i, f', a, b⟩ := F5 h; exact ⟨i, f', by omega, b⟩
def z7 (fl : List Fl) (x : Int) : Bool := match fl[x.toNat]? with | some f => f.els | none => false
def V1 (ns : List Nd) (fl : List Fl) (x : Int) : Bool := match fl[x.toNat]? with | some f => u3 ns f.dst != 8 | none => false
def Z7 (p : Int → Bool) (l : List Int) (j : Nat) : Nat := (l.take j).countP p
theorem bx {p : Int → Bool} {l : List Int} {j : Nat} {x : Int} (h : l[j]? = some x) : Z7 p l (j + 1) = Z7 p l j + (if p x = true then 1 else 0) := by
  unfold Z7
  rw [List.take_add_one, h]
  simp only [Option.toList_some, List.countP_append, List.countP_cons, List.countP_nil, Nat.zero_add]
theorem kq (p : Int → Bool) (l : List Int) (j : Nat) : Z7 p l j ≤ l.length := by
  unfold Z7
  exact Nat.le_trans List.countP_le_length (by rw [List.length_take]; omega)
def C8 (ns : List Nd) (fl : List Fl) (i : Int) : Bool :=
  let a := (p5 fl i).length
  let outs := k3 fl i
  let b := outs.length
  let elses := Z7 (z7 fl) outs b
  let others := Z7 (V1 ns fl) outs b
  let k := u3 ns i
  if k = 1 then a == 0 && b == 1
  else if k = 2 then a == 1 && b == 0
  else if k = 5 then (a == 1 && decide (2 ≤ b) && elses == 1) || (decide (2 ≤ a) && b == 1)
  else if k = 6 then (a == 1 && decide (2 ≤ b)) || (decide (2 ≤ a) && b == 1)
  else if k = 7 then a == 1 && decide (2 ≤ b) && others == 0
  else a == 1 && b == 1
theorem lW (ns : List Nd) (hn : ns.length ≤ 100) (fl : List Fl) (hl : fl.length ≤ 100) (hd : ∀ f ∈ fl, 0 ≤ f.dst ∧ f.dst < (ns.length : Int)) (i : Int) (hi0 : 0 ≤ i) (hi1 : i < (ns.length : Int)) (h : Heap) :
    f9 Tryz.prog G 34 [N5 ns fl, .i i] h (fun r h' => r = .b (C8 ns fl i) ∧ h' = h) := by
  have hle : (k3 fl i).length ≤ 100 := Nat.le_trans (O6 _ _ _) hl
  obtain ⟨kd, hkd⟩ : ∃ k, ns[i.toNat]? = some k := ⟨_, List.getElem?_eq_getElem (by omega)⟩
  have hkd' := B8 hkd
  have ekd : u3 ns i = kd.kind := by unfold u3; rw [hkd]
  refine d9 (rl := []) i6 Tryz.func34 rfl (rs := [.tmp 4]) rfl Tryz.ntmps34 (by simp) ?_
  refine b6 fun K hK => ?_
  repeat' (first | ((first | refine c8 ?_ | refine b8 ?_); (try simp only [NB]); ((repeat ((fail_if_success (refine hK _ ?_)); clear hK K)); refine hK _ ?_; clear hK K)) | ((first | refine d8 fun K1 p7 => ?_ | refine d6 fun K1 p7 => ?_ | refine b5 fun A B hA hB => ?_); simp only [S1, simprocAttr, A1]; first | (refine p7 _ ?_; clear p7 K1) | ((first | refine hA ?_ | refine hB ?_); clear hA hB A B) | (refine g8 (v := ?_) (fun hg p8 => ?_) ?_; rotate_left; (focus (try ((try simp only [BN] at hg); simp only [S1, simprocAttr, A1, hg] at p8 ⊢)); first | exact p8); (refine p7 _ ?_; clear p7 K1)) | (((first | (refine ⟨fun hg => hA ?_, fun hg => hB ?_⟩ <;> clear hA hB A B) | refine ⟨fun hg => ?_, fun hg => ?_⟩) <;> (try simp only [BN2] at hg) <;> (try simp only [hg, cndB])) <;> (try (refine p7 _ ?_; clear p7 K1)) <;> (try simp only [BN3] at hg))) | (fail) | ((first | refine a9 ?_ | refine j4 (by kernel_rfl) ?_ | refine b7 ?_ | refine c9 ?_ | refine d4 ?_ | refine d7 ?_); try simp only [NB, simprocAttr]; (try ((repeat ((fail_if_success (refine hK _ ?_)); clear hK K)); refine hK _ ?_; clear hK K))))
  refine b6 fun K hK => ?_
  repeat' (first | ((first | refine c8 ?_ | refine b8 ?_); (try simp only [NB]); ((repeat ((fail_if_success (refine hK _ ?_)); clear hK K)); refine hK _ ?_; clear hK K)) | ((first | refine d8 fun K1 p7 => ?_ | refine d6 fun K1 p7 => ?_ | refine b5 fun A B hA hB => ?_); simp only [S1, simprocAttr, A1]; first | (refine p7 _ ?_; clear p7 K1) | ((first | refine hA ?_ | refine hB ?_); clear hA hB A B) | ((first | apply b9 E43 | apply c7 E43); exact (B3 _ fl hl _ _); (refine p7 _ ?_; clear p7 K1)) | (refine g8 (v := ?_) (fun hg p8 => ?_) ?_; rotate_left; (focus (try ((try simp only [BN] at hg); simp only [S1, simprocAttr, A1, hg] at p8 ⊢)); first | exact p8 | ((first | apply b9 E43 | apply c7 E43); exact (B3 _ fl hl _ _); exact p8)); (refine p7 _ ?_; clear p7 K1)) | (((first | (refine ⟨fun hg => hA ?_, fun hg => hB ?_⟩ <;> clear hA hB A B) | refine ⟨fun hg => ?_, fun hg => ?_⟩) <;> (try simp only [BN2] at hg) <;> (try simp only [hg, cndB])) <;> (try (refine p7 _ ?_; clear p7 K1)) <;> (try simp only [BN3] at hg))) | (fail) | ((first | refine a9 ?_ | refine j4 (by kernel_rfl) ?_ | refine b7 ?_ | refine c9 ?_ | refine d4 ?_ | refine d7 ?_); try simp only [NB, simprocAttr]; (try ((repeat ((fail_if_success (refine hK _ ?_)); clear hK K)); refine hK _ ?_; clear hK K))))
  refine b6 fun K hK => ?_
  repeat' (first | ((first | refine c8 ?_ | refine b8 ?_); (try simp only [NB]); ((repeat ((fail_if_success (refine hK _ ?_)); clear hK K)); refine hK _ ?_; clear hK K)) | ((first | refine d8 fun K1 p7 => ?_ | refine d6 fun K1 p7 => ?_ | refine b5 fun A B hA hB => ?_); simp only [S1, simprocAttr, A1]; first | (refine p7 _ ?_; clear p7 K1) | ((first | refine hA ?_ | refine hB ?_); clear hA hB A B) | ((first | apply b9 E36 | apply c7 E36); exact (o8 _ fl hl _ _); (refine p7 _ ?_; clear p7 K1)) | (refine g8 (v := ?_) (fun hg p8 => ?_) ?_; rotate_left; (focus (try ((try simp only [BN] at hg); simp only [S1, simprocAttr, A1, hg] at p8 ⊢)); first | exact p8 | ((first | apply b9 E36 | apply c7 E36); exact (o8 _ fl hl _ _); exact p8)); (refine p7 _ ?_; clear p7 K1)) | (((first | (refine ⟨fun hg => hA ?_, fun hg => hB ?_⟩ <;> clear hA hB A B) | refine ⟨fun hg => ?_, fun hg => ?_⟩) <;> (try simp only [BN2] at hg) <;> (try simp only [hg, cndB])) <;> (try (refine p7 _ ?_; clear p7 K1)) <;> (try simp only [BN3] at hg))) | (fail) | ((first | refine a9 ?_ | refine j4 (by kernel_rfl) ?_ | refine b7 ?_ | refine c9 ?_ | refine d4 ?_ | refine d7 ?_); try simp only [NB, simprocAttr]; (try ((repeat ((fail_if_success (refine hK _ ?_)); clear hK K)); refine hK _ ?_; clear hK K))))
  refine b6 fun K hK => ?_
  repeat' (first | ((first | refine c8 ?_ | refine b8 ?_); (try simp only [NB]); ((repeat ((fail_if_success (refine hK _ ?_)); clear hK K)); refine hK _ ?_; clear hK K)) | ((first | refine d8 fun K1 p7 => ?_ | refine d6 fun K1 p7 => ?_ | refine b5 fun A B hA hB => ?_); simp only [S1, simprocAttr, A1, List.length_map]; first | (refine p7 _ ?_; clear p7 K1) | ((first | refine hA ?_ | refine hB ?_); clear hA hB A B) | (refine g8 (v := ?_) (fun hg p8 => ?_) ?_; rotate_left; (focus (try ((try simp only [BN] at hg); simp only [S1, simprocAttr, A1, List.length_map, hg] at p8 ⊢)); first | exact p8); (refine p7 _ ?_; clear p7 K1)) | (((first | (refine ⟨fun hg => hA ?_, fun hg => hB ?_⟩ <;> clear hA hB A B) | refine ⟨fun hg => ?_, fun hg => ?_⟩) <;> (try simp only [BN2] at hg) <;> (try simp only [hg, cndB])) <;> (try (refine p7 _ ?_; clear p7 K1)) <;> (try simp only [BN3] at hg))) | (fail) | ((first | refine a9 ?_ | refine j4 (by kernel_rfl) ?_ | refine b7 ?_ | refine c9 ?_ | refine d4 ?_ | refine d7 ?_); try simp only [NB, simprocAttr]; (try ((repeat ((fail_if_success (refine hK _ ?_)); clear hK K)); refine hK _ ?_; clear hK K))))
  refine b6 fun K hK => ?_
  repeat' (first | ((first | refine c8 ?_ | refine b8 ?_); (try simp only [NB]); ((repeat ((fail_if_success (refine hK _ ?_)); clear hK K)); refine hK _ ?_; clear hK K)) | ((first | refine d8 fun K1 p7 => ?_ | refine d6 fun K1 p7 => ?_ | refine b5 fun A B hA hB => ?_); simp only [S1, simprocAttr, A1]; first | (refine p7 _ ?_; clear p7 K1) | ((first | refine hA ?_ | refine hB ?_); clear hA hB A B) | (refine g8 (v := ?_) (fun hg p8 => ?_) ?_; rotate_left; (focus (try ((try simp only [BN] at hg); simp only [S1, simprocAttr, A1, hg] at p8 ⊢)); first | exact p8); (refine p7 _ ?_; clear p7 K1)) | (((first | (refine ⟨fun hg => hA ?_, fun hg => hB ?_⟩ <;> clear hA hB A B) | refine ⟨fun hg => ?_, fun hg => ?_⟩) <;> (try simp only [BN2] at hg) <;> (try simp only [hg, cndB])) <;> (try (refine p7 _ ?_; clear p7 K1)) <;> (try simp only [BN3] at hg))) | (fail) | ((first | refine a9 ?_ | refine j4 (by kernel_rfl) ?_ | refine b7 ?_ | refine c9 ?_ | refine d4 ?_ | refine d7 ?_); try simp only [NB, simprocAttr]; (try ((repeat ((fail_if_success (refine hK _ ?_)); clear hK K)); refine hK _ ?_; clear hK K))))
  refine b6 fun K hK => ?_
  repeat' (first | ((first | refine c8 ?_ | refine b8 ?_); (try simp only [NB]); ((repeat ((fail_if_success (refine hK _ ?_)); clear hK K)); refine hK _ ?_; clear hK K)) | ((first | refine d8 fun K1 p7 => ?_ | refine d6 fun K1 p7 => ?_ | refine b5 fun A B hA hB => ?_); simp only [S1, simprocAttr, A1]; first | (refine p7 _ ?_; clear p7 K1) | ((first | refine hA ?_ | refine hB ?_); clear hA hB A B) | (refine g8 (v := ?_) (fun hg p8 => ?_) ?_; rotate_left; (focus (try ((try simp only [BN] at hg); simp only [S1, simprocAttr, A1, hg] at p8 ⊢)); first | exact p8); (refine p7 _ ?_; clear p7 K1)) | (((first | (refine ⟨fun hg => hA ?_, fun hg => hB ?_⟩ <;> clear hA hB A B) | refine ⟨fun hg => ?_, fun hg => ?_⟩) <;> (try simp only [BN2] at hg) <;> (try simp only [hg, cndB])) <;> (try (refine p7 _ ?_; clear p7 K1)) <;> (try simp only [BN3] at hg))) | (fail) | ((first | refine a9 ?_ | refine j4 (by kernel_rfl) ?_ | refine b7 ?_ | refine c9 ?_ | refine d4 ?_ | refine d7 ?_); try simp only [NB, simprocAttr]; (try ((repeat ((fail_if_success (refine hK _ ?_)); clear hK K)); refine hK _ ?_; clear hK K))))
  refine b6 fun K hK => ?_
  repeat' (first | ((repeat ((fail_if_success (refine hK _ ?_)); clear hK K)); refine hK _ ?_; clear hK K) | ((first | refine d8 fun K1 p7 => ?_ | refine d6 fun K1 p7 => ?_ | refine b5 fun A B hA hB => ?_); simp only [S1, simprocAttr, A1, List.length_map]; first | refine p7 _ ?_; clear p7 K1 | ((first | refine hA ?_ | refine hB ?_); clear hA hB A B) | (refine g8 (v := ?_) (fun hg p8 => ?_) ?_; rotate_left; (focus (try ((try simp only [BN] at hg); simp only [S1, simprocAttr, A1, List.length_map, hg] at p8 ⊢)); first | exact p8); refine p7 _ ?_; clear p7 K1) | (((first | (refine ⟨fun hg => hA ?_, fun hg => hB ?_⟩ <;> clear hA hB A B) | refine ⟨fun hg => ?_, fun hg => ?_⟩) <;> (try simp only [BN2] at hg) <;> (try simp only [hg, cndB])) <;> (try (refine p7 _ ?_; clear p7 K1)) <;> (try simp only [BN3] at hg))) | refine b6 fun K hK => ?_ | ((first | apply c8 | apply b8 | apply a9 | refine d5 ?_ | apply b7 | apply c9 | apply d4 | apply d7); try simp only [NB, simprocAttr]))
  refine s5 (k3 fl i).length 126 (fun j => [(23, .i j), (22, .i (k3 fl i).length), (21, aI (k3 fl i)), (9, .i (Z7 (V1 ns fl) (k3 fl i) j)), (8, .i (Z7 (z7 fl) (k3 fl i) j)), (7, .i (k3 fl i).length), (6, aI (k3 fl i)), (5, .i (p5 fl i).length), (2, .ptr h.length 0 0), (1, .i i)])
    (fun j => [some ⟨0, [.p (.sl (ns.map eN)), .p (.sl (fl.map eF))]⟩]) (fun j => True) ?_ trivial fun j hj hp K hK => ?_
  · (refine ⟨rfl, (by first | exact ⟨_, rfl⟩ | exact ⟨[], by simp⟩), ?_, ?_⟩ <;> simp only [S1, simprocAttr, KNB] <;> (try and_intros) <;> (try assumption) <;> (try trivial) <;> (try omega))
  rcases Nat.lt_or_ge j (k3 fl i).length with hlt | hge
  · obtain ⟨x, hx⟩ : ∃ k, (k3 fl i)[j]? = some k := ⟨_, List.getElem?_eq_getElem hlt⟩
    obtain ⟨xi, f, hxi, rfl, hf, _⟩ := F5 (List.mem_of_getElem? hx)
    obtain ⟨d1, d2⟩ := hd f (List.mem_of_getElem? hf)
    obtain ⟨kx, hkx⟩ : ∃ k, ns[f.dst.toNat]? = some k := ⟨_, List.getElem?_eq_getElem (by omega)⟩
    have hkx' := B8 hkx
    have hf' := I8 hf
    have x0 : (0 : Int) ≤ (xi : Int) := Int.natCast_nonneg _
    have s1 := bx (p := z7 fl) hx
    have s2 := bx (p := V1 ns fl) hx
    have b1 := kq (z7 fl) (k3 fl i) j
    have b2 := kq (V1 ns fl) (k3 fl i) j
    have e1 : z7 fl (xi : Int) = f.els := by unfold z7; rw [Int.toNat_natCast, hf]
    have e2 : V1 ns fl (xi : Int) = (kx.kind != 8) := by unfold V1; rw [Int.toNat_natCast, hf]; simp only [u3, hkx]
    rw [e1] at s1
    rw [e2] at s2
    have w1 := IntWalk.i64_in ((Z7 (z7 fl) (k3 fl i) j : Int) + 1) (by omega)
    have w2 := IntWalk.i64_in ((Z7 (V1 ns fl) (k3 fl i) j : Int) + 1) (by omega)
    have n1 := D9 (l := k3 fl i) (i := j) (by omega) hlt
    cases h1 : f.els <;> cases h2 : (kx.kind != 8) <;> simp only [h1, h2, if_true, Bool.false_eq_true, if_false, Nat.add_zero] at s1 s2
    all_goals (repeat' (first | ((repeat ((fail_if_success (refine hK _ ?_)); clear hK K)); refine hK _ ?_; clear hK K) | ((first | refine d8 fun K1 p7 => ?_ | refine d6 fun K1 p7 => ?_ | refine b5 fun A B hA hB => ?_); simp only [S1, simprocAttr, A1, C2 hx, I3 hlt, n1, eF, eN, hf', hkx', h1, h2, d1, d2, x0, w1, w2, List.length_map]; first | refine p7 _ ?_; clear p7 K1 | ((first | refine hA ?_ | refine hB ?_); clear hA hB A B) | (refine g8 (v := ?_) (fun hg p8 => ?_) ?_; rotate_left; (focus (try ((try simp only [BN] at hg); simp only [S1, simprocAttr, A1, C2 hx, I3 hlt, n1, eF, eN, hf', hkx', h1, h2, d1, d2, x0, w1, w2, List.length_map, hg] at p8 ⊢)); first | exact p8); refine p7 _ ?_; clear p7 K1) | (((first | (refine ⟨fun hg => hA ?_, fun hg => hB ?_⟩ <;> clear hA hB A B) | refine ⟨fun hg => ?_, fun hg => ?_⟩) <;> (try simp only [BN2] at hg) <;> (try simp only [hg, cndB])) <;> (try (refine p7 _ ?_; clear p7 K1)) <;> (try simp only [BN3] at hg))) | refine b6 fun K hK => ?_ | ((first | apply c8 | apply b8 | apply a9 | refine d5 ?_ | apply b7 | apply c9 | apply d4 | apply d7); try simp only [NB, simprocAttr])))
    all_goals refine ⟨hlt, trivial, ?_⟩
    all_goals simp only [s1, s2]
    all_goals (refine ⟨rfl, (by first | exact ⟨_, rfl⟩ | exact ⟨[], by simp⟩), ?_, ?_⟩ <;> simp only [S1, simprocAttr, KNB] <;> (try and_intros) <;> (try assumption) <;> (try trivial) <;> (try omega))
  · obtain rfl : j = (k3 fl i).length := by omega
    have e0 : C8 ns fl i = C8 ns fl i := rfl
    conv at e0 => rhs; unfold C8
    rw [ekd] at e0
    by_cases k1 : kd.kind = 1
    · repeat' (first | ((repeat ((fail_if_success (refine hK _ ?_)); clear hK K)); refine hK _ ?_; clear hK K) | ((first | refine d8 fun K1 p7 => ?_ | refine d6 fun K1 p7 => ?_ | refine b5 fun A B hA hB => ?_); simp only [S1, simprocAttr, A1, D6, hi0, hkd', eN, k1]; first | refine p7 _ ?_; clear p7 K1 | ((first | refine hA ?_ | refine hB ?_); clear hA hB A B) | (refine g8 (v := ?_) (fun hg p8 => ?_) ?_; rotate_left; (focus (try ((try simp only [BN] at hg); simp only [S1, simprocAttr, A1, D6, hi0, hkd', eN, k1, hg] at p8 ⊢)); first | exact p8); refine p7 _ ?_; clear p7 K1) | (((first | (refine ⟨fun hg => hA ?_, fun hg => hB ?_⟩ <;> clear hA hB A B) | refine ⟨fun hg => ?_, fun hg => ?_⟩) <;> (try simp only [BN2] at hg) <;> (try simp only [hg, cndB])) <;> (try (refine p7 _ ?_; clear p7 K1)) <;> (try simp only [BN3] at hg))) | refine b6 fun K hK => ?_ | ((first | apply c8 | apply b8 | apply a9 | refine d5 ?_ | apply b7 | apply c9 | apply d4 | apply d7); try simp only [NB, simprocAttr]))
      all_goals simp only [S1, simprocAttr, ENB, A1]
      all_goals simp [e0, k1]
      all_goals (rw [Bool.eq_iff_iff]; simp only [Bool.or_eq_true, Bool.and_eq_true, beq_iff_eq, decide_eq_true_eq]; omega)
    by_cases k2 : kd.kind = 2
    · repeat' (first | ((repeat ((fail_if_success (refine hK _ ?_)); clear hK K)); refine hK _ ?_; clear hK K) | ((first | refine d8 fun K1 p7 => ?_ | refine d6 fun K1 p7 => ?_ | refine b5 fun A B hA hB => ?_); simp only [S1, simprocAttr, A1, D6, hi0, hkd', eN, k2]; first | refine p7 _ ?_; clear p7 K1 | ((first | refine hA ?_ | refine hB ?_); clear hA hB A B) | (refine g8 (v := ?_) (fun hg p8 => ?_) ?_; rotate_left; (focus (try ((try simp only [BN] at hg); simp only [S1, simprocAttr, A1, D6, hi0, hkd', eN, k2, hg] at p8 ⊢)); first | exact p8); refine p7 _ ?_; clear p7 K1) | (((first | (refine ⟨fun hg => hA ?_, fun hg => hB ?_⟩ <;> clear hA hB A B) | refine ⟨fun hg => ?_, fun hg => ?_⟩) <;> (try simp only [BN2] at hg) <;> (try simp only [hg, cndB])) <;> (try (refine p7 _ ?_; clear p7 K1)) <;> (try simp only [BN3] at hg))) | refine b6 fun K hK => ?_ | ((first | apply c8 | apply b8 | apply a9 | refine d5 ?_ | apply b7 | apply c9 | apply d4 | apply d7); try simp only [NB, simprocAttr]))
      all_goals simp only [S1, simprocAttr, ENB, A1]
      all_goals simp [e0, k2]
      all_goals (rw [Bool.eq_iff_iff]; simp only [Bool.or_eq_true, Bool.and_eq_true, beq_iff_eq, decide_eq_true_eq]; omega)
    by_cases k5 : kd.kind = 5
    · repeat' (first | ((repeat ((fail_if_success (refine hK _ ?_)); clear hK K)); refine hK _ ?_; clear hK K) | ((first | refine d8 fun K1 p7 => ?_ | refine d6 fun K1 p7 => ?_ | refine b5 fun A B hA hB => ?_); simp only [S1, simprocAttr, A1, D6, hi0, hkd', eN, k5]; first | refine p7 _ ?_; clear p7 K1 | ((first | refine hA ?_ | refine hB ?_); clear hA hB A B) | (refine g8 (v := ?_) (fun hg p8 => ?_) ?_; rotate_left; (focus (try ((try simp only [BN] at hg); simp only [S1, simprocAttr, A1, D6, hi0, hkd', eN, k5, hg] at p8 ⊢)); first | exact p8); refine p7 _ ?_; clear p7 K1) | (((first | (refine ⟨fun hg => hA ?_, fun hg => hB ?_⟩ <;> clear hA hB A B) | refine ⟨fun hg => ?_, fun hg => ?_⟩) <;> (try simp only [BN2] at hg) <;> (try simp only [hg, cndB])) <;> (try (refine p7 _ ?_; clear p7 K1)) <;> (try simp only [BN3] at hg))) | refine b6 fun K hK => ?_ | ((first | apply c8 | apply b8 | apply a9 | refine d5 ?_ | apply b7 | apply c9 | apply d4 | apply d7); try simp only [NB, simprocAttr]))
      all_goals simp only [S1, simprocAttr, ENB, A1]
      all_goals simp [e0, k5]
      all_goals (rw [Bool.eq_iff_iff]; simp only [Bool.or_eq_true, Bool.and_eq_true, beq_iff_eq, decide_eq_true_eq]; omega)
    by_cases k6 : kd.kind = 6
    · repeat' (first | ((repeat ((fail_if_success (refine hK _ ?_)); clear hK K)); refine hK _ ?_; clear hK K) | ((first | refine d8 fun K1 p7 => ?_ | refine d6 fun K1 p7 => ?_ | refine b5 fun A B hA hB => ?_); simp only [S1, simprocAttr, A1, D6, hi0, hkd', eN, k6]; first | refine p7 _ ?_; clear p7 K1 | ((first | refine hA ?_ | refine hB ?_); clear hA hB A B) | (refine g8 (v := ?_) (fun hg p8 => ?_) ?_; rotate_left; (focus (try ((try simp only [BN] at hg); simp only [S1, simprocAttr, A1, D6, hi0, hkd', eN, k6, hg] at p8 ⊢)); first | exact p8); refine p7 _ ?_; clear p7 K1) | (((first | (refine ⟨fun hg => hA ?_, fun hg => hB ?_⟩ <;> clear hA hB A B) | refine ⟨fun hg => ?_, fun hg => ?_⟩) <;> (try simp only [BN2] at hg) <;> (try simp only [hg, cndB])) <;> (try (refine p7 _ ?_; clear p7 K1)) <;> (try simp only [BN3] at hg))) | refine b6 fun K hK => ?_ | ((first | apply c8 | apply b8 | apply a9 | refine d5 ?_ | apply b7 | apply c9 | apply d4 | apply d7); try simp only [NB, simprocAttr]))
      all_goals simp only [S1, simprocAttr, ENB, A1]
      all_goals simp [e0, k6]
      all_goals (rw [Bool.eq_iff_iff]; simp only [Bool.or_eq_true, Bool.and_eq_true, beq_iff_eq, decide_eq_true_eq]; omega)
    by_cases k7 : kd.kind = 7
    · repeat' (first | ((repeat ((fail_if_success (refine hK _ ?_)); clear hK K)); refine hK _ ?_; clear hK K) | ((first | refine d8 fun K1 p7 => ?_ | refine d6 fun K1 p7 => ?_ | refine b5 fun A B hA hB => ?_); simp only [S1, simprocAttr, A1, D6, hi0, hkd', eN, k7]; first | refine p7 _ ?_; clear p7 K1 | ((first | refine hA ?_ | refine hB ?_); clear hA hB A B) | (refine g8 (v := ?_) (fun hg p8 => ?_) ?_; rotate_left; (focus (try ((try simp only [BN] at hg); simp only [S1, simprocAttr, A1, D6, hi0, hkd', eN, k7, hg] at p8 ⊢)); first | exact p8); refine p7 _ ?_; clear p7 K1) | (((first | (refine ⟨fun hg => hA ?_, fun hg => hB ?_⟩ <;> clear hA hB A B) | refine ⟨fun hg => ?_, fun hg => ?_⟩) <;> (try simp only [BN2] at hg) <;> (try simp only [hg, cndB])) <;> (try (refine p7 _ ?_; clear p7 K1)) <;> (try simp only [BN3] at hg))) | refine b6 fun K hK => ?_ | ((first | apply c8 | apply b8 | apply a9 | refine d5 ?_ | apply b7 | apply c9 | apply d4 | apply d7); try simp only [NB, simprocAttr]))
      all_goals simp only [S1, simprocAttr, ENB, A1]
      all_goals simp [e0, k7]
      all_goals (rw [Bool.eq_iff_iff]; simp only [Bool.or_eq_true, Bool.and_eq_true, beq_iff_eq, decide_eq_true_eq]; omega)
    · have f1 : (kd.kind == 1) = false := by simp [k1]
      have f2 : (kd.kind == 2) = false := by simp [k2]
      have f5 : (kd.kind == 5) = false := by simp [k5]
      have f6 : (kd.kind == 6) = false := by simp [k6]
      have f7 : (kd.kind == 7) = false := by simp [k7]
      repeat' (first | ((repeat ((fail_if_success (refine hK _ ?_)); clear hK K)); refine hK _ ?_; clear hK K) | ((first | refine d8 fun K1 p7 => ?_ | refine d6 fun K1 p7 => ?_ | refine b5 fun A B hA hB => ?_); simp only [S1, simprocAttr, A1, D6, hi0, hkd', eN, f1, f2, f5, f6, f7]; first | refine p7 _ ?_; clear p7 K1 | ((first | refine hA ?_ | refine hB ?_); clear hA hB A B) | (refine g8 (v := ?_) (fun hg p8 => ?_) ?_; rotate_left; (focus (try ((try simp only [BN] at hg); simp only [S1, simprocAttr, A1, D6, hi0, hkd', eN, f1, f2, f5, f6, f7, hg] at p8 ⊢)); first | exact p8); refine p7 _ ?_; clear p7 K1) | (((first | (refine ⟨fun hg => hA ?_, fun hg => hB ?_⟩ <;> clear hA hB A B) | refine ⟨fun hg => ?_, fun hg => ?_⟩) <;> (try simp only [BN2] at hg) <;> (try simp only [hg, cndB])) <;> (try (refine p7 _ ?_; clear p7 K1)) <;> (try simp only [BN3] at hg))) | refine b6 fun K hK => ?_ | ((first | apply c8 | apply b8 | apply a9 | refine d5 ?_ | apply b7 | apply c9 | apply d4 | apply d7); try simp only [NB, simprocAttr]))
      all_goals simp only [S1, simprocAttr, ENB, A1]
      all_goals simp [e0, k1, k2, k5, k6, k7]
      all_goals (rw [Bool.eq_iff_iff]; simp only [Bool.or_eq_true, Bool.and_eq_true, beq_iff_eq, decide_eq_true_eq]; omega)
end
section
def cQ := And.intro T2 (And.intro T3 (And.intro T4 (And.intro T22 (And.intro T23 (And.intro T25 (And.intro T53 (And.intro T66 (And.intro T68 (And.intro T70 (And.intro T73 T95))))))))))
attribute [local irreducible] awp q9 m7 n7 r5
variable {G : Nat → Option (List PV)}
def eB (x : Bool) : List PV := [.bool x]
abbrev aBl (l : List Bool) : AV := .p (.sl (l.map eB))
theorem x6 (m : Nat) (l : List Bool) : q6 m (l.map AV.b) := by
  induction l with
  | nil => trivial
  | cons x r ih => exact ⟨trivial, ih⟩
theorem eO : ∀ l : List Bool, B5 1 l.length (l.map PV.bool) = l.map eB
  | [] => rfl
  | x :: r => by simp only [List.length_cons, List.map_cons, B5, List.take_succ_cons, List.take_zero, List.drop_succ_cons, List.drop_zero, eO r, eB]
theorem gF (h : Heap) (n fuel : Nat) : ∀ l : List Bool, I2 h n fuel (l.map AV.b) = some (l.map PV.bool)
  | [] => by unfold I2; rfl
  | x :: r => by
    simp only [List.map_cons]
    unfold I2 pur
    rw [gF h n fuel r]
theorem pU {h : Heap} {n fuel b g : Nat} {l : List Bool} {m : Nat} (hm : m = l.length) (hb : t4 h b g = some (l.map AV.b)) (hn : n ≤ b) : pur h n (fuel + 1) (.ref b g 0 1 m) = some (.sl (l.map eB)) := by
  subst hm
  unfold pur
  by_cases h0 : l.length = 0
  · rw [if_pos h0]; have := List.eq_nil_of_length_eq_zero h0; subst this; rfl
  · rw [if_neg h0, hb]
    simp only [hn, true_and, Nat.zero_add, Nat.mul_one, List.length_map, Nat.le_refl, if_true, List.drop_zero]
    rw [List.take_of_length_le (by simp), gF]
    simp only [Option.map_some, eO]
theorem gG {P : Program} {h : Heap} {K : AV → Prop} {e : Exit} {s : St} (he : e = .normal ∨ e = .ret) {t b g m : Nat} {l : List Bool} (hm : m = l.length) (hf : s.fr t = some (.ref b g 0 1 m)) (hb : t4 s.heap b g = some (l.map AV.b)) (hn : h.length ≤ b)
    (ht : s.heap.take h.length = h) (hle : h.length ≤ s.heap.length) (hk : K (aBl l)) : lD P [.tmp t] h K e s := by
  have key : bK P [.tmp t] h K s := by
    unfold bK
    simp only [Q6, S4, K6, hf, F2, D8, pU hm hb hn, Option.map_some]
    exact ⟨ht, hle, hk⟩
  rcases he with rfl | rfl <;> exact key
theorem tH {l : List Bool} {k : Nat} {x : Bool} (h : l[k]? = some x) : (l.map AV.b).drop k = .p (.bool x) :: (l.drop (k + 1)).map AV.b := by
  obtain ⟨hk, e⟩ := List.getElem?_eq_some_iff.mp h
  rw [← List.map_drop, List.drop_eq_getElem_cons hk, e]; rfl
theorem kr (l : List Bool) (k : Nat) : (l.map AV.b).set k (AV.p (.bool true)) = (l.set k true).map AV.b := by
  rw [List.map_set]
theorem gH {α : Type} (n : Nat) (x : α) : (List.replicate n [x]).flatMap id = List.replicate n x := by
  induction n with
  | zero => rfl
  | succ n ih => rw [List.replicate_succ, List.flatMap_cons, ih, List.replicate_succ]; rfl
theorem dK (n : Nat) : List.replicate n (AV.p (.bool false)) = (List.replicate n false).map AV.b := by simp
def esF (fl : List Fl) : List (Nat × Nat) := fl.map fun f => (f.src.toNat, f.dst.toNat)
def InN (n : Nat) (fl : List Fl) : Prop := ∀ f ∈ fl, (0 ≤ f.src ∧ f.src < (n : Int)) ∧ 0 ≤ f.dst ∧ f.dst < (n : Int)
theorem rr {fl : List Fl} {j : Nat} {f : Fl} (h : fl[j]? = some f) : (esF fl).take (j + 1) = (esF fl).take j ++ [(f.src.toNat, f.dst.toNat)] := by
  have : (esF fl)[j]? = some (f.src.toNat, f.dst.toNat) := by simp [esF, h]
  rw [List.take_add_one, this]; rfl
theorem pV (es : List (Nat × Nat)) : ∀ out : List Bool, (es.foldl B6 out).length = out.length := gD es
theorem bf (ns : List Nd) (hn : ns.length ≤ 100) (fl : List Fl) (hl : fl.length ≤ 100) (hd : InN ns.length fl) (i : Int) (hi0 : 0 ≤ i) (hi1 : i < (ns.length : Int)) (h : Heap) :
    f9 Tryz.prog G 35 [N5 ns fl, .i i] h (fun r h' => r = aBl (O7 (esF fl) ns.length i.toNat) ∧ h' = h) := by
  have hes : ∀ e ∈ esF fl, e.2 < ns.length := by
    intro e he
    simp only [esF, List.mem_map] at he
    obtain ⟨f, hf, rfl⟩ := he
    have := hd f hf
    simp only; omega
  have hrr := nA (es := esF fl) (n := ns.length) (a := i.toNat) (by omega) hes
  let o0 := (List.replicate ns.length false).set i.toNat true
  have l0 : ∀ k, (A7 (esF fl) k o0).length = ns.length := fun k => by rw [T8]; simp [o0]
  have g1 : (0 : Int) ≤ (ns.length : Int) := by omega
  have g2 : (ns.length : Int) ≤ 16777216 := by omega
  have g3 : ((ns.length : Int) = 0) = False := eq_false (by omega)
  have g4 : i.toNat + 1 ≤ ns.length := by have := Int.toNat_of_nonneg hi0; omega
  refine d9 (rl := []) i6 Tryz.func35 rfl (rs := [.tmp 4]) rfl Tryz.ntmps35 (by simp) ?_
  refine b6 fun K hK => ?_
  repeat' (first | ((first | refine c8 ?_ | refine b8 ?_); (try simp only [NB]); ((repeat ((fail_if_success (refine hK _ ?_)); clear hK K)); refine hK _ ?_; clear hK K)) | ((first | refine d8 fun K1 p7 => ?_ | refine d6 fun K1 p7 => ?_ | refine b5 fun A B hA hB => ?_); simp only [S1, simprocAttr, cQ]; first | (refine p7 _ ?_; clear p7 K1) | ((first | refine hA ?_ | refine hB ?_); clear hA hB A B) | (((first | (refine ⟨fun hg => hA ?_, fun hg => hB ?_⟩ <;> clear hA hB A B) | refine ⟨fun hg => ?_, fun hg => ?_⟩) <;> (try simp only [BN2] at hg) <;> (try simp only [hg, cndB])) <;> (try (refine p7 _ ?_; clear p7 K1)) <;> (try simp only [BN3] at hg))) | (fail) | ((first | refine a9 ?_ | refine j4 (by kernel_rfl) ?_ | refine b7 ?_ | refine c9 ?_ | refine d4 ?_ | refine d7 ?_); try simp only [NB, simprocAttr]; (try ((repeat ((fail_if_success (refine hK _ ?_)); clear hK K)); refine hK _ ?_; clear hK K))))
  refine b6 fun K hK => ?_
  repeat' (first | ((first | refine c8 ?_ | refine b8 ?_); (try simp only [NB]); ((repeat ((fail_if_success (refine hK _ ?_)); clear hK K)); refine hK _ ?_; clear hK K)) | ((first | refine d8 fun K1 p7 => ?_ | refine d6 fun K1 p7 => ?_ | refine b5 fun A B hA hB => ?_); simp only [S1, simprocAttr, cQ, List.length_map, g1, g2, g3, gH, dK]; first | (refine p7 _ ?_; clear p7 K1) | ((first | refine hA ?_ | refine hB ?_); clear hA hB A B) | (((first | (refine ⟨fun hg => hA ?_, fun hg => hB ?_⟩ <;> clear hA hB A B) | refine ⟨fun hg => ?_, fun hg => ?_⟩) <;> (try simp only [BN2] at hg) <;> (try simp only [hg, cndB])) <;> (try (refine p7 _ ?_; clear p7 K1)) <;> (try simp only [BN3] at hg))) | (fail) | ((first | refine a9 ?_ | refine j4 (by kernel_rfl) ?_ | refine b7 ?_ | refine c9 ?_ | refine d4 ?_ | refine d7 ?_); try simp only [NB, simprocAttr]; (try ((repeat ((fail_if_success (refine hK _ ?_)); clear hK K)); refine hK _ ?_; clear hK K))))
  refine b6 fun K hK => ?_
  repeat' (first | ((first | refine c8 ?_ | refine b8 ?_); (try simp only [NB]); ((repeat ((fail_if_success (refine hK _ ?_)); clear hK K)); refine hK _ ?_; clear hK K)) | ((first | refine d8 fun K1 p7 => ?_ | refine d6 fun K1 p7 => ?_ | refine b5 fun A B hA hB => ?_); simp only [S1, simprocAttr, cQ, List.length_map, List.length_replicate, hi0, hi1, g4, Nat.mul_one, kr]; first | (refine p7 _ ?_; clear p7 K1) | ((first | refine hA ?_ | refine hB ?_); clear hA hB A B) | (((first | (refine ⟨fun hg => hA ?_, fun hg => hB ?_⟩ <;> clear hA hB A B) | refine ⟨fun hg => ?_, fun hg => ?_⟩) <;> (try simp only [BN2] at hg) <;> (try simp only [hg, cndB])) <;> (try (refine p7 _ ?_; clear p7 K1)) <;> (try simp only [BN3] at hg))) | (fail) | ((first | refine a9 ?_ | refine j4 (by kernel_rfl) ?_ | refine b7 ?_ | refine c9 ?_ | refine d4 ?_ | refine d7 ?_); try simp only [NB, simprocAttr]; (try ((repeat ((fail_if_success (refine hK _ ?_)); clear hK K)); refine hK _ ?_; clear hK K))))
  refine b6 fun K hK => ?_
  repeat' (first | ((repeat ((fail_if_success (refine hK _ ?_)); clear hK K)); refine hK _ ?_; clear hK K) | ((first | refine d8 fun K1 p7 => ?_ | refine d6 fun K1 p7 => ?_ | refine b5 fun A B hA hB => ?_); simp only [S1, simprocAttr, cQ, List.length_map]; first | refine p7 _ ?_; clear p7 K1 | ((first | refine hA ?_ | refine hB ?_); clear hA hB A B) | (((first | (refine ⟨fun hg => hA ?_, fun hg => hB ?_⟩ <;> clear hA hB A B) | refine ⟨fun hg => ?_, fun hg => ?_⟩) <;> (try simp only [BN2] at hg) <;> (try simp only [hg, cndB])) <;> (try (refine p7 _ ?_; clear p7 K1)) <;> (try simp only [BN3] at hg))) | refine b6 fun K hK => ?_ | ((first | apply c8 | apply b8 | apply a9 | refine d5 ?_ | apply b7 | apply c9 | apply d4 | apply d7); try simp only [NB, simprocAttr]))
  refine s5 ns.length 39 (fun k => [(18, .i k), (17, .i ns.length), (5, .ref (h.length + 1) 0 0 1 ns.length), (2, .ptr h.length 0 0)])
    (fun k => [some ⟨0, [.p (.sl (ns.map eN)), .p (.sl (fl.map eF))]⟩, some ⟨0, (A7 (esF fl) k o0).map AV.b⟩]) (fun k => True) ?_ trivial fun k hk hp K hK => ?_
  · refine ⟨rfl, ⟨[], by simp only [List.append_nil]; rfl⟩, ?_, ⟨trivial, trivial, trivial⟩, x6 _ _, trivial⟩
    simp only [S1, simprocAttr, KNB] <;> (try and_intros) <;> (try assumption) <;> (try trivial) <;> (try omega)
  rcases Nat.lt_or_ge k ns.length with hlt | hge
  · repeat' (first | ((repeat ((fail_if_success (refine hK _ ?_)); clear hK K)); refine hK _ ?_; clear hK K) | ((first | refine d8 fun K1 p7 => ?_ | refine d6 fun K1 p7 => ?_ | refine b5 fun A B hA hB => ?_); simp only [S1, simprocAttr, cQ, I9 hlt, List.length_map]; first | refine p7 _ ?_; clear p7 K1 | ((first | refine hA ?_ | refine hB ?_); clear hA hB A B) | (((first | (refine ⟨fun hg => hA ?_, fun hg => hB ?_⟩ <;> clear hA hB A B) | refine ⟨fun hg => ?_, fun hg => ?_⟩) <;> (try simp only [BN2] at hg) <;> (try simp only [hg, cndB])) <;> (try (refine p7 _ ?_; clear p7 K1)) <;> (try simp only [BN3] at hg))) | refine b6 fun K hK => ?_ | ((first | apply c8 | apply b8 | apply a9 | refine d5 ?_ | apply b7 | apply c9 | apply d4 | apply d7); try simp only [NB, simprocAttr]))
    refine s5 fl.length 39 (fun j => [(23, .i j), (22, .i fl.length), (21, .p (.sl (fl.map eF))), (18, .i k), (17, .i ns.length), (5, .ref (h.length + 1) 0 0 1 ns.length), (2, .ptr h.length 0 0)])
      (fun j => [some ⟨0, [.p (.sl (ns.map eN)), .p (.sl (fl.map eF))]⟩, some ⟨0, (((esF fl).take j).foldl B6 (A7 (esF fl) k o0)).map AV.b⟩]) (fun j => True) ?_ trivial fun j hj hp K hK => ?_
    · refine ⟨rfl, ⟨[], by simp only [List.append_nil, List.take_zero, List.foldl_nil]⟩, ?_, ⟨trivial, trivial, trivial⟩, x6 _ _, trivial⟩
      simp only [S1, simprocAttr, KNB] <;> (try and_intros) <;> (try assumption) <;> (try trivial) <;> (try omega)
    rcases Nat.lt_or_ge j fl.length with hjl | hjg
    · obtain ⟨f, hx⟩ : ∃ k, fl[j]? = some k := ⟨_, List.getElem?_eq_getElem hjl⟩
      obtain ⟨⟨a1, a2⟩, b1, b2⟩ := hd f (List.mem_of_getElem? hx)
      have ht := rr hx
      have hcl : (((esF fl).take j).foldl B6 (A7 (esF fl) k o0)).length = ns.length := by rw [pV, l0]
      generalize hcur : ((esF fl).take j).foldl B6 (A7 (esF fl) k o0) = cur at hcl
      have hnx : ((esF fl).take (j + 1)).foldl B6 (A7 (esF fl) k o0) = B6 cur (f.src.toNat, f.dst.toNat) := by rw [ht, List.foldl_append, hcur]; rfl
      have s1 : f.src.toNat < cur.length := by have := Int.toNat_of_nonneg a1; omega
      have s2 : f.dst.toNat + 1 ≤ cur.length := by have := Int.toNat_of_nonneg b1; omega
      obtain ⟨x, hcx⟩ : ∃ x, cur[f.src.toNat]? = some x := ⟨_, List.getElem?_eq_getElem s1⟩
      have hdr := tH hcx
      cases x with
      | false =>
        have hre : B6 cur (f.src.toNat, f.dst.toNat) = cur := by unfold B6; simp [hcx]
        repeat' (first | ((repeat ((fail_if_success (refine hK _ ?_)); clear hK K)); refine hK _ ?_; clear hK K) | ((first | refine d8 fun K1 p7 => ?_ | refine d6 fun K1 p7 => ?_ | refine b5 fun A B hA hB => ?_); simp only [S1, simprocAttr, cQ, I8 hx, Q9 hjl, G1 hl hjl, eF, hdr, a1, a2, List.length_map, Nat.mul_one]; first | refine p7 _ ?_; clear p7 K1 | ((first | refine hA ?_ | refine hB ?_); clear hA hB A B) | (((first | (refine ⟨fun hg => hA ?_, fun hg => hB ?_⟩ <;> clear hA hB A B) | refine ⟨fun hg => ?_, fun hg => ?_⟩) <;> (try simp only [BN2] at hg) <;> (try simp only [hg, cndB])) <;> (try (refine p7 _ ?_; clear p7 K1)) <;> (try simp only [BN3] at hg))) | refine b6 fun K hK => ?_ | ((first | apply c8 | apply b8 | apply a9 | refine d5 ?_ | apply b7 | apply c9 | apply d4 | apply d7); try simp only [NB, simprocAttr]))
        all_goals refine ⟨hjl, trivial, ?_⟩
        all_goals simp only [hnx, hre]
        all_goals refine ⟨rfl, ⟨_, rfl⟩, ?_, ⟨trivial, trivial, trivial⟩, x6 _ _, trivial⟩
        all_goals simp only [S1, simprocAttr, KNB] <;> (try and_intros) <;> (try assumption) <;> (try trivial) <;> (try omega)
      | true =>
        have hre : B6 cur (f.src.toNat, f.dst.toNat) = cur.set f.dst.toNat true := by unfold B6; simp [hcx]
        repeat' (first | ((repeat ((fail_if_success (refine hK _ ?_)); clear hK K)); refine hK _ ?_; clear hK K) | ((first | refine d8 fun K1 p7 => ?_ | refine d6 fun K1 p7 => ?_ | refine b5 fun A B hA hB => ?_); simp only [S1, simprocAttr, cQ, I8 hx, Q9 hjl, G1 hl hjl, eF, hdr, a1, a2, b1, b2, s2, kr, List.length_map, Nat.mul_one]; first | refine p7 _ ?_; clear p7 K1 | ((first | refine hA ?_ | refine hB ?_); clear hA hB A B) | (((first | (refine ⟨fun hg => hA ?_, fun hg => hB ?_⟩ <;> clear hA hB A B) | refine ⟨fun hg => ?_, fun hg => ?_⟩) <;> (try simp only [BN2] at hg) <;> (try simp only [hg, cndB])) <;> (try (refine p7 _ ?_; clear p7 K1)) <;> (try simp only [BN3] at hg))) | refine b6 fun K hK => ?_ | ((first | apply c8 | apply b8 | apply a9 | refine d5 ?_ | apply b7 | apply c9 | apply d4 | apply d7); try simp only [NB, simprocAttr]))
        all_goals refine ⟨hjl, trivial, ?_⟩
        all_goals simp only [hnx, hre]
        all_goals refine ⟨rfl, ⟨_, rfl⟩, ?_, ⟨trivial, trivial, trivial⟩, x6 _ _, trivial⟩
        all_goals simp only [S1, simprocAttr, KNB] <;> (try and_intros) <;> (try assumption) <;> (try trivial) <;> (try omega)
    · obtain rfl : j = fl.length := by omega
      have hfull : (esF fl).take fl.length = esF fl := List.take_of_length_le (by simp [esF])
      have hnx : A7 (esF fl) (k + 1) o0 = ((esF fl).take fl.length).foldl B6 (A7 (esF fl) k o0) := by rw [hfull]; rfl
      repeat' (first | ((repeat ((fail_if_success (refine hK _ ?_)); clear hK K)); refine hK _ ?_; clear hK K) | ((first | refine d8 fun K1 p7 => ?_ | refine d6 fun K1 p7 => ?_ | refine b5 fun A B hA hB => ?_); simp only [S1, simprocAttr, cQ, iC, A9 hn hlt]; first | refine p7 _ ?_; clear p7 K1 | ((first | refine hA ?_ | refine hB ?_); clear hA hB A B) | (((first | (refine ⟨fun hg => hA ?_, fun hg => hB ?_⟩ <;> clear hA hB A B) | refine ⟨fun hg => ?_, fun hg => ?_⟩) <;> (try simp only [BN2] at hg) <;> (try simp only [hg, cndB])) <;> (try (refine p7 _ ?_; clear p7 K1)) <;> (try simp only [BN3] at hg))) | refine b6 fun K hK => ?_ | ((first | apply c8 | apply b8 | apply a9 | refine d5 ?_ | apply b7 | apply c9 | apply d4 | apply d7); try simp only [NB, simprocAttr]))
      all_goals refine ⟨hlt, trivial, ?_⟩
      all_goals simp only [hnx]
      all_goals refine ⟨rfl, ⟨_, rfl⟩, ?_, ⟨trivial, trivial, trivial⟩, x6 _ _, trivial⟩
      all_goals simp only [S1, simprocAttr, KNB] <;> (try and_intros) <;> (try assumption) <;> (try trivial) <;> (try omega)
  · obtain rfl : k = ns.length := by omega
    repeat' (first | ((repeat ((fail_if_success (refine hK _ ?_)); clear hK K)); refine hK _ ?_; clear hK K) | ((first | refine d8 fun K1 p7 => ?_ | refine d6 fun K1 p7 => ?_ | refine b5 fun A B hA hB => ?_); simp only [S1, simprocAttr, cQ, T5]; first | refine p7 _ ?_; clear p7 K1 | ((first | refine hA ?_ | refine hB ?_); clear hA hB A B) | (((first | (refine ⟨fun hg => hA ?_, fun hg => hB ?_⟩ <;> clear hA hB A B) | refine ⟨fun hg => ?_, fun hg => ?_⟩) <;> (try simp only [BN2] at hg) <;> (try simp only [hg, cndB])) <;> (try (refine p7 _ ?_; clear p7 K1)) <;> (try simp only [BN3] at hg))) | refine b6 fun K hK => ?_ | ((first | apply c8 | apply b8 | apply a9 | refine d5 ?_ | apply b7 | apply c9 | apply d4 | apply d7); try simp only [NB, simprocAttr]))
    have hrl := l0 ns.length
    exact gG (.inr rfl) hrl.symm rfl (by simp only [t4, q7, List.getElem?_cons_succ, List.getElem?_cons_zero, if_true]) (by omega) (by simp) (by simp) (by rw [hrr])
end
section
def J0 := And.intro T2 (And.intro T3 (And.intro T4 (And.intro T22 (And.intro T23 (And.intro T25 (And.intro T53 (And.intro T66 (And.intro T68 (And.intro T70 (And.intro T73 pO))))))))))
attribute [local irreducible] awp q9 m7 n7 r5
variable {G : Nat → Option (List PV)}
abbrev D1 (ns : List Nd) (fl : List Fl) : List AV := [.p (.sl (ns.map eN)), .p (.sl (fl.map eF))]
theorem w4 (ns : List Nd) (fl : List Fl) (i : Int) (H : Heap) {b g : Nat} (hb : H[b]? = some (some ⟨g, D1 ns fl⟩)) : f9 Tryz.prog G 79 [.i i, .ptr b g 0] H (fun r h' => r = .b (inB ns.length i) ∧ h' = H) := by
  refine d9 (rl := []) i6 Tryz.func79 rfl (rs := [.tmp 3]) rfl Tryz.ntmps79 (by simp) ?_
  repeat' (first | ((repeat ((fail_if_success (refine hK _ ?_)); clear hK K)); refine hK _ ?_; clear hK K) | ((first | refine d8 fun K1 p7 => ?_ | refine d6 fun K1 p7 => ?_ | refine b5 fun A B hA hB => ?_); simp only [S1, simprocAttr, J0, hb, List.length_map]; first | refine p7 _ ?_; clear p7 K1 | ((first | refine hA ?_ | refine hB ?_); clear hA hB A B) | (refine g8 (v := ?_) (fun hg p8 => ?_) ?_; rotate_left; (focus (try ((try simp only [BN] at hg); simp only [S1, simprocAttr, J0, hb, List.length_map, hg] at p8 ⊢)); first | exact p8); refine p7 _ ?_; clear p7 K1) | (((first | (refine ⟨fun hg => hA ?_, fun hg => hB ?_⟩ <;> clear hA hB A B) | refine ⟨fun hg => ?_, fun hg => ?_⟩) <;> (try simp only [BN2] at hg) <;> (try simp only [hg, cndB])) <;> (try (refine p7 _ ?_; clear p7 K1)) <;> (try simp only [BN3] at hg))) | refine b6 fun K hK => ?_ | ((first | apply c8 | apply b8 | apply a9 | refine d5 ?_ | apply b7 | apply c9 | apply d4 | apply d7); try simp only [NB, simprocAttr]))
  all_goals simp only [S1, simprocAttr, ENB, J0]
  all_goals rfl
theorem lX (ns : List Nd) (hn : ns.length ≤ 100) (fl : List Fl) (hl : fl.length ≤ 100) (f : Fl) {n : Nat} (ht : Tm.Ok n f.cond) (h : Heap) : f9 Tryz.prog gW 57 [N5 ns fl, aF f] h (fun r h' => r = .b (Z6 ns fl f) ∧ h' = h) := by
  cases h1 : inB ns.length f.src with
  | false =>
    have e : Z6 ns fl f = false := by unfold Z6; rw [h1]; rfl
    rw [e]
    refine d9 (rl := []) i6 Tryz.func57 rfl (rs := [.tmp 4]) rfl Tryz.ntmps57 (by simp) ?_
    repeat' (first | ((repeat ((fail_if_success (refine hK _ ?_)); clear hK K)); refine hK _ ?_; clear hK K) | ((first | refine d8 fun K1 p7 => ?_ | refine d6 fun K1 p7 => ?_ | refine b5 fun A B hA hB => ?_); simp only [S1, simprocAttr, J0, h1]; first | refine p7 _ ?_; clear p7 K1 | ((first | refine hA ?_ | refine hB ?_); clear hA hB A B) | ((first | apply b9 E79 | apply c7 E79); exact (w4 ns fl _ _ (by simp [q7])); refine p7 _ ?_; clear p7 K1) | (refine g8 (v := ?_) (fun hg p8 => ?_) ?_; rotate_left; (focus (try ((try simp only [BN] at hg); simp only [S1, simprocAttr, J0, h1, hg] at p8 ⊢)); first | exact p8 | ((first | apply b9 E79 | apply c7 E79); exact (w4 ns fl _ _ (by simp [q7])); exact p8)); refine p7 _ ?_; clear p7 K1) | (((first | (refine ⟨fun hg => hA ?_, fun hg => hB ?_⟩ <;> clear hA hB A B) | refine ⟨fun hg => ?_, fun hg => ?_⟩) <;> (try simp only [BN2] at hg) <;> (try simp only [hg, cndB])) <;> (try (refine p7 _ ?_; clear p7 K1)) <;> (try simp only [BN3] at hg))) | refine b6 fun K hK => ?_ | ((first | apply c8 | apply b8 | apply a9 | refine d5 ?_ | apply b7 | apply c9 | apply d4 | apply d7); try simp only [NB, simprocAttr]))
    all_goals simp only [S1, simprocAttr, ENB, J0]
  | true =>
    cases h2 : inB ns.length f.dst with
    | false =>
      have e : Z6 ns fl f = false := by unfold Z6; rw [h1, h2]; rfl
      rw [e]
      refine d9 (rl := []) i6 Tryz.func57 rfl (rs := [.tmp 4]) rfl Tryz.ntmps57 (by simp) ?_
      repeat' (first | ((repeat ((fail_if_success (refine hK _ ?_)); clear hK K)); refine hK _ ?_; clear hK K) | ((first | refine d8 fun K1 p7 => ?_ | refine d6 fun K1 p7 => ?_ | refine b5 fun A B hA hB => ?_); simp only [S1, simprocAttr, J0, h1, h2]; first | refine p7 _ ?_; clear p7 K1 | ((first | refine hA ?_ | refine hB ?_); clear hA hB A B) | ((first | apply b9 E79 | apply c7 E79); exact (w4 ns fl _ _ (by simp [q7])); refine p7 _ ?_; clear p7 K1) | (refine g8 (v := ?_) (fun hg p8 => ?_) ?_; rotate_left; (focus (try ((try simp only [BN] at hg); simp only [S1, simprocAttr, J0, h1, h2, hg] at p8 ⊢)); first | exact p8 | ((first | apply b9 E79 | apply c7 E79); exact (w4 ns fl _ _ (by simp [q7])); exact p8)); refine p7 _ ?_; clear p7 K1) | (((first | (refine ⟨fun hg => hA ?_, fun hg => hB ?_⟩ <;> clear hA hB A B) | refine ⟨fun hg => ?_, fun hg => ?_⟩) <;> (try simp only [BN2] at hg) <;> (try simp only [hg, cndB])) <;> (try (refine p7 _ ?_; clear p7 K1)) <;> (try simp only [BN3] at hg))) | refine b6 fun K hK => ?_ | ((first | apply c8 | apply b8 | apply a9 | refine d5 ?_ | apply b7 | apply c9 | apply d4 | apply d7); try simp only [NB, simprocAttr]))
      all_goals simp only [S1, simprocAttr, ENB, J0]
    | true =>
      cases h3 : (f.src == f.dst) with
      | true =>
        have e : Z6 ns fl f = false := by unfold Z6; rw [h1, h2, h3]; rfl
        rw [e]
        refine d9 (rl := []) i6 Tryz.func57 rfl (rs := [.tmp 4]) rfl Tryz.ntmps57 (by simp) ?_
        repeat' (first | ((repeat ((fail_if_success (refine hK _ ?_)); clear hK K)); refine hK _ ?_; clear hK K) | ((first | refine d8 fun K1 p7 => ?_ | refine d6 fun K1 p7 => ?_ | refine b5 fun A B hA hB => ?_); simp only [S1, simprocAttr, J0, h1, h2, h3]; first | refine p7 _ ?_; clear p7 K1 | ((first | refine hA ?_ | refine hB ?_); clear hA hB A B) | ((first | apply b9 E79 | apply c7 E79); exact (w4 ns fl _ _ (by simp [q7])); refine p7 _ ?_; clear p7 K1) | (refine g8 (v := ?_) (fun hg p8 => ?_) ?_; rotate_left; (focus (try ((try simp only [BN] at hg); simp only [S1, simprocAttr, J0, h1, h2, h3, hg] at p8 ⊢)); first | exact p8 | ((first | apply b9 E79 | apply c7 E79); exact (w4 ns fl _ _ (by simp [q7])); exact p8)); refine p7 _ ?_; clear p7 K1) | (((first | (refine ⟨fun hg => hA ?_, fun hg => hB ?_⟩ <;> clear hA hB A B) | refine ⟨fun hg => ?_, fun hg => ?_⟩) <;> (try simp only [BN2] at hg) <;> (try simp only [hg, cndB])) <;> (try (refine p7 _ ?_; clear p7 K1)) <;> (try simp only [BN3] at hg))) | refine b6 fun K hK => ?_ | ((first | apply c8 | apply b8 | apply a9 | refine d5 ?_ | apply b7 | apply c9 | apply d4 | apply d7); try simp only [NB, simprocAttr]))
        all_goals simp only [S1, simprocAttr, ENB, J0]
      | false =>
        obtain ⟨a1, a2⟩ := bw.mp h1
        obtain ⟨k, hx⟩ : ∃ k, ns[f.src.toNat]? = some k := ⟨_, List.getElem?_eq_getElem (by omega)⟩
        have ek : u3 ns f.src = k.kind := by unfold u3; rw [hx]
        have e0 : Z6 ns fl f = (if cP ns fl f.src = true then (if f.els = true then aw f.cond else ofB f.cond 2) else (!f.els && aw f.cond)) := by
          unfold Z6
          rw [h1, h2, h3]; simp
        rw [e0]; unfold cP; rw [ek]
        have hx' := B8 hx
        cases hk : (k.kind == 5) with
        | false =>
          have hk' : (k.kind != 5) = true := by unfold bne; rw [hk]; rfl
          refine d9 (rl := []) i6 Tryz.func57 rfl (rs := [.tmp 4]) rfl Tryz.ntmps57 (by simp) ?_
          repeat' (first | ((repeat ((fail_if_success (refine hK _ ?_)); clear hK K)); refine hK _ ?_; clear hK K) | ((first | refine d8 fun K1 p7 => ?_ | refine d6 fun K1 p7 => ?_ | refine b5 fun A B hA hB => ?_); simp only [S1, simprocAttr, J0, h1, h2, h3, a1, hx', eN, hk, hk', List.length_map]; first | refine p7 _ ?_; clear p7 K1 | ((first | refine hA ?_ | refine hB ?_); clear hA hB A B) | ((first | apply b9 E79 | apply c7 E79); exact (w4 ns fl _ _ (by simp [q7])); refine p7 _ ?_; clear p7 K1) | ((first | apply b9 E78 | apply c7 E78); exact (w8 f.cond _); refine p7 _ ?_; clear p7 K1) | (refine g8 (v := ?_) (fun hg p8 => ?_) ?_; rotate_left; (focus (try ((try simp only [BN] at hg); simp only [S1, simprocAttr, J0, h1, h2, h3, a1, hx', eN, hk, hk', List.length_map, hg] at p8 ⊢)); first | exact p8 | ((first | apply b9 E79 | apply c7 E79); exact (w4 ns fl _ _ (by simp [q7])); exact p8) | ((first | apply b9 E78 | apply c7 E78); exact (w8 f.cond _); exact p8)); refine p7 _ ?_; clear p7 K1) | (((first | (refine ⟨fun hg => hA ?_, fun hg => hB ?_⟩ <;> clear hA hB A B) | refine ⟨fun hg => ?_, fun hg => ?_⟩) <;> (try simp only [BN2] at hg) <;> (try simp only [hg, cndB])) <;> (try (refine p7 _ ?_; clear p7 K1)) <;> (try simp only [BN3] at hg))) | refine b6 fun K hK => ?_ | ((first | apply c8 | apply b8 | apply a9 | refine d5 ?_ | apply b7 | apply c9 | apply d4 | apply d7); try simp only [NB, simprocAttr]))
          all_goals simp only [S1, simprocAttr, ENB, J0]
          all_goals simp_all
        | true =>
          have hk' : (k.kind != 5) = false := by unfold bne; rw [hk]; rfl
          cases ho : decide (2 ≤ ((k3 fl f.src).length : Int)) with
          | false =>
            have ho' : decide (((k3 fl f.src).length : Int) < 2) = true := by simp at ho ⊢; omega
            refine d9 (rl := []) i6 Tryz.func57 rfl (rs := [.tmp 4]) rfl Tryz.ntmps57 (by simp) ?_
            repeat' (first | ((repeat ((fail_if_success (refine hK _ ?_)); clear hK K)); refine hK _ ?_; clear hK K) | ((first | refine d8 fun K1 p7 => ?_ | refine d6 fun K1 p7 => ?_ | refine b5 fun A B hA hB => ?_); simp only [S1, simprocAttr, J0, h1, h2, h3, a1, hx', eN, hk, hk', ho, ho', List.length_map]; first | refine p7 _ ?_; clear p7 K1 | ((first | refine hA ?_ | refine hB ?_); clear hA hB A B) | ((first | apply b9 E79 | apply c7 E79); exact (w4 ns fl _ _ (by simp [q7])); refine p7 _ ?_; clear p7 K1) | ((first | apply b9 E29 | apply c7 E29); exact (k4 _ fl hl _ _); refine p7 _ ?_; clear p7 K1) | ((first | apply b9 E78 | apply c7 E78); exact (w8 f.cond _); refine p7 _ ?_; clear p7 K1) | (refine g8 (v := ?_) (fun hg p8 => ?_) ?_; rotate_left; (focus (try ((try simp only [BN] at hg); simp only [S1, simprocAttr, J0, h1, h2, h3, a1, hx', eN, hk, hk', ho, ho', List.length_map, hg] at p8 ⊢)); first | exact p8 | ((first | apply b9 E79 | apply c7 E79); exact (w4 ns fl _ _ (by simp [q7])); exact p8) | ((first | apply b9 E29 | apply c7 E29); exact (k4 _ fl hl _ _); exact p8) | ((first | apply b9 E78 | apply c7 E78); exact (w8 f.cond _); exact p8)); refine p7 _ ?_; clear p7 K1) | (((first | (refine ⟨fun hg => hA ?_, fun hg => hB ?_⟩ <;> clear hA hB A B) | refine ⟨fun hg => ?_, fun hg => ?_⟩) <;> (try simp only [BN2] at hg) <;> (try simp only [hg, cndB])) <;> (try (refine p7 _ ?_; clear p7 K1)) <;> (try simp only [BN3] at hg))) | refine b6 fun K hK => ?_ | ((first | apply c8 | apply b8 | apply a9 | refine d5 ?_ | apply b7 | apply c9 | apply d4 | apply d7); try simp only [NB, simprocAttr]))
            all_goals simp only [S1, simprocAttr, ENB, J0]
            all_goals simp_all
          | true =>
            have ho' : decide (((k3 fl f.src).length : Int) < 2) = false := by simp at ho ⊢; omega
            refine d9 (rl := []) i6 Tryz.func57 rfl (rs := [.tmp 4]) rfl Tryz.ntmps57 (by simp) ?_
            repeat' (first | ((repeat ((fail_if_success (refine hK _ ?_)); clear hK K)); refine hK _ ?_; clear hK K) | ((first | refine d8 fun K1 p7 => ?_ | refine d6 fun K1 p7 => ?_ | refine b5 fun A B hA hB => ?_); simp only [S1, simprocAttr, J0, h1, h2, h3, a1, hx', eN, hk, hk', ho, ho', List.length_map]; first | refine p7 _ ?_; clear p7 K1 | ((first | refine hA ?_ | refine hB ?_); clear hA hB A B) | ((first | apply b9 E79 | apply c7 E79); exact (w4 ns fl _ _ (by simp [q7])); refine p7 _ ?_; clear p7 K1) | ((first | apply b9 E29 | apply c7 E29); exact (k4 _ fl hl _ _); refine p7 _ ?_; clear p7 K1) | ((first | apply b9 E77 | apply c7 E77); exact (fA ht _ _); refine p7 _ ?_; clear p7 K1) | ((first | apply b9 E78 | apply c7 E78); exact (w8 f.cond _); refine p7 _ ?_; clear p7 K1) | (refine g8 (v := ?_) (fun hg p8 => ?_) ?_; rotate_left; (focus (try ((try simp only [BN] at hg); simp only [S1, simprocAttr, J0, h1, h2, h3, a1, hx', eN, hk, hk', ho, ho', List.length_map, hg] at p8 ⊢)); first | exact p8 | ((first | apply b9 E79 | apply c7 E79); exact (w4 ns fl _ _ (by simp [q7])); exact p8) | ((first | apply b9 E29 | apply c7 E29); exact (k4 _ fl hl _ _); exact p8) | ((first | apply b9 E77 | apply c7 E77); exact (fA ht _ _); exact p8) | ((first | apply b9 E78 | apply c7 E78); exact (w8 f.cond _); exact p8)); refine p7 _ ?_; clear p7 K1) | (((first | (refine ⟨fun hg => hA ?_, fun hg => hB ?_⟩ <;> clear hA hB A B) | refine ⟨fun hg => ?_, fun hg => ?_⟩) <;> (try simp only [BN2] at hg) <;> (try simp only [hg, cndB])) <;> (try (refine p7 _ ?_; clear p7 K1)) <;> (try simp only [BN3] at hg))) | refine b6 fun K hK => ?_ | ((first | apply c8 | apply b8 | apply a9 | refine d5 ?_ | apply b7 | apply c9 | apply d4 | apply d7); try simp only [NB, simprocAttr]))
            all_goals simp only [S1, simprocAttr, ENB, J0]
            all_goals simp_all
end
section
def G3 := And.intro T2 (And.intro T3 (And.intro T4 (And.intro T22 (And.intro T23 (And.intro T25 (And.intro T53 (And.intro T66 (And.intro T68 (And.intro T70 (And.intro T73 T95))))))))))
attribute [local irreducible] awp q9 m7 n7 r5
variable {G : Nat → Option (List PV)}
section
variable {P : Program} {rl : List String} {h : Heap}
theorem nC {σ : Type} {c : Code} {Q : Exit → St → Prop} {s : St} (m : σ → Nat) (nt : Nat) (l : σ → List (Nat × AV)) (L : σ → List (Option Blk)) (p : σ → Prop) (x0 : σ) (hi : t5 P G h s ⟨frL (l x0), nt, h ++ L x0⟩) (hp : p x0)
    (hb : ∀ x, p x → ∀ K : St → Prop, (∀ s', (∃ y, m y < m x ∧ p y ∧ Sub h s' (l y) (L y) nt) → K s') → awp P G rl h c (O3 K Q) ⟨frL (l x), nt, h ++ L x⟩) : awp P G rl h (.loop c) Q s := by
  refine aZ (fun n s => ∃ x, p x ∧ n = m x ∧ s = ⟨frL (l x), nt, h ++ L x⟩) (m x0) _ hi ⟨x0, hp, rfl, rfl⟩ fun n s hI => ?_
  obtain ⟨x, h1, rfl, rfl⟩ := hI
  refine hb x h1 _ fun s' hs => ?_
  obtain ⟨y, h2, h3, h4⟩ := hs
  exact ⟨m y, _, h2, h4.ghost, y, h3, rfl, rfl⟩
theorem N6 {σ : Type} {c : Code} {Q : Exit → St → Prop} {s : St} (m : σ → Nat) (nt : Nat) (l : σ → List (Nat × AV)) (L : σ → List (Option Blk)) (p : σ → Prop) (x0 : σ) (hi : Sub h s (l x0) (L x0) nt) (hp : p x0)
    (hb : ∀ x, p x → ∀ K : St → Prop, (∀ s', (∃ y, m y < m x ∧ p y ∧ Sub h s' (l y) (L y) nt) → K s') → awp P G rl h c (O3 K Q) ⟨frL (l x), nt, h ++ L x⟩) : awp P G rl h (.loop c) Q s :=
  nC m nt l L p x0 hi.ghost hp hb
end
def C3 (back : Bool) (fl : List Fl) : List (Nat × Nat) := if back = true then (esF fl).map Prod.swap else esF fl
abbrev nI (n : Nat) : AV := .p (.int .i64 (n : Int))
theorem G9 (m : Nat) (l : List Nat) : q6 m (l.map nI) := by
  induction l with
  | nil => trivial
  | cons x r ih => exact ⟨trivial, ih⟩
theorem uB (pre : List Nat) (x : Nat) (rest : List Nat) : ((pre ++ x :: rest).map nI).drop pre.length = .p (.int .i64 (x : Int)) :: rest.map nI := by
  rw [List.map_append, List.drop_left' (by simp)]; rfl
theorem tU (pre todo : List Nat) : ((pre ++ todo).map nI).drop pre.length = todo.map nI := by
  rw [List.map_append, List.drop_left' (by simp)]
theorem gI {es : List (Nat × Nat)} {j u v : Nat} (h : es[j]? = some (u, v)) (x : Nat) : bd (es.take (j + 1)) x = bd (es.take j) x ++ (if u = x then [v] else []) := by
  unfold bd
  rw [List.take_add_one, h]
  simp only [Option.toList_some, List.filter_append, List.map_append]
  by_cases e : u = x <;> simp [e]
theorem ru {n : Nat} {fl : List Fl} (hd : InN n fl) (back : Bool) : ∀ e ∈ C3 back fl, e.2 < n := by
  intro e he
  unfold C3 at he
  split at he
  · simp only [esF, List.map_map, List.mem_map, Function.comp] at he
    obtain ⟨f, hf, rfl⟩ := he
    have := hd f hf
    simp only [Prod.swap]; omega
  · simp only [esF, List.mem_map] at he
    obtain ⟨f, hf, rfl⟩ := he
    have := hd f hf
    simp only; omega
structure Qu where
  seen : List Bool
  pre : List Nat
  todo : List Nat
  g : Nat
structure Qi where
  j : Nat
  pre : List Nat
  todo : List Nat
  g : Nat
theorem R6 (ns : List Nd) (hn : ns.length ≤ 100) (fl : List Fl) (hl : fl.length ≤ 100) (hd : InN ns.length fl) (i : Int) (hi0 : 0 ≤ i) (hi1 : i < (ns.length : Int)) (back : Bool) (h : Heap) :
    f9 Tryz.prog G 59 [N5 ns fl, .i i, .b back] h (fun r h' => r = aBl (O7 (C3 back fl) ns.length i.toNat) ∧ h' = h) := by
  obtain ⟨a, rfl⟩ := Int.eq_ofNat_of_zero_le hi0
  have hel : (C3 back fl).length = fl.length := by unfold C3; split <;> simp [esF]
  have g1 : (0 : Int) ≤ (ns.length : Int) := by omega
  have g2 : (ns.length : Int) ≤ 16777216 := by omega
  have g3 : ((ns.length : Int) = 0) = False := eq_false (by omega)
  have r1 : (["net.go:137"].contains "net.go:137") = true := by decide
  have r2 : (["net.go:137"].contains "net.go:148") = false := by decide
  have r3 : (["net.go:137"].contains "net.go:150") = false := by decide
  refine d9 (rl := ["net.go:137"]) i6 Tryz.func59 rfl (rs := [.tmp 6]) rfl Tryz.ntmps59 (by simp) ?_
  refine b6 fun K hK => ?_
  repeat' (first | ((first | refine c8 ?_ | refine b8 ?_); (try simp only [NB]); ((repeat ((fail_if_success (refine hK _ ?_)); clear hK K)); refine hK _ ?_; clear hK K)) | ((first | refine d8 fun K1 p7 => ?_ | refine d6 fun K1 p7 => ?_ | refine b5 fun A B hA hB => ?_); simp only [S1, simprocAttr, G3]; first | (refine p7 _ ?_; clear p7 K1) | ((first | refine hA ?_ | refine hB ?_); clear hA hB A B) | (refine g8 (v := ?_) (fun hg p8 => ?_) ?_; rotate_left; (focus (try ((try simp only [BN] at hg); simp only [S1, simprocAttr, G3, hg] at p8 ⊢)); first | exact p8); (refine p7 _ ?_; clear p7 K1)) | (((first | (refine ⟨fun hg => hA ?_, fun hg => hB ?_⟩ <;> clear hA hB A B) | refine ⟨fun hg => ?_, fun hg => ?_⟩) <;> (try simp only [BN2] at hg) <;> (try simp only [hg, cndB])) <;> (try (refine p7 _ ?_; clear p7 K1)) <;> (try simp only [BN3] at hg))) | (fail) | ((first | refine a9 ?_ | refine j4 (by kernel_rfl) ?_ | refine b7 ?_ | refine c9 ?_ | refine d4 ?_ | refine d7 ?_); try simp only [NB, simprocAttr]; (try ((repeat ((fail_if_success (refine hK _ ?_)); clear hK K)); refine hK _ ?_; clear hK K))))
  refine b6 fun K hK => ?_
  repeat' (first | ((first | refine c8 ?_ | refine b8 ?_); (try simp only [NB]); ((repeat ((fail_if_success (refine hK _ ?_)); clear hK K)); refine hK _ ?_; clear hK K)) | ((first | refine d8 fun K1 p7 => ?_ | refine d6 fun K1 p7 => ?_ | refine b5 fun A B hA hB => ?_); simp only [S1, simprocAttr, G3, List.length_map, g1, g2, g3, gH, dK]; first | (refine p7 _ ?_; clear p7 K1) | ((first | refine hA ?_ | refine hB ?_); clear hA hB A B) | (refine g8 (v := ?_) (fun hg p8 => ?_) ?_; rotate_left; (focus (try ((try simp only [BN] at hg); simp only [S1, simprocAttr, G3, List.length_map, g1, g2, g3, gH, dK, hg] at p8 ⊢)); first | exact p8); (refine p7 _ ?_; clear p7 K1)) | (((first | (refine ⟨fun hg => hA ?_, fun hg => hB ?_⟩ <;> clear hA hB A B) | refine ⟨fun hg => ?_, fun hg => ?_⟩) <;> (try simp only [BN2] at hg) <;> (try simp only [hg, cndB])) <;> (try (refine p7 _ ?_; clear p7 K1)) <;> (try simp only [BN3] at hg))) | (fail) | ((first | refine a9 ?_ | refine j4 (by kernel_rfl) ?_ | refine b7 ?_ | refine c9 ?_ | refine d4 ?_ | refine d7 ?_); try simp only [NB, simprocAttr]; (try ((repeat ((fail_if_success (refine hK _ ?_)); clear hK K)); refine hK _ ?_; clear hK K))))
  refine b6 fun K hK => ?_
  repeat' (first | ((first | refine c8 ?_ | refine b8 ?_); (try simp only [NB]); ((repeat ((fail_if_success (refine hK _ ?_)); clear hK K)); refine hK _ ?_; clear hK K)) | ((first | refine d8 fun K1 p7 => ?_ | refine d6 fun K1 p7 => ?_ | refine b5 fun A B hA hB => ?_); simp only [S1, simprocAttr, G3, r1]; first | (refine p7 _ ?_; clear p7 K1) | ((first | refine hA ?_ | refine hB ?_); clear hA hB A B) | (refine g8 (v := ?_) (fun hg p8 => ?_) ?_; rotate_left; (focus (try ((try simp only [BN] at hg); simp only [S1, simprocAttr, G3, r1, hg] at p8 ⊢)); first | exact p8); (refine p7 _ ?_; clear p7 K1)) | (((first | (refine ⟨fun hg => hA ?_, fun hg => hB ?_⟩ <;> clear hA hB A B) | refine ⟨fun hg => ?_, fun hg => ?_⟩) <;> (try simp only [BN2] at hg) <;> (try simp only [hg, cndB])) <;> (try (refine p7 _ ?_; clear p7 K1)) <;> (try simp only [BN3] at hg))) | (fail) | ((first | refine a9 ?_ | refine j4 (by kernel_rfl) ?_ | refine b7 ?_ | refine c9 ?_ | refine d4 ?_ | refine d7 ?_); try simp only [NB, simprocAttr]; (try ((repeat ((fail_if_success (refine hK _ ?_)); clear hK K)); refine hK _ ?_; clear hK K))))
  refine b6 fun K hK => ?_
  repeat' (first | ((first | refine c8 ?_ | refine b8 ?_); (try simp only [NB]); ((repeat ((fail_if_success (refine hK _ ?_)); clear hK K)); refine hK _ ?_; clear hK K)) | ((first | refine d8 fun K1 p7 => ?_ | refine d6 fun K1 p7 => ?_ | refine b5 fun A B hA hB => ?_); simp only [S1, simprocAttr, G3]; first | (refine p7 _ ?_; clear p7 K1) | ((first | refine hA ?_ | refine hB ?_); clear hA hB A B) | (refine g8 (v := ?_) (fun hg p8 => ?_) ?_; rotate_left; (focus (try ((try simp only [BN] at hg); simp only [S1, simprocAttr, G3, hg] at p8 ⊢)); first | exact p8); (refine p7 _ ?_; clear p7 K1)) | (((first | (refine ⟨fun hg => hA ?_, fun hg => hB ?_⟩ <;> clear hA hB A B) | refine ⟨fun hg => ?_, fun hg => ?_⟩) <;> (try simp only [BN2] at hg) <;> (try simp only [hg, cndB])) <;> (try (refine p7 _ ?_; clear p7 K1)) <;> (try simp only [BN3] at hg))) | (fail) | ((first | refine a9 ?_ | refine j4 (by kernel_rfl) ?_ | refine b7 ?_ | refine c9 ?_ | refine d4 ?_ | refine d7 ?_); try simp only [NB, simprocAttr]; (try ((repeat ((fail_if_success (refine hK _ ?_)); clear hK K)); refine hK _ ?_; clear hK K))))
  refine N6 (σ := Qu) (fun q => iF (C3 back fl) q.seen q.todo) 69 (fun q => [(8, .ref (h.length + 2) q.g q.pre.length 1 q.todo.length), (7, .ref (h.length + 1) 0 0 1 ns.length), (3, .ptr h.length 0 0), (2, .b back)])
    (fun q => [some ⟨0, D1 ns fl⟩, some ⟨0, q.seen.map AV.b⟩, some ⟨q.g, (q.pre ++ q.todo).map nI⟩]) (fun q => Bfs (C3 back fl) ns.length a q.seen q.todo ∧ iF (C3 back fl) q.seen q.todo ≤ 20000) ⟨List.replicate ns.length false, [], [a], 0⟩ ?_ ?_ fun q hq K hK => ?_
  · refine ⟨rfl, ⟨[], by simp only [List.append_nil, List.nil_append, List.map_cons, List.map_nil]⟩, ?_, ⟨trivial, trivial, trivial⟩, x6 _ _, G9 _ _, trivial⟩
    simp only [S1, simprocAttr, KNB] <;> (try and_intros) <;> (try assumption) <;> (try trivial) <;> (try omega)
  · refine ⟨Bfs.init, ?_⟩
    unfold iF
    rw [hel]
    simp only [List.length_replicate, List.length_singleton]
    have : (ns.length - (List.replicate ns.length false).count true) * (fl.length + 1) ≤ 100 * 101 := Nat.mul_le_mul (by omega) (by omega)
    omega
  obtain ⟨seen, pre, todo, g⟩ := q
  obtain ⟨hb, hm⟩ := hq
  simp only at hb hm
  cases todo with
  | nil =>
    have hz : decide ((0 : Int) < 0) = false := rfl
    repeat' (first | ((repeat ((fail_if_success (refine hK _ ?_)); clear hK K)); refine hK _ ?_; clear hK K) | ((first | refine d8 fun K1 p7 => ?_ | refine d6 fun K1 p7 => ?_ | refine b5 fun A B hA hB => ?_); simp only [S1, simprocAttr, G3, hz]; first | refine p7 _ ?_; clear p7 K1 | ((first | refine hA ?_ | refine hB ?_); clear hA hB A B) | (refine g8 (v := ?_) (fun hg p8 => ?_) ?_; rotate_left; (focus (try ((try simp only [BN] at hg); simp only [S1, simprocAttr, G3, hz, hg] at p8 ⊢)); first | exact p8); refine p7 _ ?_; clear p7 K1) | (((first | (refine ⟨fun hg => hA ?_, fun hg => hB ?_⟩ <;> clear hA hB A B) | refine ⟨fun hg => ?_, fun hg => ?_⟩) <;> (try simp only [BN2] at hg) <;> (try simp only [hg, cndB])) <;> (try (refine p7 _ ?_; clear p7 K1)) <;> (try simp only [BN3] at hg))) | refine b6 fun K hK => ?_ | ((first | apply c8 | apply b8 | apply a9 | refine d5 ?_ | apply b7 | apply c9 | apply d4 | apply d7); try simp only [NB, simprocAttr]))
    exact gG (.inr rfl) hb.len.symm rfl (by simp only [t4, q7, List.getElem?_cons_succ, List.getElem?_cons_zero, if_true]) (by omega) (by simp) (by simp) (by rw [hb.done, Int.toNat_natCast])
  | cons x rest =>
    have hxn : x < ns.length := (hb.soundT x (by simp)).closed (p := fun i => i < ns.length) (by omega) fun e he _ => ru hd back e he
    have hx1 : (x : Int) < (ns.length : Int) := by omega
    have hx0 : (0 : Int) ≤ (x : Int) := by omega
    have hp0 : decide ((0 : Int) < ((rest.length + 1 : Nat) : Int)) = true := decide_eq_true (by omega)
    have hp1 : (0 : Int) < ((rest.length + 1 : Nat) : Int) := by omega
    have hp2 : 1 ≤ rest.length + 1 := by omega
    have hrl : rest.length ≤ 20000 := by unfold iF at hm; simp only [List.length_cons] at hm; omega
    obtain ⟨b, hsx⟩ : ∃ b, seen[x]? = some b := ⟨_, List.getElem?_eq_getElem (by rw [hb.len]; exact hxn)⟩
    have hdr := tH hsx
    have hdq := uB pre x rest
    have hxs : x + 1 ≤ seen.length := by rw [hb.len]; exact hxn
    cases b with
    | true =>
      repeat' (first | ((repeat ((fail_if_success (refine hK _ ?_)); clear hK K)); refine hK _ ?_; clear hK K) | ((first | refine d8 fun K1 p7 => ?_ | refine d6 fun K1 p7 => ?_ | refine b5 fun A B hA hB => ?_); simp only [S1, simprocAttr, G3, hp0, hp1, hp2, hx0, hx1, hdr, hdq, Nat.mul_one, Nat.le_refl, Nat.add_sub_cancel, Int.toNat_zero]; first | refine p7 _ ?_; clear p7 K1 | ((first | refine hA ?_ | refine hB ?_); clear hA hB A B) | (refine g8 (v := ?_) (fun hg p8 => ?_) ?_; rotate_left; (focus (try ((try simp only [BN] at hg); simp only [S1, simprocAttr, G3, hp0, hp1, hp2, hx0, hx1, hdr, hdq, Nat.mul_one, Nat.le_refl, Nat.add_sub_cancel, Int.toNat_zero, hg] at p8 ⊢)); first | exact p8); refine p7 _ ?_; clear p7 K1) | (((first | (refine ⟨fun hg => hA ?_, fun hg => hB ?_⟩ <;> clear hA hB A B) | refine ⟨fun hg => ?_, fun hg => ?_⟩) <;> (try simp only [BN2] at hg) <;> (try simp only [hg, cndB])) <;> (try (refine p7 _ ?_; clear p7 K1)) <;> (try simp only [BN3] at hg))) | refine b6 fun K hK => ?_ | ((first | apply c8 | apply b8 | apply a9 | refine d5 ?_ | apply b7 | apply c9 | apply d4 | apply d7); try simp only [NB, simprocAttr]))
      all_goals refine ⟨⟨seen, pre ++ [x], rest, g⟩, jm _ _ _ _, ⟨hb.skip hsx, Nat.le_trans (Nat.le_of_lt (jm _ _ _ _)) hm⟩, ?_⟩
      all_goals simp only [List.length_append, List.length_cons, List.length_nil, Nat.zero_add, List.append_assoc, List.cons_append, List.nil_append]
      all_goals refine ⟨rfl, ⟨[], by simp only [List.append_nil]⟩, ?_, ⟨trivial, trivial, trivial⟩, x6 _ _, G9 _ _, trivial⟩
      all_goals simp only [S1, simprocAttr, KNB] <;> (try and_intros) <;> (try assumption) <;> (try trivial) <;> (try omega)
    | false =>
      repeat' (first | ((repeat ((fail_if_success (refine hK _ ?_)); clear hK K)); refine hK _ ?_; clear hK K) | ((first | refine d8 fun K1 p7 => ?_ | refine d6 fun K1 p7 => ?_ | refine b5 fun A B hA hB => ?_); simp only [S1, simprocAttr, G3, hp0, hp1, hp2, hx0, hx1, hxs, hdr, hdq, kr, List.length_map, Nat.mul_one, Nat.le_refl, Nat.add_sub_cancel, Int.toNat_zero]; first | refine p7 _ ?_; clear p7 K1 | ((first | refine hA ?_ | refine hB ?_); clear hA hB A B) | (refine g8 (v := ?_) (fun hg p8 => ?_) ?_; rotate_left; (focus (try ((try simp only [BN] at hg); simp only [S1, simprocAttr, G3, hp0, hp1, hp2, hx0, hx1, hxs, hdr, hdq, kr, List.length_map, Nat.mul_one, Nat.le_refl, Nat.add_sub_cancel, Int.toNat_zero, hg] at p8 ⊢)); first | exact p8); refine p7 _ ?_; clear p7 K1) | (((first | (refine ⟨fun hg => hA ?_, fun hg => hB ?_⟩ <;> clear hA hB A B) | refine ⟨fun hg => ?_, fun hg => ?_⟩) <;> (try simp only [BN2] at hg) <;> (try simp only [hg, cndB])) <;> (try (refine p7 _ ?_; clear p7 K1)) <;> (try simp only [BN3] at hg))) | refine b6 fun K hK => ?_ | ((first | apply c8 | apply b8 | apply a9 | refine d5 ?_ | apply b7 | apply c9 | apply d4 | apply d7); try simp only [NB, simprocAttr]))
      refine N6 (σ := Qi) (fun q => fl.length - q.j) 69 (fun q => [(36, .i q.j), (35, .i fl.length), (34, .p (.sl (fl.map eF))), (9, .i x), (8, .ref (h.length + 2) q.g q.pre.length 1 q.todo.length), (7, .ref (h.length + 1) 0 0 1 ns.length), (3, .ptr h.length 0 0), (2, .b back)])
        (fun q => [some ⟨0, D1 ns fl⟩, some ⟨0, (seen.set x true).map AV.b⟩, some ⟨q.g, (q.pre ++ q.todo).map nI⟩]) (fun q => q.j ≤ fl.length ∧ q.todo = rest ++ bd ((C3 back fl).take q.j) x) ⟨0, pre ++ [x], rest, g⟩ ?_ ?_ fun q hq K hK => ?_
      · simp only [List.length_append, List.length_cons, List.length_nil, Nat.zero_add, List.append_assoc, List.cons_append, List.nil_append]
        refine ⟨rfl, ⟨[], by simp only [List.append_nil]⟩, ?_, ⟨trivial, trivial, trivial⟩, x6 _ _, G9 _ _, trivial⟩
        simp only [S1, simprocAttr, KNB] <;> (try and_intros) <;> (try assumption) <;> (try trivial) <;> (try omega)
      · exact ⟨Nat.zero_le _, by simp [bd]⟩
      obtain ⟨j, qp, qt, qg⟩ := q
      obtain ⟨hj, hqt⟩ := hq
      simp only at hj hqt
      have hql : qt.length ≤ 20100 := by
        have := jn ((C3 back fl).take j) x
        rw [List.length_take] at this
        rw [hqt, List.length_append]; omega
      have hmax : qt.length + 1 ≤ o9 := by unfold o9; omega
      rcases Nat.lt_or_ge j fl.length with hjl | hjg
      · obtain ⟨f, hx⟩ : ∃ k, fl[j]? = some k := ⟨_, List.getElem?_eq_getElem hjl⟩
        obtain ⟨⟨a1, a2⟩, b1, b2⟩ := hd f (List.mem_of_getElem? hx)
        obtain ⟨u, hu⟩ := Int.eq_ofNat_of_zero_le a1
        obtain ⟨v, hv⟩ := Int.eq_ofNat_of_zero_le b1
        have hmj : fl.length - (j + 1) < fl.length - j := by omega
        have hdq2 := tU qp qt
        cases back with
        | true =>
          have he : (C3 true fl)[j]? = some (v, u) := by simp [C3, esF, hx, hu, hv]
          have hnt := gI he x
          by_cases hvx : v = x
          · have hbe : (f.dst == (x : Int)) = true := by rw [hv, hvx]; simp
            rw [if_pos hvx] at hnt
            repeat' (first | ((repeat ((fail_if_success (refine hK _ ?_)); clear hK K)); refine hK _ ?_; clear hK K) | ((first | refine d8 fun K1 p7 => ?_ | refine d6 fun K1 p7 => ?_ | refine b5 fun A B hA hB => ?_); simp only [S1, simprocAttr, G3, I8 hx, Q9 hjl, G1 hl hjl, eF, hbe, r2, r3, hdq2, hmax, List.length_map, Nat.mul_one]; first | refine p7 _ ?_; clear p7 K1 | ((first | refine hA ?_ | refine hB ?_); clear hA hB A B) | (refine g8 (v := ?_) (fun hg p8 => ?_) ?_; rotate_left; (focus (try ((try simp only [BN] at hg); simp only [S1, simprocAttr, G3, I8 hx, Q9 hjl, G1 hl hjl, eF, hbe, r2, r3, hdq2, hmax, List.length_map, Nat.mul_one, hg] at p8 ⊢)); first | exact p8); refine p7 _ ?_; clear p7 K1) | (((first | (refine ⟨fun hg => hA ?_, fun hg => hB ?_⟩ <;> clear hA hB A B) | refine ⟨fun hg => ?_, fun hg => ?_⟩) <;> (try simp only [BN2] at hg) <;> (try simp only [hg, cndB])) <;> (try (refine p7 _ ?_; clear p7 K1)) <;> (try simp only [BN3] at hg))) | refine b6 fun K hK => ?_ | ((first | apply c8 | apply b8 | apply a9 | refine d5 ?_ | apply b7 | apply c9 | apply d4 | apply d7); try simp only [NB, simprocAttr]))
            all_goals refine ⟨⟨j + 1, [], qt ++ [u], qg + 1⟩, hmj, ⟨hjl, by simp only [hnt, hqt, List.append_assoc]⟩, ?_⟩
            all_goals simp only [hu, List.length_append, List.length_cons, List.length_nil, Nat.zero_add, List.nil_append, List.map_append, List.map_cons, List.map_nil]
            all_goals refine ⟨rfl, ⟨_, rfl⟩, ?_, ⟨trivial, trivial, trivial⟩, x6 _ _, (by have := G9 (h.length + 3) (qt ++ [u]); simpa using this), trivial⟩
            all_goals simp only [S1, simprocAttr, KNB] <;> (try and_intros) <;> (try assumption) <;> (try trivial) <;> (try omega)
          · have hbe : (f.dst == (x : Int)) = false := by rw [hv]; simp; omega
            rw [if_neg hvx, List.append_nil] at hnt
            repeat' (first | ((repeat ((fail_if_success (refine hK _ ?_)); clear hK K)); refine hK _ ?_; clear hK K) | ((first | refine d8 fun K1 p7 => ?_ | refine d6 fun K1 p7 => ?_ | refine b5 fun A B hA hB => ?_); simp only [S1, simprocAttr, G3, I8 hx, Q9 hjl, G1 hl hjl, eF, hbe, List.length_map, Nat.mul_one]; first | refine p7 _ ?_; clear p7 K1 | ((first | refine hA ?_ | refine hB ?_); clear hA hB A B) | (refine g8 (v := ?_) (fun hg p8 => ?_) ?_; rotate_left; (focus (try ((try simp only [BN] at hg); simp only [S1, simprocAttr, G3, I8 hx, Q9 hjl, G1 hl hjl, eF, hbe, List.length_map, Nat.mul_one, hg] at p8 ⊢)); first | exact p8); refine p7 _ ?_; clear p7 K1) | (((first | (refine ⟨fun hg => hA ?_, fun hg => hB ?_⟩ <;> clear hA hB A B) | refine ⟨fun hg => ?_, fun hg => ?_⟩) <;> (try simp only [BN2] at hg) <;> (try simp only [hg, cndB])) <;> (try (refine p7 _ ?_; clear p7 K1)) <;> (try simp only [BN3] at hg))) | refine b6 fun K hK => ?_ | ((first | apply c8 | apply b8 | apply a9 | refine d5 ?_ | apply b7 | apply c9 | apply d4 | apply d7); try simp only [NB, simprocAttr]))
            all_goals refine ⟨⟨j + 1, qp, qt, qg⟩, hmj, ⟨hjl, by simp only [hnt, hqt]⟩, ?_⟩
            all_goals refine ⟨rfl, ⟨_, rfl⟩, ?_, ⟨trivial, trivial, trivial⟩, x6 _ _, G9 _ _, trivial⟩
            all_goals simp only [S1, simprocAttr, KNB] <;> (try and_intros) <;> (try assumption) <;> (try trivial) <;> (try omega)
        | false =>
          have he : (C3 false fl)[j]? = some (u, v) := by simp [C3, esF, hx, hu, hv]
          have hnt := gI he x
          by_cases hvx : u = x
          · have hbe : (f.src == (x : Int)) = true := by rw [hu, hvx]; simp
            rw [if_pos hvx] at hnt
            repeat' (first | ((repeat ((fail_if_success (refine hK _ ?_)); clear hK K)); refine hK _ ?_; clear hK K) | ((first | refine d8 fun K1 p7 => ?_ | refine d6 fun K1 p7 => ?_ | refine b5 fun A B hA hB => ?_); simp only [S1, simprocAttr, G3, I8 hx, Q9 hjl, G1 hl hjl, eF, hbe, r2, r3, hdq2, hmax, List.length_map, Nat.mul_one]; first | refine p7 _ ?_; clear p7 K1 | ((first | refine hA ?_ | refine hB ?_); clear hA hB A B) | (refine g8 (v := ?_) (fun hg p8 => ?_) ?_; rotate_left; (focus (try ((try simp only [BN] at hg); simp only [S1, simprocAttr, G3, I8 hx, Q9 hjl, G1 hl hjl, eF, hbe, r2, r3, hdq2, hmax, List.length_map, Nat.mul_one, hg] at p8 ⊢)); first | exact p8); refine p7 _ ?_; clear p7 K1) | (((first | (refine ⟨fun hg => hA ?_, fun hg => hB ?_⟩ <;> clear hA hB A B) | refine ⟨fun hg => ?_, fun hg => ?_⟩) <;> (try simp only [BN2] at hg) <;> (try simp only [hg, cndB])) <;> (try (refine p7 _ ?_; clear p7 K1)) <;> (try simp only [BN3] at hg))) | refine b6 fun K hK => ?_ | ((first | apply c8 | apply b8 | apply a9 | refine d5 ?_ | apply b7 | apply c9 | apply d4 | apply d7); try simp only [NB, simprocAttr]))
            all_goals refine ⟨⟨j + 1, [], qt ++ [v], qg + 1⟩, hmj, ⟨hjl, by simp only [hnt, hqt, List.append_assoc]⟩, ?_⟩
            all_goals simp only [hv, List.length_append, List.length_cons, List.length_nil, Nat.zero_add, List.nil_append, List.map_append, List.map_cons, List.map_nil]
            all_goals refine ⟨rfl, ⟨_, rfl⟩, ?_, ⟨trivial, trivial, trivial⟩, x6 _ _, (by have := G9 (h.length + 3) (qt ++ [v]); simpa using this), trivial⟩
            all_goals simp only [S1, simprocAttr, KNB] <;> (try and_intros) <;> (try assumption) <;> (try trivial) <;> (try omega)
          · have hbe : (f.src == (x : Int)) = false := by rw [hu]; simp; omega
            rw [if_neg hvx, List.append_nil] at hnt
            repeat' (first | ((repeat ((fail_if_success (refine hK _ ?_)); clear hK K)); refine hK _ ?_; clear hK K) | ((first | refine d8 fun K1 p7 => ?_ | refine d6 fun K1 p7 => ?_ | refine b5 fun A B hA hB => ?_); simp only [S1, simprocAttr, G3, I8 hx, Q9 hjl, G1 hl hjl, eF, hbe, List.length_map, Nat.mul_one]; first | refine p7 _ ?_; clear p7 K1 | ((first | refine hA ?_ | refine hB ?_); clear hA hB A B) | (refine g8 (v := ?_) (fun hg p8 => ?_) ?_; rotate_left; (focus (try ((try simp only [BN] at hg); simp only [S1, simprocAttr, G3, I8 hx, Q9 hjl, G1 hl hjl, eF, hbe, List.length_map, Nat.mul_one, hg] at p8 ⊢)); first | exact p8); refine p7 _ ?_; clear p7 K1) | (((first | (refine ⟨fun hg => hA ?_, fun hg => hB ?_⟩ <;> clear hA hB A B) | refine ⟨fun hg => ?_, fun hg => ?_⟩) <;> (try simp only [BN2] at hg) <;> (try simp only [hg, cndB])) <;> (try (refine p7 _ ?_; clear p7 K1)) <;> (try simp only [BN3] at hg))) | refine b6 fun K hK => ?_ | ((first | apply c8 | apply b8 | apply a9 | refine d5 ?_ | apply b7 | apply c9 | apply d4 | apply d7); try simp only [NB, simprocAttr]))
            all_goals refine ⟨⟨j + 1, qp, qt, qg⟩, hmj, ⟨hjl, by simp only [hnt, hqt]⟩, ?_⟩
            all_goals refine ⟨rfl, ⟨_, rfl⟩, ?_, ⟨trivial, trivial, trivial⟩, x6 _ _, G9 _ _, trivial⟩
            all_goals simp only [S1, simprocAttr, KNB] <;> (try and_intros) <;> (try assumption) <;> (try trivial) <;> (try omega)
      · obtain rfl : j = fl.length := by omega
        have hfull : (C3 back fl).take fl.length = C3 back fl := List.take_of_length_le (by rw [hel]; exact Nat.le_refl _)
        rw [hfull] at hqt
        have hlt := nB (es := C3 back fl) (todo := rest) hsx
        have hvi := hb.visit hxn
        rw [← hqt] at hlt hvi
        repeat' (first | ((repeat ((fail_if_success (refine hK _ ?_)); clear hK K)); refine hK _ ?_; clear hK K) | ((first | refine d8 fun K1 p7 => ?_ | refine d6 fun K1 p7 => ?_ | refine b5 fun A B hA hB => ?_); simp only [S1, simprocAttr, G3, iC]; first | refine p7 _ ?_; clear p7 K1 | ((first | refine hA ?_ | refine hB ?_); clear hA hB A B) | (refine g8 (v := ?_) (fun hg p8 => ?_) ?_; rotate_left; (focus (try ((try simp only [BN] at hg); simp only [S1, simprocAttr, G3, iC, hg] at p8 ⊢)); first | exact p8); refine p7 _ ?_; clear p7 K1) | (((first | (refine ⟨fun hg => hA ?_, fun hg => hB ?_⟩ <;> clear hA hB A B) | refine ⟨fun hg => ?_, fun hg => ?_⟩) <;> (try simp only [BN2] at hg) <;> (try simp only [hg, cndB])) <;> (try (refine p7 _ ?_; clear p7 K1)) <;> (try simp only [BN3] at hg))) | refine b6 fun K hK => ?_ | ((first | apply c8 | apply b8 | apply a9 | refine d5 ?_ | apply b7 | apply c9 | apply d4 | apply d7); try simp only [NB, simprocAttr]))
        all_goals refine ⟨⟨seen.set x true, qp, qt, qg⟩, hlt, ⟨hvi, Nat.le_trans (Nat.le_of_lt hlt) hm⟩, ?_⟩
        all_goals refine ⟨rfl, ⟨_, rfl⟩, ?_, ⟨trivial, trivial, trivial⟩, x6 _ _, G9 _ _, trivial⟩
        all_goals simp only [S1, simprocAttr, KNB] <;> (try and_intros) <;> (try assumption) <;> (try trivial) <;> (try omega)
end
section
def B1 := And.intro T2 (And.intro T3 (And.intro T4 (And.intro T22 (And.intro T23 (And.intro T25 (And.intro T53 (And.intro T66 (And.intro T68 (And.intro T70 T73)))))))))
attribute [local irreducible] awp q9 m7 n7 r5
variable {G : Nat → Option (List PV)}
theorem cR (ns : List Nd) (hn : ns.length ≤ 100) (fl : List Fl) (hl : fl.length ≤ 100) (hd : ∀ f ∈ fl, 0 ≤ f.dst ∧ f.dst < (ns.length : Int)) (i : Int) (hi0 : 0 ≤ i) (hi1 : i < (ns.length : Int)) (h : Heap) :
    f9 Tryz.prog G 81 [N5 ns fl, .i i] h (fun r h' => r = .b (C8 ns fl i) ∧ h' = h) := by
  have hle : (k3 fl i).length ≤ 100 := Nat.le_trans (O6 _ _ _) hl
  obtain ⟨kd, hkd⟩ : ∃ k, ns[i.toNat]? = some k := ⟨_, List.getElem?_eq_getElem (by omega)⟩
  have hkd' := B8 hkd
  have ekd : u3 ns i = kd.kind := by unfold u3; rw [hkd]
  refine d9 (rl := []) i6 Tryz.func81 rfl (rs := [.tmp 4]) rfl Tryz.ntmps81 (by simp) ?_
  refine b6 fun K hK => ?_
  repeat' (first | ((first | refine c8 ?_ | refine b8 ?_); (try simp only [NB]); ((repeat ((fail_if_success (refine hK _ ?_)); clear hK K)); refine hK _ ?_; clear hK K)) | ((first | refine d8 fun K1 p7 => ?_ | refine d6 fun K1 p7 => ?_ | refine b5 fun A B hA hB => ?_); simp only [S1, simprocAttr, B1]; first | (refine p7 _ ?_; clear p7 K1) | ((first | refine hA ?_ | refine hB ?_); clear hA hB A B) | (refine g8 (v := ?_) (fun hg p8 => ?_) ?_; rotate_left; (focus (try ((try simp only [BN] at hg); simp only [S1, simprocAttr, B1, hg] at p8 ⊢)); first | exact p8); (refine p7 _ ?_; clear p7 K1)) | (((first | (refine ⟨fun hg => hA ?_, fun hg => hB ?_⟩ <;> clear hA hB A B) | refine ⟨fun hg => ?_, fun hg => ?_⟩) <;> (try simp only [BN2] at hg) <;> (try simp only [hg, cndB])) <;> (try (refine p7 _ ?_; clear p7 K1)) <;> (try simp only [BN3] at hg))) | (fail) | ((first | refine a9 ?_ | refine j4 (by kernel_rfl) ?_ | refine b7 ?_ | refine c9 ?_ | refine d4 ?_ | refine d7 ?_); try simp only [NB, simprocAttr]; (try ((repeat ((fail_if_success (refine hK _ ?_)); clear hK K)); refine hK _ ?_; clear hK K))))
  refine b6 fun K hK => ?_
  repeat' (first | ((first | refine c8 ?_ | refine b8 ?_); (try simp only [NB]); ((repeat ((fail_if_success (refine hK _ ?_)); clear hK K)); refine hK _ ?_; clear hK K)) | ((first | refine d8 fun K1 p7 => ?_ | refine d6 fun K1 p7 => ?_ | refine b5 fun A B hA hB => ?_); simp only [S1, simprocAttr, B1]; first | (refine p7 _ ?_; clear p7 K1) | ((first | refine hA ?_ | refine hB ?_); clear hA hB A B) | ((first | apply b9 E29 | apply c7 E29); exact (k4 _ fl hl _ _); (refine p7 _ ?_; clear p7 K1)) | (refine g8 (v := ?_) (fun hg p8 => ?_) ?_; rotate_left; (focus (try ((try simp only [BN] at hg); simp only [S1, simprocAttr, B1, hg] at p8 ⊢)); first | exact p8 | ((first | apply b9 E29 | apply c7 E29); exact (k4 _ fl hl _ _); exact p8)); (refine p7 _ ?_; clear p7 K1)) | (((first | (refine ⟨fun hg => hA ?_, fun hg => hB ?_⟩ <;> clear hA hB A B) | refine ⟨fun hg => ?_, fun hg => ?_⟩) <;> (try simp only [BN2] at hg) <;> (try simp only [hg, cndB])) <;> (try (refine p7 _ ?_; clear p7 K1)) <;> (try simp only [BN3] at hg))) | (fail) | ((first | refine a9 ?_ | refine j4 (by kernel_rfl) ?_ | refine b7 ?_ | refine c9 ?_ | refine d4 ?_ | refine d7 ?_); try simp only [NB, simprocAttr]; (try ((repeat ((fail_if_success (refine hK _ ?_)); clear hK K)); refine hK _ ?_; clear hK K))))
  refine b6 fun K hK => ?_
  repeat' (first | ((first | refine c8 ?_ | refine b8 ?_); (try simp only [NB]); ((repeat ((fail_if_success (refine hK _ ?_)); clear hK K)); refine hK _ ?_; clear hK K)) | ((first | refine d8 fun K1 p7 => ?_ | refine d6 fun K1 p7 => ?_ | refine b5 fun A B hA hB => ?_); simp only [S1, simprocAttr, B1, List.length_map, hi0, hkd', eN]; first | (refine p7 _ ?_; clear p7 K1) | ((first | refine hA ?_ | refine hB ?_); clear hA hB A B) | ((first | apply b9 E62 | apply c7 E62); exact (l9 _ fl hl _ _); (refine p7 _ ?_; clear p7 K1)) | (refine g8 (v := ?_) (fun hg p8 => ?_) ?_; rotate_left; (focus (try ((try simp only [BN] at hg); simp only [S1, simprocAttr, B1, List.length_map, hi0, hkd', eN, hg] at p8 ⊢)); first | exact p8 | ((first | apply b9 E62 | apply c7 E62); exact (l9 _ fl hl _ _); exact p8)); (refine p7 _ ?_; clear p7 K1)) | (((first | (refine ⟨fun hg => hA ?_, fun hg => hB ?_⟩ <;> clear hA hB A B) | refine ⟨fun hg => ?_, fun hg => ?_⟩) <;> (try simp only [BN2] at hg) <;> (try simp only [hg, cndB])) <;> (try (refine p7 _ ?_; clear p7 K1)) <;> (try simp only [BN3] at hg))) | (fail) | ((first | refine a9 ?_ | refine j4 (by kernel_rfl) ?_ | refine b7 ?_ | refine c9 ?_ | refine d4 ?_ | refine d7 ?_); try simp only [NB, simprocAttr]; (try ((repeat ((fail_if_success (refine hK _ ?_)); clear hK K)); refine hK _ ?_; clear hK K))))
  refine b6 fun K hK => ?_
  repeat' (first | ((first | refine c8 ?_ | refine b8 ?_); (try simp only [NB]); ((repeat ((fail_if_success (refine hK _ ?_)); clear hK K)); refine hK _ ?_; clear hK K)) | ((first | refine d8 fun K1 p7 => ?_ | refine d6 fun K1 p7 => ?_ | refine b5 fun A B hA hB => ?_); simp only [S1, simprocAttr, B1]; first | (refine p7 _ ?_; clear p7 K1) | ((first | refine hA ?_ | refine hB ?_); clear hA hB A B) | (refine g8 (v := ?_) (fun hg p8 => ?_) ?_; rotate_left; (focus (try ((try simp only [BN] at hg); simp only [S1, simprocAttr, B1, hg] at p8 ⊢)); first | exact p8); (refine p7 _ ?_; clear p7 K1)) | (((first | (refine ⟨fun hg => hA ?_, fun hg => hB ?_⟩ <;> clear hA hB A B) | refine ⟨fun hg => ?_, fun hg => ?_⟩) <;> (try simp only [BN2] at hg) <;> (try simp only [hg, cndB])) <;> (try (refine p7 _ ?_; clear p7 K1)) <;> (try simp only [BN3] at hg))) | (fail) | ((first | refine a9 ?_ | refine j4 (by kernel_rfl) ?_ | refine b7 ?_ | refine c9 ?_ | refine d4 ?_ | refine d7 ?_); try simp only [NB, simprocAttr]; (try ((repeat ((fail_if_success (refine hK _ ?_)); clear hK K)); refine hK _ ?_; clear hK K))))
  refine b6 fun K hK => ?_
  repeat' (first | ((first | refine c8 ?_ | refine b8 ?_); (try simp only [NB]); ((repeat ((fail_if_success (refine hK _ ?_)); clear hK K)); refine hK _ ?_; clear hK K)) | ((first | refine d8 fun K1 p7 => ?_ | refine d6 fun K1 p7 => ?_ | refine b5 fun A B hA hB => ?_); simp only [S1, simprocAttr, B1]; first | (refine p7 _ ?_; clear p7 K1) | ((first | refine hA ?_ | refine hB ?_); clear hA hB A B) | (refine g8 (v := ?_) (fun hg p8 => ?_) ?_; rotate_left; (focus (try ((try simp only [BN] at hg); simp only [S1, simprocAttr, B1, hg] at p8 ⊢)); first | exact p8); (refine p7 _ ?_; clear p7 K1)) | (((first | (refine ⟨fun hg => hA ?_, fun hg => hB ?_⟩ <;> clear hA hB A B) | refine ⟨fun hg => ?_, fun hg => ?_⟩) <;> (try simp only [BN2] at hg) <;> (try simp only [hg, cndB])) <;> (try (refine p7 _ ?_; clear p7 K1)) <;> (try simp only [BN3] at hg))) | (fail) | ((first | refine a9 ?_ | refine j4 (by kernel_rfl) ?_ | refine b7 ?_ | refine c9 ?_ | refine d4 ?_ | refine d7 ?_); try simp only [NB, simprocAttr]; (try ((repeat ((fail_if_success (refine hK _ ?_)); clear hK K)); refine hK _ ?_; clear hK K))))
  refine b6 fun K hK => ?_
  repeat' (first | ((repeat ((fail_if_success (refine hK _ ?_)); clear hK K)); refine hK _ ?_; clear hK K) | ((first | refine d8 fun K1 p7 => ?_ | refine d6 fun K1 p7 => ?_ | refine b5 fun A B hA hB => ?_); simp only [S1, simprocAttr, B1, List.length_map]; first | refine p7 _ ?_; clear p7 K1 | ((first | refine hA ?_ | refine hB ?_); clear hA hB A B) | (refine g8 (v := ?_) (fun hg p8 => ?_) ?_; rotate_left; (focus (try ((try simp only [BN] at hg); simp only [S1, simprocAttr, B1, List.length_map, hg] at p8 ⊢)); first | exact p8); refine p7 _ ?_; clear p7 K1) | (((first | (refine ⟨fun hg => hA ?_, fun hg => hB ?_⟩ <;> clear hA hB A B) | refine ⟨fun hg => ?_, fun hg => ?_⟩) <;> (try simp only [BN2] at hg) <;> (try simp only [hg, cndB])) <;> (try (refine p7 _ ?_; clear p7 K1)) <;> (try simp only [BN3] at hg))) | refine b6 fun K hK => ?_ | ((first | apply c8 | apply b8 | apply a9 | refine d5 ?_ | apply b7 | apply c9 | apply d4 | apply d7); try simp only [NB, simprocAttr]))
  refine s5 (k3 fl i).length 122 (fun j => [(28, .i j), (27, .i (k3 fl i).length), (26, aI (k3 fl i)), (9, .b (Z7 (V1 ns fl) (k3 fl i) j == 0)), (8, .i (Z7 (z7 fl) (k3 fl i) j)), (7, .i kd.kind), (6, .i (p5 fl i).length), (5, aI (k3 fl i)), (2, .ptr h.length 0 0), (1, .i i)])
    (fun j => [some ⟨0, [.p (.sl (ns.map eN)), .p (.sl (fl.map eF))]⟩]) (fun j => True) ?_ trivial fun j hj hp K hK => ?_
  · (refine ⟨rfl, (by first | exact ⟨_, rfl⟩ | exact ⟨[], by simp⟩), ?_, ?_⟩ <;> simp only [S1, simprocAttr, KNB] <;> (try and_intros) <;> (try assumption) <;> (try trivial) <;> (try omega))
  rcases Nat.lt_or_ge j (k3 fl i).length with hlt | hge
  · obtain ⟨x, hx⟩ : ∃ k, (k3 fl i)[j]? = some k := ⟨_, List.getElem?_eq_getElem hlt⟩
    obtain ⟨xi, f, hxi, rfl, hf, _⟩ := F5 (List.mem_of_getElem? hx)
    obtain ⟨d1, d2⟩ := hd f (List.mem_of_getElem? hf)
    obtain ⟨kx, hkx⟩ : ∃ k, ns[f.dst.toNat]? = some k := ⟨_, List.getElem?_eq_getElem (by omega)⟩
    have hkx' := B8 hkx
    have hf' := I8 hf
    have x0 : (0 : Int) ≤ (xi : Int) := Int.natCast_nonneg _
    have s1 := bx (p := z7 fl) hx
    have s2 := bx (p := V1 ns fl) hx
    have b1 := kq (z7 fl) (k3 fl i) j
    have e1 : z7 fl (xi : Int) = f.els := by unfold z7; rw [Int.toNat_natCast, hf]
    have e2 : V1 ns fl (xi : Int) = (kx.kind != 8) := by unfold V1; rw [Int.toNat_natCast, hf]; simp only [u3, hkx]
    rw [e1] at s1
    rw [e2] at s2
    have w1 := IntWalk.i64_in ((Z7 (z7 fl) (k3 fl i) j : Int) + 1) (by omega)
    have n1 := D9 (l := k3 fl i) (i := j) (by omega) hlt
    have s3 : (Z7 (V1 ns fl) (k3 fl i) (j + 1) == 0) = ((Z7 (V1 ns fl) (k3 fl i) j == 0) && (kx.kind == 8)) := by
      rw [s2, Bool.eq_iff_iff]
      by_cases h8 : kx.kind = 8 <;> simp [h8]
    cases h1 : f.els <;> simp only [h1, if_true, Bool.false_eq_true, if_false, Nat.add_zero] at s1
    all_goals (repeat' (first | ((repeat ((fail_if_success (refine hK _ ?_)); clear hK K)); refine hK _ ?_; clear hK K) | ((first | refine d8 fun K1 p7 => ?_ | refine d6 fun K1 p7 => ?_ | refine b5 fun A B hA hB => ?_); simp only [S1, simprocAttr, B1, C2 hx, I3 hlt, n1, eF, eN, hf', hkx', h1, d1, d2, x0, w1, List.length_map]; first | refine p7 _ ?_; clear p7 K1 | ((first | refine hA ?_ | refine hB ?_); clear hA hB A B) | (refine g8 (v := ?_) (fun hg p8 => ?_) ?_; rotate_left; (focus (try ((try simp only [BN] at hg); simp only [S1, simprocAttr, B1, C2 hx, I3 hlt, n1, eF, eN, hf', hkx', h1, d1, d2, x0, w1, List.length_map, hg] at p8 ⊢)); first | exact p8); refine p7 _ ?_; clear p7 K1) | (((first | (refine ⟨fun hg => hA ?_, fun hg => hB ?_⟩ <;> clear hA hB A B) | refine ⟨fun hg => ?_, fun hg => ?_⟩) <;> (try simp only [BN2] at hg) <;> (try simp only [hg, cndB])) <;> (try (refine p7 _ ?_; clear p7 K1)) <;> (try simp only [BN3] at hg))) | refine b6 fun K hK => ?_ | ((first | apply c8 | apply b8 | apply a9 | refine d5 ?_ | apply b7 | apply c9 | apply d4 | apply d7); try simp only [NB, simprocAttr])))
    all_goals refine ⟨hlt, trivial, ?_⟩
    all_goals simp only [s1, s3]
    all_goals (refine ⟨rfl, (by first | exact ⟨_, rfl⟩ | exact ⟨[], by simp⟩), ?_, ?_⟩ <;> simp only [S1, simprocAttr, KNB] <;> (try and_intros) <;> (try assumption) <;> (try trivial) <;> (try omega))
  · obtain rfl : j = (k3 fl i).length := by omega
    have e0 : C8 ns fl i = C8 ns fl i := rfl
    conv at e0 => rhs; unfold C8
    rw [ekd] at e0
    by_cases k1 : kd.kind = 1
    · repeat' (first | ((repeat ((fail_if_success (refine hK _ ?_)); clear hK K)); refine hK _ ?_; clear hK K) | ((first | refine d8 fun K1 p7 => ?_ | refine d6 fun K1 p7 => ?_ | refine b5 fun A B hA hB => ?_); simp only [S1, simprocAttr, B1, D6, k1, List.length_map]; first | refine p7 _ ?_; clear p7 K1 | ((first | refine hA ?_ | refine hB ?_); clear hA hB A B) | (refine g8 (v := ?_) (fun hg p8 => ?_) ?_; rotate_left; (focus (try ((try simp only [BN] at hg); simp only [S1, simprocAttr, B1, D6, k1, List.length_map, hg] at p8 ⊢)); first | exact p8); refine p7 _ ?_; clear p7 K1) | (((first | (refine ⟨fun hg => hA ?_, fun hg => hB ?_⟩ <;> clear hA hB A B) | refine ⟨fun hg => ?_, fun hg => ?_⟩) <;> (try simp only [BN2] at hg) <;> (try simp only [hg, cndB])) <;> (try (refine p7 _ ?_; clear p7 K1)) <;> (try simp only [BN3] at hg))) | refine b6 fun K hK => ?_ | ((first | apply c8 | apply b8 | apply a9 | refine d5 ?_ | apply b7 | apply c9 | apply d4 | apply d7); try simp only [NB, simprocAttr]))
      all_goals simp only [S1, simprocAttr, ENB, B1]
      all_goals simp [e0, k1]
      all_goals (rw [Bool.eq_iff_iff]; simp only [Bool.or_eq_true, Bool.and_eq_true, beq_iff_eq, decide_eq_true_eq]; omega)
    by_cases k2 : kd.kind = 2
    · repeat' (first | ((repeat ((fail_if_success (refine hK _ ?_)); clear hK K)); refine hK _ ?_; clear hK K) | ((first | refine d8 fun K1 p7 => ?_ | refine d6 fun K1 p7 => ?_ | refine b5 fun A B hA hB => ?_); simp only [S1, simprocAttr, B1, D6, k2, List.length_map]; first | refine p7 _ ?_; clear p7 K1 | ((first | refine hA ?_ | refine hB ?_); clear hA hB A B) | (refine g8 (v := ?_) (fun hg p8 => ?_) ?_; rotate_left; (focus (try ((try simp only [BN] at hg); simp only [S1, simprocAttr, B1, D6, k2, List.length_map, hg] at p8 ⊢)); first | exact p8); refine p7 _ ?_; clear p7 K1) | (((first | (refine ⟨fun hg => hA ?_, fun hg => hB ?_⟩ <;> clear hA hB A B) | refine ⟨fun hg => ?_, fun hg => ?_⟩) <;> (try simp only [BN2] at hg) <;> (try simp only [hg, cndB])) <;> (try (refine p7 _ ?_; clear p7 K1)) <;> (try simp only [BN3] at hg))) | refine b6 fun K hK => ?_ | ((first | apply c8 | apply b8 | apply a9 | refine d5 ?_ | apply b7 | apply c9 | apply d4 | apply d7); try simp only [NB, simprocAttr]))
      all_goals simp only [S1, simprocAttr, ENB, B1]
      all_goals simp [e0, k2]
      all_goals (rw [Bool.eq_iff_iff]; simp only [Bool.or_eq_true, Bool.and_eq_true, beq_iff_eq, decide_eq_true_eq]; omega)
    by_cases k5 : kd.kind = 5
    · repeat' (first | ((repeat ((fail_if_success (refine hK _ ?_)); clear hK K)); refine hK _ ?_; clear hK K) | ((first | refine d8 fun K1 p7 => ?_ | refine d6 fun K1 p7 => ?_ | refine b5 fun A B hA hB => ?_); simp only [S1, simprocAttr, B1, D6, k5, List.length_map]; first | refine p7 _ ?_; clear p7 K1 | ((first | refine hA ?_ | refine hB ?_); clear hA hB A B) | (refine g8 (v := ?_) (fun hg p8 => ?_) ?_; rotate_left; (focus (try ((try simp only [BN] at hg); simp only [S1, simprocAttr, B1, D6, k5, List.length_map, hg] at p8 ⊢)); first | exact p8); refine p7 _ ?_; clear p7 K1) | (((first | (refine ⟨fun hg => hA ?_, fun hg => hB ?_⟩ <;> clear hA hB A B) | refine ⟨fun hg => ?_, fun hg => ?_⟩) <;> (try simp only [BN2] at hg) <;> (try simp only [hg, cndB])) <;> (try (refine p7 _ ?_; clear p7 K1)) <;> (try simp only [BN3] at hg))) | refine b6 fun K hK => ?_ | ((first | apply c8 | apply b8 | apply a9 | refine d5 ?_ | apply b7 | apply c9 | apply d4 | apply d7); try simp only [NB, simprocAttr]))
      all_goals simp only [S1, simprocAttr, ENB, B1]
      all_goals simp [e0, k5]
      all_goals (rw [Bool.eq_iff_iff]; simp only [Bool.or_eq_true, Bool.and_eq_true, beq_iff_eq, decide_eq_true_eq]; omega)
    by_cases k6 : kd.kind = 6
    · repeat' (first | ((repeat ((fail_if_success (refine hK _ ?_)); clear hK K)); refine hK _ ?_; clear hK K) | ((first | refine d8 fun K1 p7 => ?_ | refine d6 fun K1 p7 => ?_ | refine b5 fun A B hA hB => ?_); simp only [S1, simprocAttr, B1, D6, k6, List.length_map]; first | refine p7 _ ?_; clear p7 K1 | ((first | refine hA ?_ | refine hB ?_); clear hA hB A B) | (refine g8 (v := ?_) (fun hg p8 => ?_) ?_; rotate_left; (focus (try ((try simp only [BN] at hg); simp only [S1, simprocAttr, B1, D6, k6, List.length_map, hg] at p8 ⊢)); first | exact p8); refine p7 _ ?_; clear p7 K1) | (((first | (refine ⟨fun hg => hA ?_, fun hg => hB ?_⟩ <;> clear hA hB A B) | refine ⟨fun hg => ?_, fun hg => ?_⟩) <;> (try simp only [BN2] at hg) <;> (try simp only [hg, cndB])) <;> (try (refine p7 _ ?_; clear p7 K1)) <;> (try simp only [BN3] at hg))) | refine b6 fun K hK => ?_ | ((first | apply c8 | apply b8 | apply a9 | refine d5 ?_ | apply b7 | apply c9 | apply d4 | apply d7); try simp only [NB, simprocAttr]))
      all_goals simp only [S1, simprocAttr, ENB, B1]
      all_goals simp [e0, k6]
      all_goals (rw [Bool.eq_iff_iff]; simp only [Bool.or_eq_true, Bool.and_eq_true, beq_iff_eq, decide_eq_true_eq]; omega)
    by_cases k7 : kd.kind = 7
    · repeat' (first | ((repeat ((fail_if_success (refine hK _ ?_)); clear hK K)); refine hK _ ?_; clear hK K) | ((first | refine d8 fun K1 p7 => ?_ | refine d6 fun K1 p7 => ?_ | refine b5 fun A B hA hB => ?_); simp only [S1, simprocAttr, B1, D6, k7, List.length_map]; first | refine p7 _ ?_; clear p7 K1 | ((first | refine hA ?_ | refine hB ?_); clear hA hB A B) | (refine g8 (v := ?_) (fun hg p8 => ?_) ?_; rotate_left; (focus (try ((try simp only [BN] at hg); simp only [S1, simprocAttr, B1, D6, k7, List.length_map, hg] at p8 ⊢)); first | exact p8); refine p7 _ ?_; clear p7 K1) | (((first | (refine ⟨fun hg => hA ?_, fun hg => hB ?_⟩ <;> clear hA hB A B) | refine ⟨fun hg => ?_, fun hg => ?_⟩) <;> (try simp only [BN2] at hg) <;> (try simp only [hg, cndB])) <;> (try (refine p7 _ ?_; clear p7 K1)) <;> (try simp only [BN3] at hg))) | refine b6 fun K hK => ?_ | ((first | apply c8 | apply b8 | apply a9 | refine d5 ?_ | apply b7 | apply c9 | apply d4 | apply d7); try simp only [NB, simprocAttr]))
      all_goals simp only [S1, simprocAttr, ENB, B1]
      all_goals simp [e0, k7]
      all_goals (rw [Bool.eq_iff_iff]; simp only [Bool.or_eq_true, Bool.and_eq_true, beq_iff_eq, decide_eq_true_eq]; omega)
    · have f1 : (kd.kind == 1) = false := by simp [k1]
      have f2 : (kd.kind == 2) = false := by simp [k2]
      have f5 : (kd.kind == 5) = false := by simp [k5]
      have f6 : (kd.kind == 6) = false := by simp [k6]
      have f7 : (kd.kind == 7) = false := by simp [k7]
      repeat' (first | ((repeat ((fail_if_success (refine hK _ ?_)); clear hK K)); refine hK _ ?_; clear hK K) | ((first | refine d8 fun K1 p7 => ?_ | refine d6 fun K1 p7 => ?_ | refine b5 fun A B hA hB => ?_); simp only [S1, simprocAttr, B1, D6, f1, f2, f5, f6, f7, List.length_map]; first | refine p7 _ ?_; clear p7 K1 | ((first | refine hA ?_ | refine hB ?_); clear hA hB A B) | (refine g8 (v := ?_) (fun hg p8 => ?_) ?_; rotate_left; (focus (try ((try simp only [BN] at hg); simp only [S1, simprocAttr, B1, D6, f1, f2, f5, f6, f7, List.length_map, hg] at p8 ⊢)); first | exact p8); refine p7 _ ?_; clear p7 K1) | (((first | (refine ⟨fun hg => hA ?_, fun hg => hB ?_⟩ <;> clear hA hB A B) | refine ⟨fun hg => ?_, fun hg => ?_⟩) <;> (try simp only [BN2] at hg) <;> (try simp only [hg, cndB])) <;> (try (refine p7 _ ?_; clear p7 K1)) <;> (try simp only [BN3] at hg))) | refine b6 fun K hK => ?_ | ((first | apply c8 | apply b8 | apply a9 | refine d5 ?_ | apply b7 | apply c9 | apply d4 | apply d7); try simp only [NB, simprocAttr]))
      all_goals simp only [S1, simprocAttr, ENB, B1]
      all_goals simp [e0, k1, k2, k5, k6, k7]
      all_goals (rw [Bool.eq_iff_iff]; simp only [Bool.or_eq_true, Bool.and_eq_true, beq_iff_eq, decide_eq_true_eq]; omega)
end
section
def rv (h h' : Heap) : Prop := h'.length = h.length ∧ ∀ (b : Nat) (bk' : Blk), h'[b]? = some (some bk') → ∃ bk : Blk, h[b]? = some (some bk) ∧ bk.g = bk'.g ∧ (bk.cells = [] ↔ bk'.cells = [])
theorem dL {ι : Nat → Nat × Nat} {h h' : Heap} (ha : rv h h') {k : Nat} (ho : own ι h' k) : own ι h k := by
  obtain ⟨b, bk', q1, q2, q3⟩ := ho
  obtain ⟨bk, p1, p2, p3⟩ := ha.2 b bk' q1
  exact ⟨b, bk, p1, fun e => q2 (p3.mp e), q3⟩
theorem VRel.alike {ι : Nat → Nat × Nat} {h h' : Heap} {w : World} {x : AV} {v : Value} (ha : rv h h') (hx : VRel ι h w x v) : VRel ι h' w x v := by
  have lv : ∀ b g : Nat, C6 h' b g → C6 h b g := by
    rintro b g ⟨bk', q1, q2⟩
    obtain ⟨bk, p1, p2, p3⟩ := ha.2 b bk' q1
    exact ⟨bk, p1, by omega⟩
  have gg : ∀ b g : Nat, (∀ bk : Blk, h[b]? = some (some bk) → g ≤ bk.g) → ∀ bk : Blk, h'[b]? = some (some bk) → g ≤ bk.g := by
    intro b g hg bk' q1
    obtain ⟨bk, p1, p2, p3⟩ := ha.2 b bk' q1
    have := hg bk p1; omega
  have oo : ∀ k, k < w.heap.size → ¬ own ι h k → w.heap[k]? = w.heap[k]? ∧ ¬ own ι h' k := fun k _ ho => ⟨rfl, fun e => ho (dL ha e)⟩
  induction hx with
  | p x v hx => exact .p _ _ (hx.mono (Nat.le_refl _) oo)
  | agg cells vs hl hv ih => exact .agg _ _ hl ih
  | tup cells vs hl hv ih => exact .tup _ _ hl ih
  | fn f cells vs hl hv ih => exact .fn _ _ _ hl ih
  | ref b g off sz len A c hn hb hg hv =>
    refine .ref _ _ _ _ _ _ _ hn (by rw [ha.1]; exact hb) (gg b g hg) fun hl => ?_
    rcases hv (lv b g hl) with hz | ⟨hA, hle, ⟨bk0, q0, hne⟩, hcs⟩
    · exact .inl hz
    · obtain ⟨bk', q1, q2⟩ := hl
      obtain ⟨bk, p1, p2, p3⟩ := ha.2 b bk' q1
      rw [p1] at q0
      obtain rfl := Option.some.inj (Option.some.inj q0)
      exact .inr ⟨hA, hle, ⟨bk', q1, fun e => hne (p3.mpr e)⟩, hcs⟩
  | ptr b g off A hb hg hv => exact .ptr _ _ _ _ (by rw [ha.1]; exact hb) (gg b g hg) fun hl => hv (lv b g hl)
  | pin cells blk off hv => exact .pin _ _ _ (hv.mono (Nat.le_refl _) oo)
section
variable {P : Program} {G : Nat → Option (List PV)} {h0 : Heap} {s : St}
theorem pW {h : Heap} {b j : Nat} {bk : Blk} {x' : AV} (hb : h[b]? = some (some bk)) : rv h (h.set b (some ⟨bk.g, bk.cells.set j x'⟩)) := by
  refine ⟨by simp, fun c bk' hc => ?_⟩
  rw [List.getElem?_set] at hc
  split at hc
  · rename_i e; subst e
    split at hc
    · obtain rfl := Option.some.inj (Option.some.inj hc)
      exact ⟨bk, hb, rfl, by simp only [← List.length_eq_zero_iff, List.length_set]⟩
    · cases hc
  · exact ⟨bk', hc, rfl, Iff.rfl⟩
theorem t5.cell {b j : Nat} {bk : Blk} {x x' : AV} (hb : s.heap[b]? = some (some bk)) (hx : bk.cells[j]? = some x) (hv : ∀ ι w v, VRel ι s.heap w x v → VRel ι s.heap w x' v) (hbl : h0.length ≤ b) :
    t5 P G h0 s ⟨s.fr, s.nt, s.heap.set b (some ⟨bk.g, bk.cells.set j x'⟩)⟩ := by
  intro ι a w ι0 w0 hS hs he
  have ha := pW (j := j) (x' := x') hb
  have hlo : ∀ (c : Nat) (bk' : Blk), (s.heap.set b (some ⟨bk.g, bk.cells.set j x'⟩))[c]? = some (some bk') → (c = b ∧ bk' = ⟨bk.g, bk.cells.set j x'⟩) ∨ s.heap[c]? = some (some bk') := by
    intro c bk' hc
    rw [List.getElem?_set] at hc
    split at hc
    · rename_i e
      split at hc
      · exact .inl ⟨e.symm, (Option.some.inj (Option.some.inj hc)).symm⟩
      · cases hc
    · exact .inr hc
  have oo : ∀ k, k < w.heap.size → ¬ own ι s.heap k → w.heap[k]? = w.heap[k]? ∧ ¬ own ι (s.heap.set b (some ⟨bk.g, bk.cells.set j x'⟩)) k := fun k _ ho => ⟨rfl, fun e => ho (dL ha e)⟩
  refine ⟨ι, ⟨⟨⟨fun c bk' hc hne => ?_, fun c c' k k' q1 q2 n1 n2 e => ?_⟩, fun g cells hg => (hs.hS.gr g cells hg).mono (Nat.le_refl _) oo⟩, fun k y hy => ?_, hs.nt, hs.df⟩, ?_⟩
  · rcases hlo c bk' hc with ⟨rfl, rfl⟩ | hc
    · have hne' : bk.cells ≠ [] := by
        intro e
        rw [e] at hx; simp at hx
      obtain ⟨cs, ty, p1, p2, p3⟩ := hs.hS.hr.blk c bk hb hne'
      refine ⟨cs, ty, p1, by simpa using p2, fun i y hy => ?_⟩
      simp only [List.getElem?_set] at hy
      split at hy
      · rename_i e; subst e
        split at hy
        · cases hy
          obtain ⟨v, r1, r2⟩ := p3 j x hx
          exact ⟨v, r1, (hv ι w v r2).alike ha⟩
        · cases hy
      · obtain ⟨v, r1, r2⟩ := p3 i y hy
        exact ⟨v, r1, r2.alike ha⟩
    · obtain ⟨cs, ty, p1, p2, p3⟩ := hs.hS.hr.blk c bk' hc hne
      exact ⟨cs, ty, p1, p2, fun i y hy => by obtain ⟨v, r1, r2⟩ := p3 i y hy; exact ⟨v, r1, r2.alike ha⟩⟩
  · obtain ⟨k0, p1, p2, p3⟩ := ha.2 c k q1
    obtain ⟨k1, r1, r2, r3⟩ := ha.2 c' k' q2
    exact hs.hS.hr.inj c c' k0 k1 p1 r1 (fun e => n1 (p3.mp e)) (fun e => n2 (r3.mp e)) e
  · obtain ⟨v, p1, p2⟩ := hs.fr k y hy
    exact ⟨v, p1, p2.alike ha⟩
  · refine ⟨he.size, fun k hk ho => ⟨(he.keep k hk ho).1, fun e => (he.keep k hk ho).2 (dL ha e)⟩, by rw [ha.1]; exact he.len, fun c bk' hc hq => ?_, he.os, he.output, he.tape⟩
    rcases hlo c bk' hq with ⟨rfl, _⟩ | hq
    · omega
    · exact he.gens c bk' hc hq
theorem t5.adoptCell {b j : Nat} {bk : Blk} (sz : Nat) (hb : s.heap[b]? = some (some bk)) (hx : bk.cells[j]? = some (.p .nils)) (hbl : h0.length ≤ b) :
    t5 P G h0 s ⟨s.fr, s.nt, (s.heap ++ [some ⟨0, []⟩] : Heap).set b (some ⟨bk.g, bk.cells.set j (.ref s.heap.length 0 0 sz 0)⟩)⟩ := by
  have hlt : b < s.heap.length := m6 hb
  refine (t5.lay (s := s)).trans (t5.cell (s := (⟨s.fr, s.nt, s.heap ++ [some ⟨0, []⟩]⟩ : St)) (b := b) (j := j) (bk := bk) (by rw [List.getElem?_append_left hlt]; exact hb) hx (fun ι w v hv => ?_) hbl)
  have := hv.nils_inv; subst this
  exact VRel.ref _ _ _ _ _ none 0 (by omega) (by simp) (fun bk hq => Nat.zero_le _) fun _ => Or.inl ⟨rfl, rfl⟩
end
def V2 {α : Type} (e : α → List PV) (l : List α) : List PV := l.flatMap e
theorem dM {α : Type} {e : α → List PV} {sz : Nat} (he : ∀ a, (e a).length = sz) : ∀ l : List α, (V2 e l).length = l.length * sz
  | [] => by simp [V2]
  | x :: r => by
    have := dM he r
    unfold V2 at this ⊢
    rw [List.flatMap_cons, List.length_append, this, he, List.length_cons, Nat.add_mul]; omega
theorem eP {α : Type} {e : α → List PV} {sz : Nat} (he : ∀ a, (e a).length = sz) : ∀ l : List α, B5 sz l.length (V2 e l) = l.map e
  | [] => rfl
  | x :: r => by
    have := eP he r
    have e1 : V2 e (x :: r) = e x ++ V2 e r := rfl
    rw [List.length_cons, B5, e1, List.take_left' (he x), List.drop_left' (he x), this]; rfl
theorem nD (h : Heap) (n fuel : Nat) : ∀ l : List PV, (∀ x ∈ l, x ≠ .nils) → I2 h n fuel (l.map AV.p) = some l
  | [], _ => by unfold I2; rfl
  | x :: r, hx => by
    have ih := nD h n fuel r fun y hy => hx y (by simp [hy])
    have h0 := hx x (by simp)
    simp only [List.map_cons]
    unfold I2
    rw [ih]
    have : pur h n fuel (AV.p x) = some x := by
      cases x with
      | nils => exact absurd rfl h0
      | _ => unfold pur; rfl
    rw [this]
theorem rx {α : Type} {e : α → List PV} {sz : Nat} (he : ∀ a, (e a).length = sz) (hz : ∀ a, ∀ x ∈ e a, x ≠ .nils) {h : Heap} {n fuel b g m : Nat} {l : List α} (hm : m = l.length) (hb : t4 h b g = some ((V2 e l).map AV.p)) (hn : n ≤ b) :
    pur h n (fuel + 1) (.ref b g 0 sz m) = some (.sl (l.map e)) := by
  subst hm
  unfold pur
  by_cases h0 : l.length = 0
  · rw [if_pos h0]; have := List.eq_nil_of_length_eq_zero h0; subst this; rfl
  · rw [if_neg h0, hb]
    simp only [hn, true_and, Nat.zero_add, List.length_map, dM he, Nat.le_refl, if_true, List.drop_zero]
    rw [List.take_of_length_le (by rw [List.length_map, dM he]; exact Nat.le_refl _), nD _ _ _ _ (fun x hx => by
      unfold V2 at hx
      obtain ⟨a, _, ha⟩ := List.mem_flatMap.mp hx
      exact hz a x ha)]
    simp only [Option.map_some, eP he]
theorem dN {α : Type} {e : α → List PV} {sz : Nat} (he : ∀ a, (e a).length = sz) (hz : ∀ a, ∀ x ∈ e a, x ≠ .nils) {P : Program} {h : Heap} {K : AV → Prop} {x : Exit} {s : St} (hx : x = .normal ∨ x = .ret) {t b g m : Nat} {l : List α} (hm : m = l.length) (hf : s.fr t = some (.ref b g 0 sz m))
    (hb : t4 s.heap b g = some ((V2 e l).map AV.p)) (hn : h.length ≤ b) (ht : s.heap.take h.length = h) (hle : h.length ≤ s.heap.length) (hk : K (.p (.sl (l.map e)))) : lD P [.tmp t] h K x s := by
  have key : bK P [.tmp t] h K s := by
    unfold bK
    simp only [Q6, S4, K6, hf, F2, D8, rx he hz hm hb hn, Option.map_some]
    exact ⟨ht, hle, hk⟩
  rcases hx with rfl | rfl <;> exact key
theorem ry {P : Program} {h : Heap} {K : AV → Heap → Prop} {s : St} {t : Nat} {v : AV} (hf : s.fr t = some v) (hl : h.length ≤ s.heap.length) (hk : K v s.heap) : tP P [.tmp t] h K s := by
  unfold tP
  refine ⟨hl, ?_⟩
  simp only [Q6, S4, K6, hf]
  exact hk
end
section
def az := And.intro T2 (And.intro T3 (And.intro T4 (And.intro T22 (And.intro T23 (And.intro T25 (And.intro T53 (And.intro T66 (And.intro T68 (And.intro T70 (And.intro T73 (And.intro T95 (And.intro T97 (And.intro T99 pO)))))))))))))
attribute [local irreducible] awp q9 m7 n7 r5
variable {G : Nat → Option (List PV)}
def eQ (q : Int × Int) : List PV := [.int .i64 q.1, .int .i64 q.2]
abbrev aQ (l : List (Int × Int)) : AV := .p (.sl (l.map eQ))
def Q1 (l : List (Int × Int)) : List Int := l.flatMap fun q => [q.1, q.2]
theorem H8 : ∀ l : List (Int × Int), (Q1 l).length = l.length * 2
  | [] => rfl
  | x :: r => by
    have := H8 r
    unfold Q1 at this ⊢
    rw [List.flatMap_cons, List.length_append, this, List.length_cons]; simp only [List.length_cons, List.length_nil]; omega
theorem jo (l : List (Int × Int)) (a b : Int) : Q1 (l ++ [(a, b)]) = Q1 l ++ [a, b] := by
  unfold Q1; rw [List.flatMap_append]; rfl
theorem eR : ∀ l : List (Int × Int), B5 2 l.length ((Q1 l).map (PV.int .i64)) = l.map eQ
  | [] => rfl
  | x :: r => by
    have := eR r
    show B5 2 (r.length + 1) ((Q1 (x :: r)).map (PV.int .i64)) = eQ x :: r.map eQ
    have e : Q1 (x :: r) = x.1 :: x.2 :: Q1 r := rfl
    rw [e, ← this]
    rfl
theorem pX {h : Heap} {n fuel b g m : Nat} {l : List (Int × Int)} (hm : m = l.length) (hb : t4 h b g = some ((Q1 l).map AV.i)) (hn : n ≤ b) : pur h n (fuel + 1) (.ref b g 0 2 m) = some (.sl (l.map eQ)) := by
  subst hm
  unfold pur
  by_cases h0 : l.length = 0
  · rw [if_pos h0]; have := List.eq_nil_of_length_eq_zero h0; subst this; rfl
  · rw [if_neg h0, hb]
    simp only [hn, true_and, Nat.zero_add, List.length_map, H8, Nat.le_refl, if_true, List.drop_zero]
    rw [List.take_of_length_le (by rw [List.length_map, H8]; exact Nat.le_refl _), dH]
    simp only [Option.map_some, eR]
def plF (rule : Int) (p : Nat → Bool) (n : Nat) : List (Int × Int) := ((List.range n).filter p).map fun (i : Nat) => (rule, (i : Int))
theorem rz (rule : Int) (p : Nat → Bool) (n : Nat) : plF rule p (n + 1) = plF rule p n ++ (if p n = true then [(rule, (n : Int))] else []) := by
  unfold plF
  rw [List.range_succ, List.filter_append, List.map_append]
  congr 1
  cases h : p n <;> simp [h]
theorem rA (rule : Int) (p : Nat → Bool) (n : Nat) : (plF rule p n).length ≤ n := by
  unfold plF
  rw [List.length_map]
  exact Nat.le_trans (List.length_filter_le _ _) (by simp)
theorem rC (rule : Int) (p : Nat → Bool) (n : Nat) : (plF rule p n).head? = ((List.range n).find? p).map fun (i : Nat) => (rule, (i : Int)) := by
  unfold plF
  rw [List.head?_map, List.head?_filter]
theorem oQ {n i : Nat} (hk : n ≤ 1000) (h : i < n) : IntKind.i64.wrap ((i : Int) + 1) = ((i + 1 : Nat) : Int) := by rw [IntWalk.i64_in _ (by omega)]; omega
theorem sQ {n i : Nat} (h : i < n) : decide ((i : Int) < (n : Int)) = true := by simp; omega
theorem uC {n : Nat} : decide ((n : Int) < (n : Int)) = false := by simp
theorem R2 {f : FuncId} (hE : j5 Tryz.prog f) {caps : List AV} {p : Nat → Bool} (rule : Int) (n : Nat) (hn : n ≤ 100) (h : Heap) (hcap : q6 h.length caps)
    (hc : ∀ L, ∀ i : Nat, i < n → f9 Tryz.prog G f (.i i :: caps) (h ++ L) (fun r h' => r = .b (p i) ∧ h' = h ++ L)) :
    f9 Tryz.prog G 53 [.i rule, .i n, .fn f caps] h (fun r h' => r = .ref h.length (plF rule p n).length 0 2 (plF rule p n).length ∧ h' = h ++ [some ⟨(plF rule p n).length, (Q1 (plF rule p n)).map AV.i⟩]) := by
  refine Sim.evoKeep (rl := []) i6 Tryz.func53 rfl (by rw [Tryz.ntmps53]; simp) ?_
  rw [Tryz.ntmps53]
  refine b6 fun K hK => ?_
  repeat' (first | ((first | refine c8 ?_ | refine b8 ?_); (try simp only [NB]); ((repeat ((fail_if_success (refine hK _ ?_)); clear hK K)); refine hK _ ?_; clear hK K)) | ((first | refine d8 fun K1 p7 => ?_ | refine d6 fun K1 p7 => ?_ | refine b5 fun A B hA hB => ?_); simp only [S1, simprocAttr, az]; first | (refine p7 _ ?_; clear p7 K1) | ((first | refine hA ?_ | refine hB ?_); clear hA hB A B) | (refine g8 (v := ?_) (fun hg p8 => ?_) ?_; rotate_left; (focus (try ((try simp only [BN] at hg); simp only [S1, simprocAttr, az, hg] at p8 ⊢)); first | exact p8); (refine p7 _ ?_; clear p7 K1)) | (((first | (refine ⟨fun hg => hA ?_, fun hg => hB ?_⟩ <;> clear hA hB A B) | refine ⟨fun hg => ?_, fun hg => ?_⟩) <;> (try simp only [BN2] at hg) <;> (try simp only [hg, cndB])) <;> (try (refine p7 _ ?_; clear p7 K1)) <;> (try simp only [BN3] at hg))) | (fail) | ((first | refine a9 ?_ | refine j4 (by kernel_rfl) ?_ | refine b7 ?_ | refine c9 ?_ | refine d4 ?_ | refine d7 ?_); try simp only [NB, simprocAttr]; (try ((repeat ((fail_if_success (refine hK _ ?_)); clear hK K)); refine hK _ ?_; clear hK K))))
  refine b6 fun K hK => ?_
  repeat' (first | ((first | refine c8 ?_ | refine b8 ?_); (try simp only [NB]); ((repeat ((fail_if_success (refine hK _ ?_)); clear hK K)); refine hK _ ?_; clear hK K)) | ((first | refine d8 fun K1 p7 => ?_ | refine d6 fun K1 p7 => ?_ | refine b5 fun A B hA hB => ?_); simp only [S1, simprocAttr, az]; first | (refine p7 _ ?_; clear p7 K1) | ((first | refine hA ?_ | refine hB ?_); clear hA hB A B) | (refine g8 (v := ?_) (fun hg p8 => ?_) ?_; rotate_left; (focus (try ((try simp only [BN] at hg); simp only [S1, simprocAttr, az, hg] at p8 ⊢)); first | exact p8); (refine p7 _ ?_; clear p7 K1)) | (((first | (refine ⟨fun hg => hA ?_, fun hg => hB ?_⟩ <;> clear hA hB A B) | refine ⟨fun hg => ?_, fun hg => ?_⟩) <;> (try simp only [BN2] at hg) <;> (try simp only [hg, cndB])) <;> (try (refine p7 _ ?_; clear p7 K1)) <;> (try simp only [BN3] at hg))) | (fail) | ((first | refine a9 ?_ | refine j4 (by kernel_rfl) ?_ | refine b7 ?_ | refine c9 ?_ | refine d4 ?_ | refine d7 ?_); try simp only [NB, simprocAttr]; (try ((repeat ((fail_if_success (refine hK _ ?_)); clear hK K)); refine hK _ ?_; clear hK K))))
  refine b6 fun K hK => ?_
  repeat' (first | ((repeat ((fail_if_success (refine hK _ ?_)); clear hK K)); refine hK _ ?_; clear hK K) | ((first | refine d8 fun K1 p7 => ?_ | refine d6 fun K1 p7 => ?_ | refine b5 fun A B hA hB => ?_); simp only [S1, simprocAttr, az]; first | refine p7 _ ?_; clear p7 K1 | ((first | refine hA ?_ | refine hB ?_); clear hA hB A B) | (refine g8 (v := ?_) (fun hg p8 => ?_) ?_; rotate_left; (focus (try ((try simp only [BN] at hg); simp only [S1, simprocAttr, az, hg] at p8 ⊢)); first | exact p8); refine p7 _ ?_; clear p7 K1) | (((first | (refine ⟨fun hg => hA ?_, fun hg => hB ?_⟩ <;> clear hA hB A B) | refine ⟨fun hg => ?_, fun hg => ?_⟩) <;> (try simp only [BN2] at hg) <;> (try simp only [hg, cndB])) <;> (try (refine p7 _ ?_; clear p7 K1)) <;> (try simp only [BN3] at hg))) | refine b6 fun K hK => ?_ | ((first | apply c8 | apply b8 | apply a9 | refine d5 ?_ | apply b7 | apply c9 | apply d4 | apply d7); try simp only [NB, simprocAttr]))
  have hcap1 := K3 (Nat.le_add_right h.length 1) caps hcap
  refine T1 n 24 (fun j => [(10, .i j), (9, .i n), (7, .ref h.length (plF rule p j).length 0 2 (plF rule p j).length), (2, .fn f caps), (0, .i rule)])
    (fun j => [some ⟨(plF rule p j).length, (Q1 (plF rule p j)).map AV.i⟩]) (fun j => True) ?_ trivial fun j hj hp K hK => ?_
  · refine (t5.adopt 7 2 rfl).trans (Sub.ghost ⟨rfl, ⟨[], by simp [plF, Q1]⟩, ?_, ?_⟩)
    · simp only [S5, y6, plF, U9, frL, List.length_cons, List.length_nil]
      simp
      exact hcap1
    · simp [A6, q6, y6, plF, Q1]
  rcases Nat.lt_or_ge j n with hlt | hge
  · have hck := fun L => hc L j hlt
    have hle := rA rule p j
    have hmax : (plF rule p j).length + 1 ≤ o9 := by unfold o9; omega
    have e1 := rz rule p j
    cases hq : p j with
    | false =>
      rw [hq] at hck
      rw [hq, if_neg (by decide), List.append_nil] at e1
      repeat' (first | ((repeat ((fail_if_success (refine hK _ ?_)); clear hK K)); refine hK _ ?_; clear hK K) | ((first | refine d8 fun K1 p7 => ?_ | refine d6 fun K1 p7 => ?_ | refine b5 fun A B hA hB => ?_); simp only [S1, simprocAttr, az, sQ hlt, oQ (by omega : n ≤ 1000) hlt]; first | refine p7 _ ?_; clear p7 K1 | ((first | refine hA ?_ | refine hB ?_); clear hA hB A B) | ((first | apply b9 hE | apply c7 hE); exact (hck _); refine p7 _ ?_; clear p7 K1) | (refine g8 (v := ?_) (fun hg p8 => ?_) ?_; rotate_left; (focus (try ((try simp only [BN] at hg); simp only [S1, simprocAttr, az, sQ hlt, oQ (by omega : n ≤ 1000) hlt, hg] at p8 ⊢)); first | exact p8 | ((first | apply b9 hE | apply c7 hE); exact (hck _); exact p8)); refine p7 _ ?_; clear p7 K1) | (((first | (refine ⟨fun hg => hA ?_, fun hg => hB ?_⟩ <;> clear hA hB A B) | refine ⟨fun hg => ?_, fun hg => ?_⟩) <;> (try simp only [BN2] at hg) <;> (try simp only [hg, cndB])) <;> (try (refine p7 _ ?_; clear p7 K1)) <;> (try simp only [BN3] at hg))) | refine b6 fun K hK => ?_ | ((first | apply c8 | apply b8 | apply a9 | refine d5 ?_ | apply b7 | apply c9 | apply d4 | apply d7); try simp only [NB, simprocAttr]))
      all_goals refine ⟨hlt, trivial, ?_⟩
      all_goals simp only [e1]
      all_goals refine ⟨rfl, ⟨_, rfl⟩, ?_, G8 _ _, trivial⟩
      all_goals simp only [S1, simprocAttr, KNB] <;> (try and_intros) <;> (try assumption) <;> (try trivial) <;> (try omega)
    | true =>
      rw [hq] at hck
      rw [hq, if_pos rfl] at e1
      repeat' (first | ((repeat ((fail_if_success (refine hK _ ?_)); clear hK K)); refine hK _ ?_; clear hK K) | ((first | refine d8 fun K1 p7 => ?_ | refine d6 fun K1 p7 => ?_ | refine b5 fun A B hA hB => ?_); simp only [S1, simprocAttr, az, sQ hlt, oQ (by omega : n ≤ 1000) hlt, H8, hmax, List.length_map, Nat.mul_one]; first | refine p7 _ ?_; clear p7 K1 | ((first | refine hA ?_ | refine hB ?_); clear hA hB A B) | ((first | apply b9 hE | apply c7 hE); exact (hck _); refine p7 _ ?_; clear p7 K1) | (refine g8 (v := ?_) (fun hg p8 => ?_) ?_; rotate_left; (focus (try ((try simp only [BN] at hg); simp only [S1, simprocAttr, az, sQ hlt, oQ (by omega : n ≤ 1000) hlt, H8, hmax, List.length_map, Nat.mul_one, hg] at p8 ⊢)); first | exact p8 | ((first | apply b9 hE | apply c7 hE); exact (hck _); exact p8)); refine p7 _ ?_; clear p7 K1) | (((first | (refine ⟨fun hg => hA ?_, fun hg => hB ?_⟩ <;> clear hA hB A B) | refine ⟨fun hg => ?_, fun hg => ?_⟩) <;> (try simp only [BN2] at hg) <;> (try simp only [hg, cndB])) <;> (try (refine p7 _ ?_; clear p7 K1)) <;> (try simp only [BN3] at hg))) | refine b6 fun K hK => ?_ | ((first | apply c8 | apply b8 | apply a9 | refine d5 ?_ | apply b7 | apply c9 | apply d4 | apply d7); try simp only [NB, simprocAttr]))
      all_goals refine ⟨hlt, trivial, ?_⟩
      all_goals simp only [e1, jo, List.length_append, List.map_append, List.length_cons, List.length_nil, List.map_cons, List.map_nil, Nat.zero_add]
      all_goals refine ⟨rfl, ⟨_, rfl⟩, ?_, ?_⟩
      · simp only [S1, simprocAttr, KNB] <;> (try and_intros) <;> (try assumption) <;> (try trivial) <;> (try omega)
      · simp only [A6]; exact ⟨(by have := G8 (h.length + 1) (Q1 (plF rule p j) ++ [rule, (j : Int)]); simpa using this), trivial⟩
  · obtain rfl : j = n := by omega
    repeat' (first | ((repeat ((fail_if_success (refine hK _ ?_)); clear hK K)); refine hK _ ?_; clear hK K) | ((first | refine d8 fun K1 p7 => ?_ | refine d6 fun K1 p7 => ?_ | refine b5 fun A B hA hB => ?_); simp only [S1, simprocAttr, az, uC]; first | refine p7 _ ?_; clear p7 K1 | ((first | refine hA ?_ | refine hB ?_); clear hA hB A B) | (refine g8 (v := ?_) (fun hg p8 => ?_) ?_; rotate_left; (focus (try ((try simp only [BN] at hg); simp only [S1, simprocAttr, az, uC, hg] at p8 ⊢)); first | exact p8); refine p7 _ ?_; clear p7 K1) | (((first | (refine ⟨fun hg => hA ?_, fun hg => hB ?_⟩ <;> clear hA hB A B) | refine ⟨fun hg => ?_, fun hg => ?_⟩) <;> (try simp only [BN2] at hg) <;> (try simp only [hg, cndB])) <;> (try (refine p7 _ ?_; clear p7 K1)) <;> (try simp only [BN3] at hg))) | refine b6 fun K hK => ?_ | ((first | apply c8 | apply b8 | apply a9 | refine d5 ?_ | apply b7 | apply c9 | apply d4 | apply d7); try simp only [NB, simprocAttr]))
    exact ⟨.inr trivial, ry (t := 6) rfl (by simp) ⟨rfl, rfl⟩⟩
end
section
def bT := And.intro T2 (And.intro T3 (And.intro T4 (And.intro T22 (And.intro T23 (And.intro T25 (And.intro T53 (And.intro T66 (And.intro T68 (And.intro T70 (And.intro T73 (And.intro T95 (And.intro T97 (And.intro T99 pO)))))))))))))
attribute [local irreducible] awp q9 m7 n7 r5
variable {G : Nat → Option (List PV)}
structure NetOk (ns : List Nd) (fl : List Fl) : Prop where
  n : ns.length ≤ 100
  f : fl.length ≤ 100
  tn : ∃ m, m ≤ 200 ∧ ∀ k ∈ ns, Tm.Ok m k.term
  tf : ∃ m, m ≤ 200 ∧ ∀ k ∈ fl, Tm.Ok m k.cond
def X3 (ns : List Nd) (i : Nat) : Bool := match ns[i]? with | some k => !(aJ k.kind k.a k.term) | none => false
def X4 (ns : List Nd) (fl : List Fl) (i : Nat) : Bool := match fl[i]? with | some f => !(Z6 ns fl f) | none => false
def U6 (ns : List Nd) (fl : List Fl) (i : Nat) : Bool := (!(C8 ns fl i) || (u3 ns i == 1 && ((i : Int) != o4 ns 1))) || (u3 ns i == 2 && ((i : Int) != o4 ns 2))
noncomputable def gJ (ns : List Nd) (fl : List Fl) (i : Nat) : Bool :=
  !((O7 (C3 false fl) ns.length (o4 ns 1).toNat)[i]?.getD false) || !((O7 (C3 true fl) ns.length (o4 ns 2).toNat)[i]?.getD false)
theorem nF (ns : List Nd) (fl : List Fl) (ok : NetOk ns fl) (i : Nat) (hi : i < ns.length) (H : Heap) {b g : Nat} (hb : H[b]? = some (some ⟨g, D1 ns fl⟩)) : f9 Tryz.prog gW 54 [.i i, .ptr b g 0] H (fun r h' => r = .b (X3 ns i) ∧ h' = H) := by
  obtain ⟨k, hk⟩ : ∃ k, ns[i]? = some k := ⟨_, List.getElem?_eq_getElem hi⟩
  obtain ⟨m, hm, ht⟩ := ok.tn
  have hk' := B8 hk
  have i0 : (0 : Int) ≤ (i : Int) := by omega
  have e : X3 ns i = !(aJ k.kind k.a k.term) := by unfold X3; rw [hk]
  rw [e]
  refine d9 (rl := []) i6 Tryz.func54 rfl (rs := [.tmp 3]) rfl Tryz.ntmps54 (by simp) ?_
  repeat' (first | ((repeat ((fail_if_success (refine hK _ ?_)); clear hK K)); refine hK _ ?_; clear hK K) | ((first | refine d8 fun K1 p7 => ?_ | refine d6 fun K1 p7 => ?_ | refine b5 fun A B hA hB => ?_); simp only [S1, simprocAttr, bT, hb, H6 hb, i0, hk', eN]; first | refine p7 _ ?_; clear p7 K1 | ((first | refine hA ?_ | refine hB ?_); clear hA hB A B) | ((first | apply b9 E55 | apply c7 E55); exact (lO (ht k (List.mem_of_getElem? hk)) _ _ _); refine p7 _ ?_; clear p7 K1) | (((first | (refine ⟨fun hg => hA ?_, fun hg => hB ?_⟩ <;> clear hA hB A B) | refine ⟨fun hg => ?_, fun hg => ?_⟩) <;> (try simp only [BN2] at hg) <;> (try simp only [hg, cndB])) <;> (try (refine p7 _ ?_; clear p7 K1)) <;> (try simp only [BN3] at hg))) | refine b6 fun K hK => ?_ | ((first | apply c8 | apply b8 | apply a9 | refine d5 ?_ | apply b7 | apply c9 | apply d4 | apply d7); try simp only [NB, simprocAttr]))
  all_goals simp only [S1, simprocAttr, ENB, bT]
theorem nG (ns : List Nd) (fl : List Fl) (ok : NetOk ns fl) (i : Nat) (hi : i < fl.length) (H : Heap) {b g : Nat} (hb : H[b]? = some (some ⟨g, D1 ns fl⟩)) : f9 Tryz.prog gW 56 [.i i, .ptr b g 0] H (fun r h' => r = .b (X4 ns fl i) ∧ h' = H) := by
  obtain ⟨k, hk⟩ : ∃ k, fl[i]? = some k := ⟨_, List.getElem?_eq_getElem hi⟩
  obtain ⟨m, hm, ht⟩ := ok.tf
  have hk' := I8 hk
  have i0 : (0 : Int) ≤ (i : Int) := by omega
  have e : X4 ns fl i = !(Z6 ns fl k) := by unfold X4; rw [hk]
  rw [e]
  refine d9 (rl := []) i6 Tryz.func56 rfl (rs := [.tmp 3]) rfl Tryz.ntmps56 (by simp) ?_
  repeat' (first | ((repeat ((fail_if_success (refine hK _ ?_)); clear hK K)); refine hK _ ?_; clear hK K) | ((first | refine d8 fun K1 p7 => ?_ | refine d6 fun K1 p7 => ?_ | refine b5 fun A B hA hB => ?_); simp only [S1, simprocAttr, bT, hb, H6 hb, i0, hk', eF]; first | refine p7 _ ?_; clear p7 K1 | ((first | refine hA ?_ | refine hB ?_); clear hA hB A B) | ((first | apply b9 E57 | apply c7 E57); exact (lX ns ok.n fl ok.f k (ht k (List.mem_of_getElem? hk)) _); refine p7 _ ?_; clear p7 K1) | (((first | (refine ⟨fun hg => hA ?_, fun hg => hB ?_⟩ <;> clear hA hB A B) | refine ⟨fun hg => ?_, fun hg => ?_⟩) <;> (try simp only [BN2] at hg) <;> (try simp only [hg, cndB])) <;> (try (refine p7 _ ?_; clear p7 K1)) <;> (try simp only [BN3] at hg))) | refine b6 fun K hK => ?_ | ((first | apply c8 | apply b8 | apply a9 | refine d5 ?_ | apply b7 | apply c9 | apply d4 | apply d7); try simp only [NB, simprocAttr]))
  all_goals simp only [S1, simprocAttr, ENB, bT]
theorem kt (ns : List Nd) (fl : List Fl) (ok : NetOk ns fl) (hd : InN ns.length fl) (i : Nat) (hi : i < ns.length) (H : Heap) {b g b1 g1 b2 g2 : Nat} (hb : H[b]? = some (some ⟨g, D1 ns fl⟩)) (hb1 : H[b1]? = some (some ⟨g1, [.i (o4 ns 1)]⟩)) (hb2 : H[b2]? = some (some ⟨g2, [.i (o4 ns 2)]⟩)) :
    f9 Tryz.prog G 80 [.i i, .ptr b g 0, .ptr b1 g1 0, .ptr b2 g2 0] H (fun r h' => r = .b (U6 ns fl i) ∧ h' = H) := by
  obtain ⟨k, hk⟩ : ∃ k, ns[i]? = some k := ⟨_, List.getElem?_eq_getElem hi⟩
  have hk' := B8 hk
  have i0 : (0 : Int) ≤ (i : Int) := by omega
  have e : u3 ns i = k.kind := by unfold u3; rw [Int.toNat_natCast, hk]
  unfold U6
  rw [e]
  refine d9 (rl := []) i6 Tryz.func80 rfl (rs := [.tmp 5]) rfl Tryz.ntmps80 (by simp) ?_
  repeat' (first | ((repeat ((fail_if_success (refine hK _ ?_)); clear hK K)); refine hK _ ?_; clear hK K) | ((first | refine d8 fun K1 p7 => ?_ | refine d6 fun K1 p7 => ?_ | refine b5 fun A B hA hB => ?_); simp only [S1, simprocAttr, bT, hb, hb1, hb2, i0, hk', eN]; first | refine p7 _ ?_; clear p7 K1 | ((first | refine hA ?_ | refine hB ?_); clear hA hB A B) | ((first | apply b9 E81 | apply c7 E81); exact (cR ns ok.n fl ok.f (fun f hf => (hd f hf).2) i i0 (by omega) _); refine p7 _ ?_; clear p7 K1) | (refine g8 (v := ?_) (fun hg p8 => ?_) ?_; rotate_left; (focus (try ((try simp only [BN] at hg); simp only [S1, simprocAttr, bT, hb, hb1, hb2, i0, hk', eN, hg] at p8 ⊢)); first | exact p8 | ((first | apply b9 E81 | apply c7 E81); exact (cR ns ok.n fl ok.f (fun f hf => (hd f hf).2) i i0 (by omega) _); exact p8)); refine p7 _ ?_; clear p7 K1) | (((first | (refine ⟨fun hg => hA ?_, fun hg => hB ?_⟩ <;> clear hA hB A B) | refine ⟨fun hg => ?_, fun hg => ?_⟩) <;> (try simp only [BN2] at hg) <;> (try simp only [hg, cndB])) <;> (try (refine p7 _ ?_; clear p7 K1)) <;> (try simp only [BN3] at hg))) | refine b6 fun K hK => ?_ | ((first | apply c8 | apply b8 | apply a9 | refine d5 ?_ | apply b7 | apply c9 | apply d4 | apply d7); try simp only [NB, simprocAttr]))
  all_goals simp only [S1, simprocAttr, ENB, bT]
theorem nH (ns : List Nd) (fl : List Fl) (i : Nat) (hi : i < ns.length) (H : Heap) {b1 g1 b2 g2 : Nat} (hb1 : H[b1]? = some (some ⟨g1, [aBl (O7 (C3 false fl) ns.length (o4 ns 1).toNat)]⟩)) (hb2 : H[b2]? = some (some ⟨g2, [aBl (O7 (C3 true fl) ns.length (o4 ns 2).toNat)]⟩)) :
    f9 Tryz.prog G 61 [.i i, .ptr b1 g1 0, .ptr b2 g2 0] H (fun r h' => r = .b (gJ ns fl i) ∧ h' = H) := by
  have l1 := T6 (C3 false fl) ns.length (o4 ns 1).toNat
  have l2 := T6 (C3 true fl) ns.length (o4 ns 2).toNat
  have i0 : (0 : Int) ≤ (i : Int) := by omega
  unfold gJ
  generalize O7 (C3 false fl) ns.length (o4 ns 1).toNat = a at *
  generalize O7 (C3 true fl) ns.length (o4 ns 2).toNat = c at *
  obtain ⟨x, hx⟩ : ∃ x, a[i]? = some x := ⟨_, List.getElem?_eq_getElem (by omega)⟩
  obtain ⟨y, hy⟩ : ∃ x, c[i]? = some x := ⟨_, List.getElem?_eq_getElem (by omega)⟩
  have hx' : (a.map eB)[i]? = some [.bool x] := by simp [hx, eB]
  have hy' : (c.map eB)[i]? = some [.bool y] := by simp [hy, eB]
  rw [hx, hy]
  simp only [Option.getD_some]
  refine d9 (rl := []) i6 Tryz.func61 rfl (rs := [.tmp 4]) rfl Tryz.ntmps61 (by simp) ?_
  repeat' (first | ((repeat ((fail_if_success (refine hK _ ?_)); clear hK K)); refine hK _ ?_; clear hK K) | ((first | refine d8 fun K1 p7 => ?_ | refine d6 fun K1 p7 => ?_ | refine b5 fun A B hA hB => ?_); simp only [S1, simprocAttr, bT, hb1, hb2, i0, hx', hy']; first | refine p7 _ ?_; clear p7 K1 | ((first | refine hA ?_ | refine hB ?_); clear hA hB A B) | (refine g8 (v := ?_) (fun hg p8 => ?_) ?_; rotate_left; (focus (try ((try simp only [BN] at hg); simp only [S1, simprocAttr, bT, hb1, hb2, i0, hx', hy', hg] at p8 ⊢)); first | exact p8); refine p7 _ ?_; clear p7 K1) | (((first | (refine ⟨fun hg => hA ?_, fun hg => hB ?_⟩ <;> clear hA hB A B) | refine ⟨fun hg => ?_, fun hg => ?_⟩) <;> (try simp only [BN2] at hg) <;> (try simp only [hg, cndB])) <;> (try (refine p7 _ ?_; clear p7 K1)) <;> (try simp only [BN3] at hg))) | refine b6 fun K hK => ?_ | ((first | apply c8 | apply b8 | apply a9 | refine d5 ?_ | apply b7 | apply c9 | apply d4 | apply d7); try simp only [NB, simprocAttr]))
  all_goals simp only [S1, simprocAttr, ENB, bT]
end
section
def eU := And.intro T2 (And.intro T3 (And.intro T4 (And.intro T22 (And.intro T23 (And.intro T25 (And.intro T53 (And.intro T66 (And.intro T68 (And.intro T70 (And.intro T73 (And.intro T95 (And.intro T97 (And.intro T99 pO)))))))))))))
attribute [local irreducible] awp q9 m7 n7 r5 q8
variable {G : Nat → Option (List PV)}
theorem U0 {P : Program} {h : Heap} {K : AV → Prop} {e : Exit} {s : St} (he : e = .normal ∨ e = .ret) {t b g m : Nat} {l : List (Int × Int)} (hm : m = l.length) (hf : s.fr t = some (.ref b g 0 2 m)) (hb : t4 s.heap b g = some ((Q1 l).map AV.i)) (hn : h.length ≤ b)
    (ht : s.heap.take h.length = h) (hle : h.length ≤ s.heap.length) (hk : K (aQ l)) : lD P [.tmp t] h K e s := by
  have key : bK P [.tmp t] h K s := by
    unfold bK
    simp only [Q6, S4, K6, hf, F2, D8, pX hm hb hn, Option.map_some]
    exact ⟨ht, hle, hk⟩
  rcases he with rfl | rfl <;> exact key
def I4 (ns : List Nd) : Bool := decide (o4 ns 1 < 0) || decide (o4 ns 2 < 0)
def F7 (ns : List Nd) (fl : List Fl) : List (Int × Int) := plF 3 (U6 ns fl) ns.length ++ (if I4 ns = true then [(3, (ns.length : Int))] else [])
theorem O8 (ns : List Nd) (fl : List Fl) (ok : NetOk ns fl) (hd : InN ns.length fl) (h : Heap) : f9 Tryz.prog G 58 [N5 ns fl] h (fun r h' => r = aQ (F7 ns fl) ∧ h' = h) := by
  have hpl := R2 (G := G) (f := 80) E80 (caps := [.ptr h.length 0 0, .ptr (h.length + 1) 1 0, .ptr (h.length + 2) 1 0]) (p := U6 ns fl) 3 ns.length ok.n (h ++ [some ⟨0, D1 ns fl⟩, some ⟨1, [.i (o4 ns 1)]⟩, some ⟨1, [.i (o4 ns 2)]⟩]) (by simp [q6, y6])
    (fun L i hi => kt ns fl ok hd i hi _ (b := h.length) (H6 (by simp [cJ]) L) (H6 (by simp [q7]) L) (H6 (by simp [q7]) L))
  simp only [List.length_append, List.length_cons, List.length_nil, Nat.zero_add, Nat.reduceAdd, List.append_assoc, List.cons_append, List.nil_append] at hpl
  have hle := rA 3 (U6 ns fl) ns.length
  have hn := ok.n
  have hmax : (plF 3 (U6 ns fl) ns.length).length + 1 ≤ o9 := by unfold o9; omega
  have a2 : h.length + 1 + 1 = h.length + 2 := rfl
  cases hne : I4 ns with
  | false =>
    have e : F7 ns fl = plF 3 (U6 ns fl) ns.length := by unfold F7; rw [hne]; simp
    unfold I4 at hne
    rw [e]
    refine d9 (rl := []) i6 Tryz.func58 rfl (rs := [.tmp 2]) rfl Tryz.ntmps58 (by simp) ?_
    repeat' (first | ((first | refine c8 ?_ | refine b8 ?_ | refine o5 ?_ | refine m9 ?_); (try simp only [NB])) | ((repeat ((fail_if_success (refine hK _ ?_)); clear hK K)); refine hK _ ?_; clear hK K) | ((first | refine d8 fun K1 p7 => ?_ | refine d6 fun K1 p7 => ?_ | refine o6 rfl rfl rfl fun K1 p7 => ?_ | refine b5 fun A B hA hB => ?_); simp only [S1, simprocAttr, eU, List.length_map, hne, a2]; first | (refine p7 _ ?_; clear p7 K1) | ((first | refine hA ?_ | refine hB ?_); clear hA hB A B) | ((first | apply b9 E30 | apply c7 E30); exact (B0 ns hn _ _); (refine p7 _ ?_; clear p7 K1)) | ((first | apply b9 E60 | apply c7 E60); exact (H7 ns hn _ _); (refine p7 _ ?_; clear p7 K1)) | ((first | apply b9 E53 | apply c7 E53); exact hpl; (refine p7 _ ?_; clear p7 K1)) | (refine g8 (v := ?_) (fun hg p8 => ?_) ?_; rotate_left; (focus (try ((try simp only [BN] at hg); simp only [S1, simprocAttr, eU, List.length_map, hne, a2, hg] at p8 ⊢)); first | exact p8 | ((first | apply b9 E30 | apply c7 E30); exact (B0 ns hn _ _); exact p8) | ((first | apply b9 E60 | apply c7 E60); exact (H7 ns hn _ _); exact p8) | ((first | apply b9 E53 | apply c7 E53); exact hpl; exact p8)); (refine p7 _ ?_; clear p7 K1)) | (((first | (refine ⟨fun hg => hA ?_, fun hg => hB ?_⟩ <;> clear hA hB A B) | refine ⟨fun hg => ?_, fun hg => ?_⟩) <;> (try simp only [BN2] at hg) <;> (try simp only [hg, cndB])) <;> (try (refine p7 _ ?_; clear p7 K1)) <;> (try simp only [BN3] at hg))) | ((first | refine t9 (v := ?_) rfl rfl rfl rfl (by decide) (fun R1 K1 p7 => ?_) ?_ | refine t8 (v := ?_) rfl rfl rfl (by decide) (fun K1 p7 => ?_) ?_ | refine r8 (v := ?_) rfl rfl rfl (by decide) (fun K1 p7 => ?_) ?_); rotate_left; (focus (simp only [S1, simprocAttr, eU, List.length_map, hne, a2]; first | (exact p7 _ _ _) | ((first | apply b9 E30 | apply c7 E30); exact (B0 ns hn _ _); exact p7 _ _ _) | ((first | apply b9 E60 | apply c7 E60); exact (H7 ns hn _ _); exact p7 _ _ _) | ((first | apply b9 E53 | apply c7 E53); exact hpl; exact p7 _ _ _)))) | (refine n5 rfl rfl rfl ?_) | ((first | refine i3 (z := ?_) 0 rfl rfl rfl rfl (by decide) rfl ?_ ?_ | refine i3 (z := ?_) 1 rfl rfl rfl rfl (by decide) rfl ?_ ?_ | refine i3 (z := ?_) 2 rfl rfl rfl rfl (by decide) rfl ?_ ?_); rotate_left; (focus (simp only [S1, simprocAttr, eU, List.length_map, hne, a2, u9]; rfl))) | (refine b6 fun K hK => ?_) | (refine p6 [0, 1, 2, 3, 4, 5, 6, 7] 2 (fs := []) rfl (by kernel_rfl) (by kernel_rfl) ?_) | ((first | refine a9 ?_ | refine j4 (by kernel_rfl) ?_ | refine b7 ?_ | refine c9 ?_ | refine d4 ?_ | refine d7 ?_); try simp only [NB, simprocAttr]))
    exact U0 (.inr rfl) rfl rfl (by simp only [t4, q7, List.getElem?_cons_succ, List.getElem?_cons_zero, if_true]) (by omega) (by simp) (by simp) rfl
  | true =>
    have e : F7 ns fl = plF 3 (U6 ns fl) ns.length ++ [(3, (ns.length : Int))] := by unfold F7; rw [hne]; simp
    unfold I4 at hne
    rw [e]
    refine d9 (rl := []) i6 Tryz.func58 rfl (rs := [.tmp 2]) rfl Tryz.ntmps58 (by simp) ?_
    repeat' (first | ((first | refine c8 ?_ | refine b8 ?_ | refine o5 ?_ | refine m9 ?_); (try simp only [NB])) | ((repeat ((fail_if_success (refine hK _ ?_)); clear hK K)); refine hK _ ?_; clear hK K) | ((first | refine d8 fun K1 p7 => ?_ | refine d6 fun K1 p7 => ?_ | refine o6 rfl rfl rfl fun K1 p7 => ?_ | refine b5 fun A B hA hB => ?_); simp only [S1, simprocAttr, eU, List.length_map, hne, a2, H8, hmax, Nat.mul_one]; first | (refine p7 _ ?_; clear p7 K1) | ((first | refine hA ?_ | refine hB ?_); clear hA hB A B) | ((first | apply b9 E30 | apply c7 E30); exact (B0 ns hn _ _); (refine p7 _ ?_; clear p7 K1)) | ((first | apply b9 E60 | apply c7 E60); exact (H7 ns hn _ _); (refine p7 _ ?_; clear p7 K1)) | ((first | apply b9 E53 | apply c7 E53); exact hpl; (refine p7 _ ?_; clear p7 K1)) | (refine g8 (v := ?_) (fun hg p8 => ?_) ?_; rotate_left; (focus (try ((try simp only [BN] at hg); simp only [S1, simprocAttr, eU, List.length_map, hne, a2, H8, hmax, Nat.mul_one, hg] at p8 ⊢)); first | exact p8 | ((first | apply b9 E30 | apply c7 E30); exact (B0 ns hn _ _); exact p8) | ((first | apply b9 E60 | apply c7 E60); exact (H7 ns hn _ _); exact p8) | ((first | apply b9 E53 | apply c7 E53); exact hpl; exact p8)); (refine p7 _ ?_; clear p7 K1)) | (((first | (refine ⟨fun hg => hA ?_, fun hg => hB ?_⟩ <;> clear hA hB A B) | refine ⟨fun hg => ?_, fun hg => ?_⟩) <;> (try simp only [BN2] at hg) <;> (try simp only [hg, cndB])) <;> (try (refine p7 _ ?_; clear p7 K1)) <;> (try simp only [BN3] at hg))) | ((first | refine t9 (v := ?_) rfl rfl rfl rfl (by decide) (fun R1 K1 p7 => ?_) ?_ | refine t8 (v := ?_) rfl rfl rfl (by decide) (fun K1 p7 => ?_) ?_ | refine r8 (v := ?_) rfl rfl rfl (by decide) (fun K1 p7 => ?_) ?_); rotate_left; (focus (simp only [S1, simprocAttr, eU, List.length_map, hne, a2, H8, hmax, Nat.mul_one]; first | (exact p7 _ _ _) | ((first | apply b9 E30 | apply c7 E30); exact (B0 ns hn _ _); exact p7 _ _ _) | ((first | apply b9 E60 | apply c7 E60); exact (H7 ns hn _ _); exact p7 _ _ _) | ((first | apply b9 E53 | apply c7 E53); exact hpl; exact p7 _ _ _)))) | (refine n5 rfl rfl rfl ?_) | ((first | refine i3 (z := ?_) 0 rfl rfl rfl rfl (by decide) rfl ?_ ?_ | refine i3 (z := ?_) 1 rfl rfl rfl rfl (by decide) rfl ?_ ?_ | refine i3 (z := ?_) 2 rfl rfl rfl rfl (by decide) rfl ?_ ?_); rotate_left; (focus (simp only [S1, simprocAttr, eU, List.length_map, hne, a2, H8, hmax, Nat.mul_one, u9]; rfl))) | (refine b6 fun K hK => ?_) | (refine p6 [0, 1, 2, 3, 4, 5, 6, 7] 2 (fs := []) rfl (by kernel_rfl) (by kernel_rfl) ?_) | ((first | refine a9 ?_ | refine j4 (by kernel_rfl) ?_ | refine b7 ?_ | refine c9 ?_ | refine d4 ?_ | refine d7 ?_); try simp only [NB, simprocAttr]))
    exact U0 (.inr rfl) (l := plF 3 (U6 ns fl) ns.length ++ [(3, (ns.length : Int))]) (by simp) rfl (by simp only [t4, q7, List.getElem?_cons_succ, List.getElem?_cons_zero, if_true, jo, List.map_append, List.map_cons, List.map_nil]) (by omega) (by simp) (by simp) rfl
theorem rD {n : Nat} {i : Int} (h : inB n i = true) : 0 ≤ i ∧ i < (n : Int) := bw.mp h
theorem cS {rule : Int} {p : Nat → Bool} {n : Nat} (h : plF rule p n = []) (i : Nat) (hi : i < n) : p i = false := by
  cases hp : p i with
  | false => rfl
  | true =>
    have : (rule, (i : Int)) ∈ plF rule p n := by
      unfold plF
      exact List.mem_map.mpr ⟨i, List.mem_filter.mpr ⟨List.mem_range.mpr hi, hp⟩, rfl⟩
    rw [h] at this; cases this
theorem ku {ns : List Nd} {fl : List Fl} (h : plF 2 (X4 ns fl) fl.length = []) : InN ns.length fl := by
  intro f hf
  obtain ⟨i, hi, e⟩ := List.mem_iff_getElem.mp hf
  have := cS h i hi
  unfold X4 at this
  rw [List.getElem?_eq_getElem hi, e] at this
  simp only [Bool.not_eq_false'] at this
  unfold Z6 at this
  simp only [Bool.and_eq_true] at this
  obtain ⟨⟨⟨a, b⟩, _⟩, _⟩ := this
  exact ⟨rD a, rD b⟩
theorem bg {α : Type} (p : α → Bool) : ∀ (l : List α) (i : Nat), G2 p l i = -1 ∨ ((i : Int) ≤ G2 p l i ∧ G2 p l i < (i : Int) + l.length)
  | [], i => .inl rfl
  | k :: r, i => by
    unfold G2
    split
    · right; simp only [List.length_cons]; omega
    · rcases bg p r (i + 1) with h | h
      · exact .inl h
      · right; simp only [List.length_cons]; omega
theorem kv {ns : List Nd} (h : I4 ns = false) : (0 ≤ o4 ns 1 ∧ o4 ns 1 < (ns.length : Int)) ∧ 0 ≤ o4 ns 2 ∧ o4 ns 2 < (ns.length : Int) := by
  unfold I4 at h
  simp only [Bool.or_eq_false_iff, decide_eq_false_iff_not] at h
  have a := bg (fun x : Nd => x.kind == 1) ns 0
  have b := bg (fun x : Nd => x.kind == 2) ns 0
  unfold o4 at *
  omega
noncomputable def X5 (ns : List Nd) (fl : List Fl) : List (Int × Int) :=
  if (decide (24 < (ns.length : Int)) || decide (40 < (fl.length : Int))) = true then [(1, 0)]
  else if plF 1 (X3 ns) ns.length ≠ [] then plF 1 (X3 ns) ns.length
  else if plF 2 (X4 ns fl) fl.length ≠ [] then plF 2 (X4 ns fl) fl.length
  else if F7 ns fl ≠ [] then F7 ns fl
  else plF 4 (gJ ns fl) ns.length
end
section
def V3 := And.intro T2 (And.intro T3 (And.intro T4 (And.intro T22 (And.intro T23 (And.intro T25 (And.intro T53 (And.intro T66 (And.intro T68 (And.intro T70 (And.intro T73 (And.intro T95 (And.intro T97 (And.intro T99 pO)))))))))))))
attribute [local irreducible] awp q9 m7 n7 r5 q8
variable {G : Nat → Option (List PV)}
theorem fB {α : Type} {l : List α} (h : l ≠ []) : decide ((0 : Int) < (l.length : Int)) = true := by
  have : 0 < l.length := List.length_pos_iff.mpr h
  exact decide_eq_true (by omega)
theorem gK {α : Type} {l : List α} (h : l = []) : decide ((0 : Int) < (l.length : Int)) = false := by subst h; rfl
theorem pY (ns : List Nd) (fl : List Fl) (ok : NetOk ns fl) (h : Heap) : f9 Tryz.prog gW 37 [N5 ns fl] h (fun r h' => r = aQ (X5 ns fl) ∧ h' = h) := by
  have a3 : h.length + 3 + 1 = h.length + 4 := rfl
  have hn := ok.n
  have hl := ok.f
  have p1 := R2 (G := gW) (f := 54) E54 (caps := [.ptr h.length 0 0]) (p := X3 ns) 1 ns.length ok.n (h ++ [some ⟨0, D1 ns fl⟩]) (by simp [q6, y6])
    (fun L i hi => nF ns fl ok i hi _ (b := h.length) (H6 (by simp [cJ]) L))
  have p2 := fun b1 : Option Blk => R2 (G := gW) (f := 56) E56 (caps := [.ptr h.length 0 0]) (p := X4 ns fl) 2 fl.length ok.f (h ++ [some ⟨0, D1 ns fl⟩, b1]) (by simp [q6, y6])
    (fun L i hi => nG ns fl ok i hi _ (b := h.length) (H6 (by simp [cJ]) L))
  have p4 := fun b1 b2 : Option Blk => R2 (G := gW) (f := 61) E61 (caps := [.ptr (h.length + 3) 1 0, .ptr (h.length + 4) 1 0]) (p := gJ ns fl) 4 ns.length ok.n (h ++ [some ⟨0, D1 ns fl⟩, b1, b2, some ⟨1, [aBl (O7 (C3 false fl) ns.length (o4 ns 1).toNat)]⟩, some ⟨1, [aBl (O7 (C3 true fl) ns.length (o4 ns 2).toNat)]⟩]) (by simp [q6, y6])
    (fun L i hi => nH ns fl i hi _ (H6 (by simp [q7]) L) (H6 (by simp [q7]) L))
  simp only [List.length_append, List.length_cons, List.length_nil, Nat.zero_add, Nat.reduceAdd, List.append_assoc, List.cons_append, List.nil_append] at p1 p2 p4
  by_cases hsz : (decide (24 < (ns.length : Int)) || decide (40 < (fl.length : Int))) = true
  · have e : X5 ns fl = [(1, 0)] := by unfold X5; rw [if_pos hsz]
    rw [e]
    refine d9 (rl := []) i6 Tryz.func37 rfl (rs := [.tmp 2]) rfl Tryz.ntmps37 (by simp) ?_
    repeat' (first | ((repeat ((fail_if_success (refine hK _ ?_)); clear hK K)); refine hK _ ?_; clear hK K) | ((first | refine d8 fun K1 p7 => ?_ | refine d6 fun K1 p7 => ?_ | refine b5 fun A B hA hB => ?_); simp only [S1, simprocAttr, V3, List.length_map, hsz]; first | refine p7 _ ?_; clear p7 K1 | ((first | refine hA ?_ | refine hB ?_); clear hA hB A B) | (refine g8 (v := ?_) (fun hg p8 => ?_) ?_; rotate_left; (focus (try ((try simp only [BN] at hg); simp only [S1, simprocAttr, V3, List.length_map, hsz, hg] at p8 ⊢)); first | exact p8); refine p7 _ ?_; clear p7 K1) | (((first | (refine ⟨fun hg => hA ?_, fun hg => hB ?_⟩ <;> clear hA hB A B) | refine ⟨fun hg => ?_, fun hg => ?_⟩) <;> (try simp only [BN2] at hg) <;> (try simp only [hg, cndB])) <;> (try (refine p7 _ ?_; clear p7 K1)) <;> (try simp only [BN3] at hg))) | refine b6 fun K hK => ?_ | ((first | apply c8 | apply b8 | apply a9 | refine d5 ?_ | apply b7 | apply c9 | apply d4 | apply d7); try simp only [NB, simprocAttr]))
    all_goals simp only [S1, simprocAttr, ENB, V3]
    all_goals rfl
  rw [Bool.not_eq_true] at hsz
  by_cases h1 : plF 1 (X3 ns) ns.length = []
  case neg =>
    have e : X5 ns fl = plF 1 (X3 ns) ns.length := by unfold X5; rw [if_neg (by rw [hsz]; decide), if_pos h1]
    rw [e]
    have c1 := fB h1
    refine d9 (rl := []) i6 Tryz.func37 rfl (rs := [.tmp 2]) rfl Tryz.ntmps37 (by simp) ?_
    repeat' (first | ((repeat ((fail_if_success (refine hK _ ?_)); clear hK K)); refine hK _ ?_; clear hK K) | ((first | refine d8 fun K1 p7 => ?_ | refine d6 fun K1 p7 => ?_ | refine b5 fun A B hA hB => ?_); simp only [S1, simprocAttr, V3, List.length_map, hsz, c1]; first | refine p7 _ ?_; clear p7 K1 | ((first | refine hA ?_ | refine hB ?_); clear hA hB A B) | ((first | apply b9 E53 | apply c7 E53); exact p1; refine p7 _ ?_; clear p7 K1) | (refine g8 (v := ?_) (fun hg p8 => ?_) ?_; rotate_left; (focus (try ((try simp only [BN] at hg); simp only [S1, simprocAttr, V3, List.length_map, hsz, c1, hg] at p8 ⊢)); first | exact p8 | ((first | apply b9 E53 | apply c7 E53); exact p1; exact p8)); refine p7 _ ?_; clear p7 K1) | (((first | (refine ⟨fun hg => hA ?_, fun hg => hB ?_⟩ <;> clear hA hB A B) | refine ⟨fun hg => ?_, fun hg => ?_⟩) <;> (try simp only [BN2] at hg) <;> (try simp only [hg, cndB])) <;> (try (refine p7 _ ?_; clear p7 K1)) <;> (try simp only [BN3] at hg))) | refine b6 fun K hK => ?_ | ((first | apply c8 | apply b8 | apply a9 | refine d5 ?_ | apply b7 | apply c9 | apply d4 | apply d7); try simp only [NB, simprocAttr]))
    exact U0 (.inr rfl) rfl rfl (by simp only [t4, q7, List.getElem?_cons_succ, List.getElem?_cons_zero, if_true]) (by omega) (by simp) (by simp) rfl
  have c1 := gK h1
  by_cases h2 : plF 2 (X4 ns fl) fl.length = []
  case neg =>
    have e : X5 ns fl = plF 2 (X4 ns fl) fl.length := by unfold X5; rw [if_neg (by rw [hsz]; decide), if_neg (by simpa using h1), if_pos h2]
    rw [e]
    have c2 := fB h2
    refine d9 (rl := []) i6 Tryz.func37 rfl (rs := [.tmp 2]) rfl Tryz.ntmps37 (by simp) ?_
    repeat' (first | ((repeat ((fail_if_success (refine hK _ ?_)); clear hK K)); refine hK _ ?_; clear hK K) | ((first | refine d8 fun K1 p7 => ?_ | refine d6 fun K1 p7 => ?_ | refine b5 fun A B hA hB => ?_); simp only [S1, simprocAttr, V3, List.length_map, hsz, c1, c2]; first | refine p7 _ ?_; clear p7 K1 | ((first | refine hA ?_ | refine hB ?_); clear hA hB A B) | ((first | apply b9 E53 | apply c7 E53); exact p1; refine p7 _ ?_; clear p7 K1) | ((first | apply b9 E53 | apply c7 E53); exact (p2 _); refine p7 _ ?_; clear p7 K1) | (refine g8 (v := ?_) (fun hg p8 => ?_) ?_; rotate_left; (focus (try ((try simp only [BN] at hg); simp only [S1, simprocAttr, V3, List.length_map, hsz, c1, c2, hg] at p8 ⊢)); first | exact p8 | ((first | apply b9 E53 | apply c7 E53); exact p1; exact p8) | ((first | apply b9 E53 | apply c7 E53); exact (p2 _); exact p8)); refine p7 _ ?_; clear p7 K1) | (((first | (refine ⟨fun hg => hA ?_, fun hg => hB ?_⟩ <;> clear hA hB A B) | refine ⟨fun hg => ?_, fun hg => ?_⟩) <;> (try simp only [BN2] at hg) <;> (try simp only [hg, cndB])) <;> (try (refine p7 _ ?_; clear p7 K1)) <;> (try simp only [BN3] at hg))) | refine b6 fun K hK => ?_ | ((first | apply c8 | apply b8 | apply a9 | refine d5 ?_ | apply b7 | apply c9 | apply d4 | apply d7); try simp only [NB, simprocAttr]))
    exact U0 (.inr rfl) rfl rfl (by simp only [t4, q7, List.getElem?_cons_succ, List.getElem?_cons_zero, if_true]) (by omega) (by simp) (by simp) rfl
  have c2 := gK h2
  have hd := ku h2
  by_cases h3 : F7 ns fl = []
  case neg =>
    have e : X5 ns fl = F7 ns fl := by unfold X5; rw [if_neg (by rw [hsz]; decide), if_neg (by simpa using h1), if_neg (by simpa using h2), if_pos h3]
    rw [e]
    have c3 := fB h3
    refine d9 (rl := []) i6 Tryz.func37 rfl (rs := [.tmp 2]) rfl Tryz.ntmps37 (by simp) ?_
    repeat' (first | ((repeat ((fail_if_success (refine hK _ ?_)); clear hK K)); refine hK _ ?_; clear hK K) | ((first | refine d8 fun K1 p7 => ?_ | refine d6 fun K1 p7 => ?_ | refine b5 fun A B hA hB => ?_); simp only [S1, simprocAttr, V3, List.length_map, hsz, c1, c2, c3]; first | refine p7 _ ?_; clear p7 K1 | ((first | refine hA ?_ | refine hB ?_); clear hA hB A B) | ((first | apply b9 E53 | apply c7 E53); exact p1; refine p7 _ ?_; clear p7 K1) | ((first | apply b9 E53 | apply c7 E53); exact (p2 _); refine p7 _ ?_; clear p7 K1) | ((first | apply b9 E58 | apply c7 E58); exact (O8 ns fl ok hd _); refine p7 _ ?_; clear p7 K1) | (refine g8 (v := ?_) (fun hg p8 => ?_) ?_; rotate_left; (focus (try ((try simp only [BN] at hg); simp only [S1, simprocAttr, V3, List.length_map, hsz, c1, c2, c3, hg] at p8 ⊢)); first | exact p8 | ((first | apply b9 E53 | apply c7 E53); exact p1; exact p8) | ((first | apply b9 E53 | apply c7 E53); exact (p2 _); exact p8) | ((first | apply b9 E58 | apply c7 E58); exact (O8 ns fl ok hd _); exact p8)); refine p7 _ ?_; clear p7 K1) | (((first | (refine ⟨fun hg => hA ?_, fun hg => hB ?_⟩ <;> clear hA hB A B) | refine ⟨fun hg => ?_, fun hg => ?_⟩) <;> (try simp only [BN2] at hg) <;> (try simp only [hg, cndB])) <;> (try (refine p7 _ ?_; clear p7 K1)) <;> (try simp only [BN3] at hg))) | refine b6 fun K hK => ?_ | ((first | apply c8 | apply b8 | apply a9 | refine d5 ?_ | apply b7 | apply c9 | apply d4 | apply d7); try simp only [NB, simprocAttr]))
    all_goals simp only [S1, simprocAttr, ENB, V3]
  have c3 := gK h3
  have e : X5 ns fl = plF 4 (gJ ns fl) ns.length := by unfold X5; rw [if_neg (by rw [hsz]; decide), if_neg (by simpa using h1), if_neg (by simpa using h2), if_neg (by simpa using h3)]
  rw [e]
  have hne : I4 ns = false := by
    unfold F7 at h3
    cases hx : I4 ns with
    | false => rfl
    | true => rw [hx] at h3; simp at h3
  obtain ⟨⟨s0, s1⟩, e0, e1⟩ := kv hne
  refine d9 (rl := []) i6 Tryz.func37 rfl (rs := [.tmp 2]) rfl Tryz.ntmps37 (by simp) ?_
  repeat' (first | ((first | refine c8 ?_ | refine b8 ?_ | refine o5 ?_ | refine m9 ?_); (try simp only [NB])) | ((repeat ((fail_if_success (refine hK _ ?_)); clear hK K)); refine hK _ ?_; clear hK K) | ((first | refine d8 fun K1 p7 => ?_ | refine d6 fun K1 p7 => ?_ | refine o6 rfl rfl rfl fun K1 p7 => ?_ | refine b5 fun A B hA hB => ?_); simp only [S1, simprocAttr, V3, List.length_map, hsz, c1, c2, c3, a3]; first | (refine p7 _ ?_; clear p7 K1) | ((first | refine hA ?_ | refine hB ?_); clear hA hB A B) | ((first | apply b9 E53 | apply c7 E53); exact p1; (refine p7 _ ?_; clear p7 K1)) | ((first | apply b9 E53 | apply c7 E53); exact (p2 _); (refine p7 _ ?_; clear p7 K1)) | ((first | apply b9 E53 | apply c7 E53); exact (p4 _ _); (refine p7 _ ?_; clear p7 K1)) | ((first | apply b9 E58 | apply c7 E58); exact (O8 ns fl ok hd _); (refine p7 _ ?_; clear p7 K1)) | ((first | apply b9 E30 | apply c7 E30); exact (B0 ns hn _ _); (refine p7 _ ?_; clear p7 K1)) | ((first | apply b9 E60 | apply c7 E60); exact (H7 ns hn _ _); (refine p7 _ ?_; clear p7 K1)) | ((first | apply b9 E59 | apply c7 E59); exact (R6 ns hn fl hl hd _ s0 s1 false _); (refine p7 _ ?_; clear p7 K1)) | ((first | apply b9 E59 | apply c7 E59); exact (R6 ns hn fl hl hd _ e0 e1 true _); (refine p7 _ ?_; clear p7 K1)) | (refine g8 (v := ?_) (fun hg p8 => ?_) ?_; rotate_left; (focus (try ((try simp only [BN] at hg); simp only [S1, simprocAttr, V3, List.length_map, hsz, c1, c2, c3, a3, hg] at p8 ⊢)); first | exact p8 | ((first | apply b9 E53 | apply c7 E53); exact p1; exact p8) | ((first | apply b9 E53 | apply c7 E53); exact (p2 _); exact p8) | ((first | apply b9 E53 | apply c7 E53); exact (p4 _ _); exact p8) | ((first | apply b9 E58 | apply c7 E58); exact (O8 ns fl ok hd _); exact p8) | ((first | apply b9 E30 | apply c7 E30); exact (B0 ns hn _ _); exact p8) | ((first | apply b9 E60 | apply c7 E60); exact (H7 ns hn _ _); exact p8) | ((first | apply b9 E59 | apply c7 E59); exact (R6 ns hn fl hl hd _ s0 s1 false _); exact p8) | ((first | apply b9 E59 | apply c7 E59); exact (R6 ns hn fl hl hd _ e0 e1 true _); exact p8)); (refine p7 _ ?_; clear p7 K1)) | (((first | (refine ⟨fun hg => hA ?_, fun hg => hB ?_⟩ <;> clear hA hB A B) | refine ⟨fun hg => ?_, fun hg => ?_⟩) <;> (try simp only [BN2] at hg) <;> (try simp only [hg, cndB])) <;> (try (refine p7 _ ?_; clear p7 K1)) <;> (try simp only [BN3] at hg))) | ((first | refine t9 (v := ?_) rfl rfl rfl rfl (by decide) (fun R1 K1 p7 => ?_) ?_ | refine t8 (v := ?_) rfl rfl rfl (by decide) (fun K1 p7 => ?_) ?_ | refine r8 (v := ?_) rfl rfl rfl (by decide) (fun K1 p7 => ?_) ?_); rotate_left; (focus (simp only [S1, simprocAttr, V3, List.length_map, hsz, c1, c2, c3, a3]; first | (exact p7 _ _ _) | ((first | apply b9 E53 | apply c7 E53); exact p1; exact p7 _ _ _) | ((first | apply b9 E53 | apply c7 E53); exact (p2 _); exact p7 _ _ _) | ((first | apply b9 E53 | apply c7 E53); exact (p4 _ _); exact p7 _ _ _) | ((first | apply b9 E58 | apply c7 E58); exact (O8 ns fl ok hd _); exact p7 _ _ _) | ((first | apply b9 E30 | apply c7 E30); exact (B0 ns hn _ _); exact p7 _ _ _) | ((first | apply b9 E60 | apply c7 E60); exact (H7 ns hn _ _); exact p7 _ _ _) | ((first | apply b9 E59 | apply c7 E59); exact (R6 ns hn fl hl hd _ s0 s1 false _); exact p7 _ _ _) | ((first | apply b9 E59 | apply c7 E59); exact (R6 ns hn fl hl hd _ e0 e1 true _); exact p7 _ _ _)))) | (refine n5 rfl rfl rfl ?_) | ((first | refine i3 (z := ?_) 0 rfl rfl rfl rfl (by decide) rfl ?_ ?_ | refine i3 (z := ?_) 1 rfl rfl rfl rfl (by decide) rfl ?_ ?_ | refine i3 (z := ?_) 2 rfl rfl rfl rfl (by decide) rfl ?_ ?_); rotate_left; (focus (simp only [S1, simprocAttr, V3, List.length_map, hsz, c1, c2, c3, a3, u9]; rfl))) | (refine b6 fun K hK => ?_) | (refine p6 [0, 1, 2, 3, 4, 5, 6, 7, 8, 9, 10, 11] 2 (fs := []) rfl (by kernel_rfl) (by kernel_rfl) ?_) | ((first | refine a9 ?_ | refine j4 (by kernel_rfl) ?_ | refine b7 ?_ | refine c9 ?_ | refine d4 ?_ | refine d7 ?_); try simp only [NB, simprocAttr]))
  exact U0 (.inr rfl) rfl rfl (by simp only [t4, q7, List.getElem?_cons_succ, List.getElem?_cons_zero, if_true]) (by omega) (by simp) (by simp) rfl
end
section
def oS := And.intro T2 (And.intro T3 (And.intro T4 (And.intro T22 (And.intro T23 (And.intro T25 (And.intro T53 (And.intro T66 (And.intro T68 (And.intro T70 (And.intro T73 (And.intro T95 (And.intro T97 T99))))))))))))
attribute [local irreducible] awp q9 m7 n7 r5 q8
variable {G : Nat → Option (List PV)}
noncomputable def E5 (ns : List Nd) (fl : List Fl) : Int × Int := (X5 ns fl).head?.getD (0, 0)
theorem Z8 {α : Type} {l : List α} {x : α} (h : l.head? = some x) : l ≠ [] := by rintro rfl; cases h
theorem eV (ns : List Nd) (fl : List Fl) (ok : NetOk ns fl) (h : Heap) : f9 Tryz.prog gW 22 [N5 ns fl] h (fun r h' => r = .tup [.i (E5 ns fl).1, .i (E5 ns fl).2] ∧ h' = h) := by
  have ha := fun h => pY ns fl ok h
  unfold E5
  generalize X5 ns fl = l at *
  cases hx : l.head? with
  | none =>
    have e : l = [] := by cases l with
      | nil => rfl
      | cons => cases hx
    have c : decide ((0 : Int) < 0) = false := rfl
    subst e
    refine d9 (rl := []) i6 Tryz.func22 rfl (rs := [.tmp 2, .tmp 3]) rfl Tryz.ntmps22 (by simp) ?_
    repeat' (first | ((repeat ((fail_if_success (refine hK _ ?_)); clear hK K)); refine hK _ ?_; clear hK K) | ((first | refine d8 fun K1 p7 => ?_ | refine d6 fun K1 p7 => ?_ | refine b5 fun A B hA hB => ?_); simp only [S1, simprocAttr, oS, List.length_map, c]; first | refine p7 _ ?_; clear p7 K1 | ((first | refine hA ?_ | refine hB ?_); clear hA hB A B) | ((first | apply b9 E37 | apply c7 E37); exact (ha _); refine p7 _ ?_; clear p7 K1) | (((first | (refine ⟨fun hg => hA ?_, fun hg => hB ?_⟩ <;> clear hA hB A B) | refine ⟨fun hg => ?_, fun hg => ?_⟩) <;> (try simp only [BN2] at hg) <;> (try simp only [hg, cndB])) <;> (try (refine p7 _ ?_; clear p7 K1)) <;> (try simp only [BN3] at hg))) | refine b6 fun K hK => ?_ | ((first | apply c8 | apply b8 | apply a9 | refine d5 ?_ | apply b7 | apply c9 | apply d4 | apply d7); try simp only [NB, simprocAttr]))
    all_goals simp only [S1, simprocAttr, ENB, oS]
    all_goals rfl
  | some x =>
    have c := fB (Z8 hx)
    have c0 : (0 : Int) ≤ 0 := Int.le_refl 0
    have hr : (l.map eQ)[0]? = some [.int .i64 x.1, .int .i64 x.2] := by rw [← List.head?_eq_getElem?, List.head?_map, hx]; rfl
    refine d9 (rl := []) i6 Tryz.func22 rfl (rs := [.tmp 2, .tmp 3]) rfl Tryz.ntmps22 (by simp) ?_
    repeat' (first | ((repeat ((fail_if_success (refine hK _ ?_)); clear hK K)); refine hK _ ?_; clear hK K) | ((first | refine d8 fun K1 p7 => ?_ | refine d6 fun K1 p7 => ?_ | refine b5 fun A B hA hB => ?_); simp only [S1, simprocAttr, oS, List.length_map, c, c0, hr]; first | refine p7 _ ?_; clear p7 K1 | ((first | refine hA ?_ | refine hB ?_); clear hA hB A B) | ((first | apply b9 E37 | apply c7 E37); exact (ha _); refine p7 _ ?_; clear p7 K1) | (((first | (refine ⟨fun hg => hA ?_, fun hg => hB ?_⟩ <;> clear hA hB A B) | refine ⟨fun hg => ?_, fun hg => ?_⟩) <;> (try simp only [BN2] at hg) <;> (try simp only [hg, cndB])) <;> (try (refine p7 _ ?_; clear p7 K1)) <;> (try simp only [BN3] at hg))) | refine b6 fun K hK => ?_ | ((first | apply c8 | apply b8 | apply a9 | refine d5 ?_ | apply b7 | apply c9 | apply d4 | apply d7); try simp only [NB, simprocAttr]))
    all_goals simp only [S1, simprocAttr, ENB, oS]
    all_goals rfl
theorem nJ {p : Nat → Bool} {n j : Nat} (h1 : ∀ i, i < j → p i = false) (h2 : p j = true) (hj : j < n) : (List.range n).find? p = some j := by
  rw [List.find?_range_eq_some]
  exact ⟨h2, List.mem_range.mpr hj, fun i hi => by rw [h1 i hi]; rfl⟩
theorem bz {rule : Int} {p : Nat → Bool} {n j : Nat} (h1 : ∀ i, i < j → p i = false) (h2 : p j = true) (hj : j < n) : (plF rule p n).head? = some (rule, (j : Int)) := by
  rw [rC, nJ h1 h2 hj]; rfl
theorem F3 {rule : Int} {p : Nat → Bool} {n : Nat} (h1 : ∀ i, i < n → p i = false) : plF rule p n = [] := by
  unfold plF
  rw [List.filter_eq_nil_iff.mpr (fun i hi => by rw [h1 i (List.mem_range.mp hi)]; decide)]
  rfl
end
section
def y7 := And.intro T2 (And.intro T3 (And.intro T4 (And.intro T22 (And.intro T23 (And.intro T25 (And.intro T53 (And.intro T57 (And.intro T66 (And.intro T68 (And.intro T70 (And.intro T73 T95)))))))))))
attribute [local irreducible] awp q9 m7 n7 r5 q8
variable {G : Nat → Option (List PV)}
theorem lY {α : Type} {p : α → Bool} : ∀ {l : List α} {i j : Nat} {k : α}, l[j]? = some k → p k = true → G2 p l i ≤ ((i + j : Nat) : Int) ∧ (i : Int) ≤ G2 p l i
  | [], i, j, k, h, hp => by simp at h
  | x :: r, i, 0, k, h, hp => by
    simp at h; subst h
    unfold G2; rw [if_pos hp]; omega
  | x :: r, i, j + 1, k, h, hp => by
    unfold G2
    split
    · omega
    · have := lY (l := r) (i := i + 1) (j := j) (by simpa using h) hp
      omega
theorem rE {ns : List Nd} {i : Nat} {k : Nd} {kind : Int} (h : ns[i]? = some k) (hk : (k.kind == kind) = true) : o4 ns kind ≤ (i : Int) := by
  have := (lY (p := fun x : Nd => x.kind == kind) (i := 0) h hk).1
  unfold o4; omega
theorem sR {ns : List Nd} {fl : List Fl} {i : Nat} {k : Nd} (h : ns[i]? = some k) : U6 ns fl i = ((!(C8 ns fl i) || (k.kind == 1 && decide (o4 ns 1 < (i : Int)))) || (k.kind == 2 && decide (o4 ns 2 < (i : Int)))) := by
  have e : u3 ns i = k.kind := by unfold u3; rw [Int.toNat_natCast, h]
  have key : ∀ kind : Int, (k.kind == kind && ((i : Int) != o4 ns kind)) = (k.kind == kind && decide (o4 ns kind < (i : Int))) := by
    intro kind
    cases hk : (k.kind == kind) with
    | false => rfl
    | true =>
      have := rE h hk
      simp only [Bool.true_and]
      rw [Bool.eq_iff_iff]; simp only [bne_iff_ne, decide_eq_true_eq]; omega
  unfold U6
  rw [e, key, key]
theorem pZ (fl : List Fl) : C3 true fl = (esF fl).map Prod.swap := rfl
theorem nK (fl : List Fl) : C3 false fl = esF fl := rfl
theorem sS {ns : List Nd} {fl : List Fl} {i : Nat} (hi : i < ns.length) (h2 : (o4 ns 2).toNat < ns.length) :
    gJ ns fl i = (!((O7 (esF fl) ns.length (o4 ns 1).toNat)[i]?.getD false) || !((O7 (esF fl) ns.length i)[(o4 ns 2).toNat]?.getD false)) := by
  unfold gJ
  rw [pZ, nK]
  congr 2
  have a := lQ (es := (esF fl).map Prod.swap) (n := ns.length) (a := (o4 ns 2).toNat) hi
  have b := lQ (es := esF fl) (n := ns.length) (a := i) h2
  rw [Rch.rev] at a
  have la := T6 ((esF fl).map Prod.swap) ns.length (o4 ns 2).toNat
  have lb := T6 (esF fl) ns.length i
  rw [List.getElem?_eq_getElem (by omega)] at a b ⊢
  rw [List.getElem?_eq_getElem (by omega)]
  simp only [Option.some.injEq, Option.getD_some] at a b ⊢
  rw [Bool.eq_iff_iff, a, b]
theorem tV {ns : List Nd} {fl : List Fl} (h : (decide (24 < (ns.length : Int)) || decide (40 < (fl.length : Int))) = true) : E5 ns fl = (1, 0) := by
  unfold E5 X5; rw [if_pos h]; rfl
theorem tW {ns : List Nd} {fl : List Fl} (h : (decide (24 < (ns.length : Int)) || decide (40 < (fl.length : Int))) = false) {j : Nat} (h1 : ∀ i, i < j → X3 ns i = false) (h2 : X3 ns j = true) (hj : j < ns.length) : E5 ns fl = (1, (j : Int)) := by
  have e := bz (rule := 1) h1 h2 hj
  unfold E5 X5
  rw [if_neg (by rw [h]; decide), if_pos (Z8 e), e]; rfl
theorem tX {ns : List Nd} {fl : List Fl} (h : (decide (24 < (ns.length : Int)) || decide (40 < (fl.length : Int))) = false) (n1 : ∀ i, i < ns.length → X3 ns i = false) {j : Nat} (h1 : ∀ i, i < j → X4 ns fl i = false) (h2 : X4 ns fl j = true) (hj : j < fl.length) : E5 ns fl = (2, (j : Int)) := by
  have e := bz (rule := 2) h1 h2 hj
  unfold E5 X5
  rw [if_neg (by rw [h]; decide), if_neg (by rw [F3 n1]; simp), if_pos (Z8 e), e]; rfl
theorem tY {ns : List Nd} {fl : List Fl} (h : (decide (24 < (ns.length : Int)) || decide (40 < (fl.length : Int))) = false) (n1 : ∀ i, i < ns.length → X3 ns i = false) (n2 : ∀ i, i < fl.length → X4 ns fl i = false) {j : Nat} (h1 : ∀ i, i < j → U6 ns fl i = false) (h2 : U6 ns fl j = true) (hj : j < ns.length) : E5 ns fl = (3, (j : Int)) := by
  have e := bz (rule := 3) h1 h2 hj
  have e2 : (F7 ns fl).head? = some (3, (j : Int)) := by
    unfold F7; rw [List.head?_append, e]; rfl
  unfold E5 X5
  rw [if_neg (by rw [h]; decide), if_neg (by rw [F3 n1]; simp), if_neg (by rw [F3 n2]; simp), if_pos (Z8 e2), e2]; rfl
theorem tZ {ns : List Nd} {fl : List Fl} (h : (decide (24 < (ns.length : Int)) || decide (40 < (fl.length : Int))) = false) (n1 : ∀ i, i < ns.length → X3 ns i = false) (n2 : ∀ i, i < fl.length → X4 ns fl i = false) (n3 : ∀ i, i < ns.length → U6 ns fl i = false) (hE : I4 ns = true) : E5 ns fl = (3, (ns.length : Int)) := by
  have e2 : F7 ns fl = [(3, (ns.length : Int))] := by
    unfold F7; rw [F3 n3, if_pos hE]; rfl
  unfold E5 X5
  rw [if_neg (by rw [h]; decide), if_neg (by rw [F3 n1]; simp), if_neg (by rw [F3 n2]; simp), e2]; rfl
theorem ua {ns : List Nd} {fl : List Fl} (h : (decide (24 < (ns.length : Int)) || decide (40 < (fl.length : Int))) = false) (n1 : ∀ i, i < ns.length → X3 ns i = false) (n2 : ∀ i, i < fl.length → X4 ns fl i = false) (n3 : ∀ i, i < ns.length → U6 ns fl i = false) (hE : I4 ns = false) : E5 ns fl = (plF 4 (gJ ns fl) ns.length).head?.getD (0, 0) := by
  have e2 : F7 ns fl = [] := by
    unfold F7; rw [F3 n3, hE]; rfl
  unfold E5 X5
  rw [if_neg (by rw [h]; decide), if_neg (by rw [F3 n1]; simp), if_neg (by rw [F3 n2]; simp), if_neg (by rw [e2]; simp)]
theorem oT {p : Nat → Bool} {j : Nat} (h : ∀ i, i < j → p i = false) (hj : p j = false) : ∀ i, i < j + 1 → p i = false := fun i hi => by
  rcases Nat.lt_or_ge i j with h1 | h1
  · exact h i h1
  · obtain rfl : i = j := by omega
    exact hj
theorem M4 (ns : List Nd) (fl : List Fl) (ok : NetOk ns fl) (h : Heap) : f9 Tryz.prog G 19 [N5 ns fl] h (fun r h' => r = .agg [.i (E5 ns fl).1, .i (E5 ns fl).2] ∧ h' = h) := by
  have hn := ok.n
  have hl := ok.f
  obtain ⟨m1, hm1, ht1⟩ := ok.tn
  obtain ⟨m2, hm2, ht2⟩ := ok.tf
  refine d9 (rl := []) i6 Tryz.func19 rfl (rs := [.cell 2 57]) rfl Tryz.ntmps19 (by simp) ?_
  refine b6 fun K hK => ?_
  repeat' (first | ((first | refine c8 ?_ | refine b8 ?_); (try simp only [NB]); ((repeat ((fail_if_success (refine hK _ ?_)); clear hK K)); refine hK _ ?_; clear hK K)) | ((first | refine d8 fun K1 p7 => ?_ | refine d6 fun K1 p7 => ?_ | refine b5 fun A B hA hB => ?_); simp only [S1, simprocAttr, y7]; first | (refine p7 _ ?_; clear p7 K1) | ((first | refine hA ?_ | refine hB ?_); clear hA hB A B) | (refine g8 (v := ?_) (fun hg p8 => ?_) ?_; rotate_left; (focus (try ((try simp only [BN] at hg); simp only [S1, simprocAttr, y7, hg] at p8 ⊢)); first | exact p8); (refine p7 _ ?_; clear p7 K1)) | (((first | (refine ⟨fun hg => hA ?_, fun hg => hB ?_⟩ <;> clear hA hB A B) | refine ⟨fun hg => ?_, fun hg => ?_⟩) <;> (try simp only [BN2] at hg) <;> (try simp only [hg, cndB])) <;> (try (refine p7 _ ?_; clear p7 K1)) <;> (try simp only [BN3] at hg))) | (fail) | ((first | refine a9 ?_ | refine j4 (by kernel_rfl) ?_ | refine b7 ?_ | refine c9 ?_ | refine d4 ?_ | refine d7 ?_); try simp only [NB, simprocAttr]; (try ((repeat ((fail_if_success (refine hK _ ?_)); clear hK K)); refine hK _ ?_; clear hK K))))
  cases hsz : (decide (24 < (ns.length : Int)) || decide (40 < (fl.length : Int))) with
  | true =>
    rw [tV hsz]
    repeat' (first | ((repeat ((fail_if_success (refine hK _ ?_)); clear hK K)); refine hK _ ?_; clear hK K) | ((first | refine d8 fun K1 p7 => ?_ | refine d6 fun K1 p7 => ?_ | refine b5 fun A B hA hB => ?_); simp only [S1, simprocAttr, y7, List.length_map, hsz]; first | refine p7 _ ?_; clear p7 K1 | ((first | refine hA ?_ | refine hB ?_); clear hA hB A B) | (refine g8 (v := ?_) (fun hg p8 => ?_) ?_; rotate_left; (focus (try ((try simp only [BN] at hg); simp only [S1, simprocAttr, y7, List.length_map, hsz, hg] at p8 ⊢)); first | exact p8); refine p7 _ ?_; clear p7 K1) | (((first | (refine ⟨fun hg => hA ?_, fun hg => hB ?_⟩ <;> clear hA hB A B) | refine ⟨fun hg => ?_, fun hg => ?_⟩) <;> (try simp only [BN2] at hg) <;> (try simp only [hg, cndB])) <;> (try (refine p7 _ ?_; clear p7 K1)) <;> (try simp only [BN3] at hg))) | refine b6 fun K hK => ?_ | ((first | apply c8 | apply b8 | apply a9 | refine d5 ?_ | apply b7 | apply c9 | apply d4 | apply d7); try simp only [NB, simprocAttr]))
    all_goals simp only [S1, simprocAttr, ENB, y7]
  | false =>
    repeat' (first | ((repeat ((fail_if_success (refine hK _ ?_)); clear hK K)); refine hK _ ?_; clear hK K) | ((first | refine d8 fun K1 p7 => ?_ | refine d6 fun K1 p7 => ?_ | refine b5 fun A B hA hB => ?_); simp only [S1, simprocAttr, y7, List.length_map, hsz]; first | refine p7 _ ?_; clear p7 K1 | ((first | refine hA ?_ | refine hB ?_); clear hA hB A B) | (refine g8 (v := ?_) (fun hg p8 => ?_) ?_; rotate_left; (focus (try ((try simp only [BN] at hg); simp only [S1, simprocAttr, y7, List.length_map, hsz, hg] at p8 ⊢)); first | exact p8); refine p7 _ ?_; clear p7 K1) | (((first | (refine ⟨fun hg => hA ?_, fun hg => hB ?_⟩ <;> clear hA hB A B) | refine ⟨fun hg => ?_, fun hg => ?_⟩) <;> (try simp only [BN2] at hg) <;> (try simp only [hg, cndB])) <;> (try (refine p7 _ ?_; clear p7 K1)) <;> (try simp only [BN3] at hg))) | refine b6 fun K hK => ?_ | ((first | apply c8 | apply b8 | apply a9 | refine d5 ?_ | apply b7 | apply c9 | apply d4 | apply d7); try simp only [NB, simprocAttr]))
    refine s5 ns.length 131 (fun j => [(28, .i j), (27, .i ns.length), (26, .p (.sl (ns.map eN))), (2, .ptr (h.length + 1) 0 0), (1, .ptr h.length 0 0)])
      (fun j => [some ⟨0, D1 ns fl⟩, some ⟨0, [.i 0, .i 0]⟩]) (fun j => ∀ i, i < j → X3 ns i = false) ?_ (fun i hi => by omega) fun j hj hp K hK => ?_
    · (refine ⟨rfl, (by first | exact ⟨_, rfl⟩ | exact ⟨[], by simp⟩), ?_, ?_⟩ <;> simp only [S1, simprocAttr, KNB] <;> (try and_intros) <;> (try assumption) <;> (try trivial) <;> (try omega))
    rcases Nat.lt_or_ge j ns.length with hlt | hge
    · obtain ⟨k, hx⟩ : ∃ k, ns[j]? = some k := ⟨_, List.getElem?_eq_getElem hlt⟩
      have e : X3 ns j = !(aJ k.kind k.a k.term) := by unfold X3; rw [hx]
      have ho := fun h => pQ (G := G) (ht1 k (List.mem_of_getElem? hx)) hm1 k.kind k.a h
      cases hq : aJ k.kind k.a k.term with
      | true =>
        rw [hq] at ho e
        repeat' (first | ((repeat ((fail_if_success (refine hK _ ?_)); clear hK K)); refine hK _ ?_; clear hK K) | ((first | refine d8 fun K1 p7 => ?_ | refine d6 fun K1 p7 => ?_ | refine b5 fun A B hA hB => ?_); simp only [S1, simprocAttr, y7, B8 hx, I9 hlt, A9 hn hlt, eN, List.length_map]; first | refine p7 _ ?_; clear p7 K1 | ((first | refine hA ?_ | refine hB ?_); clear hA hB A B) | ((first | apply b9 E31 | apply c7 E31); exact (ho _); refine p7 _ ?_; clear p7 K1) | (refine g8 (v := ?_) (fun hg p8 => ?_) ?_; rotate_left; (focus (try ((try simp only [BN] at hg); simp only [S1, simprocAttr, y7, B8 hx, I9 hlt, A9 hn hlt, eN, List.length_map, hg] at p8 ⊢)); first | exact p8 | ((first | apply b9 E31 | apply c7 E31); exact (ho _); exact p8)); refine p7 _ ?_; clear p7 K1) | (((first | (refine ⟨fun hg => hA ?_, fun hg => hB ?_⟩ <;> clear hA hB A B) | refine ⟨fun hg => ?_, fun hg => ?_⟩) <;> (try simp only [BN2] at hg) <;> (try simp only [hg, cndB])) <;> (try (refine p7 _ ?_; clear p7 K1)) <;> (try simp only [BN3] at hg))) | refine b6 fun K hK => ?_ | ((first | apply c8 | apply b8 | apply a9 | refine d5 ?_ | apply b7 | apply c9 | apply d4 | apply d7); try simp only [NB, simprocAttr]))
        all_goals exact ⟨hlt, oT hp e, by (refine ⟨rfl, (by first | exact ⟨_, rfl⟩ | exact ⟨[], by simp⟩), ?_, ?_⟩ <;> simp only [S1, simprocAttr, KNB] <;> (try and_intros) <;> (try assumption) <;> (try trivial) <;> (try omega))⟩
      | false =>
        rw [hq] at ho e
        rw [tW hsz hp e hlt]
        repeat' (first | ((repeat ((fail_if_success (refine hK _ ?_)); clear hK K)); refine hK _ ?_; clear hK K) | ((first | refine d8 fun K1 p7 => ?_ | refine d6 fun K1 p7 => ?_ | refine b5 fun A B hA hB => ?_); simp only [S1, simprocAttr, y7, B8 hx, I9 hlt, A9 hn hlt, eN, List.length_map]; first | refine p7 _ ?_; clear p7 K1 | ((first | refine hA ?_ | refine hB ?_); clear hA hB A B) | ((first | apply b9 E31 | apply c7 E31); exact (ho _); refine p7 _ ?_; clear p7 K1) | (refine g8 (v := ?_) (fun hg p8 => ?_) ?_; rotate_left; (focus (try ((try simp only [BN] at hg); simp only [S1, simprocAttr, y7, B8 hx, I9 hlt, A9 hn hlt, eN, List.length_map, hg] at p8 ⊢)); first | exact p8 | ((first | apply b9 E31 | apply c7 E31); exact (ho _); exact p8)); refine p7 _ ?_; clear p7 K1) | (((first | (refine ⟨fun hg => hA ?_, fun hg => hB ?_⟩ <;> clear hA hB A B) | refine ⟨fun hg => ?_, fun hg => ?_⟩) <;> (try simp only [BN2] at hg) <;> (try simp only [hg, cndB])) <;> (try (refine p7 _ ?_; clear p7 K1)) <;> (try simp only [BN3] at hg))) | refine b6 fun K hK => ?_ | ((first | apply c8 | apply b8 | apply a9 | refine d5 ?_ | apply b7 | apply c9 | apply d4 | apply d7); try simp only [NB, simprocAttr]))
        all_goals simp only [S1, simprocAttr, ENB, y7]
    have n1 : ∀ i, i < ns.length → X3 ns i = false := fun i hi => hp i (by omega)
    obtain rfl : j = ns.length := by omega
    repeat' (first | ((repeat ((fail_if_success (refine hK _ ?_)); clear hK K)); refine hK _ ?_; clear hK K) | ((first | refine d8 fun K1 p7 => ?_ | refine d6 fun K1 p7 => ?_ | refine b5 fun A B hA hB => ?_); simp only [S1, simprocAttr, y7, T5, List.length_map]; first | refine p7 _ ?_; clear p7 K1 | ((first | refine hA ?_ | refine hB ?_); clear hA hB A B) | (refine g8 (v := ?_) (fun hg p8 => ?_) ?_; rotate_left; (focus (try ((try simp only [BN] at hg); simp only [S1, simprocAttr, y7, T5, List.length_map, hg] at p8 ⊢)); first | exact p8); refine p7 _ ?_; clear p7 K1) | (((first | (refine ⟨fun hg => hA ?_, fun hg => hB ?_⟩ <;> clear hA hB A B) | refine ⟨fun hg => ?_, fun hg => ?_⟩) <;> (try simp only [BN2] at hg) <;> (try simp only [hg, cndB])) <;> (try (refine p7 _ ?_; clear p7 K1)) <;> (try simp only [BN3] at hg))) | refine b6 fun K hK => ?_ | ((first | apply c8 | apply b8 | apply a9 | refine d5 ?_ | apply b7 | apply c9 | apply d4 | apply d7); try simp only [NB, simprocAttr]))
    refine s5 fl.length 131 (fun j => [(42, .i j), (41, .i fl.length), (40, .p (.sl (fl.map eF))), (2, .ptr (h.length + 1) 0 0), (1, .ptr h.length 0 0)])
      (fun j => [some ⟨0, D1 ns fl⟩, some ⟨0, [.i 0, .i 0]⟩]) (fun j => ∀ i, i < j → X4 ns fl i = false) ?_ (fun i hi => by omega) fun j hj hp K hK => ?_
    · (refine ⟨rfl, (by first | exact ⟨_, rfl⟩ | exact ⟨[], by simp⟩), ?_, ?_⟩ <;> simp only [S1, simprocAttr, KNB] <;> (try and_intros) <;> (try assumption) <;> (try trivial) <;> (try omega))
    rcases Nat.lt_or_ge j fl.length with hlt | hge
    · obtain ⟨k, hx⟩ : ∃ k, fl[j]? = some k := ⟨_, List.getElem?_eq_getElem hlt⟩
      have e : X4 ns fl j = !(Z6 ns fl k) := by unfold X4; rw [hx]
      have ho := fun h => pT (G := G) ns hn fl hl k (ht2 k (List.mem_of_getElem? hx)) hm2 h
      cases hq : Z6 ns fl k with
      | true =>
        rw [hq] at ho e
        repeat' (first | ((repeat ((fail_if_success (refine hK _ ?_)); clear hK K)); refine hK _ ?_; clear hK K) | ((first | refine d8 fun K1 p7 => ?_ | refine d6 fun K1 p7 => ?_ | refine b5 fun A B hA hB => ?_); simp only [S1, simprocAttr, y7, I8 hx, Q9 hlt, G1 hl hlt, eF, List.length_map]; first | refine p7 _ ?_; clear p7 K1 | ((first | refine hA ?_ | refine hB ?_); clear hA hB A B) | ((first | apply b9 E32 | apply c7 E32); exact (ho _); refine p7 _ ?_; clear p7 K1) | (refine g8 (v := ?_) (fun hg p8 => ?_) ?_; rotate_left; (focus (try ((try simp only [BN] at hg); simp only [S1, simprocAttr, y7, I8 hx, Q9 hlt, G1 hl hlt, eF, List.length_map, hg] at p8 ⊢)); first | exact p8 | ((first | apply b9 E32 | apply c7 E32); exact (ho _); exact p8)); refine p7 _ ?_; clear p7 K1) | (((first | (refine ⟨fun hg => hA ?_, fun hg => hB ?_⟩ <;> clear hA hB A B) | refine ⟨fun hg => ?_, fun hg => ?_⟩) <;> (try simp only [BN2] at hg) <;> (try simp only [hg, cndB])) <;> (try (refine p7 _ ?_; clear p7 K1)) <;> (try simp only [BN3] at hg))) | refine b6 fun K hK => ?_ | ((first | apply c8 | apply b8 | apply a9 | refine d5 ?_ | apply b7 | apply c9 | apply d4 | apply d7); try simp only [NB, simprocAttr]))
        all_goals exact ⟨hlt, oT hp e, by (refine ⟨rfl, (by first | exact ⟨_, rfl⟩ | exact ⟨[], by simp⟩), ?_, ?_⟩ <;> simp only [S1, simprocAttr, KNB] <;> (try and_intros) <;> (try assumption) <;> (try trivial) <;> (try omega))⟩
      | false =>
        rw [hq] at ho e
        rw [tX hsz n1 hp e hlt]
        repeat' (first | ((repeat ((fail_if_success (refine hK _ ?_)); clear hK K)); refine hK _ ?_; clear hK K) | ((first | refine d8 fun K1 p7 => ?_ | refine d6 fun K1 p7 => ?_ | refine b5 fun A B hA hB => ?_); simp only [S1, simprocAttr, y7, I8 hx, Q9 hlt, G1 hl hlt, eF, List.length_map]; first | refine p7 _ ?_; clear p7 K1 | ((first | refine hA ?_ | refine hB ?_); clear hA hB A B) | ((first | apply b9 E32 | apply c7 E32); exact (ho _); refine p7 _ ?_; clear p7 K1) | (refine g8 (v := ?_) (fun hg p8 => ?_) ?_; rotate_left; (focus (try ((try simp only [BN] at hg); simp only [S1, simprocAttr, y7, I8 hx, Q9 hlt, G1 hl hlt, eF, List.length_map, hg] at p8 ⊢)); first | exact p8 | ((first | apply b9 E32 | apply c7 E32); exact (ho _); exact p8)); refine p7 _ ?_; clear p7 K1) | (((first | (refine ⟨fun hg => hA ?_, fun hg => hB ?_⟩ <;> clear hA hB A B) | refine ⟨fun hg => ?_, fun hg => ?_⟩) <;> (try simp only [BN2] at hg) <;> (try simp only [hg, cndB])) <;> (try (refine p7 _ ?_; clear p7 K1)) <;> (try simp only [BN3] at hg))) | refine b6 fun K hK => ?_ | ((first | apply c8 | apply b8 | apply a9 | refine d5 ?_ | apply b7 | apply c9 | apply d4 | apply d7); try simp only [NB, simprocAttr]))
        all_goals simp only [S1, simprocAttr, ENB, y7]
    have n2 : ∀ i, i < fl.length → X4 ns fl i = false := fun i hi => hp i (by omega)
    have hd := ku (F3 (rule := 2) n2)
    obtain rfl : j = fl.length := by omega
    repeat' (first | ((repeat ((fail_if_success (refine hK _ ?_)); clear hK K)); refine hK _ ?_; clear hK K) | ((first | refine d8 fun K1 p7 => ?_ | refine d6 fun K1 p7 => ?_ | refine b5 fun A B hA hB => ?_); simp only [S1, simprocAttr, y7, iC, List.length_map]; first | refine p7 _ ?_; clear p7 K1 | ((first | refine hA ?_ | refine hB ?_); clear hA hB A B) | ((first | apply b9 E33 | apply c7 E33); exact (bc ns hn _ _ _); refine p7 _ ?_; clear p7 K1) | (refine g8 (v := ?_) (fun hg p8 => ?_) ?_; rotate_left; (focus (try ((try simp only [BN] at hg); simp only [S1, simprocAttr, y7, iC, List.length_map, hg] at p8 ⊢)); first | exact p8 | ((first | apply b9 E33 | apply c7 E33); exact (bc ns hn _ _ _); exact p8)); refine p7 _ ?_; clear p7 K1) | (((first | (refine ⟨fun hg => hA ?_, fun hg => hB ?_⟩ <;> clear hA hB A B) | refine ⟨fun hg => ?_, fun hg => ?_⟩) <;> (try simp only [BN2] at hg) <;> (try simp only [hg, cndB])) <;> (try (refine p7 _ ?_; clear p7 K1)) <;> (try simp only [BN3] at hg))) | refine b6 fun K hK => ?_ | ((first | apply c8 | apply b8 | apply a9 | refine d5 ?_ | apply b7 | apply c9 | apply d4 | apply d7); try simp only [NB, simprocAttr]))
    refine s5 ns.length 131 (fun j => [(61, .i j), (60, .i ns.length), (59, .p (.sl (ns.map eN))), (8, .i (o4 ns 2)), (7, .i (o4 ns 1)), (2, .ptr (h.length + 1) 0 0), (1, .ptr h.length 0 0)])
      (fun j => [some ⟨0, D1 ns fl⟩, some ⟨0, [.i 0, .i 0]⟩]) (fun j => ∀ i, i < j → U6 ns fl i = false) ?_ (fun i hi => by omega) fun j hj hp K hK => ?_
    · (refine ⟨rfl, (by first | exact ⟨_, rfl⟩ | exact ⟨[], by simp⟩), ?_, ?_⟩ <;> simp only [S1, simprocAttr, KNB] <;> (try and_intros) <;> (try assumption) <;> (try trivial) <;> (try omega))
    rcases Nat.lt_or_ge j ns.length with hlt | hge
    · obtain ⟨k, hx⟩ : ∃ k, ns[j]? = some k := ⟨_, List.getElem?_eq_getElem hlt⟩
      have e := sR (fl := fl) hx
      have ho := fun h => lW (G := G) ns hn fl hl (fun f hf => (hd f hf).2) j (by omega) (by omega) h
      cases hq : U6 ns fl j with
      | false =>
        rw [hq] at e
        repeat' (first | ((repeat ((fail_if_success (refine hK _ ?_)); clear hK K)); refine hK _ ?_; clear hK K) | ((first | refine d8 fun K1 p7 => ?_ | refine d6 fun K1 p7 => ?_ | refine b5 fun A B hA hB => ?_); simp only [S1, simprocAttr, y7, B8 hx, I9 hlt, A9 hn hlt, eN, List.length_map, e.symm]; first | refine p7 _ ?_; clear p7 K1 | ((first | refine hA ?_ | refine hB ?_); clear hA hB A B) | ((first | apply b9 E34 | apply c7 E34); exact (ho _); refine p7 _ ?_; clear p7 K1) | (refine g8 (v := ?_) (fun hg p8 => ?_) ?_; rotate_left; (focus (try ((try simp only [BN] at hg); simp only [S1, simprocAttr, y7, B8 hx, I9 hlt, A9 hn hlt, eN, List.length_map, e.symm, hg] at p8 ⊢)); first | exact p8 | ((first | apply b9 E34 | apply c7 E34); exact (ho _); exact p8)); refine p7 _ ?_; clear p7 K1) | (((first | (refine ⟨fun hg => hA ?_, fun hg => hB ?_⟩ <;> clear hA hB A B) | refine ⟨fun hg => ?_, fun hg => ?_⟩) <;> (try simp only [BN2] at hg) <;> (try simp only [hg, cndB])) <;> (try (refine p7 _ ?_; clear p7 K1)) <;> (try simp only [BN3] at hg))) | refine b6 fun K hK => ?_ | ((first | apply c8 | apply b8 | apply a9 | refine d5 ?_ | apply b7 | apply c9 | apply d4 | apply d7); try simp only [NB, simprocAttr]))
        all_goals exact ⟨hlt, oT hp hq, by (refine ⟨rfl, (by first | exact ⟨_, rfl⟩ | exact ⟨[], by simp⟩), ?_, ?_⟩ <;> simp only [S1, simprocAttr, KNB] <;> (try and_intros) <;> (try assumption) <;> (try trivial) <;> (try omega))⟩
      | true =>
        rw [hq] at e
        rw [tY hsz n1 n2 hp hq hlt]
        repeat' (first | ((repeat ((fail_if_success (refine hK _ ?_)); clear hK K)); refine hK _ ?_; clear hK K) | ((first | refine d8 fun K1 p7 => ?_ | refine d6 fun K1 p7 => ?_ | refine b5 fun A B hA hB => ?_); simp only [S1, simprocAttr, y7, B8 hx, I9 hlt, A9 hn hlt, eN, List.length_map, e.symm]; first | refine p7 _ ?_; clear p7 K1 | ((first | refine hA ?_ | refine hB ?_); clear hA hB A B) | ((first | apply b9 E34 | apply c7 E34); exact (ho _); refine p7 _ ?_; clear p7 K1) | (refine g8 (v := ?_) (fun hg p8 => ?_) ?_; rotate_left; (focus (try ((try simp only [BN] at hg); simp only [S1, simprocAttr, y7, B8 hx, I9 hlt, A9 hn hlt, eN, List.length_map, e.symm, hg] at p8 ⊢)); first | exact p8 | ((first | apply b9 E34 | apply c7 E34); exact (ho _); exact p8)); refine p7 _ ?_; clear p7 K1) | (((first | (refine ⟨fun hg => hA ?_, fun hg => hB ?_⟩ <;> clear hA hB A B) | refine ⟨fun hg => ?_, fun hg => ?_⟩) <;> (try simp only [BN2] at hg) <;> (try simp only [hg, cndB])) <;> (try (refine p7 _ ?_; clear p7 K1)) <;> (try simp only [BN3] at hg))) | refine b6 fun K hK => ?_ | ((first | apply c8 | apply b8 | apply a9 | refine d5 ?_ | apply b7 | apply c9 | apply d4 | apply d7); try simp only [NB, simprocAttr]))
        all_goals simp only [S1, simprocAttr, ENB, y7]
    have n3 : ∀ i, i < ns.length → U6 ns fl i = false := fun i hi => hp i (by omega)
    obtain rfl : j = ns.length := by omega
    cases hE : I4 ns with
    | true =>
      have er := tZ hsz n1 n2 n3 hE
      unfold I4 at hE
      repeat' (first | ((repeat ((fail_if_success (refine hK _ ?_)); clear hK K)); refine hK _ ?_; clear hK K) | ((first | refine d8 fun K1 p7 => ?_ | refine d6 fun K1 p7 => ?_ | refine b5 fun A B hA hB => ?_); simp only [S1, simprocAttr, y7, T5, hE, List.length_map]; first | refine p7 _ ?_; clear p7 K1 | ((first | refine hA ?_ | refine hB ?_); clear hA hB A B) | (refine g8 (v := ?_) (fun hg p8 => ?_) ?_; rotate_left; (focus (try ((try simp only [BN] at hg); simp only [S1, simprocAttr, y7, T5, hE, List.length_map, hg] at p8 ⊢)); first | exact p8); refine p7 _ ?_; clear p7 K1) | (((first | (refine ⟨fun hg => hA ?_, fun hg => hB ?_⟩ <;> clear hA hB A B) | refine ⟨fun hg => ?_, fun hg => ?_⟩) <;> (try simp only [BN2] at hg) <;> (try simp only [hg, cndB])) <;> (try (refine p7 _ ?_; clear p7 K1)) <;> (try simp only [BN3] at hg))) | refine b6 fun K hK => ?_ | ((first | apply c8 | apply b8 | apply a9 | refine d5 ?_ | apply b7 | apply c9 | apply d4 | apply d7); try simp only [NB, simprocAttr]))
      all_goals simp only [S1, simprocAttr, ENB, y7]
      all_goals rw [er]
    | false =>
      have hen := ua hsz n1 n2 n3 hE
      obtain ⟨⟨s0, s1⟩, e0, e1⟩ := kv hE
      unfold I4 at hE
      repeat' (first | ((repeat ((fail_if_success (refine hK _ ?_)); clear hK K)); refine hK _ ?_; clear hK K) | ((first | refine d8 fun K1 p7 => ?_ | refine d6 fun K1 p7 => ?_ | refine b5 fun A B hA hB => ?_); simp only [S1, simprocAttr, y7, T5, hE, List.length_map]; first | refine p7 _ ?_; clear p7 K1 | ((first | refine hA ?_ | refine hB ?_); clear hA hB A B) | ((first | apply b9 E35 | apply c7 E35); exact (bf ns hn fl hl hd _ s0 s1 _); refine p7 _ ?_; clear p7 K1) | (refine g8 (v := ?_) (fun hg p8 => ?_) ?_; rotate_left; (focus (try ((try simp only [BN] at hg); simp only [S1, simprocAttr, y7, T5, hE, List.length_map, hg] at p8 ⊢)); first | exact p8 | ((first | apply b9 E35 | apply c7 E35); exact (bf ns hn fl hl hd _ s0 s1 _); exact p8)); refine p7 _ ?_; clear p7 K1) | (((first | (refine ⟨fun hg => hA ?_, fun hg => hB ?_⟩ <;> clear hA hB A B) | refine ⟨fun hg => ?_, fun hg => ?_⟩) <;> (try simp only [BN2] at hg) <;> (try simp only [hg, cndB])) <;> (try (refine p7 _ ?_; clear p7 K1)) <;> (try simp only [BN3] at hg))) | refine b6 fun K hK => ?_ | ((first | apply c8 | apply b8 | apply a9 | refine d5 ?_ | apply b7 | apply c9 | apply d4 | apply d7); try simp only [NB, simprocAttr]))
      refine s5 ns.length 131 (fun j => [(109, .i j), (108, .i ns.length), (107, .p (.sl (ns.map eN))), (11, aBl (O7 (esF fl) ns.length (o4 ns 1).toNat)), (8, .i (o4 ns 2)), (7, .i (o4 ns 1)), (2, .ptr (h.length + 1) 0 0), (1, .ptr h.length 0 0)])
        (fun j => [some ⟨0, D1 ns fl⟩, some ⟨0, [.i 0, .i 0]⟩]) (fun j => ∀ i, i < j → gJ ns fl i = false) ?_ (fun i hi => by omega) fun j hj hp K hK => ?_
      · (refine ⟨rfl, (by first | exact ⟨_, rfl⟩ | exact ⟨[], by simp⟩), ?_, ?_⟩ <;> simp only [S1, simprocAttr, KNB] <;> (try and_intros) <;> (try assumption) <;> (try trivial) <;> (try omega))
      rcases Nat.lt_or_ge j ns.length with hlt | hge
      · have e := sS (fl := fl) hlt (by omega)
        have la := T6 (esF fl) ns.length (o4 ns 1).toNat
        have lb := T6 (esF fl) ns.length j
        have j0 : (0 : Int) ≤ (j : Int) := by omega
        have ho := fun h => bf (G := G) ns hn fl hl hd j j0 (by omega) h
        rw [Int.toNat_natCast] at ho
        obtain ⟨x, hx⟩ : ∃ x, (O7 (esF fl) ns.length (o4 ns 1).toNat)[j]? = some x := ⟨_, List.getElem?_eq_getElem (by omega)⟩
        obtain ⟨y, hy⟩ : ∃ x, (O7 (esF fl) ns.length j)[(o4 ns 2).toNat]? = some x := ⟨_, List.getElem?_eq_getElem (by omega)⟩
        rw [hx, hy] at e
        simp only [Option.getD_some] at e
        have hx' : ((O7 (esF fl) ns.length (o4 ns 1).toNat).map eB)[j]? = some [.bool x] := by simp [hx, eB]
        have hy' : ((O7 (esF fl) ns.length j).map eB)[(o4 ns 2).toNat]? = some [.bool y] := by simp [hy, eB]
        cases hq : gJ ns fl j with
        | false =>
          rw [hq] at e
          repeat' (first | ((repeat ((fail_if_success (refine hK _ ?_)); clear hK K)); refine hK _ ?_; clear hK K) | ((first | refine d8 fun K1 p7 => ?_ | refine d6 fun K1 p7 => ?_ | refine b5 fun A B hA hB => ?_); simp only [S1, simprocAttr, y7, I9 hlt, A9 hn hlt, hx', hy', j0, e0, List.length_map, e.symm]; first | refine p7 _ ?_; clear p7 K1 | ((first | refine hA ?_ | refine hB ?_); clear hA hB A B) | ((first | apply b9 E35 | apply c7 E35); exact (ho _); refine p7 _ ?_; clear p7 K1) | (refine g8 (v := ?_) (fun hg p8 => ?_) ?_; rotate_left; (focus (try ((try simp only [BN] at hg); simp only [S1, simprocAttr, y7, I9 hlt, A9 hn hlt, hx', hy', j0, e0, List.length_map, e.symm, hg] at p8 ⊢)); first | exact p8 | ((first | apply b9 E35 | apply c7 E35); exact (ho _); exact p8)); refine p7 _ ?_; clear p7 K1) | (((first | (refine ⟨fun hg => hA ?_, fun hg => hB ?_⟩ <;> clear hA hB A B) | refine ⟨fun hg => ?_, fun hg => ?_⟩) <;> (try simp only [BN2] at hg) <;> (try simp only [hg, cndB])) <;> (try (refine p7 _ ?_; clear p7 K1)) <;> (try simp only [BN3] at hg))) | refine b6 fun K hK => ?_ | ((first | apply c8 | apply b8 | apply a9 | refine d5 ?_ | apply b7 | apply c9 | apply d4 | apply d7); try simp only [NB, simprocAttr]))
          all_goals exact ⟨hlt, oT hp hq, by (refine ⟨rfl, (by first | exact ⟨_, rfl⟩ | exact ⟨[], by simp⟩), ?_, ?_⟩ <;> simp only [S1, simprocAttr, KNB] <;> (try and_intros) <;> (try assumption) <;> (try trivial) <;> (try omega))⟩
        | true =>
          have er : E5 ns fl = (4, (j : Int)) := by rw [hen, bz hp hq hlt]; rfl
          rw [hq] at e
          rw [er]
          repeat' (first | ((repeat ((fail_if_success (refine hK _ ?_)); clear hK K)); refine hK _ ?_; clear hK K) | ((first | refine d8 fun K1 p7 => ?_ | refine d6 fun K1 p7 => ?_ | refine b5 fun A B hA hB => ?_); simp only [S1, simprocAttr, y7, I9 hlt, A9 hn hlt, hx', hy', j0, e0, List.length_map, e.symm]; first | refine p7 _ ?_; clear p7 K1 | ((first | refine hA ?_ | refine hB ?_); clear hA hB A B) | ((first | apply b9 E35 | apply c7 E35); exact (ho _); refine p7 _ ?_; clear p7 K1) | (refine g8 (v := ?_) (fun hg p8 => ?_) ?_; rotate_left; (focus (try ((try simp only [BN] at hg); simp only [S1, simprocAttr, y7, I9 hlt, A9 hn hlt, hx', hy', j0, e0, List.length_map, e.symm, hg] at p8 ⊢)); first | exact p8 | ((first | apply b9 E35 | apply c7 E35); exact (ho _); exact p8)); refine p7 _ ?_; clear p7 K1) | (((first | (refine ⟨fun hg => hA ?_, fun hg => hB ?_⟩ <;> clear hA hB A B) | refine ⟨fun hg => ?_, fun hg => ?_⟩) <;> (try simp only [BN2] at hg) <;> (try simp only [hg, cndB])) <;> (try (refine p7 _ ?_; clear p7 K1)) <;> (try simp only [BN3] at hg))) | refine b6 fun K hK => ?_ | ((first | apply c8 | apply b8 | apply a9 | refine d5 ?_ | apply b7 | apply c9 | apply d4 | apply d7); try simp only [NB, simprocAttr]))
          all_goals simp only [S1, simprocAttr, ENB, y7]
      obtain rfl : j = ns.length := by omega
      have er : E5 ns fl = (0, 0) := by rw [hen, F3 hp]; rfl
      repeat' (first | ((repeat ((fail_if_success (refine hK _ ?_)); clear hK K)); refine hK _ ?_; clear hK K) | ((first | refine d8 fun K1 p7 => ?_ | refine d6 fun K1 p7 => ?_ | refine b5 fun A B hA hB => ?_); simp only [S1, simprocAttr, y7, T5]; first | refine p7 _ ?_; clear p7 K1 | ((first | refine hA ?_ | refine hB ?_); clear hA hB A B) | (refine g8 (v := ?_) (fun hg p8 => ?_) ?_; rotate_left; (focus (try ((try simp only [BN] at hg); simp only [S1, simprocAttr, y7, T5, hg] at p8 ⊢)); first | exact p8); refine p7 _ ?_; clear p7 K1) | (((first | (refine ⟨fun hg => hA ?_, fun hg => hB ?_⟩ <;> clear hA hB A B) | refine ⟨fun hg => ?_, fun hg => ?_⟩) <;> (try simp only [BN2] at hg) <;> (try simp only [hg, cndB])) <;> (try (refine p7 _ ?_; clear p7 K1)) <;> (try simp only [BN3] at hg))) | refine b6 fun K hK => ?_ | ((first | apply c8 | apply b8 | apply a9 | refine d5 ?_ | apply b7 | apply c9 | apply d4 | apply d7); try simp only [NB, simprocAttr]))
      all_goals simp only [S1, simprocAttr, ENB, y7]
      all_goals rw [er]
end
section
theorem J1 {S : List Int} {k : Nat} {x : Int} (h : S[k]? = some x) : (S.map AV.i).drop k = .p (.int .i64 x) :: (S.drop (k + 1)).map AV.i := by
  obtain ⟨hk, e⟩ := List.getElem?_eq_some_iff.mp h
  rw [← List.map_drop, List.drop_eq_getElem_cons hk, e]; rfl
theorem g9 (n e sz by' : Nat) (z : Option (List PV)) (cells : List AV) : P8 ⟨.array n e, sz, by', z⟩ cells = if sz ≤ cells.length then some (.agg (cells.take sz)) else none := by unfold P8; rfl
theorem h9 (fs : List (Nat × Nat × Nat)) (sz by' : Nat) (z : Option (List PV)) (cells : List AV) : P8 ⟨.struct fs, sz, by', z⟩ cells = if sz ≤ cells.length then some (.agg (cells.take sz)) else none := by unfold P8; rfl
theorem F0 (S : List Int) (k : Nat) (v : Int) : (S.map AV.i).set k (.p (.int .i64 v)) = (S.set k v).map AV.i := by
  rw [List.map_set]
theorem j6 (m : Nat) (S : List Int) : q6 m (S.map AV.i) := by
  induction S with
  | nil => trivial
  | cons x r ih => exact ⟨trivial, ih⟩
theorem e9 (S : List Int) : (S.map AV.i).all AV.scalar = true := by
  induction S with
  | nil => rfl
  | cons x r ih => simp only [List.map_cons, List.all_cons, ih]; rfl
theorem U1 {S : List Int} {n : Nat} (h : S.length = n + 1) : (S.map AV.i).isEmpty = false := by
  cases S with
  | nil => cases h
  | cons => rfl
theorem oU : ∀ (T S : List Int) (k : Nat), k + T.length ≤ S.length → w9 (S.map AV.i) k (T.map AV.i) = (S.take k ++ T ++ S.drop (k + T.length)).map AV.i
  | [], S, k, h => by simp [w9]
  | x :: r, S, k, h => by
    simp only [List.length_cons] at h
    simp only [List.map_cons, w9]
    rw [show (S.map AV.i).set k (AV.i x) = (S.set k x).map AV.i by rw [List.map_set], oU r (S.set k x) (k + 1) (by simp; omega)]
    congr 1
    rw [List.take_add_one, List.getElem?_set_self (by omega), List.take_set_of_le (Nat.le_refl k), List.drop_set_of_lt (by omega)]
    simp only [Option.toList_some, List.length_cons, List.append_assoc, List.cons_append, List.nil_append]
    congr 4
    omega
structure Sp where
  node : Int
  arg : Int
  lk : Int
  ln : Int
  la : Int
  to : List Int
abbrev aS (S : List Int) : AV := .agg (S.map AV.i)
def cSp (x : Sp) : List Int := [x.node, x.arg, x.lk, x.ln, x.la] ++ x.to
abbrev aSp (x : Sp) : AV := .agg ((cSp x).map AV.i)
def eSp (x : Sp) : List PV := (cSp x).map (PV.int .i64)
def dO (l : List Sp) : List AV := (l.flatMap cSp).map AV.i
theorem G4 {x : Sp} (h : x.to.length = 49) : (cSp x).length = 54 := by simp [cSp, h]
theorem X6 : ∀ {l : List Sp}, (∀ x ∈ l, x.to.length = 49) → (dO l).length = l.length * 54
  | [], _ => rfl
  | x :: r, h => by
    have := X6 (l := r) fun y hy => h y (by simp [hy])
    unfold dO at this ⊢
    rw [List.length_map] at this ⊢
    rw [List.flatMap_cons, List.length_append, this, G4 (h x (by simp)), List.length_cons]; omega
theorem bh (l : List Sp) (x : Sp) : dO (l ++ [x]) = dO l ++ (cSp x).map AV.i := by
  unfold dO; rw [List.flatMap_append, List.map_append]; simp
def gmC (ns : List Nd) (fl : List Fl) (S : List Int) (lb n : Nat) : List AV := .p (.sl (ns.map eN)) :: .p (.sl (fl.map eF)) :: (S.map AV.i ++ [.ref lb n 0 54 n])
def gmB (ns : List Nd) (fl : List Fl) (S : List Int) (lb : Nat) (l : List Sp) : Option Blk := some ⟨0, gmC ns fl S lb l.length⟩
section
variable {ns : List Nd} {fl : List Fl} {S : List Int} {lb n m : Nat}
theorem v4 (hS : S.length = 49) : (gmC ns fl S lb n).length = 52 := by simp [gmC, hS]
theorem gL : (gmC ns fl S lb n).drop 1 = .p (.sl (fl.map eF)) :: (S.map AV.i ++ [.ref lb n 0 54 n]) := rfl
theorem k8 : (gmC ns fl S lb n).take 2 = [.p (.sl (ns.map eN)), .p (.sl (fl.map eF))] := rfl
theorem rF (k : Nat) (hk : k ≤ S.length) : (gmC ns fl S lb n).drop (2 + k) = (S.drop k).map AV.i ++ [.ref lb n 0 54 n] := by
  unfold gmC
  rw [show 2 + k = k + 1 + 1 by omega, List.drop_succ_cons, List.drop_succ_cons, List.drop_append_of_le_length (by simpa using hk), List.map_drop]
theorem U2 {k : Nat} {x : Int} (h : S[k]? = some x) : (gmC ns fl S lb n).drop (2 + k) = .p (.int .i64 x) :: ((S.drop (k + 1)).map AV.i ++ [.ref lb n 0 54 n]) := by
  have hk := (List.getElem?_eq_some_iff.mp h).1
  rw [rF k (by omega), List.map_drop, J1 h]; rfl
theorem Z9 (hS : S.length = 49) : (gmC ns fl S lb n).drop 51 = [.ref lb n 0 54 n] := by
  rw [show 51 = 2 + 49 by rfl, rF 49 (by omega), List.drop_of_length_le (by omega)]; rfl
theorem gM (k c : Nat) (hk : k + c ≤ S.length) : ((gmC ns fl S lb n).drop (2 + k)).take c = ((S.drop k).take c).map AV.i := by
  rw [rF k (by omega), List.take_append_of_le_length (by rw [List.length_map, List.length_drop]; omega), List.map_take]
theorem cT (hS : S.length = 49) : (gmC ns fl S lb n).set 51 (.ref lb m 0 54 m) = gmC ns fl S lb m := by
  unfold gmC
  rw [show (51 : Nat) = 49 + 1 + 1 by rfl, List.set_cons_succ, List.set_cons_succ, List.set_append_right _ _ (by simp [hS])]
  simp [hS]
end
def spB (l : List Sp) : Option Blk := some ⟨l.length, dO l⟩
def m3 (h : Heap) (b lb : Nat) (ns : List Nd) (fl : List Fl) (S : List Int) (l : List Sp) : Heap := (h.set b (gmB ns fl S lb l)).set lb (spB l)
section
variable {h : Heap} {b lb : Nat} {ns : List Nd} {fl : List Fl} {S : List Int} {l l' : List Sp}
theorem j7 : (m3 h b lb ns fl S l).length = h.length := by simp [m3]
theorem n6 (hb : b < h.length) (hne : b ≠ lb) (L : Heap) : (m3 h b lb ns fl S l ++ L)[b]? = some (gmB ns fl S lb l) := by
  rw [List.getElem?_append_left (by rw [j7]; exact hb)]
  unfold m3
  rw [List.getElem?_set_ne (fun e => hne e.symm), List.getElem?_set]; simp [hb]
theorem k9 (hl : lb < h.length) (L : Heap) : (m3 h b lb ns fl S l ++ L)[lb]? = some (spB l) := by
  rw [List.getElem?_append_left (by rw [j7]; exact hl)]
  unfold m3
  rw [List.getElem?_set]; simp [hl]
theorem l6 (hb : b < h.length) (hne : b ≠ lb) : (m3 h b lb ns fl S l)[b]? = some (gmB ns fl S lb l) := by have := n6 (ns := ns) (fl := fl) (S := S) (l := l) hb hne []; rwa [List.append_nil] at this
theorem j9 (hl : lb < h.length) : (m3 h b lb ns fl S l)[lb]? = some (spB l) := by have := k9 (b := b) (ns := ns) (fl := fl) (S := S) (l := l) hl []; rwa [List.append_nil] at this
theorem K4 (hb : b < h.length) (hl : lb < h.length) (L : Heap) : m3 (h ++ L) b lb ns fl S l = m3 h b lb ns fl S l ++ L := by
  unfold m3
  rw [List.set_append_left _ _ hb, List.set_append_left _ _ (by simpa using hl)]
theorem u0 (L : Heap) : (m3 h b lb ns fl S l ++ L)[h.length]? = L[0]? := by rw [List.getElem?_append_right (by rw [j7]; omega), j7]; congr 1; omega
theorem s4 (L : Heap) (i : Nat) : (m3 h b lb ns fl S l ++ L)[h.length + i]? = L[i]? := by rw [List.getElem?_append_right (by rw [j7]; omega), j7]; congr 1; omega
theorem x9 (L : Heap) (x : Option Blk) : (m3 h b lb ns fl S l ++ L).set h.length x = m3 h b lb ns fl S l ++ L.set 0 x := by rw [List.set_append_right _ _ (by rw [j7]; omega), j7]; congr 2; omega
theorem t6 (L : Heap) (i : Nat) (x : Option Blk) : (m3 h b lb ns fl S l ++ L).set (h.length + i) x = m3 h b lb ns fl S l ++ L.set i x := by rw [List.set_append_right _ _ (by rw [j7]; omega), j7]; congr 2; omega
theorem m8 (L : Heap) : (m3 h b lb ns fl S l ++ L).take h.length = m3 h b lb ns fl S l := by
  have := j7 (h := h) (b := b) (lb := lb) (ns := ns) (fl := fl) (S := S) (l := l)
  rw [← this, List.take_left']; rfl
theorem l8 : (m3 h b lb ns fl S l).take h.length = m3 h b lb ns fl S l := by
  have := j7 (h := h) (b := b) (lb := lb) (ns := ns) (fl := fl) (S := S) (l := l)
  rw [← this, List.take_length]
theorem qa (hl : lb < h.length) (L : Heap) (x : Option Blk) : (m3 h b lb ns fl S l ++ L).set lb x = (h.set b (gmB ns fl S lb l)).set lb x ++ L := by
  rw [List.set_append_left _ _ (by rw [j7]; exact hl)]
  unfold m3; rw [List.set_set]
theorem ub (hl : lb < h.length) : q6 h.length (gmC ns fl S lb l.length) := by
  have : ∀ (m : Nat) (a c : List AV), q6 m a → q6 m c → q6 m (a ++ c) := by
    intro m a c ha hc
    induction a with
    | nil => exact hc
    | cons x r ih => exact ⟨ha.1, ih ha.2⟩
  exact ⟨trivial, trivial, this _ _ _ (j6 _ S) ⟨hl, trivial⟩⟩
theorem aa {l0 : List Sp} (hl : lb < h.length) : ∀ (i : Nat) (bk : Blk), (m3 h b lb ns fl S l)[i]? = some (some bk) → (m3 h b lb ns fl S l0)[i]? = some (some bk) ∨ q6 (m3 h b lb ns fl S l0).length bk.cells := by
  intro i bk hi
  rw [j7]
  unfold m3 at hi ⊢
  rw [List.getElem?_set] at hi
  split at hi
  · split at hi
    · cases hi; exact .inr (j6 _ _)
    · cases hi
  · rename_i e
    rw [List.getElem?_set] at hi
    split at hi
    · split at hi
      · cases hi; exact .inr (ub hl)
      · cases hi
    · rename_i e2
      left
      rw [List.getElem?_set_ne e, List.getElem?_set_ne e2]; exact hi
theorem i5 {l0 : List Sp} (hl : lb < h.length) (i : Nat) (bk : Blk) (hi : (m3 h b lb ns fl S l)[i]? = some (some bk)) : (m3 h b lb ns fl S l0)[i]? = some (some bk) ∨ ∀ x, x ∈ bk.cells → AVlt h.length x :=
  (aa hl i bk hi).imp id fun hx => by rw [j7] at hx; exact M2 _ hx
end
def LNB := And.intro @List.length_map.{0, 0} (And.intro @List.length_take.{0} (And.intro @List.length_drop.{0} @Nat.mul_one))
def PGB := And.intro @g9 (And.intro @h9 (And.intro @e9 (And.intro @List.length_map.{0, 0} (And.intro @List.length_take.{0} (And.intro @List.length_drop.{0} (And.intro @Nat.mul_one (And.intro @j7 (And.intro @u0 (And.intro @s4 (And.intro @x9 @t6))))))))))
end
section
def oV := And.intro T2 (And.intro T3 (And.intro T4 (And.intro T22 (And.intro T23 (And.intro T25 (And.intro T26 (And.intro T27 (And.intro T32 (And.intro T57 (And.intro T66 (And.intro T68 (And.intro T70 T73))))))))))))
attribute [local irreducible] awp q9 m7 n7 r5 q8
variable {G : Nat → Option (List PV)}
def bL (l : List Int) : Int := l.foldl (fun n x => IntKind.i64.wrap (n + x)) 0
theorem jp {l : List Int} {i : Nat} {x : Int} (h : l[i]? = some x) : bL (l.take (i + 1)) = IntKind.i64.wrap (bL (l.take i) + x) := by
  unfold bL; rw [List.take_add_one, h]; simp
theorem M9 {i n : Nat} {m : Int} (h : i < n) (hm : m = n) : decide ((i : Int) < m) = true := by subst hm; simp; omega
theorem A8 {i n : Nat} (hn : n ≤ 1000) (h : i < n) : IntKind.i64.wrap ((i : Int) + 1) = ((i + 1 : Nat) : Int) := by rw [IntWalk.i64_in _ (by omega)]; omega
theorem W4 (S : List Int) (hS : S.length = 49) (h : Heap) : f9 Tryz.prog G 15 [aS S] h (fun r h' => r = .i (bL (S.take 40)) ∧ h' = h) := by
  have hne := U1 hS
  refine d9 (rl := []) i6 Tryz.func15 rfl (rs := [.tmp 2]) rfl Tryz.ntmps15 (by simp) ?_
  repeat' (first | ((repeat ((fail_if_success (refine hK _ ?_)); clear hK K)); refine hK _ ?_; clear hK K) | ((first | refine d8 fun K1 p7 => ?_ | refine d6 fun K1 p7 => ?_ | refine b5 fun A B hA hB => ?_); simp only [S1, simprocAttr, oV, List.length_map, hS, hne, e9]; first | refine p7 _ ?_; clear p7 K1 | ((first | refine hA ?_ | refine hB ?_); clear hA hB A B) | (((first | (refine ⟨fun hg => hA ?_, fun hg => hB ?_⟩ <;> clear hA hB A B) | refine ⟨fun hg => ?_, fun hg => ?_⟩) <;> (try simp only [BN2] at hg) <;> (try simp only [hg, cndB])) <;> (try (refine p7 _ ?_; clear p7 K1)) <;> (try simp only [BN3] at hg))) | refine b6 fun K hK => ?_ | ((first | apply c8 | apply b8 | apply a9 | refine d5 ?_ | apply b7 | apply c9 | apply d4 | apply d7); try simp only [NB, simprocAttr]))
  refine s5 40 16 (fun i => [(4, .i i), (3, .i (bL (S.take i))), (1, .ptr h.length 0 0)]) (fun i => [some ⟨0, S.map AV.i⟩]) (fun i => True) ?_ trivial fun i hi hp K hK => ?_
  · refine ⟨rfl, ⟨[], by simp only [List.append_nil]⟩, ?_, j6 _ _, trivial⟩
    simp only [List.take_zero, bL, List.foldl_nil]
    simp only [S1, simprocAttr, KNB] <;> (try and_intros) <;> (try assumption) <;> (try trivial) <;> (try omega)
  rcases Nat.lt_or_ge i 40 with hlt | hge
  · obtain ⟨x, hx⟩ : ∃ x, S[i]? = some x := ⟨_, List.getElem?_eq_getElem (by omega)⟩
    have i0 : (0 : Int) ≤ (i : Int) := by omega
    have i40 : (i : Int) < 40 := by omega
    have hst := jp hx
    repeat' (first | ((repeat ((fail_if_success (refine hK _ ?_)); clear hK K)); refine hK _ ?_; clear hK K) | ((first | refine d8 fun K1 p7 => ?_ | refine d6 fun K1 p7 => ?_ | refine b5 fun A B hA hB => ?_); simp only [S1, simprocAttr, oV, M9 hlt rfl, A8 (n := 40) (by omega) hlt, i0, i40, J1 hx, Nat.mul_one]; first | refine p7 _ ?_; clear p7 K1 | ((first | refine hA ?_ | refine hB ?_); clear hA hB A B) | (((first | (refine ⟨fun hg => hA ?_, fun hg => hB ?_⟩ <;> clear hA hB A B) | refine ⟨fun hg => ?_, fun hg => ?_⟩) <;> (try simp only [BN2] at hg) <;> (try simp only [hg, cndB])) <;> (try (refine p7 _ ?_; clear p7 K1)) <;> (try simp only [BN3] at hg))) | refine b6 fun K hK => ?_ | ((first | apply c8 | apply b8 | apply a9 | refine d5 ?_ | apply b7 | apply c9 | apply d4 | apply d7); try simp only [NB, simprocAttr]))
    all_goals refine ⟨hlt, trivial, ?_⟩
    all_goals simp only [hst]
    all_goals refine ⟨rfl, ⟨_, rfl⟩, ?_, j6 _ _, trivial⟩
    all_goals simp only [S1, simprocAttr, KNB] <;> (try and_intros) <;> (try assumption) <;> (try trivial) <;> (try omega)
  · obtain rfl : i = 40 := by omega
    repeat' (first | ((repeat ((fail_if_success (refine hK _ ?_)); clear hK K)); refine hK _ ?_; clear hK K) | ((first | refine d8 fun K1 p7 => ?_ | refine d6 fun K1 p7 => ?_ | refine b5 fun A B hA hB => ?_); simp only [S1, simprocAttr, oV]; first | refine p7 _ ?_; clear p7 K1 | ((first | refine hA ?_ | refine hB ?_); clear hA hB A B) | (((first | (refine ⟨fun hg => hA ?_, fun hg => hB ?_⟩ <;> clear hA hB A B) | refine ⟨fun hg => ?_, fun hg => ?_⟩) <;> (try simp only [BN2] at hg) <;> (try simp only [hg, cndB])) <;> (try (refine p7 _ ?_; clear p7 K1)) <;> (try simp only [BN3] at hg))) | refine b6 fun K hK => ?_ | ((first | apply c8 | apply b8 | apply a9 | refine d5 ?_ | apply b7 | apply c9 | apply d4 | apply d7); try simp only [NB, simprocAttr]))
    all_goals simp only [S1, simprocAttr, ENB, oV]
end
section
def aA := And.intro T2 (And.intro T3 (And.intro T4 (And.intro T25 (And.intro T26 (And.intro T27 (And.intro T32 (And.intro T40 (And.intro T46 (And.intro T53 (And.intro T61 (And.intro T84 T86)))))))))))
attribute [local irreducible] awp q9 m7 n7 r5 q8
variable {G : Nat → Option (List PV)}
def tk (S : List Int) (f : Int) : Int := S.getD f.toNat 0
def Q2 (S : List Int) (f : Int) : Option (List Int) := if tk S f < 1 then none else some (S.set f.toNat (tk S f - 1))
def U3 (S : List Int) (f : Int) : Option (List Int) := if 2 < tk S f then none else some (S.set f.toNat (tk S f + 1))
def P6 (step : List Int → Int → Option (List Int)) (l : List Int) (S : List Int) : Option (List Int) := l.foldlM step S
theorem gN {step : List Int → Int → Option (List Int)} {l S T : List Int} {i : Nat} {f : Int} (h : l[i]? = some f) (hr : P6 step (l.take i) S = some T) : P6 step (l.take (i + 1)) S = step T f := by
  unfold P6 at *
  rw [List.take_add_one, h, List.foldlM_append, hr]
  simp
theorem lZ {step : List Int → Int → Option (List Int)} {l S T : List Int} {i : Nat} {f : Int} (h : l[i]? = some f) (hr : P6 step (l.take i) S = some T) (hs : step T f = none) : P6 step l S = none := by
  have h1 := gN h hr
  rw [hs] at h1
  have e : l = l.take (i + 1) ++ l.drop (i + 1) := (List.take_append_drop _ _).symm
  unfold P6 at *
  rw [e, List.foldlM_append, h1]; rfl
def cU (S : List Int) : Prop := S.length = 49 ∧ ∀ i x, i < 40 → S[i]? = some x → 0 ≤ x ∧ x ≤ 3
theorem cU.at {S : List Int} (h : cU S) {k : Nat} (hk : k < 40) : S[k]? = some (tk S k) ∧ 0 ≤ tk S k ∧ tk S k ≤ 3 := by
  have hl := h.1
  have e : S[k]? = some (tk S k) := by
    unfold tk
    rw [Int.toNat_natCast, List.getD_eq_getElem?_getD, List.getElem?_eq_getElem (by omega)]; rfl
  exact ⟨e, h.2 k _ hk e⟩
theorem cU.set {S : List Int} (h : cU S) {k : Nat} (hk : k < 40) {v : Int} (h0 : 0 ≤ v) (h3 : v ≤ 3) : cU (S.set k v) := by
  refine ⟨by rw [List.length_set]; exact h.1, fun i x hi hx => ?_⟩
  rw [List.getElem?_set] at hx
  split at hx
  · split at hx
    · cases hx; exact ⟨h0, h3⟩
    · cases hx
  · exact h.2 i x hi hx
def z8 (S T : List Int) : List Int := S.take 40 ++ T.drop 40
theorem nL {S T : List Int} (hS : cU S) (hT : T.length = 49) : cU (z8 S T) := by
  have hl := hS.1
  refine ⟨by simp [z8]; omega, fun i x hi hx => ?_⟩
  unfold z8 at hx
  rw [List.getElem?_append_left (by rw [List.length_take]; omega), List.getElem?_take_of_lt hi] at hx
  exact hS.2 i x hi hx
def p9 (S : List Int) (x : Sp) (fr to : List Int) : List Sp :=
  match P6 Q2 fr (z8 S x.to) with
  | none => []
  | some T => match P6 U3 to T with
    | none => []
    | some U => [{ x with to := U }]
def InF (l : List Int) : Prop := l.length ≤ 100 ∧ ∀ f ∈ l, 0 ≤ f ∧ f < 40
theorem uc {x : Sp} {k : Nat} {v : Int} (h : x.to[k]? = some v) : (cSp x)[5 + k]? = some v := by
  unfold cSp; rw [List.getElem?_append_right (by simp)]; simpa using h
theorem ma {x : Sp} {k : Nat} {v : Int} (h : x.to[k]? = some v) : ((cSp x).map AV.i).drop (5 + k) = .p (.int .i64 v) :: ((cSp x).drop (5 + k + 1)).map AV.i := J1 (uc h)
theorem oW (x : Sp) (k : Nat) (v : Int) : ((cSp x).map AV.i).set (5 + k) (.p (.int .i64 v)) = (cSp { x with to := x.to.set k v }).map AV.i := by
  rw [F0]
  congr 1
  unfold cSp
  rw [List.set_append_right _ _ (by simp)]
  simp
theorem rG {x : Sp} {S : List Int} (hS : S.length = 49) (hx : x.to.length = 49) : w9 ((cSp x).map AV.i) 5 ((S.take 40).map AV.i) = (cSp { x with to := z8 S x.to }).map AV.i := by
  rw [oU (S.take 40) (cSp x) 5 (by rw [G4 hx, List.length_take]; omega)]
  congr 1
  have e : (S.take 40).length = 40 := by rw [List.length_take]; omega
  rw [e]
  unfold cSp z8
  simp
theorem rH {x : Sp} (hx : x.to.length = 49) : ((cSp x).map AV.i).take 54 = (cSp x).map AV.i := List.take_of_length_le (by rw [List.length_map, G4 hx]; exact Nat.le_refl _)
theorem kw (x : Sp) : ((cSp x).map AV.i).isEmpty = false := rfl
structure Qt where
  i : Nat
  T : List Int
theorem dP : ∀ S : List Int, pvs (S.map AV.i) = some (S.map (PV.int .i64))
  | [] => rfl
  | x :: r => by simp only [List.map_cons, pvs, dP r, Option.map_some]
theorem qb {α : Type} (n : Nat) (l : List α) (h : l.length = n) : B5 n 1 l = [l] := by
  simp only [B5]; rw [List.take_of_length_le (by omega)]
structure GmOk (h : Heap) (b lb : Nat) (S : List Int) (l : List Sp) : Prop where
  hb : b < h.length
  hl : lb < h.length
  ne : b ≠ lb
  held : cU S
  len : ∀ x ∈ l, x.to.length = 49
  few : l.length ≤ 1000000
theorem z9 (S : List Int) : (S.map (PV.int .i64)).map AV.p = S.map AV.i := by rw [List.map_map]; rfl
theorem gP {h : Heap} {b lb : Nat} {ns : List Nd} {fl : List Fl} {S : List Int} {l l' : List Sp} (hb : b < h.length) (hl : lb < h.length) (hne : b ≠ lb) (L : Heap) : ((m3 h b lb ns fl S l ++ L).set lb (spB l')).set b (gmB ns fl S lb l') = m3 h b lb ns fl S l' ++ L := by
  rw [qa hl, List.set_append_left _ _ (by simpa using hb)]
  unfold m3
  rw [List.set_comm _ _ hne.symm, List.set_set]
theorem mb {h : Heap} {b lb : Nat} {ns : List Nd} {fl : List Fl} {S : List Int} {l : List Sp} (hb : b < h.length) (hne : b ≠ lb) (X : Option Blk) (L : Heap) : ((m3 h b lb ns fl S l ++ L).set lb X)[b]? = some (gmB ns fl S lb l) := by
  rw [List.getElem?_set_ne hne.symm, n6 hb hne]
theorem n9 {cs : List AV} {n : Nat} (hc : cs.length = n) (c : List AV) (h : c.length = n) : w9 c 0 cs = cs := by
  rw [ki cs c 0 (by omega)]; rfl
theorem dQ {h : Heap} {b lb : Nat} {ns : List Nd} {fl : List Fl} {S : List Int} {l : List Sp} (ok : GmOk h b lb S l) (x : Sp) (hx : x.to.length = 49) (fr to : List Int) (hfr : InF fr) (hto : InF to) :
    f9 Tryz.prog G 28 [.ptr b 0 0, aSp x, aI fr, aI to] (m3 h b lb ns fl S l) (fun r h' => r = .undef ∧ h' = m3 h b lb ns fl S (l ++ p9 S x fr to)) := by
  have hb := ok.hb
  have hl := ok.hl
  have hne := ok.ne
  have hS := ok.held.1
  have hmax : l.length + 1 ≤ o9 := by have := ok.few; unfold o9; omega
  have e0 : (cSp x).length = 54 := G4 hx
  have t40 := gM (ns := ns) (fl := fl) (lb := lb) (n := l.length) (S := S) 0 40 (by omega)
  have gl := v4 (ns := ns) (fl := fl) (lb := lb) (n := l.length) hS
  have ov := rG (x := x) hS hx
  have ne := kw x
  simp only [Nat.add_zero, List.drop_zero] at t40
  refine j8 (rl := []) i6 Tryz.func28 rfl (rs := []) rfl Tryz.ntmps28 (by simp) ?_
  repeat' (first | ((repeat ((fail_if_success (refine hK _ ?_)); clear hK K)); refine hK _ ?_; clear hK K) | ((first | refine d8 fun K1 p7 => ?_ | refine d6 fun K1 p7 => ?_ | refine b5 fun A B hA hB => ?_); simp only [S1, simprocAttr, aA, g9, h9, List.length_map, List.length_take, List.length_drop, e0, hS, ne, e9, j7, n6 hb hne, k9 hl, u0, s4, x9, t6, gmB, gl, t40, ov, Nat.mul_one]; first | refine p7 _ ?_; clear p7 K1 | ((first | refine hA ?_ | refine hB ?_); clear hA hB A B) | (((first | (refine ⟨fun hg => hA ?_, fun hg => hB ?_⟩ <;> clear hA hB A B) | refine ⟨fun hg => ?_, fun hg => ?_⟩) <;> (try simp only [BN2] at hg) <;> (try simp only [hg, cndB])) <;> (try (refine p7 _ ?_; clear p7 K1)) <;> (try simp only [BN3] at hg))) | refine b6 fun K hK => ?_ | ((first | apply c8 | apply b8 | apply a9 | refine d5 ?_ | apply b7 | apply c9 | apply d4 | apply d7); try simp only [NB, simprocAttr]))
  have hmG0 : p9 S x fr to = (match P6 Q2 fr (z8 S x.to) with
      | none => []
      | some T => match P6 U3 to T with
        | none => []
        | some U => [{ x with to := U }]) := rfl
  refine N6 (σ := Qt) (fun q => fr.length - q.i) 75 (fun q => [(21, .i q.i), (20, .i fr.length), (19, aI fr), (5, .ptr h.length 0 0), (3, aI to), (0, .ptr b 0 0)]) (fun q => [some ⟨0, (cSp { x with to := q.T }).map AV.i⟩])
    (fun q => q.i ≤ fr.length ∧ cU q.T ∧ P6 Q2 (fr.take q.i) (z8 S x.to) = some q.T) ⟨0, z8 S x.to⟩ ?_ ⟨Nat.zero_le _, nL ok.held hx, rfl⟩ fun q hq K hK => ?_
  · refine ⟨rfl, ⟨[], by simp only [List.append_nil]⟩, ?_, j6 _ _, trivial⟩
    simp only [S1, simprocAttr, KNB, j7] <;> (try and_intros) <;> (try assumption) <;> (try trivial) <;> (try omega)
  obtain ⟨i, T⟩ := q
  obtain ⟨hi, hT, hrun⟩ := hq
  simp only at hi hT hrun
  rcases Nat.lt_or_ge i fr.length with hlt | hge
  · obtain ⟨f, hf⟩ : ∃ f, fr[i]? = some f := ⟨_, List.getElem?_eq_getElem hlt⟩
    obtain ⟨f0, f40⟩ := hfr.2 f (List.mem_of_getElem? hf)
    obtain ⟨k, rfl⟩ := Int.eq_ofNat_of_zero_le f0
    have k40 : k < 40 := by omega
    obtain ⟨hv, v0, v3⟩ := hT.at k40
    have hst := gN hf hrun
    have hdr := ma (x := { x with to := T }) hv
    have hse := fun v => oW { x with to := T } k v
    have hln : (cSp { x with to := T }).length = 54 := G4 hT.1
    have hk54 : 5 + k + 1 ≤ 54 := by omega
    simp only at hdr hse
    generalize hvv : tk T (k : Int) = v at *
    by_cases h1 : v < 1
    · have hno : Q2 T (k : Int) = none := by unfold Q2; rw [hvv, if_pos h1]
      have hmv : p9 S x fr to = [] := by rw [hmG0, lZ hf hrun hno]
      have h1' : decide (v < 1) = true := decide_eq_true h1
      rw [hmv, List.append_nil]
      repeat' (first | ((repeat ((fail_if_success (refine hK _ ?_)); clear hK K)); refine hK _ ?_; clear hK K) | ((first | refine d8 fun K1 p7 => ?_ | refine d6 fun K1 p7 => ?_ | refine b5 fun A B hA hB => ?_); simp only [S1, simprocAttr, aA, C2 hf, I3 hlt, D9 (by have := hfr.1; omega) hlt, f0, f40, hdr, h1', g9, h9, List.length_map, List.length_take, List.length_drop, j7, u0, s4, x9, t6, Nat.mul_one]; first | refine p7 _ ?_; clear p7 K1 | ((first | refine hA ?_ | refine hB ?_); clear hA hB A B) | (((first | (refine ⟨fun hg => hA ?_, fun hg => hB ?_⟩ <;> clear hA hB A B) | refine ⟨fun hg => ?_, fun hg => ?_⟩) <;> (try simp only [BN2] at hg) <;> (try simp only [hg, cndB])) <;> (try (refine p7 _ ?_; clear p7 K1)) <;> (try simp only [BN3] at hg))) | refine b6 fun K hK => ?_ | ((first | apply c8 | apply b8 | apply a9 | refine d5 ?_ | apply b7 | apply c9 | apply d4 | apply d7); try simp only [NB, simprocAttr]))
      all_goals simp only [y8, y1, Q6, S4, K6, F2, D8, D3, pur, I2, j7, m8, l8, List.length_append, S1, simprocAttr, aA, Nat.le_add_right, Nat.le_refl]
      all_goals first | exact i5 hl | exact ⟨i5 hl, rfl⟩ | exact ⟨i5 hl, rfl, rfl⟩
    · have h1' : decide (v < 1) = false := decide_eq_false h1
      have hyes : Q2 T (k : Int) = some (T.set k (v - 1)) := by unfold Q2; rw [hvv, if_neg h1, Int.toNat_natCast]
      have hw : IntKind.i64.wrap (v - 1) = v - 1 := IntWalk.i64_in _ (by omega)
      rw [hyes] at hst
      repeat' (first | ((repeat ((fail_if_success (refine hK _ ?_)); clear hK K)); refine hK _ ?_; clear hK K) | ((first | refine d8 fun K1 p7 => ?_ | refine d6 fun K1 p7 => ?_ | refine b5 fun A B hA hB => ?_); simp only [S1, simprocAttr, aA, C2 hf, I3 hlt, D9 (by have := hfr.1; omega) hlt, f0, f40, hdr, hse, h1', hw, hln, hk54, g9, h9, List.length_map, List.length_take, List.length_drop, j7, u0, s4, x9, t6, Nat.mul_one]; first | refine p7 _ ?_; clear p7 K1 | ((first | refine hA ?_ | refine hB ?_); clear hA hB A B) | (((first | (refine ⟨fun hg => hA ?_, fun hg => hB ?_⟩ <;> clear hA hB A B) | refine ⟨fun hg => ?_, fun hg => ?_⟩) <;> (try simp only [BN2] at hg) <;> (try simp only [hg, cndB])) <;> (try (refine p7 _ ?_; clear p7 K1)) <;> (try simp only [BN3] at hg))) | refine b6 fun K hK => ?_ | ((first | apply c8 | apply b8 | apply a9 | refine d5 ?_ | apply b7 | apply c9 | apply d4 | apply d7); try simp only [NB, simprocAttr]))
      all_goals refine ⟨⟨i + 1, T.set k (v - 1)⟩, by simp only; omega, ⟨hlt, hT.set k40 (by omega) (by omega), hst⟩, ?_⟩
      all_goals refine ⟨rfl, ⟨_, rfl⟩, ?_, j6 _ _, trivial⟩
      all_goals simp only [S1, simprocAttr, KNB, j7] <;> (try and_intros) <;> (try assumption) <;> (try trivial) <;> (try omega)
  · obtain rfl : i = fr.length := by omega
    rw [List.take_length] at hrun
    repeat' (first | ((repeat ((fail_if_success (refine hK _ ?_)); clear hK K)); refine hK _ ?_; clear hK K) | ((first | refine d8 fun K1 p7 => ?_ | refine d6 fun K1 p7 => ?_ | refine b5 fun A B hA hB => ?_); simp only [S1, simprocAttr, aA, D6, g9, h9, List.length_map, List.length_take, List.length_drop, j7, u0, s4, x9, t6, Nat.mul_one]; first | refine p7 _ ?_; clear p7 K1 | ((first | refine hA ?_ | refine hB ?_); clear hA hB A B) | (((first | (refine ⟨fun hg => hA ?_, fun hg => hB ?_⟩ <;> clear hA hB A B) | refine ⟨fun hg => ?_, fun hg => ?_⟩) <;> (try simp only [BN2] at hg) <;> (try simp only [hg, cndB])) <;> (try (refine p7 _ ?_; clear p7 K1)) <;> (try simp only [BN3] at hg))) | refine b6 fun K hK => ?_ | ((first | apply c8 | apply b8 | apply a9 | refine d5 ?_ | apply b7 | apply c9 | apply d4 | apply d7); try simp only [NB, simprocAttr]))
    have hmG1 : p9 S x fr to = (match P6 U3 to T with
        | none => []
        | some U => [{ x with to := U }]) := by rw [hmG0, hrun]
    refine N6 (σ := Qt) (fun q => to.length - q.i) 75 (fun q => [(44, .i q.i), (43, .i to.length), (42, aI to), (5, .ptr h.length 0 0), (0, .ptr b 0 0)]) (fun q => [some ⟨0, (cSp { x with to := q.T }).map AV.i⟩])
      (fun q => q.i ≤ to.length ∧ cU q.T ∧ P6 U3 (to.take q.i) T = some q.T) ⟨0, T⟩ ?_ ⟨Nat.zero_le _, hT, rfl⟩ fun q hq K hK => ?_
    · refine ⟨rfl, ⟨[], by simp only [List.append_nil]⟩, ?_, j6 _ _, trivial⟩
      simp only [S1, simprocAttr, KNB, j7] <;> (try and_intros) <;> (try assumption) <;> (try trivial) <;> (try omega)
    obtain ⟨j, U⟩ := q
    obtain ⟨hj, hU, hrun2⟩ := hq
    simp only at hj hU hrun2
    rcases Nat.lt_or_ge j to.length with hlt | hge
    · obtain ⟨f, hf⟩ : ∃ f, to[j]? = some f := ⟨_, List.getElem?_eq_getElem hlt⟩
      obtain ⟨f0, f40⟩ := hto.2 f (List.mem_of_getElem? hf)
      obtain ⟨k, rfl⟩ := Int.eq_ofNat_of_zero_le f0
      have k40 : k < 40 := by omega
      obtain ⟨hv, v0, v3⟩ := hU.at k40
      have hst := gN hf hrun2
      have hdr := ma (x := { x with to := U }) hv
      have hse := fun v => oW { x with to := U } k v
      have hln : (cSp { x with to := U }).length = 54 := G4 hU.1
      have hk54 : 5 + k + 1 ≤ 54 := by omega
      simp only at hdr hse
      generalize hvv : tk U (k : Int) = v at *
      by_cases h1 : 2 < v
      · have hno : U3 U (k : Int) = none := by unfold U3; rw [hvv, if_pos h1]
        have hmv : p9 S x fr to = [] := by rw [hmG1, lZ hf hrun2 hno]
        have h1' : decide (2 < v) = true := decide_eq_true h1
        rw [hmv, List.append_nil]
        repeat' (first | ((repeat ((fail_if_success (refine hK _ ?_)); clear hK K)); refine hK _ ?_; clear hK K) | ((first | refine d8 fun K1 p7 => ?_ | refine d6 fun K1 p7 => ?_ | refine b5 fun A B hA hB => ?_); simp only [S1, simprocAttr, aA, C2 hf, I3 hlt, D9 (by have := hto.1; omega) hlt, f0, f40, hdr, h1', g9, h9, List.length_map, List.length_take, List.length_drop, j7, u0, s4, x9, t6, Nat.mul_one]; first | refine p7 _ ?_; clear p7 K1 | ((first | refine hA ?_ | refine hB ?_); clear hA hB A B) | (((first | (refine ⟨fun hg => hA ?_, fun hg => hB ?_⟩ <;> clear hA hB A B) | refine ⟨fun hg => ?_, fun hg => ?_⟩) <;> (try simp only [BN2] at hg) <;> (try simp only [hg, cndB])) <;> (try (refine p7 _ ?_; clear p7 K1)) <;> (try simp only [BN3] at hg))) | refine b6 fun K hK => ?_ | ((first | apply c8 | apply b8 | apply a9 | refine d5 ?_ | apply b7 | apply c9 | apply d4 | apply d7); try simp only [NB, simprocAttr]))
        all_goals simp only [y8, y1, Q6, S4, K6, F2, D8, D3, pur, I2, j7, m8, l8, List.length_append, S1, simprocAttr, aA, Nat.le_add_right, Nat.le_refl]
        all_goals first | exact i5 hl | exact ⟨i5 hl, rfl⟩ | exact ⟨i5 hl, rfl, rfl⟩
      · have h1' : decide (2 < v) = false := decide_eq_false h1
        have hyes : U3 U (k : Int) = some (U.set k (v + 1)) := by unfold U3; rw [hvv, if_neg h1, Int.toNat_natCast]
        have hw : IntKind.i64.wrap (v + 1) = v + 1 := IntWalk.i64_in _ (by omega)
        rw [hyes] at hst
        repeat' (first | ((repeat ((fail_if_success (refine hK _ ?_)); clear hK K)); refine hK _ ?_; clear hK K) | ((first | refine d8 fun K1 p7 => ?_ | refine d6 fun K1 p7 => ?_ | refine b5 fun A B hA hB => ?_); simp only [S1, simprocAttr, aA, C2 hf, I3 hlt, D9 (by have := hto.1; omega) hlt, f0, f40, hdr, hse, h1', hw, hln, hk54, g9, h9, List.length_map, List.length_take, List.length_drop, j7, u0, s4, x9, t6, Nat.mul_one]; first | refine p7 _ ?_; clear p7 K1 | ((first | refine hA ?_ | refine hB ?_); clear hA hB A B) | (((first | (refine ⟨fun hg => hA ?_, fun hg => hB ?_⟩ <;> clear hA hB A B) | refine ⟨fun hg => ?_, fun hg => ?_⟩) <;> (try simp only [BN2] at hg) <;> (try simp only [hg, cndB])) <;> (try (refine p7 _ ?_; clear p7 K1)) <;> (try simp only [BN3] at hg))) | refine b6 fun K hK => ?_ | ((first | apply c8 | apply b8 | apply a9 | refine d5 ?_ | apply b7 | apply c9 | apply d4 | apply d7); try simp only [NB, simprocAttr]))
        all_goals refine ⟨⟨j + 1, U.set k (v + 1)⟩, by simp only; omega, ⟨hlt, hU.set k40 (by omega) (by omega), hst⟩, ?_⟩
        all_goals refine ⟨rfl, ⟨_, rfl⟩, ?_, j6 _ _, trivial⟩
        all_goals simp only [S1, simprocAttr, KNB, j7] <;> (try and_intros) <;> (try assumption) <;> (try trivial) <;> (try omega)
    · obtain rfl : j = to.length := by omega
      rw [List.take_length] at hrun2
      have hmv : p9 S x fr to = [{ x with to := U }] := by rw [hmG1, hrun2]
      have hln : (cSp { x with to := U }).length = 54 := G4 hU.1
      have htk := rH (x := { x with to := U }) hU.1
      have hov := n9 (cs := (cSp { x with to := U }).map AV.i) (n := 54) (by rw [List.length_map, hln])
      have hpv := dP (cSp { x with to := U })
      have hch := qb 54 ((cSp { x with to := U }).map (PV.int .i64)) (by rw [List.length_map, hln])
      have hmm := z9 (cSp { x with to := U })
      have hti : ((cSp { x with to := U }).map (PV.int .i64)).take 54 = (cSp { x with to := U }).map (PV.int .i64) := List.take_of_length_le (by rw [List.length_map, hln]; exact Nat.le_refl _)
      have hsl := X6 ok.len
      have hrf := Z9 (ns := ns) (fl := fl) (lb := lb) (n := l.length) hS
      have hgs := cT (ns := ns) (fl := fl) (lb := lb) (n := l.length) (m := l.length + 1) hS
      have hgb := mb (ns := ns) (fl := fl) (S := S) (l := l) hb hne
      have hfn : ∀ L : Heap, ((m3 h b lb ns fl S l ++ L).set lb (some ⟨l.length + 1, dO l ++ (cSp { x with to := U }).map AV.i⟩)).set b (some ⟨0, gmC ns fl S lb (l.length + 1)⟩) = m3 h b lb ns fl S (l ++ [{ x with to := U }]) ++ L := fun L => by
        have := gP (ns := ns) (fl := fl) (S := S) (l := l) (l' := l ++ [{ x with to := U }]) hb hl hne L
        simpa only [spB, gmB, List.length_append, List.length_cons, List.length_nil, Nat.zero_add, bh] using this
      rw [hmv]
      repeat' (first | ((first | refine c8 ?_ | refine b8 ?_ | refine o5 ?_ | refine m9 ?_); (try simp only [NB])) | ((repeat ((fail_if_success (refine hK _ ?_)); clear hK K)); refine hK _ ?_; clear hK K) | ((first | refine d8 fun K1 p7 => ?_ | refine d6 fun K1 p7 => ?_ | refine o6 rfl rfl rfl fun K1 p7 => ?_ | refine b5 fun A B hA hB => ?_); simp only [S1, simprocAttr, aA, D6, hln, htk, hov, hpv, hch, hti, hmm, hsl, hrf, hgs, hgb, hfn, hmax, e9, n6 hb hne, k9 hl, gmB, spB, gl, kw, g9, h9, List.length_map, List.length_take, List.length_drop, j7, u0, s4, x9, t6, Nat.mul_one]; first | (refine p7 _ ?_; clear p7 K1) | ((first | refine hA ?_ | refine hB ?_); clear hA hB A B) | (((first | (refine ⟨fun hg => hA ?_, fun hg => hB ?_⟩ <;> clear hA hB A B) | refine ⟨fun hg => ?_, fun hg => ?_⟩) <;> (try simp only [BN2] at hg) <;> (try simp only [hg, cndB])) <;> (try (refine p7 _ ?_; clear p7 K1)) <;> (try simp only [BN3] at hg))) | ((first | refine t9 (v := ?_) rfl rfl rfl rfl (by decide) (fun R1 K1 p7 => ?_) ?_ | refine t8 (v := ?_) rfl rfl rfl (by decide) (fun K1 p7 => ?_) ?_ | refine r8 (v := ?_) rfl rfl rfl (by decide) (fun K1 p7 => ?_) ?_); rotate_left; (focus (simp only [S1, simprocAttr, aA, D6, hln, htk, hov, hpv, hch, hti, hmm, hsl, hrf, hgs, hgb, hfn, hmax, e9, n6 hb hne, k9 hl, gmB, spB, gl, kw, g9, h9, List.length_map, List.length_take, List.length_drop, j7, u0, s4, x9, t6, Nat.mul_one]; first | (exact p7 _ _ _)))) | (refine n5 rfl rfl rfl ?_) | ((first | refine i3 (z := ?_) 0 rfl rfl rfl rfl (by decide) rfl ?_ ?_ | refine i3 (z := ?_) 1 rfl rfl rfl rfl (by decide) rfl ?_ ?_ | refine i3 (z := ?_) 2 rfl rfl rfl rfl (by decide) rfl ?_ ?_); rotate_left; (focus (simp only [S1, simprocAttr, aA, D6, hln, htk, hov, hpv, hch, hti, hmm, hsl, hrf, hgs, hgb, hfn, hmax, e9, n6 hb hne, k9 hl, gmB, spB, gl, kw, g9, h9, List.length_map, List.length_take, List.length_drop, j7, u0, s4, x9, t6, Nat.mul_one, u9]; rfl))) | (refine b6 fun K hK => ?_) | (refine p6 [0, 1, 2, 3, 4, 5, 6, 7, 8, 9, 10] 0 (fs := []) rfl (by kernel_rfl) (by kernel_rfl) ?_) | ((first | refine a9 ?_ | refine j4 (by kernel_rfl) ?_ | refine b7 ?_ | refine c9 ?_ | refine d4 ?_ | refine d7 ?_); try simp only [NB, simprocAttr]))
      all_goals simp only [y8, y1, Q6, S4, K6, F2, D8, D3, pur, I2, j7, m8, l8, List.length_append, S1, simprocAttr, aA, Nat.le_add_right, Nat.le_refl]
      all_goals exact ⟨i5 hl, by rw [hmv]⟩
end
section
def rI := And.intro T2 (And.intro T3 (And.intro T4 (And.intro T25 (And.intro T26 (And.intro T27 (And.intro T32 (And.intro T40 (And.intro T46 (And.intro T53 (And.intro T61 (And.intro T84 T86)))))))))))
attribute [local irreducible] awp q9 m7 n7 r5 q8
variable {G : Nat → Option (List PV)}
theorem GmOk.ext {h : Heap} {b lb : Nat} {S : List Int} {l : List Sp} (ok : GmOk h b lb S l) (L : Heap) : GmOk (h ++ L) b lb S l :=
  ⟨by have := ok.hb; simp; omega, by have := ok.hl; simp; omega, ok.ne, ok.held, ok.len, ok.few⟩
theorem A2 (S : List Int) (x : Sp) (fr to : List Int) : (p9 S x fr to).length ≤ 1 := by
  unfold p9
  split
  · simp
  · split <;> simp
theorem W5 {h : Heap} {b lb : Nat} {ns : List Nd} {fl : List Fl} {S : List Int} {l : List Sp} (ok : GmOk h b lb S l) (x : Sp) (hx : x.to.length = 49) (fr to : List Int) (hfr : InF fr) (hto : InF to) (L : Heap) :
    f9 Tryz.prog G 28 [.ptr b 0 0, aSp x, aI fr, aI to] (m3 h b lb ns fl S l ++ L) (fun r h' => r = .undef ∧ h' = m3 h b lb ns fl S (l ++ p9 S x fr to) ++ L) := by
  have := dQ (G := G) (ns := ns) (fl := fl) (ok.ext L) x hx fr to hfr hto
  rwa [K4 ok.hb ok.hl, K4 ok.hb ok.hl] at this
theorem F6 {S : List Int} {n : Nat} (hS : S.length = n) (a b c d e : AV) (t : List AV) (ht : t.length = n) : w9 (a :: b :: c :: d :: e :: t) 5 (S.map AV.i) = a :: b :: c :: d :: e :: S.map AV.i := by
  rw [ki (S.map AV.i) _ 5 (by simp [hS, ht]; omega)]; rfl
theorem v8 {ns : List Nd} {fl : List Fl} {S : List Int} {lb n : Nat} (hS : S.length = 49) : ((gmC ns fl S lb n).drop 2).take 49 = S.map AV.i := by
  have := gM (ns := ns) (fl := fl) (lb := lb) (n := n) (S := S) 0 49 (by omega)
  simp only [Nat.add_zero, List.drop_zero] at this
  rw [this, List.take_of_length_le (by omega)]
def u4 (S : List Int) (i e : Int) : Sp := ⟨i, 0, 6, i, e, S.set 48 2⟩
theorem rJ (x : Sp) : (cSp x).map AV.i = .p (.int .i64 x.node) :: .p (.int .i64 x.arg) :: .p (.int .i64 x.lk) :: .p (.int .i64 x.ln) :: .p (.int .i64 x.la) :: x.to.map AV.i := rfl
theorem mc {h : Heap} {b lb : Nat} {ns : List Nd} {fl : List Fl} {S : List Int} {l : List Sp} (ok : GmOk h b lb S l) (i e : Int) :
    f9 Tryz.prog G 74 [.ptr b 0 0, .i i, .i e] (m3 h b lb ns fl S l) (fun r h' => r = .undef ∧ h' = m3 h b lb ns fl S (l ++ [u4 S i e])) := by
  have hb := ok.hb
  have hl := ok.hl
  have hne := ok.ne
  have hS := ok.held.1
  have hmax : l.length + 1 ≤ o9 := by have := ok.few; unfold o9; omega
  have gl := v4 (ns := ns) (fl := fl) (lb := lb) (n := l.length) hS
  have t49 := v8 (ns := ns) (fl := fl) (lb := lb) (n := l.length) hS
  have hov := n9 (cs := S.map AV.i) (n := 49) (by rw [List.length_map, hS])
  have hset := fun v => F0 S 48 v
  have hS2 : (S.set 48 2).length = 49 := by rw [List.length_set, hS]
  have htl := F6 hS2
  have htk : ((S.set 48 2).map AV.i).take 49 = (S.set 48 2).map AV.i := List.take_of_length_le (by rw [List.length_map, hS2]; exact Nat.le_refl _)
  have hx : (u4 S i e).to.length = 49 := hS2
  have hln : (cSp (u4 S i e)).length = 54 := G4 hx
  have heq : (AV.p (.int .i64 i) :: .p (.int .i64 0) :: .p (.int .i64 6) :: .p (.int .i64 i) :: .p (.int .i64 e) :: (S.set 48 2).map AV.i) = (cSp (u4 S i e)).map AV.i := rfl
  have hov2 := n9 (cs := (cSp (u4 S i e)).map AV.i) (n := 54) (by rw [List.length_map, hln])
  have hpv := dP (cSp (u4 S i e))
  have hti : ((cSp (u4 S i e)).map (PV.int .i64)).take 54 = (cSp (u4 S i e)).map (PV.int .i64) := List.take_of_length_le (by rw [List.length_map, hln]; exact Nat.le_refl _)
  have hmm := z9 (cSp (u4 S i e))
  have hsl := X6 ok.len
  have hrf := Z9 (ns := ns) (fl := fl) (lb := lb) (n := l.length) hS
  have hgs := cT (ns := ns) (fl := fl) (lb := lb) (n := l.length) (m := l.length + 1) hS
  have hgb := mb (ns := ns) (fl := fl) (S := S) (l := l) hb hne
  have hfn : ∀ L : Heap, ((m3 h b lb ns fl S l ++ L).set lb (some ⟨l.length + 1, dO l ++ (cSp (u4 S i e)).map AV.i⟩)).set b (some ⟨0, gmC ns fl S lb (l.length + 1)⟩) = m3 h b lb ns fl S (l ++ [u4 S i e]) ++ L := fun L => by
    have := gP (ns := ns) (fl := fl) (S := S) (l := l) (l' := l ++ [u4 S i e]) hb hl hne L
    simpa only [spB, gmB, List.length_append, List.length_cons, List.length_nil, Nat.zero_add, bh] using this
  refine j8 (rl := []) i6 Tryz.func74 rfl (rs := []) rfl Tryz.ntmps74 (by simp) ?_
  repeat' (first | ((first | refine c8 ?_ | refine b8 ?_ | refine o5 ?_ | refine m9 ?_); (try simp only [NB])) | ((repeat ((fail_if_success (refine hK _ ?_)); clear hK K)); refine hK _ ?_; clear hK K) | ((first | refine d8 fun K1 p7 => ?_ | refine d6 fun K1 p7 => ?_ | refine o6 rfl rfl rfl fun K1 p7 => ?_ | refine b5 fun A B hA hB => ?_); simp only [S1, simprocAttr, rI, t49, hov, hset, hS, hS2, htl, htk, heq, hln, hov2, hpv, hti, hmm, hsl, hrf, hgs, hgb, hfn, hmax, e9, n6 hb hne, k9 hl, l6 hb hne, j9 hl, gmB, spB, gl, g9, h9, List.length_map, List.length_take, List.length_drop, j7, u0, s4, x9, t6, Nat.mul_one]; first | (refine p7 _ ?_; clear p7 K1) | ((first | refine hA ?_ | refine hB ?_); clear hA hB A B) | (((first | (refine ⟨fun hg => hA ?_, fun hg => hB ?_⟩ <;> clear hA hB A B) | refine ⟨fun hg => ?_, fun hg => ?_⟩) <;> (try simp only [BN2] at hg) <;> (try simp only [hg, cndB])) <;> (try (refine p7 _ ?_; clear p7 K1)) <;> (try simp only [BN3] at hg))) | ((first | refine t9 (v := ?_) rfl rfl rfl rfl (by decide) (fun R1 K1 p7 => ?_) ?_ | refine t8 (v := ?_) rfl rfl rfl (by decide) (fun K1 p7 => ?_) ?_ | refine r8 (v := ?_) rfl rfl rfl (by decide) (fun K1 p7 => ?_) ?_); rotate_left; (focus (simp only [S1, simprocAttr, rI, t49, hov, hset, hS, hS2, htl, htk, heq, hln, hov2, hpv, hti, hmm, hsl, hrf, hgs, hgb, hfn, hmax, e9, n6 hb hne, k9 hl, l6 hb hne, j9 hl, gmB, spB, gl, g9, h9, List.length_map, List.length_take, List.length_drop, j7, u0, s4, x9, t6, Nat.mul_one]; first | (exact p7 _ _ _)))) | (refine n5 rfl rfl rfl ?_) | ((first | refine i3 (z := ?_) 0 rfl rfl rfl rfl (by decide) rfl ?_ ?_ | refine i3 (z := ?_) 1 rfl rfl rfl rfl (by decide) rfl ?_ ?_ | refine i3 (z := ?_) 2 rfl rfl rfl rfl (by decide) rfl ?_ ?_); rotate_left; (focus (simp only [S1, simprocAttr, rI, t49, hov, hset, hS, hS2, htl, htk, heq, hln, hov2, hpv, hti, hmm, hsl, hrf, hgs, hgb, hfn, hmax, e9, n6 hb hne, k9 hl, l6 hb hne, j9 hl, gmB, spB, gl, g9, h9, List.length_map, List.length_take, List.length_drop, j7, u0, s4, x9, t6, Nat.mul_one, u9]; rfl))) | (refine b6 fun K hK => ?_) | (refine p6 [0, 1, 2, 3, 4, 5, 6, 7, 8, 9, 10, 11, 12, 13, 14, 15] 0 (fs := []) rfl (by kernel_rfl) (by kernel_rfl) ?_) | ((first | refine a9 ?_ | refine j4 (by kernel_rfl) ?_ | refine b7 ?_ | refine c9 ?_ | refine d4 ?_ | refine d7 ?_); try simp only [NB, simprocAttr]))
  all_goals simp only [S1, simprocAttr, ENB, y8, y1, j7, m8, l8] <;> first | exact i5 hl | exact ⟨i5 hl, rfl⟩ | exact ⟨i5 hl, rfl, rfl⟩
theorem gQ {h : Heap} {b lb : Nat} {ns : List Nd} {fl : List Fl} {S : List Int} {l : List Sp} (ok : GmOk h b lb S l) (i e : Int) (L : Heap) :
    f9 Tryz.prog G 74 [.ptr b 0 0, .i i, .i e] (m3 h b lb ns fl S l ++ L) (fun r h' => r = .undef ∧ h' = m3 h b lb ns fl S (l ++ [u4 S i e]) ++ L) := by
  have := mc (G := G) (ns := ns) (fl := fl) (ok.ext L) i e
  rwa [K4 ok.hb ok.hl, K4 ok.hb ok.hl] at this
end
section
attribute [local irreducible] awp q9 m7 n7 r5 q8
variable {G : Nat → Option (List PV)}
structure Ru where
  kind : Int
  node : Int
  needs : List Int
  gives : List Int
def eRu (r : Ru) : List PV := [.int .i64 r.kind, .int .i64 r.node, .sl (r.needs.map eI), .sl (r.gives.map eI)]
def cRu (l : List Ru) : List AV := (V2 eRu l).map AV.p
def mkB (lb : Nat) (l : List Ru) : Option Blk := some ⟨0, [.ref lb l.length 0 4 l.length]⟩
def ruB (l : List Ru) : Option Blk := some ⟨l.length, cRu l⟩
end
section
structure Right (ns : List Nd) (fl : List Fl) : Prop where
  n : ns.length ≤ 24
  f : fl.length ≤ 40
  b1 : ∀ i, i < ns.length → X3 ns i = false
  b2 : ∀ i, i < fl.length → X4 ns fl i = false
  b3 : ∀ i, i < ns.length → U6 ns fl i = false
  ends : I4 ns = false
  b4 : ∀ i, i < ns.length → gJ ns fl i = false
theorem fC {rule : Int} {p : Nat → Bool} {n : Nat} {x : Int × Int} (h : (plF rule p n).head? = some x) : x.1 = rule := by
  have hm := List.mem_of_head? h
  unfold plF at hm
  obtain ⟨i, _, rfl⟩ := List.mem_map.mp hm
  rfl
theorem qc {α : Type} {l : List α} (h : l.head? = none) : l = [] := by
  cases l with
  | nil => rfl
  | cons => cases h
theorem Right.of {ns : List Nd} {fl : List Fl} (h : (E5 ns fl).1 = 0) : Right ns fl := by
  have key : ∀ (rule : Int) (l : List (Int × Int)), rule ≠ 0 → (∀ x, l.head? = some x → x.1 = rule) → (l.head?.getD (0, 0)).1 = 0 → l = [] := by
    intro rule l hr hl h0
    cases hx : l.head? with
    | none => exact qc hx
    | some x =>
      rw [hx] at h0
      have := hl x hx
      simp only [Option.getD_some] at h0
      omega
  unfold E5 X5 at h
  split at h
  · simp at h
  rename_i hs
  split at h
  · rename_i h1; exact absurd (key 1 _ (by decide) (fun x hx => fC hx) h) h1
  rename_i h1
  split at h
  · rename_i h2; exact absurd (key 2 _ (by decide) (fun x hx => fC hx) h) h2
  rename_i h2
  split at h
  · rename_i h3
    refine absurd (key 3 _ (by decide) (fun x hx => ?_) h) h3
    unfold F7 at hx
    rw [List.head?_append] at hx
    cases hq : (plF 3 (U6 ns fl) ns.length).head? with
    | some y => rw [hq] at hx; cases hx; exact fC hq
    | none =>
      rw [hq] at hx
      split at hx
      · cases hx; rfl
      · cases hx
  rename_i h3
  have h4 := key 4 _ (by decide) (fun x hx => fC hx) h
  rw [Decidable.not_not] at h1 h2 h3
  have h3' : plF 3 (U6 ns fl) ns.length = [] ∧ I4 ns = false := by
    unfold F7 at h3
    rw [List.append_eq_nil_iff] at h3
    refine ⟨h3.1, ?_⟩
    cases hq : I4 ns with
    | false => rfl
    | true => rw [hq] at h3; simp at h3
  simp only [Bool.or_eq_true, decide_eq_true_eq, not_or] at hs
  exact ⟨by omega, by omega, cS h1, cS h2, cS h3'.1, h3'.2, cS h4⟩
theorem Right.isIn {ns : List Nd} {fl : List Fl} (h : Right ns fl) : InN ns.length fl := ku (F3 (rule := 2) h.b2)
theorem Right.three {ns : List Nd} {fl : List Fl} (h : Right ns fl) {i : Nat} (hi : i < ns.length) : C8 ns fl i = true := by
  have := h.b3 i hi
  unfold U6 at this
  simp only [Bool.or_eq_false_iff, Bool.not_eq_false'] at this
  exact this.1.1
def V4 (fl : List Fl) (x : Int) : Int := match fl[x.toNat]? with | some f => f.dst | none => 0
def nM (fl : List Fl) (i : Nat) (kind : Int) : List Ru :=
  if kind = 1 then []
  else if kind = 7 then (k3 fl i).map fun f => ⟨3, i, p5 fl i, k3 fl (V4 fl f)⟩
  else if kind = 8 then [⟨3, i, p5 fl i, k3 fl i⟩]
  else if kind = 5 then (if 1 < (k3 fl i).length then (k3 fl i).map fun f => ⟨2, i, p5 fl i, [f]⟩ else (p5 fl i).map fun f => ⟨1, i, [f], [(k3 fl i).headD 0]⟩)
  else [⟨1, i, p5 fl i, k3 fl i⟩]
theorem oX (fl : List Fl) (i : Int) : (p5 fl i).length ≤ fl.length := O6 _ _ _
theorem mf (fl : List Fl) (i : Int) : (k3 fl i).length ≤ fl.length := O6 _ _ _
theorem N9 {ns : List Nd} {i : Nat} {k : Nd} (h : ns[i]? = some k) : u3 ns i = k.kind := by unfold u3; rw [Int.toNat_natCast, h]
theorem Right.xor {ns : List Nd} {fl : List Fl} (h : Right ns fl) {i : Nat} (hi : i < ns.length) (hk : u3 ns i = 5) : ((p5 fl i).length = 1 ∧ 2 ≤ (k3 fl i).length) ∨ (2 ≤ (p5 fl i).length ∧ (k3 fl i).length = 1) := by
  have := h.three hi
  unfold C8 at this
  simp only [hk] at this
  simp only [Int.reduceEq, reduceIte, Bool.or_eq_true, Bool.and_eq_true, beq_iff_eq, decide_eq_true_eq] at this
  omega
end
section
attribute [local irreducible] awp q9 m7 n7 r5 q8
variable {G : Nat → Option (List PV)}
theorem t5.maker {P : Program} {h : Heap} {s : St} {A : Option Blk} (hh : s.heap = h ++ [A, some ⟨0, [.p .nils]⟩]) : t5 P G h s ⟨s.fr, s.nt, h ++ [A, mkB (h.length + 2) [], ruB []]⟩ := by
  have := t5.adoptCell (P := P) (G := G) (h0 := h) (s := s) (b := h.length + 1) (j := 0) (bk := ⟨0, [.p .nils]⟩) 4 (by rw [hh]; simp [q7]) rfl (by omega)
  rw [hh] at this
  simp only [List.length_append, List.length_cons, List.length_nil, List.append_assoc, List.cons_append, List.nil_append, cK, List.set_cons_succ, List.set_cons_zero, Nat.zero_add, Nat.reduceAdd] at this
  exact this
structure Qg where
  j : Nat
  g : Nat
end
section
attribute [local irreducible] awp q9 m7
variable {G : Nat → Option (List PV)}
mutual
def lgT : Tm → Int → Int → Bool × Int
  | .mk _ _ ks, d, n => if n - 1 < 0 ∨ 40 < d ∨ 50 < (ks.length : Int) then (true, n - 1) else lgS ks (d + 1) (n - 1)
def lgS : List Tm → Int → Int → Bool × Int
  | [], _, n => (false, n)
  | k :: r, d, n => if (lgT k d n).1 = true then lgT k d n else lgS r d (lgT k d n).2
end
theorem nN (t : Tm) (d n : Int) : lgT t d n = if n - 1 < 0 ∨ 40 < d ∨ 50 < (t.kids.length : Int) then (true, n - 1) else lgS t.kids (d + 1) (n - 1) := by
  cases t; rw [lgT]; rfl
theorem fD : ∀ (a b : List Tm) (d n : Int), lgS (a ++ b) d n = if (lgS a d n).1 = true then lgS a d n else lgS b d (lgS a d n).2
  | [], b, d, n => by simp [lgS]
  | k :: r, b, d, n => by
    simp only [List.cons_append, lgS]
    by_cases h : (lgT k d n).1 = true
    · simp [h]
    · simp only [h, if_false]
      exact fD r b d _
theorem cV {l : List Tm} {i : Nat} {k : Tm} (hk : l[i]? = some k) {d n : Int} (hp : (lgS (l.take i) d n).1 = false) :
    lgS (l.take (i + 1)) d n = lgT k d (lgS (l.take i) d n).2 := by
  rw [List.take_add_one, hk, fD]
  simp only [hp, Bool.false_eq_true, if_false, Option.toList_some, lgS]
  split
  · rfl
  · rename_i h
    have : (lgT k d (lgS (List.take i l) d n).2).1 = false := by simpa using h
    rw [Prod.ext_iff]; exact ⟨this.symm, rfl⟩
theorem gR {l : List Tm} {i : Nat} {k : Tm} (hk : l[i]? = some k) {d n : Int} (hp : (lgS (l.take i) d n).1 = false) (ht : (lgT k d (lgS (l.take i) d n).2).1 = true) :
    lgS l d n = lgT k d (lgS (l.take i) d n).2 := by
  have h := cV hk hp
  conv => lhs; rw [← List.take_append_drop (i + 1) l]
  rw [fD, h, if_pos ht]
theorem sT : ∀ t : Tm, ∀ d n : Int, 0 ≤ n → -1 ≤ (lgT t d n).2 ∧ (lgT t d n).2 ≤ n ∧ ((lgT t d n).1 = false → 0 ≤ (lgT t d n).2) := by
  intro t
  refine Tm.ind (p := fun t => ∀ d n : Int, 0 ≤ n → -1 ≤ (lgT t d n).2 ∧ (lgT t d n).2 ≤ n ∧ ((lgT t d n).1 = false → 0 ≤ (lgT t d n).2)) (fun t ih => ?_) t
  have hs : ∀ l : List Tm, (∀ k ∈ l, k ∈ t.kids) → ∀ d n : Int, 0 ≤ n → -1 ≤ (lgS l d n).2 ∧ (lgS l d n).2 ≤ n ∧ ((lgS l d n).1 = false → 0 ≤ (lgS l d n).2) := by
    intro l
    induction l with
    | nil => intro _ d n hn; simp [lgS]; omega
    | cons k r ihr =>
      intro hm d n hn
      have h1 := ih k (hm k (by simp)) d n hn
      simp only [lgS]
      split
      · exact h1
      · rename_i h
        have h2 := h1.2.2 (by simpa using h)
        have h3 := ihr (fun x hx => hm x (by simp [hx])) d _ h2
        exact ⟨by omega, by omega, h3.2.2⟩
  intro d n hn
  rw [nN]
  split
  · simp; omega
  · rename_i h
    have := hs t.kids (fun _ h => h) (d + 1) (n - 1) (by omega)
    exact ⟨by omega, by omega, this.2.2⟩
theorem gS {l : List Tm} {d n : Int} (hn : 0 ≤ n) : -1 ≤ (lgS l d n).2 ∧ (lgS l d n).2 ≤ n ∧ ((lgS l d n).1 = false → 0 ≤ (lgS l d n).2) := by
  induction l generalizing n with
  | nil => simp [lgS]; omega
  | cons k r ih =>
    have h1 := sT k d n hn
    simp only [lgS]
    split
    · exact h1
    · rename_i h
      have h2 := h1.2.2 (by simpa using h)
      have h3 := ih h2
      exact ⟨by omega, by omega, h3.2.2⟩
theorem uD : ∀ t : Tm, ∀ d n : Int, (lgT t d n).1 = false → 1 ≤ d → Tm.Ok (41 - d).toNat t := by
  intro t
  refine Tm.ind (p := fun t => ∀ d n : Int, (lgT t d n).1 = false → 1 ≤ d → Tm.Ok (41 - d).toNat t) (fun t ih => ?_) t
  intro d n hf hd
  rw [nN] at hf
  split at hf
  · cases hf
  · rename_i h
    have hs : ∀ l : List Tm, ∀ d n : Int, (lgS l d n).1 = false → ∀ k ∈ l, ∃ m, (lgT k d m).1 = false := by
      intro l
      induction l with
      | nil => intro d n _ k hk; simp at hk
      | cons x r ihr =>
        intro d n hf k hk
        simp only [lgS] at hf
        split at hf
        · rename_i h2; rw [h2] at hf; cases hf
        · rename_i h2
          rcases List.mem_cons.mp hk with rfl | hk
          · exact ⟨n, by simpa using h2⟩
          · exact ihr _ _ hf k hk
    have e : (41 - d).toNat = (41 - (d + 1)).toNat + 1 := by omega
    rw [e]
    refine .mk _ t (by omega) fun k hk => ?_
    obtain ⟨m, hm⟩ := hs _ _ _ hf k hk
    exact ih k hk _ _ hm (by omega)
def w7 (h : Heap) (b : Nat) (c : Option Blk) : Heap := h.set b c
section
variable {h : Heap} {b : Nat} {c c' : Option Blk}
theorem sU (hb : h[b]? = some c) : w7 h b c = h := by
  apply List.ext_getElem?
  intro i
  unfold w7
  rw [List.getElem?_set]
  split
  · rename_i e; subst e; split
    · exact hb.symm
    · rename_i hn; rw [List.getElem?_eq_none (by omega)] at hb; cases hb
  · rfl
theorem z4 : (w7 h b c).length = h.length := by unfold w7; rw [List.length_set]
theorem cW (hb : b < h.length) : (w7 h b c)[b]? = some c := by unfold w7; rw [List.getElem?_set]; simp [hb]
theorem ab (hb : b < h.length) (L : Heap) : (w7 h b c ++ L)[b]? = some c := by rw [List.getElem?_append_left (by rw [z4]; exact hb), cW hb]
theorem W6 : (w7 h b c).set b c' = w7 h b c' := by unfold w7; rw [List.set_set]
theorem ad (hb : b < h.length) (L : Heap) : (w7 h b c ++ L).set b c' = w7 h b c' ++ L := by rw [List.set_append_left _ _ (by rw [z4]; exact hb), W6]
theorem V5 (L : Heap) : (w7 h b c ++ L)[h.length]? = L[0]? := by rw [List.getElem?_append_right (by rw [z4]; omega), z4]; congr 1; omega
theorem V6 (L : Heap) (i : Nat) : (w7 h b c ++ L)[h.length + i]? = L[i]? := by rw [List.getElem?_append_right (by rw [z4]; omega), z4]; congr 1; omega
theorem fE (L : Heap) (x : Option Blk) : (w7 h b c ++ L).set h.length x = w7 h b c ++ L.set 0 x := by rw [List.set_append_right _ _ (by rw [z4]; omega), z4]; congr 2; omega
theorem fF (L : Heap) (i : Nat) (x : Option Blk) : (w7 h b c ++ L).set (h.length + i) x = w7 h b c ++ L.set i x := by rw [List.set_append_right _ _ (by rw [z4]; omega), z4]; congr 2; omega
theorem ky (L : Heap) : (w7 h b c ++ L).take h.length = w7 h b c := by
  have := z4 (h := h) (b := b) (c := c)
  rw [← this, List.take_left']; rfl
theorem ud (L : Heap) (hb : b < h.length) : w7 (w7 h b c ++ L) b c' = w7 h b c' ++ L := by
  show (w7 h b c ++ L).set b c' = _
  exact ad hb L
theorem oY {c0 : Option Blk} {g : Nat} {n : Int} : ∀ (i : Nat) (bk : Blk), (w7 h b (some ⟨g, [.i n]⟩))[i]? = some (some bk) → (w7 h b c0)[i]? = some (some bk) ∨ q6 (w7 h b c0).length bk.cells := by
  intro i bk hi
  unfold w7 at hi ⊢
  rw [List.getElem?_set] at hi ⊢
  split at hi
  · rename_i e
    split at hi
    · cases hi; exact .inr (by simp [q6, y6])
    · cases hi
  · rename_i e; rw [if_neg e]; exact .inl hi
theorem M5 {c0 : Option Blk} {g : Nat} {n : Int} (i : Nat) (bk : Blk) (hi : (w7 h b (some ⟨g, [.i n]⟩))[i]? = some (some bk)) : (w7 h b c0)[i]? = some (some bk) ∨ ∀ x, x ∈ bk.cells → AVlt h.length x :=
  (oY i bk hi).imp id fun hx => by rw [z4] at hx; exact M2 _ hx
theorem rK : w7 (w7 h b c) b c' = w7 h b c' := W6
theorem gU : (w7 h b c).take h.length = w7 h b c := by
  rw [← z4 (h := h) (b := b) (c := c), List.take_length]
end
abbrev rB (g : Nat) (n : Int) : Option Blk := some ⟨g, [.i n]⟩
end
section
attribute [local irreducible] awp q9 m7 n7 r5 q8
variable {G : Nat → Option (List PV)}
def M6 (ns : List Nd) (fl : List Fl) : List Tm := ns.map (·.term) ++ fl.map (·.cond)
theorem sV {l : List Tm} : ∀ {d n : Int}, 1 ≤ d → (lgS l d n).1 = false → ∀ k ∈ l, Tm.Ok (41 - d).toNat k := by
  induction l with
  | nil => intro d n _ _ k hk; simp at hk
  | cons x r ih =>
    intro d n hd hf k hk
    simp only [lgS] at hf
    split at hf
    · rename_i h2; rw [h2] at hf; cases hf
    · rename_i h2
      rcases List.mem_cons.mp hk with rfl | hk
      · exact uD _ _ _ (by simpa using h2) hd
      · exact ih hd hf k hk
end
end Go.Proofs.YtjpphhcimpclpaaGreatDoor.AM
