/- Proved here, in parts, for one law: contracts of the functions that the laws call, and the plain facts behind them. Conditions: none. -/
import Derived.Test.YtjpphhcimpclpaaGreatDoorZTokenMovesD
set_option linter.unusedVariables false
set_option linter.unusedSimpArgs false
set_option linter.defProp false
set_option maxRecDepth 4000
set_option maxHeartbeats 4000000
namespace Go.Proofs.YtjpphhcimpclpaaGreatDoor.AM
open Go Go.Proofs
section
def jA := And.intro T2 (And.intro T3 (And.intro T4 (And.intro T22 (And.intro T23 (And.intro T25 (And.intro T26 (And.intro T27 (And.intro T32 (And.intro T40 (And.intro T46 (And.intro T53 (And.intro T61 (And.intro T68 (And.intro T70 (And.intro T73 (And.intro T84 T86))))))))))))))))
attribute [local irreducible] awp q9 m7 n7 r5 q8
def P2 (S : List Int) (k : Nd) (i : Int) (ins outs : List Int) : List Sp :=
  if tk S (ins.headD 0) = 0 then []
  else if k.kind = 3 then p9 S ⟨i, 0, 1, i, 0, S.set (40 + k.a.toNat) 0⟩ ins outs ++ p9 S ⟨i, 1, 1, i, 1, S.set (40 + k.a.toNat) 1⟩ ins outs
  else if (N8 k.term (vS S)).2 ≠ 0 then [u4 S i (N8 k.term (vS S)).2]
  else p9 S ⟨i, 0, 2, i, 0, S.set (40 + k.a.toNat) (N8 k.term (vS S)).1⟩ ins outs
def Sj (S : List Int) (a j : Nat) : List Int := if j = 0 then S else S.set (40 + a) ((j : Int) - 1)
theorem ul (S : List Int) (a j : Nat) (v : Int) : (Sj S a j).set (40 + a) v = S.set (40 + a) v := by
  unfold Sj; split
  · rfl
  · rw [List.set_set]
theorem um {S : List Int} {a j : Nat} : (Sj S a j).length = S.length := by unfold Sj; split <;> simp
theorem tq (S : List Int) (a j : Nat) : Sj S a (j + 1) = S.set (40 + a) (j : Int) := by
  unfold Sj; rw [if_neg (by omega)]; congr 1; omega
theorem ii {h : Heap} {b lb : Nat} {ns : List Nd} {fl : List Fl} (nk : NetOk ns fl) {S : List Int} {l : List Sp} (ok : GmOk h b lb S l) (few : l.length ≤ 900000) (c : Nat) {k : Nd} (hc : ns[c]? = some k) (ha : 0 ≤ k.a ∧ k.a < 4) (ins outs : List Int) (hi : InF ins) (ho : InF outs) (hne0 : ins ≠ []) :
    f9 Tryz.prog gW 44 [.ptr b 0 0, .i c, aI ins, aI outs] (m3 h b lb ns fl S l) (fun r h' => r = .undef ∧ h' = m3 h b lb ns fl S (l ++ P2 S k c ins outs)) := by
  have hb := ok.hb
  have hl := ok.hl
  have hne := ok.ne
  have hS := ok.held.1
  have gl := v4 (ns := ns) (fl := fl) (lb := lb) (n := l.length) hS
  have t49 := v8 (ns := ns) (fl := fl) (lb := lb) (n := l.length) hS
  have hin0 : (0 : Int) ≤ 0 := Int.le_refl 0
  have c0 : (0 : Int) ≤ (c : Int) := by omega
  have hc' := B8 hc
  obtain ⟨a, hka⟩ := Int.eq_ofNat_of_zero_le ha.1
  have a4 : a < 4 := by omega
  have a0 : (0 : Int) ≤ (a : Int) := by omega
  have a4' : (a : Int) < 4 := by omega
  have h49 : 40 + a + 1 ≤ 49 := by omega
  obtain ⟨i0, hi0, hh⟩ : ∃ i0, ins[0]? = some i0 ∧ ins.headD 0 = i0 := by
    cases ins with
    | nil => exact absurd rfl hne0
    | cons a r => exact ⟨a, rfl, rfl⟩
  obtain ⟨f0, f40⟩ := hi.2 i0 (List.mem_of_getElem? hi0)
  obtain ⟨m, rfl⟩ := Int.eq_ofNat_of_zero_le f0
  have k40 : m < 40 := by omega
  obtain ⟨hv, v0, v3⟩ := ok.held.at k40
  have gk := U2 (ns := ns) (fl := fl) (lb := lb) (n := l.length) hv
  have gv := D4 (ns := ns) (fl := fl) (lb := lb) (n := l.length) hS
  have hov := n9 (cs := S.map AV.i) (n := 49) (by rw [List.length_map, hS])
  have hS2 : ∀ v, (S.set (40 + a) v).length = 49 := fun v => by rw [List.length_set, hS]
  have htk : ∀ v, ((S.set (40 + a) v).map AV.i).take 49 = (S.set (40 + a) v).map AV.i := fun v => List.take_of_length_le (by rw [List.length_map, hS2]; exact Nat.le_refl _)
  have htl : ∀ v, _ := fun v => F6 (hS2 v)
  have hset := fun v => F0 S (40 + a) v
  by_cases hz : tk S (m : Int) = 0
  · have hz' : (tk S (m : Int) == 0) = true := by simp [hz]
    have eg : P2 S k c ins outs = [] := by unfold P2; rw [hh, if_pos hz]
    rw [eg, List.append_nil]
    refine j8 (rl := []) i6 Tryz.func44 rfl (rs := []) rfl Tryz.ntmps44 (by simp) ?_
    repeat' (first | ((repeat ((fail_if_success (refine hK _ ?_)); clear hK K)); refine hK _ ?_; clear hK K) | ((first | refine d8 fun K1 p7 => ?_ | refine d6 fun K1 p7 => ?_ | refine b5 fun A B hA hB => ?_); simp only [S1, simprocAttr, jA, f0, f40, gk, hz', c0, hc', eN, i9, C2 hi0, hin0, PGB, n6 hb hne, k9 hl, l6 hb hne, j9 hl, gmB, spB, gl]; first | refine p7 _ ?_; clear p7 K1 | ((first | refine hA ?_ | refine hB ?_); clear hA hB A B) | (((first | (refine ⟨fun hg => hA ?_, fun hg => hB ?_⟩ <;> clear hA hB A B) | refine ⟨fun hg => ?_, fun hg => ?_⟩) <;> (try simp only [BN2] at hg) <;> (try simp only [hg, cndB])) <;> (try (refine p7 _ ?_; clear p7 K1)) <;> (try simp only [BN3] at hg))) | refine b6 fun K hK => ?_ | ((first | apply c8 | apply b8 | apply a9 | refine d5 ?_ | apply b7 | apply c9 | apply d4 | apply d7); try simp only [NB, simprocAttr]))
    all_goals simp only [S1, simprocAttr, ENB, y8, y1, j7, m8, l8] <;> first | exact i5 hl | exact ⟨i5 hl, rfl⟩ | exact ⟨i5 hl, rfl, rfl⟩
  have hz' : (tk S (m : Int) == 0) = false := by simp [hz]
  by_cases h3 : k.kind = 3
  · have h3' : (k.kind == 3) = true := by simp [h3]
    have eg : P2 S k c ins outs = p9 S ⟨c, 0, 1, c, 0, S.set (40 + a) 0⟩ ins outs ++ p9 S ⟨c, 1, 1, c, 1, S.set (40 + a) 1⟩ ins outs := by
      unfold P2; rw [hh, if_neg hz, if_pos h3, hka, Int.toNat_natCast]
    rw [eg]
    let acc : Nat → List Sp := fun j => (if j = 0 then [] else p9 S ⟨c, 0, 1, c, 0, S.set (40 + a) 0⟩ ins outs) ++ (if j ≤ 1 then [] else p9 S ⟨c, 1, 1, c, 1, S.set (40 + a) 1⟩ ins outs)
    have hto : ∀ j, ∀ y ∈ acc j, y.to.length = 49 := by
      intro j y hy
      simp only [acc] at hy
      rcases List.mem_append.mp hy with hy | hy
      · split at hy
        · cases hy
        · exact x7 hS (hS2 _) y hy
      · split at hy
        · cases hy
        · exact x7 hS (hS2 _) y hy
    have hal : ∀ j, (acc j).length ≤ 2 := by
      intro j
      simp only [acc, List.length_append]
      have h1 := A2 S ⟨c, 0, 1, c, 0, S.set (40 + a) 0⟩ ins outs
      have h2 := A2 S ⟨c, 1, 1, c, 1, S.set (40 + a) 1⟩ ins outs
      split <;> split <;> simp <;> omega
    have e2 : acc 2 = p9 S ⟨c, 0, 1, c, 0, S.set (40 + a) 0⟩ ins outs ++ p9 S ⟨c, 1, 1, c, 1, S.set (40 + a) 1⟩ ins outs := by simp only [acc]; rfl
    rw [← e2]
    refine j8 (rl := []) i6 Tryz.func44 rfl (rs := []) rfl Tryz.ntmps44 (by simp) ?_
    repeat' (first | ((repeat ((fail_if_success (refine hK _ ?_)); clear hK K)); refine hK _ ?_; clear hK K) | ((first | refine d8 fun K1 p7 => ?_ | refine d6 fun K1 p7 => ?_ | refine b5 fun A B hA hB => ?_); simp only [S1, simprocAttr, jA, f0, f40, gk, hz', h3', hka, c0, hc', eN, t49, hov, hS, i9, C2 hi0, hin0, PGB, n6 hb hne, k9 hl, l6 hb hne, j9 hl, gmB, spB, gl]; first | refine p7 _ ?_; clear p7 K1 | ((first | refine hA ?_ | refine hB ?_); clear hA hB A B) | (((first | (refine ⟨fun hg => hA ?_, fun hg => hB ?_⟩ <;> clear hA hB A B) | refine ⟨fun hg => ?_, fun hg => ?_⟩) <;> (try simp only [BN2] at hg) <;> (try simp only [hg, cndB])) <;> (try (refine p7 _ ?_; clear p7 K1)) <;> (try simp only [BN3] at hg))) | refine b6 fun K hK => ?_ | ((first | apply c8 | apply b8 | apply a9 | refine d5 ?_ | apply b7 | apply c9 | apply d4 | apply d7); try simp only [NB, simprocAttr]))
    refine S6 2 89 (fun j => m3 h b lb ns fl S (l ++ acc j)) (fun j => [(10, .i j), (9, .ptr (h.length + 1) 0 0), (8, .ptr h.length 0 0), (3, aI outs), (2, aI ins), (1, .i c), (0, .ptr b 0 0)])
      (fun j => [some ⟨0, [.i k.kind, .i a, .i k.term.op, .i k.term.n, .p (.sl (k.term.kids.map eT))]⟩, some ⟨0, (Sj S a j).map AV.i⟩]) (fun j => True) (fun j => ⟨by rw [j7, j7], aa hl⟩) ?_ trivial fun j hj hp K hK => ?_
    · have e0 : acc 0 = [] := by simp [acc]
      have s0 : Sj S a 0 = S := rfl
      simp only [e0, s0, List.append_nil]
      refine ⟨rfl, ⟨[], by simp only [List.append_nil]⟩, ?_, ?_⟩
      · simp only [S1, simprocAttr, KNB, j7] <;> (try and_intros) <;> (try assumption) <;> (try trivial) <;> (try omega)
      · exact ⟨⟨trivial, trivial, trivial, trivial, trivial, trivial⟩, j6 _ _, trivial⟩
    have okj : GmOk h b lb S (l ++ acc j) := ok.app (hto j) (by have := hal j; omega)
    have glj := v4 (ns := ns) (fl := fl) (lb := lb) (n := (l ++ acc j).length) hS
    rcases Nat.lt_or_ge j 2 with hlt | hge
    · have hlt' : decide ((j : Int) < 2) = true := decide_eq_true (by omega)
      have hnx : IntKind.i64.wrap ((j : Int) + 1) = ((j + 1 : Nat) : Int) := by rw [IntWalk.i64_in _ (by omega)]; omega
      have ea' : l ++ acc (j + 1) = (l ++ acc j) ++ p9 S ⟨c, j, 1, c, j, S.set (40 + a) j⟩ ins outs := by
        rw [List.append_assoc]
        congr 1
        match j, hlt with
        | 0, _ => simp [acc]
        | 1, _ => simp [acc]
      generalize hlj : l ++ acc j = lj at ea' okj glj ⊢
      have hsj := fun v => F0 (Sj S a j) (40 + a) v
      have hss := ul S a j
      have hsl : (Sj S a j).length = 49 := by rw [um, hS]
      have hsn := tq S a j
      repeat' (first | ((repeat ((fail_if_success (refine hK _ ?_)); clear hK K)); refine hK _ ?_; clear hK K) | ((first | refine d8 fun K1 p7 => ?_ | refine d6 fun K1 p7 => ?_ | refine b5 fun A B hA hB => ?_); simp only [S1, simprocAttr, jA, hlt', hnx, a0, a4', h49, hsj, hss, hsl, htk, htl, hS2, glj, PGB, n6 hb hne, k9 hl, l6 hb hne, j9 hl, gmB, spB, gl]; first | refine p7 _ ?_; clear p7 K1 | ((first | refine hA ?_ | refine hB ?_); clear hA hB A B) | ((first | apply b9 E28 | apply c7 E28); exact (W5 okj ⟨c, j, 1, c, j, S.set (40 + a) j⟩ (hS2 _) ins outs hi ho _); refine p7 _ ?_; clear p7 K1) | (((first | (refine ⟨fun hg => hA ?_, fun hg => hB ?_⟩ <;> clear hA hB A B) | refine ⟨fun hg => ?_, fun hg => ?_⟩) <;> (try simp only [BN2] at hg) <;> (try simp only [hg, cndB])) <;> (try (refine p7 _ ?_; clear p7 K1)) <;> (try simp only [BN3] at hg))) | refine b6 fun K hK => ?_ | ((first | apply c8 | apply b8 | apply a9 | refine d5 ?_ | apply b7 | apply c9 | apply d4 | apply d7); try simp only [NB, simprocAttr]))
      all_goals refine ⟨hlt, trivial, ?_⟩
      all_goals simp only [ea', hsn]
      all_goals refine ⟨rfl, ⟨[], by simp only [List.append_nil]⟩, ?_, ?_⟩
      · simp only [S1, simprocAttr, KNB, j7] <;> (try and_intros) <;> (try assumption) <;> (try trivial) <;> (try omega)
      · exact ⟨⟨trivial, trivial, trivial, trivial, trivial, trivial⟩, j6 _ _, trivial⟩
    · obtain rfl : j = 2 := by omega
      repeat' (first | ((repeat ((fail_if_success (refine hK _ ?_)); clear hK K)); refine hK _ ?_; clear hK K) | ((first | refine d8 fun K1 p7 => ?_ | refine d6 fun K1 p7 => ?_ | refine b5 fun A B hA hB => ?_); simp only [S1, simprocAttr, jA, (show decide (((2 : Nat) : Int) < 2) = false by decide)]; first | refine p7 _ ?_; clear p7 K1 | ((first | refine hA ?_ | refine hB ?_); clear hA hB A B) | (((first | (refine ⟨fun hg => hA ?_, fun hg => hB ?_⟩ <;> clear hA hB A B) | refine ⟨fun hg => ?_, fun hg => ?_⟩) <;> (try simp only [BN2] at hg) <;> (try simp only [hg, cndB])) <;> (try (refine p7 _ ?_; clear p7 K1)) <;> (try simp only [BN3] at hg))) | refine b6 fun K hK => ?_ | ((first | apply c8 | apply b8 | apply a9 | refine d5 ?_ | apply b7 | apply c9 | apply d4 | apply d7); try simp only [NB, simprocAttr]))
      all_goals simp only [S1, simprocAttr, ENB, y8, y1, j7, m8, l8] <;> first | exact i5 hl | exact ⟨i5 hl, rfl⟩ | exact ⟨i5 hl, rfl, rfl⟩
  have h3' : (k.kind == 3) = false := by simp [h3]
  obtain ⟨mm, hmm, ht⟩ := nk.tn
  have ch := fun h => iK (ht k (List.mem_of_getElem? hc)) hmm (vS S) kJ h
  by_cases h2 : (N8 k.term (vS S)).2 = 0
  · have h2' : ((N8 k.term (vS S)).2 != 0) = false := by simp [h2]
    have eg : P2 S k c ins outs = p9 S ⟨c, 0, 2, c, 0, S.set (40 + a) (N8 k.term (vS S)).1⟩ ins outs := by
      unfold P2; rw [hh, if_neg hz, if_neg h3, if_neg (by simpa using h2), hka, Int.toNat_natCast]
    rw [eg]
    generalize (N8 k.term (vS S)).1 = w at *
    refine j8 (rl := []) i6 Tryz.func44 rfl (rs := []) rfl Tryz.ntmps44 (by simp) ?_
    repeat' (first | ((repeat ((fail_if_success (refine hK _ ?_)); clear hK K)); refine hK _ ?_; clear hK K) | ((first | refine d8 fun K1 p7 => ?_ | refine d6 fun K1 p7 => ?_ | refine b5 fun A B hA hB => ?_); simp only [S1, simprocAttr, jA, f0, f40, gk, gv, hz', h3', h2', hka, a0, a4', h49, c0, hc', eN, t49, hov, hset, htk, htl, hS, hS2, i9, C2 hi0, hin0, PGB, n6 hb hne, k9 hl, l6 hb hne, j9 hl, gmB, spB, gl]; first | refine p7 _ ?_; clear p7 K1 | ((first | refine hA ?_ | refine hB ?_); clear hA hB A B) | ((first | apply b9 E73 | apply c7 E73); exact (ch _); refine p7 _ ?_; clear p7 K1) | ((first | apply b9 E28 | apply c7 E28); exact (W5 ok ⟨c, 0, 2, c, 0, S.set (40 + a) w⟩ (hS2 _) ins outs hi ho _); refine p7 _ ?_; clear p7 K1) | (((first | (refine ⟨fun hg => hA ?_, fun hg => hB ?_⟩ <;> clear hA hB A B) | refine ⟨fun hg => ?_, fun hg => ?_⟩) <;> (try simp only [BN2] at hg) <;> (try simp only [hg, cndB])) <;> (try (refine p7 _ ?_; clear p7 K1)) <;> (try simp only [BN3] at hg))) | refine b6 fun K hK => ?_ | ((first | apply c8 | apply b8 | apply a9 | refine d5 ?_ | apply b7 | apply c9 | apply d4 | apply d7); try simp only [NB, simprocAttr]))
    all_goals simp only [S1, simprocAttr, ENB, y8, y1, j7, m8, l8] <;> first | exact i5 hl | exact ⟨i5 hl, rfl⟩ | exact ⟨i5 hl, rfl, rfl⟩
  · have h2' : ((N8 k.term (vS S)).2 != 0) = true := by simp [h2]
    have eg : P2 S k c ins outs = [u4 S c (N8 k.term (vS S)).2] := by
      unfold P2; rw [hh, if_neg hz, if_neg h3, if_pos h2]
    rw [eg]
    refine j8 (rl := []) i6 Tryz.func44 rfl (rs := []) rfl Tryz.ntmps44 (by simp) ?_
    repeat' (first | ((repeat ((fail_if_success (refine hK _ ?_)); clear hK K)); refine hK _ ?_; clear hK K) | ((first | refine d8 fun K1 p7 => ?_ | refine d6 fun K1 p7 => ?_ | refine b5 fun A B hA hB => ?_); simp only [S1, simprocAttr, jA, f0, f40, gk, gv, hz', h3', h2', hka, c0, hc', eN, t49, hov, hS, i9, C2 hi0, hin0, PGB, n6 hb hne, k9 hl, l6 hb hne, j9 hl, gmB, spB, gl]; first | refine p7 _ ?_; clear p7 K1 | ((first | refine hA ?_ | refine hB ?_); clear hA hB A B) | ((first | apply b9 E73 | apply c7 E73); exact (ch _); refine p7 _ ?_; clear p7 K1) | ((first | apply b9 E74 | apply c7 E74); exact (gQ ok c (N8 k.term (vS S)).2 _); refine p7 _ ?_; clear p7 K1) | (((first | (refine ⟨fun hg => hA ?_, fun hg => hB ?_⟩ <;> clear hA hB A B) | refine ⟨fun hg => ?_, fun hg => ?_⟩) <;> (try simp only [BN2] at hg) <;> (try simp only [hg, cndB])) <;> (try (refine p7 _ ?_; clear p7 K1)) <;> (try simp only [BN3] at hg))) | refine b6 fun K hK => ?_ | ((first | apply c8 | apply b8 | apply a9 | refine d5 ?_ | apply b7 | apply c9 | apply d4 | apply d7); try simp only [NB, simprocAttr]))
    all_goals simp only [S1, simprocAttr, ENB, y8, y1, j7, m8, l8] <;> first | exact i5 hl | exact ⟨i5 hl, rfl⟩ | exact ⟨i5 hl, rfl, rfl⟩
end
section
def bn := And.intro T2 (And.intro T3 (And.intro T4 (And.intro T22 (And.intro T23 (And.intro T25 (And.intro T26 (And.intro T27 (And.intro T32 (And.intro T40 (And.intro T46 (And.intro T53 (And.intro T61 (And.intro T68 (And.intro T70 (And.intro T73 (And.intro T84 T86))))))))))))))))
attribute [local irreducible] awp q9 m7 n7 r5 q8
def fg (S : List Int) (i : Int) (ins : List Int) : List Sp :=
  if bL (S.take 40) = 1 then p9 S ⟨i, 0, 7, 0, 0, S.set 48 1⟩ ins [] else p9 S ⟨i, 0, 0, 0, 0, S⟩ ins []
def o7 (ns : List Nd) (fl : List Fl) (S : List Int) (i : Nat) (k : Nd) : List Sp :=
  if k.kind = 2 then fg S i (p5 fl i)
  else if k.kind = 3 ∨ k.kind = 4 then P2 S k i (p5 fl i) (k3 fl i)
  else if k.kind = 5 then P1 fl S i (p5 fl i) (k3 fl i)
  else if k.kind = 6 then p9 S ⟨i, 0, 0, 0, 0, S⟩ (p5 fl i) (k3 fl i)
  else if k.kind = 7 then (k3 fl i).flatMap fun f => s9 ns fl S i f (V4 fl f) (p5 fl i)
  else if k.kind = 8 then s9 ns fl S i 0 i (p5 fl i)
  else []
theorem Right.kind {ns : List Nd} {fl : List Fl} (h : Right ns fl) {i : Nat} {k : Nd} (hc : ns[i]? = some k) : (1 ≤ k.kind ∧ k.kind ≤ 8) ∧ 0 ≤ k.a ∧ (k.kind = 3 ∨ k.kind = 4 → k.a < 4) ∧ k.a ≤ 4 := by
  have hi := (List.getElem?_eq_some_iff.mp hc).1
  have := h.b1 i hi
  unfold X3 at this
  rw [hc] at this
  simp only [Bool.not_eq_false'] at this
  unfold aJ at this
  split at this
  · simp only [Bool.and_eq_true, decide_eq_true_eq] at this; omega
  · simp only [Bool.and_eq_true, decide_eq_true_eq] at this
    have hm : bS k.kind ≤ 4 ∧ (k.kind = 3 → bS k.kind = 3) := by unfold bS; split <;> (try split) <;> omega
    omega
theorem Right.ins {ns : List Nd} {fl : List Fl} (h : Right ns fl) {i : Nat} {k : Nd} (hc : ns[i]? = some k) (h1 : k.kind ≠ 1) : p5 fl i ≠ [] := by
  have hi := (List.getElem?_eq_some_iff.mp hc).1
  have := h.three hi
  unfold C8 at this
  simp only [N9 hc, if_neg h1] at this
  intro e
  rw [e] at this
  simp only [List.length_nil] at this
  repeat' split at this
  all_goals simp at this
theorem Right.els {ns : List Nd} {fl : List Fl} (h : Right ns fl) {i : Nat} {k : Nd} (hc : ns[i]? = some k) (h5 : k.kind = 5) (hn : (k3 fl i).length ≠ 1) : ∃ f ∈ k3 fl i, z7 fl f = true := by
  have hi := (List.getElem?_eq_some_iff.mp hc).1
  have := h.three hi
  unfold C8 at this
  simp only [N9 hc, h5] at this
  simp only [Int.reduceEq, reduceIte, Bool.or_eq_true, Bool.and_eq_true, beq_iff_eq, decide_eq_true_eq] at this
  rcases this with h | h
  · have h2 := h.2
    unfold Z7 at h2
    rw [List.take_length] at h2
    obtain ⟨f, hf, he⟩ := List.countP_pos_iff.mp (by omega : 0 < (k3 fl i).countP (z7 fl))
    exact ⟨f, hf, he⟩
  · exact absurd h.2 hn
theorem R3 {fl : List Fl} (i : Int) : ∀ x ∈ k3 fl i, ∃ i : Nat, x = (i : Int) ∧ i < fl.length := by
  intro x hx
  obtain ⟨j, f, h1, rfl, h2, _⟩ := F5 hx
  exact ⟨j, rfl, h1⟩
theorem mw (S : List Int) : X2 (S.map AV.i) = S.map AV.i := by
  rw [R5, List.map_map]; rfl
theorem cr (l : List Int) : Q8 (l.map eI) = l.map eI := by
  rw [O5, List.map_map]; rfl
theorem pg {h : Heap} {b lb : Nat} {ns : List Nd} {fl : List Fl} {S : List Int} {l : List Sp} (ok : GmOk h b lb S l) (x : Sp) (hx : x.to.length = 49) (fr : List Int) (hfr : InF fr) (L : Heap) :
    f9 Tryz.prog gW 28 [.ptr b 0 0, aSp x, aI fr, .p .nils] (m3 h b lb ns fl S l ++ L) (fun r h' => r = .undef ∧ h' = m3 h b lb ns fl S (l ++ p9 S x fr []) ++ L) := by
  have := W5 (G := gW) (ns := ns) (fl := fl) ok x hx fr [] hfr ⟨by simp, by simp⟩ L
  refine f9.nrm ?_
  have hr := mw (cSp x)
  have hk := cr fr
  simp only [X2, gA, nrm, hr, hk]
  exact this
theorem rV {h : Heap} {b lb : Nat} {ns : List Nd} {fl : List Fl} {S : List Int} {l : List Sp} (ok : GmOk h b lb S l) (x : Sp) (hx : x.to.length = 49) (L : Heap) :
    f9 Tryz.prog gW 28 [.ptr b 0 0, aSp x, .p .nils, .p .nils] (m3 h b lb ns fl S l ++ L) (fun r h' => r = .undef ∧ h' = m3 h b lb ns fl S (l ++ p9 S x [] []) ++ L) := by
  have := W5 (G := gW) (ns := ns) (fl := fl) ok x hx [] [] ⟨by simp, by simp⟩ ⟨by simp, by simp⟩ L
  refine f9.nrm ?_
  have hr := mw (cSp x)
  simp only [X2, gA, nrm, hr]
  exact this
theorem mA {h : Heap} {b lb : Nat} {ns : List Nd} {fl : List Fl} (nk : NetOk ns fl) (rt : Right ns fl) {S : List Int} {l : List Sp} (ok : GmOk h b lb S l) (st : StOk S) (few : l.length ≤ 900000) (c : Nat) {k : Nd} (hc : ns[c]? = some k) :
    f9 Tryz.prog gW 27 [.ptr b 0 0, .i c] (m3 h b lb ns fl S l) (fun r h' => r = .undef ∧ h' = m3 h b lb ns fl S (l ++ o7 ns fl S c k)) := by
  have hb := ok.hb
  have hl := ok.hl
  have hne := ok.ne
  have hS := ok.held.1
  have gl := v4 (ns := ns) (fl := fl) (lb := lb) (n := l.length) hS
  have t49 := v8 (ns := ns) (fl := fl) (lb := lb) (n := l.length) hS
  have c0 : (0 : Int) ≤ (c : Int) := by omega
  have hc' := B8 hc
  have hkd := rt.kind hc
  have hf := rt.f
  have hf' : fl.length ≤ 100 := by omega
  have ho := A0 hf c
  have hi := J5 hf c
  have htl := F6 hS
  have hov := n9 (cs := S.map AV.i) (n := 49) (by rw [List.length_map, hS])
  have hno : ∀ n : Int, k.kind = n → (k.kind == n) = true := fun n e => by simp [e]
  by_cases h34 : k.kind = 3 ∨ k.kind = 4
  · have eg : o7 ns fl S c k = P2 S k c (p5 fl c) (k3 fl c) := by unfold o7; rw [if_neg (by omega), if_pos h34]
    rw [eg]
    have e2 : (k.kind == 2) = false := by simp; omega
    have hin := rt.ins hc (by omega)
    rcases h34 with h3 | h4
    · have e3 : (k.kind == 3) = true := by simp [h3]
      refine j8 (rl := []) i6 Tryz.func27 rfl (rs := []) rfl Tryz.ntmps27 (by simp) ?_
      repeat' (first | ((repeat ((fail_if_success (refine hK _ ?_)); clear hK K)); refine hK _ ?_; clear hK K) | ((first | refine d8 fun K1 p7 => ?_ | refine d6 fun K1 p7 => ?_ | refine b5 fun A B hA hB => ?_); simp only [S1, simprocAttr, bn, e2, e3, c0, hc', eN, i9, k8, PGB, n6 hb hne, k9 hl, l6 hb hne, j9 hl, gmB, spB, gl]; first | refine p7 _ ?_; clear p7 K1 | ((first | refine hA ?_ | refine hB ?_); clear hA hB A B) | ((first | apply b9 E43 | apply c7 E43); exact (B3 _ fl hf' _ _); refine p7 _ ?_; clear p7 K1) | ((first | apply b9 E36 | apply c7 E36); exact (o8 _ fl hf' _ _); refine p7 _ ?_; clear p7 K1) | ((first | apply b9 E44 | apply c7 E44); exact (ii nk ok few c hc ⟨hkd.2.1, hkd.2.2.1 (.inl h3)⟩ _ _ hi ho hin); refine p7 _ ?_; clear p7 K1) | (((first | (refine ⟨fun hg => hA ?_, fun hg => hB ?_⟩ <;> clear hA hB A B) | refine ⟨fun hg => ?_, fun hg => ?_⟩) <;> (try simp only [BN2] at hg) <;> (try simp only [hg, cndB])) <;> (try (refine p7 _ ?_; clear p7 K1)) <;> (try simp only [BN3] at hg))) | refine b6 fun K hK => ?_ | ((first | apply c8 | apply b8 | apply a9 | refine d5 ?_ | apply b7 | apply c9 | apply d4 | apply d7); try simp only [NB, simprocAttr]))
      all_goals simp only [S1, simprocAttr, ENB, y8, y1, j7, m8, l8] <;> first | exact i5 hl | exact ⟨i5 hl, rfl⟩ | exact ⟨i5 hl, rfl, rfl⟩
    · have e3 : (k.kind == 3) = false := by simp [h4]
      have e4 : (k.kind == 4) = true := by simp [h4]
      refine j8 (rl := []) i6 Tryz.func27 rfl (rs := []) rfl Tryz.ntmps27 (by simp) ?_
      repeat' (first | ((repeat ((fail_if_success (refine hK _ ?_)); clear hK K)); refine hK _ ?_; clear hK K) | ((first | refine d8 fun K1 p7 => ?_ | refine d6 fun K1 p7 => ?_ | refine b5 fun A B hA hB => ?_); simp only [S1, simprocAttr, bn, e2, e3, e4, c0, hc', eN, i9, k8, PGB, n6 hb hne, k9 hl, l6 hb hne, j9 hl, gmB, spB, gl]; first | refine p7 _ ?_; clear p7 K1 | ((first | refine hA ?_ | refine hB ?_); clear hA hB A B) | ((first | apply b9 E43 | apply c7 E43); exact (B3 _ fl hf' _ _); refine p7 _ ?_; clear p7 K1) | ((first | apply b9 E36 | apply c7 E36); exact (o8 _ fl hf' _ _); refine p7 _ ?_; clear p7 K1) | ((first | apply b9 E44 | apply c7 E44); exact (ii nk ok few c hc ⟨hkd.2.1, hkd.2.2.1 (.inr h4)⟩ _ _ hi ho hin); refine p7 _ ?_; clear p7 K1) | (((first | (refine ⟨fun hg => hA ?_, fun hg => hB ?_⟩ <;> clear hA hB A B) | refine ⟨fun hg => ?_, fun hg => ?_⟩) <;> (try simp only [BN2] at hg) <;> (try simp only [hg, cndB])) <;> (try (refine p7 _ ?_; clear p7 K1)) <;> (try simp only [BN3] at hg))) | refine b6 fun K hK => ?_ | ((first | apply c8 | apply b8 | apply a9 | refine d5 ?_ | apply b7 | apply c9 | apply d4 | apply d7); try simp only [NB, simprocAttr]))
      all_goals simp only [S1, simprocAttr, ENB, y8, y1, j7, m8, l8] <;> first | exact i5 hl | exact ⟨i5 hl, rfl⟩ | exact ⟨i5 hl, rfl, rfl⟩
  have e3 : (k.kind == 3) = false := by simp; omega
  have e4 : (k.kind == 4) = false := by simp; omega
  by_cases h5 : k.kind = 5
  · have eg : o7 ns fl S c k = P1 fl S c (p5 fl c) (k3 fl c) := by unfold o7; rw [if_neg (by omega), if_neg h34, if_pos h5]
    rw [eg]
    have e2 : (k.kind == 2) = false := by simp; omega
    have e5 : (k.kind == 5) = true := by simp; omega
    have hin := rt.ins hc (by omega)
    refine j8 (rl := []) i6 Tryz.func27 rfl (rs := []) rfl Tryz.ntmps27 (by simp) ?_
    repeat' (first | ((repeat ((fail_if_success (refine hK _ ?_)); clear hK K)); refine hK _ ?_; clear hK K) | ((first | refine d8 fun K1 p7 => ?_ | refine d6 fun K1 p7 => ?_ | refine b5 fun A B hA hB => ?_); simp only [S1, simprocAttr, bn, e2, e3, e4, e5, c0, hc', eN, i9, k8, PGB, n6 hb hne, k9 hl, l6 hb hne, j9 hl, gmB, spB, gl]; first | refine p7 _ ?_; clear p7 K1 | ((first | refine hA ?_ | refine hB ?_); clear hA hB A B) | ((first | apply b9 E43 | apply c7 E43); exact (B3 _ fl hf' _ _); refine p7 _ ?_; clear p7 K1) | ((first | apply b9 E36 | apply c7 E36); exact (o8 _ fl hf' _ _); refine p7 _ ?_; clear p7 K1) | ((first | apply b9 E45 | apply c7 E45); exact (qv nk ok few hf c _ _ hi ho (R3 c) hin (rt.els hc h5)); refine p7 _ ?_; clear p7 K1) | (((first | (refine ⟨fun hg => hA ?_, fun hg => hB ?_⟩ <;> clear hA hB A B) | refine ⟨fun hg => ?_, fun hg => ?_⟩) <;> (try simp only [BN2] at hg) <;> (try simp only [hg, cndB])) <;> (try (refine p7 _ ?_; clear p7 K1)) <;> (try simp only [BN3] at hg))) | refine b6 fun K hK => ?_ | ((first | apply c8 | apply b8 | apply a9 | refine d5 ?_ | apply b7 | apply c9 | apply d4 | apply d7); try simp only [NB, simprocAttr]))
    all_goals simp only [S1, simprocAttr, ENB, y8, y1, j7, m8, l8] <;> first | exact i5 hl | exact ⟨i5 hl, rfl⟩ | exact ⟨i5 hl, rfl, rfl⟩
  have e5 : (k.kind == 5) = false := by simp; omega
  by_cases h6 : k.kind = 6
  · have eg : o7 ns fl S c k = p9 S ⟨c, 0, 0, 0, 0, S⟩ (p5 fl c) (k3 fl c) := by unfold o7; rw [if_neg (by omega), if_neg h34, if_neg h5, if_pos h6]
    rw [eg]
    have e2 : (k.kind == 2) = false := by simp; omega
    have e6 : (k.kind == 6) = true := by simp; omega
    refine j8 (rl := []) i6 Tryz.func27 rfl (rs := []) rfl Tryz.ntmps27 (by simp) ?_
    repeat' (first | ((repeat ((fail_if_success (refine hK _ ?_)); clear hK K)); refine hK _ ?_; clear hK K) | ((first | refine d8 fun K1 p7 => ?_ | refine d6 fun K1 p7 => ?_ | refine b5 fun A B hA hB => ?_); simp only [S1, simprocAttr, bn, e2, e3, e4, e5, e6, c0, hc', t49, htl, hS, eN, i9, k8, PGB, n6 hb hne, k9 hl, l6 hb hne, j9 hl, gmB, spB, gl]; first | refine p7 _ ?_; clear p7 K1 | ((first | refine hA ?_ | refine hB ?_); clear hA hB A B) | ((first | apply b9 E43 | apply c7 E43); exact (B3 _ fl hf' _ _); refine p7 _ ?_; clear p7 K1) | ((first | apply b9 E36 | apply c7 E36); exact (o8 _ fl hf' _ _); refine p7 _ ?_; clear p7 K1) | ((first | apply b9 E28 | apply c7 E28); exact (dQ ok ⟨c, 0, 0, 0, 0, S⟩ hS _ _ hi ho); refine p7 _ ?_; clear p7 K1) | (((first | (refine ⟨fun hg => hA ?_, fun hg => hB ?_⟩ <;> clear hA hB A B) | refine ⟨fun hg => ?_, fun hg => ?_⟩) <;> (try simp only [BN2] at hg) <;> (try simp only [hg, cndB])) <;> (try (refine p7 _ ?_; clear p7 K1)) <;> (try simp only [BN3] at hg))) | refine b6 fun K hK => ?_ | ((first | apply c8 | apply b8 | apply a9 | refine d5 ?_ | apply b7 | apply c9 | apply d4 | apply d7); try simp only [NB, simprocAttr]))
    all_goals simp only [S1, simprocAttr, ENB, y8, y1, j7, m8, l8] <;> first | exact i5 hl | exact ⟨i5 hl, rfl⟩ | exact ⟨i5 hl, rfl, rfl⟩
  have e6 : (k.kind == 6) = false := by simp; omega
  by_cases h8 : k.kind = 8
  · have eg : o7 ns fl S c k = s9 ns fl S c 0 c (p5 fl c) := by unfold o7; rw [if_neg (by omega), if_neg h34, if_neg h5, if_neg h6, if_neg (by omega), if_pos h8]
    rw [eg]
    have e2 : (k.kind == 2) = false := by simp; omega
    have e7 : (k.kind == 7) = false := by simp; omega
    have e8 : (k.kind == 8) = true := by simp; omega
    refine j8 (rl := []) i6 Tryz.func27 rfl (rs := []) rfl Tryz.ntmps27 (by simp) ?_
    repeat' (first | ((repeat ((fail_if_success (refine hK _ ?_)); clear hK K)); refine hK _ ?_; clear hK K) | ((first | refine d8 fun K1 p7 => ?_ | refine d6 fun K1 p7 => ?_ | refine b5 fun A B hA hB => ?_); simp only [S1, simprocAttr, bn, e2, e3, e4, e5, e6, e7, e8, c0, hc', eN, i9, k8, PGB, n6 hb hne, k9 hl, l6 hb hne, j9 hl, gmB, spB, gl]; first | refine p7 _ ?_; clear p7 K1 | ((first | refine hA ?_ | refine hB ?_); clear hA hB A B) | ((first | apply b9 E43 | apply c7 E43); exact (B3 _ fl hf' _ _); refine p7 _ ?_; clear p7 K1) | ((first | apply b9 E36 | apply c7 E36); exact (o8 _ fl hf' _ _); refine p7 _ ?_; clear p7 K1) | ((first | apply b9 E46 | apply c7 E46); exact (fb ok st hf c 0 (List.replicate 49 0) (by simp) 0 0 0 c hc ⟨hkd.2.1, hkd.2.2.2⟩ _ hi); refine p7 _ ?_; clear p7 K1) | (((first | (refine ⟨fun hg => hA ?_, fun hg => hB ?_⟩ <;> clear hA hB A B) | refine ⟨fun hg => ?_, fun hg => ?_⟩) <;> (try simp only [BN2] at hg) <;> (try simp only [hg, cndB])) <;> (try (refine p7 _ ?_; clear p7 K1)) <;> (try simp only [BN3] at hg))) | refine b6 fun K hK => ?_ | ((first | apply c8 | apply b8 | apply a9 | refine d5 ?_ | apply b7 | apply c9 | apply d4 | apply d7); try simp only [NB, simprocAttr]))
    all_goals simp only [S1, simprocAttr, ENB, y8, y1, j7, m8, l8] <;> first | exact i5 hl | exact ⟨i5 hl, rfl⟩ | exact ⟨i5 hl, rfl, rfl⟩
  have e8 : (k.kind == 8) = false := by simp; omega
  by_cases h7 : k.kind = 7
  · have eg : o7 ns fl S c k = (k3 fl c).flatMap fun f => s9 ns fl S c f (V4 fl f) (p5 fl c) := by unfold o7; rw [if_neg (by omega), if_neg h34, if_neg h5, if_neg h6, if_pos h7]
    have e2 : (k.kind == 2) = false := by simp; omega
    have e7 : (k.kind == 7) = true := by simp; omega
    let acc := fun j => ((k3 fl c).take j).flatMap fun f => s9 ns fl S c f (V4 fl f) (p5 fl c)
    have hcl : ∀ f d, (s9 ns fl S c f d (p5 fl c)).length ≤ 1 := by
      intro f d
      unfold s9
      split
      · split
        · simp
        · exact A2 _ _ _ _
      · exact A2 _ _ _ _
    have hal : ∀ j, (acc j).length ≤ j := by
      intro j
      induction j with
      | zero => simp [acc]
      | succ j ih =>
        rcases Nat.lt_or_ge j (k3 fl c).length with hj | hj
        · have e : (k3 fl c).take (j + 1) = (k3 fl c).take j ++ [(k3 fl c)[j]] := by rw [List.take_add_one, List.getElem?_eq_getElem hj]; rfl
          simp only [acc] at ih ⊢
          rw [e, List.flatMap_append, List.length_append]
          have := hcl (k3 fl c)[j] (V4 fl (k3 fl c)[j])
          simp only [List.flatMap_cons, List.flatMap_nil, List.append_nil]
          omega
        · have e : (k3 fl c).take (j + 1) = (k3 fl c).take j := by rw [List.take_of_length_le (by omega), List.take_of_length_le hj]
          simp only [acc] at ih ⊢
          rw [e]; omega
    have hto : ∀ j, ∀ y ∈ acc j, y.to.length = 49 := by
      intro j y hy
      obtain ⟨f, _, hy⟩ := List.mem_flatMap.mp hy
      unfold s9 at hy
      split at hy
      · split at hy
        · cases hy
        · exact x7 hS (by rw [List.length_set, hS]) y hy
      · exact x7 hS hS y hy
    have eg2 : o7 ns fl S c k = acc (k3 fl c).length := by rw [eg]; simp only [acc, List.take_length]
    rw [eg2]
    have hol := ho.1
    refine j8 (rl := []) i6 Tryz.func27 rfl (rs := []) rfl Tryz.ntmps27 (by simp) ?_
    repeat' (first | ((repeat ((fail_if_success (refine hK _ ?_)); clear hK K)); refine hK _ ?_; clear hK K) | ((first | refine d8 fun K1 p7 => ?_ | refine d6 fun K1 p7 => ?_ | refine b5 fun A B hA hB => ?_); simp only [S1, simprocAttr, bn, e2, e3, e4, e5, e6, e7, c0, hc', eN, i9, k8, PGB, n6 hb hne, k9 hl, l6 hb hne, j9 hl, gmB, spB, gl]; first | refine p7 _ ?_; clear p7 K1 | ((first | refine hA ?_ | refine hB ?_); clear hA hB A B) | ((first | apply b9 E43 | apply c7 E43); exact (B3 _ fl hf' _ _); refine p7 _ ?_; clear p7 K1) | ((first | apply b9 E36 | apply c7 E36); exact (o8 _ fl hf' _ _); refine p7 _ ?_; clear p7 K1) | (((first | (refine ⟨fun hg => hA ?_, fun hg => hB ?_⟩ <;> clear hA hB A B) | refine ⟨fun hg => ?_, fun hg => ?_⟩) <;> (try simp only [BN2] at hg) <;> (try simp only [hg, cndB])) <;> (try (refine p7 _ ?_; clear p7 K1)) <;> (try simp only [BN3] at hg))) | refine b6 fun K hK => ?_ | ((first | apply c8 | apply b8 | apply a9 | refine d5 ?_ | apply b7 | apply c9 | apply d4 | apply d7); try simp only [NB, simprocAttr]))
    refine S6 (k3 fl c).length 111 (fun j => m3 h b lb ns fl S (l ++ acc j)) (fun j => [(83, .i j), (82, .i (k3 fl c).length), (81, aI (k3 fl c)), (4, aI (p5 fl c)), (1, .i c), (0, .ptr b 0 0)]) (fun j => []) (fun j => True) (fun j => ⟨by rw [j7, j7], aa hl⟩) ?_ trivial fun j hj hp K hK => ?_
    · have e0 : acc 0 = [] := by simp [acc]
      simp only [e0, List.append_nil]
      refine ⟨rfl, ⟨[], by simp only [List.append_nil]⟩, ?_, trivial⟩
      simp only [S1, simprocAttr, KNB, j7] <;> (try and_intros) <;> (try assumption) <;> (try trivial) <;> (try omega)
    have okj : GmOk h b lb S (l ++ acc j) := ok.app (hto j) (by have := hal j; omega)
    have glj := v4 (ns := ns) (fl := fl) (lb := lb) (n := (l ++ acc j).length) hS
    rcases Nat.lt_or_ge j (k3 fl c).length with hlt | hge
    · obtain ⟨f, hfj⟩ : ∃ f, (k3 fl c)[j]? = some f := ⟨_, List.getElem?_eq_getElem hlt⟩
      obtain ⟨q, hfq, hq⟩ := R3 c f (List.mem_of_getElem? hfj)
      subst hfq
      obtain ⟨x, hx⟩ : ∃ x, fl[q]? = some x := ⟨_, List.getElem?_eq_getElem hq⟩
      obtain ⟨⟨s0, s1⟩, d0, d1⟩ := rt.isIn x (List.mem_of_getElem? hx)
      obtain ⟨d, hd⟩ := Int.eq_ofNat_of_zero_le d0
      obtain ⟨k2, hk2⟩ : ∃ k2, ns[d]? = some k2 := ⟨_, List.getElem?_eq_getElem (by omega)⟩
      have hkd2 := rt.kind hk2
      have hx' := I8 hx
      have q0 : (0 : Int) ≤ (q : Int) := by omega
      have eds : V4 fl (q : Int) = (d : Int) := by unfold V4; rw [Int.toNat_natCast, hx]; exact hd
      have ea' : l ++ acc (j + 1) = (l ++ acc j) ++ s9 ns fl S c q d (p5 fl c) := by
        simp only [acc]
        rw [List.take_add_one, hfj, List.flatMap_append, List.append_assoc]
        simp [eds]
      generalize hlj : l ++ acc j = lj at ea' okj glj ⊢
      repeat' (first | ((repeat ((fail_if_success (refine hK _ ?_)); clear hK K)); refine hK _ ?_; clear hK K) | ((first | refine d8 fun K1 p7 => ?_ | refine d6 fun K1 p7 => ?_ | refine b5 fun A B hA hB => ?_); simp only [S1, simprocAttr, bn, C2 hfj, I3 hlt, D9 (by omega) hlt, q0, hx', eF, hd, gL, glj, PGB, n6 hb hne, k9 hl, l6 hb hne, j9 hl, gmB, spB, gl]; first | refine p7 _ ?_; clear p7 K1 | ((first | refine hA ?_ | refine hB ?_); clear hA hB A B) | ((first | apply b9 E46 | apply c7 E46); exact (fb okj st hf c q (List.replicate 49 0) (by simp) 0 0 0 d hk2 ⟨hkd2.2.1, hkd2.2.2.2⟩ _ hi); refine p7 _ ?_; clear p7 K1) | (((first | (refine ⟨fun hg => hA ?_, fun hg => hB ?_⟩ <;> clear hA hB A B) | refine ⟨fun hg => ?_, fun hg => ?_⟩) <;> (try simp only [BN2] at hg) <;> (try simp only [hg, cndB])) <;> (try (refine p7 _ ?_; clear p7 K1)) <;> (try simp only [BN3] at hg))) | refine b6 fun K hK => ?_ | ((first | apply c8 | apply b8 | apply a9 | refine d5 ?_ | apply b7 | apply c9 | apply d4 | apply d7); try simp only [NB, simprocAttr]))
      all_goals refine ⟨hlt, trivial, ?_⟩
      all_goals simp only [ea']
      all_goals refine ⟨rfl, ⟨[], by simp only [List.append_nil]⟩, ?_, trivial⟩
      all_goals simp only [S1, simprocAttr, KNB, j7] <;> (try and_intros) <;> (try assumption) <;> (try trivial) <;> (try omega)
    · obtain rfl : j = (k3 fl c).length := by omega
      repeat' (first | ((repeat ((fail_if_success (refine hK _ ?_)); clear hK K)); refine hK _ ?_; clear hK K) | ((first | refine d8 fun K1 p7 => ?_ | refine d6 fun K1 p7 => ?_ | refine b5 fun A B hA hB => ?_); simp only [S1, simprocAttr, bn, D6]; first | refine p7 _ ?_; clear p7 K1 | ((first | refine hA ?_ | refine hB ?_); clear hA hB A B) | (((first | (refine ⟨fun hg => hA ?_, fun hg => hB ?_⟩ <;> clear hA hB A B) | refine ⟨fun hg => ?_, fun hg => ?_⟩) <;> (try simp only [BN2] at hg) <;> (try simp only [hg, cndB])) <;> (try (refine p7 _ ?_; clear p7 K1)) <;> (try simp only [BN3] at hg))) | refine b6 fun K hK => ?_ | ((first | apply c8 | apply b8 | apply a9 | refine d5 ?_ | apply b7 | apply c9 | apply d4 | apply d7); try simp only [NB, simprocAttr]))
      all_goals simp only [S1, simprocAttr, ENB, y8, y1, j7, m8, l8] <;> first | exact i5 hl | exact ⟨i5 hl, rfl⟩ | exact ⟨i5 hl, rfl, rfl⟩
  have e7 : (k.kind == 7) = false := by simp; omega
  by_cases h2 : k.kind = 2
  · have e2 : (k.kind == 2) = true := by simp; omega
    have hset := F0 S 48 1
    have hS2 : (S.set 48 1).length = 49 := by rw [List.length_set, hS]
    have tk54 : ∀ a b c d e : AV, (a :: b :: c :: d :: e :: S.map AV.i).take 54 = a :: b :: c :: d :: e :: S.map AV.i := fun a b c d e => List.take_of_length_le (by simp [hS])
    have tk2 : ∀ a b c d e : AV, (a :: b :: c :: d :: e :: (S.set 48 1).map AV.i).take 54 = a :: b :: c :: d :: e :: (S.set 48 1).map AV.i := fun a b c d e => List.take_of_length_le (by simp [hS])
    by_cases hw : bL (S.take 40) = 1
    · have eg : o7 ns fl S c k = p9 S ⟨c, 0, 7, 0, 0, S.set 48 1⟩ (p5 fl c) [] := by unfold o7 fg; rw [if_pos h2, if_pos hw]
      have hw' : (bL (S.take 40) == 1) = true := by simp [hw]
      rw [eg]
      refine j8 (rl := []) i6 Tryz.func27 rfl (rs := []) rfl Tryz.ntmps27 (by simp) ?_
      repeat' (first | ((repeat ((fail_if_success (refine hK _ ?_)); clear hK K)); refine hK _ ?_; clear hK K) | ((first | refine d8 fun K1 p7 => ?_ | refine d6 fun K1 p7 => ?_ | refine b5 fun A B hA hB => ?_); simp only [S1, simprocAttr, bn, e2, hw', c0, hc', eN, t49, htl, hset, hS2, tk2, hS, i9, k8, PGB, n6 hb hne, k9 hl, l6 hb hne, j9 hl, gmB, spB, gl]; first | refine p7 _ ?_; clear p7 K1 | ((first | refine hA ?_ | refine hB ?_); clear hA hB A B) | ((first | apply b9 E43 | apply c7 E43); exact (B3 _ fl hf' _ _); refine p7 _ ?_; clear p7 K1) | ((first | apply b9 E36 | apply c7 E36); exact (o8 _ fl hf' _ _); refine p7 _ ?_; clear p7 K1) | ((first | apply b9 E15 | apply c7 E15); exact (W4 S hS _); refine p7 _ ?_; clear p7 K1) | ((first | apply b9 E28 | apply c7 E28); exact (pg ok ⟨c, 0, 7, 0, 0, S.set 48 1⟩ hS2 _ hi _); refine p7 _ ?_; clear p7 K1) | (((first | (refine ⟨fun hg => hA ?_, fun hg => hB ?_⟩ <;> clear hA hB A B) | refine ⟨fun hg => ?_, fun hg => ?_⟩) <;> (try simp only [BN2] at hg) <;> (try simp only [hg, cndB])) <;> (try (refine p7 _ ?_; clear p7 K1)) <;> (try simp only [BN3] at hg))) | refine b6 fun K hK => ?_ | ((first | apply c8 | apply b8 | apply a9 | refine d5 ?_ | apply b7 | apply c9 | apply d4 | apply d7); try simp only [NB, simprocAttr]))
      all_goals simp only [S1, simprocAttr, ENB, y8, y1, j7, m8, l8] <;> first | exact i5 hl | exact ⟨i5 hl, rfl⟩ | exact ⟨i5 hl, rfl, rfl⟩
    · have eg : o7 ns fl S c k = p9 S ⟨c, 0, 0, 0, 0, S⟩ (p5 fl c) [] := by unfold o7 fg; rw [if_pos h2, if_neg hw]
      have hw' : (bL (S.take 40) == 1) = false := by simp [hw]
      rw [eg]
      refine j8 (rl := []) i6 Tryz.func27 rfl (rs := []) rfl Tryz.ntmps27 (by simp) ?_
      repeat' (first | ((repeat ((fail_if_success (refine hK _ ?_)); clear hK K)); refine hK _ ?_; clear hK K) | ((first | refine d8 fun K1 p7 => ?_ | refine d6 fun K1 p7 => ?_ | refine b5 fun A B hA hB => ?_); simp only [S1, simprocAttr, bn, e2, hw', c0, hc', eN, t49, htl, tk54, hS, i9, k8, PGB, n6 hb hne, k9 hl, l6 hb hne, j9 hl, gmB, spB, gl]; first | refine p7 _ ?_; clear p7 K1 | ((first | refine hA ?_ | refine hB ?_); clear hA hB A B) | ((first | apply b9 E43 | apply c7 E43); exact (B3 _ fl hf' _ _); refine p7 _ ?_; clear p7 K1) | ((first | apply b9 E36 | apply c7 E36); exact (o8 _ fl hf' _ _); refine p7 _ ?_; clear p7 K1) | ((first | apply b9 E15 | apply c7 E15); exact (W4 S hS _); refine p7 _ ?_; clear p7 K1) | ((first | apply b9 E28 | apply c7 E28); exact (pg ok ⟨c, 0, 0, 0, 0, S⟩ hS _ hi _); refine p7 _ ?_; clear p7 K1) | (((first | (refine ⟨fun hg => hA ?_, fun hg => hB ?_⟩ <;> clear hA hB A B) | refine ⟨fun hg => ?_, fun hg => ?_⟩) <;> (try simp only [BN2] at hg) <;> (try simp only [hg, cndB])) <;> (try (refine p7 _ ?_; clear p7 K1)) <;> (try simp only [BN3] at hg))) | refine b6 fun K hK => ?_ | ((first | apply c8 | apply b8 | apply a9 | refine d5 ?_ | apply b7 | apply c9 | apply d4 | apply d7); try simp only [NB, simprocAttr]))
      all_goals simp only [S1, simprocAttr, ENB, y8, y1, j7, m8, l8] <;> first | exact i5 hl | exact ⟨i5 hl, rfl⟩ | exact ⟨i5 hl, rfl, rfl⟩
  · have eg : o7 ns fl S c k = [] := by unfold o7; rw [if_neg h2, if_neg h34, if_neg h5, if_neg h6, if_neg h7, if_neg h8]
    rw [eg, List.append_nil]
    have e2 : (k.kind == 2) = false := by simp; omega
    refine j8 (rl := []) i6 Tryz.func27 rfl (rs := []) rfl Tryz.ntmps27 (by simp) ?_
    repeat' (first | ((repeat ((fail_if_success (refine hK _ ?_)); clear hK K)); refine hK _ ?_; clear hK K) | ((first | refine d8 fun K1 p7 => ?_ | refine d6 fun K1 p7 => ?_ | refine b5 fun A B hA hB => ?_); simp only [S1, simprocAttr, bn, e2, e3, e4, e5, e6, e7, e8, c0, hc', eN, i9, k8, PGB, n6 hb hne, k9 hl, l6 hb hne, j9 hl, gmB, spB, gl]; first | refine p7 _ ?_; clear p7 K1 | ((first | refine hA ?_ | refine hB ?_); clear hA hB A B) | ((first | apply b9 E43 | apply c7 E43); exact (B3 _ fl hf' _ _); refine p7 _ ?_; clear p7 K1) | ((first | apply b9 E36 | apply c7 E36); exact (o8 _ fl hf' _ _); refine p7 _ ?_; clear p7 K1) | (((first | (refine ⟨fun hg => hA ?_, fun hg => hB ?_⟩ <;> clear hA hB A B) | refine ⟨fun hg => ?_, fun hg => ?_⟩) <;> (try simp only [BN2] at hg) <;> (try simp only [hg, cndB])) <;> (try (refine p7 _ ?_; clear p7 K1)) <;> (try simp only [BN3] at hg))) | refine b6 fun K hK => ?_ | ((first | apply c8 | apply b8 | apply a9 | refine d5 ?_ | apply b7 | apply c9 | apply d4 | apply d7); try simp only [NB, simprocAttr]))
    all_goals simp only [S1, simprocAttr, ENB, y8, y1, j7, m8, l8] <;> first | exact i5 hl | exact ⟨i5 hl, rfl⟩ | exact ⟨i5 hl, rfl, rfl⟩
end
section
def y4 := And.intro T2 (And.intro T3 (And.intro T4 (And.intro T22 (And.intro T23 (And.intro T25 (And.intro T26 (And.intro T27 (And.intro T32 (And.intro T46 (And.intro T53 (And.intro T57 (And.intro T68 (And.intro T70 T73)))))))))))))
attribute [local irreducible] awp q9 m7 n7 r5 q8
def dY (n : Nat) (S : List Int) (i : Nat) : Bool := (decide (tk S i < 0) || decide (3 < tk S i)) || (decide ((n : Int) ≤ (i : Int)) && (tk S i != 0))
def ij (S : List Int) (i : Nat) : Bool := decide (qAt S i < 0) || decide (3 < qAt S i)
def mdS (S : List Int) : Int := S.getD 48 0
def okS (n : Nat) (S : List Int) : Bool := ((List.range 40).all (fun i => !dY n S i) && (List.range 4).all (fun i => !ij S i)) && (inV (vS S) && (decide (0 ≤ mdS S) && decide (mdS S ≤ 2)))
noncomputable def stC (ns : List Nd) (fl : List Fl) (S : List Int) : Int := if (E5 ns fl).1 ≠ 0 then 4 else if okS fl.length S = true then 0 else 1
theorem F8 {S : List Int} (hS : S.length = 49) {k : Nat} (hk : k < 49) : S[k]? = some (S.getD k 0) := by
  rw [List.getD_eq_getElem?_getD, List.getElem?_eq_getElem (by omega)]; rfl
theorem rW {S : List Int} (hS : S.length = 49) : ((S.map AV.i).drop 40).take 4 = [.p (.int .i64 (vS S 0)), .p (.int .i64 (vS S 1)), .p (.int .i64 (vS S 2)), .p (.int .i64 (vS S 3))] := by
  rw [← List.map_drop, ← List.map_take, mv hS]
theorem ik {ns : List Nd} {fl : List Fl} {S : List Int} (h0 : (E5 ns fl).1 = 0) {i : Nat} (hi : i < 40) (hb : dY fl.length S i = true) : stC ns fl S = 1 := by
  unfold stC
  rw [if_neg (by simpa using h0), if_neg]
  intro e
  unfold okS at e
  simp only [Bool.and_eq_true, List.all_eq_true, List.mem_range] at e
  have := e.1.1 i hi
  rw [hb] at this
  cases this
theorem mB {ns : List Nd} {fl : List Fl} {S : List Int} (h0 : (E5 ns fl).1 = 0) {i : Nat} (hi : i < 4) (hb : ij S i = true) : stC ns fl S = 1 := by
  unfold stC
  rw [if_neg (by simpa using h0), if_neg]
  intro e
  unfold okS at e
  simp only [Bool.and_eq_true, List.all_eq_true, List.mem_range] at e
  have := e.1.2 i hi
  rw [hb] at this
  cases this
theorem il {p : Nat → Bool} {i : Nat} (h : ∀ j, j < i → p j = false) (hi : p i = false) : ∀ j, j < i + 1 → p j = false := by
  intro j hj
  rcases Nat.lt_or_ge j i with h1 | h1
  · exact h j h1
  · obtain rfl : j = i := by omega
    exact hi
theorem ct {ns : List Nd} {fl : List Fl} (nk : NetOk ns fl) {S : List Int} (hS : S.length = 49) (h : Heap) :
    f9 Tryz.prog gW 10 [N5 ns fl, aS S] h (fun r h' => r = .i (stC ns fl S) ∧ h' = h) := by
  have hne := U1 hS
  by_cases h0 : (E5 ns fl).1 = 0
  · have h0' : ((E5 ns fl).1 != 0) = false := by simp [h0]
    refine d9 (rl := []) i6 Tryz.func10 rfl (rs := [.tmp 4]) rfl Tryz.ntmps10 (by simp) ?_
    repeat' (first | ((repeat ((fail_if_success (refine hK _ ?_)); clear hK K)); refine hK _ ?_; clear hK K) | ((first | refine d8 fun K1 p7 => ?_ | refine d6 fun K1 p7 => ?_ | refine b5 fun A B hA hB => ?_); simp only [S1, simprocAttr, y4, List.length_map, hS, hne, e9, h0']; first | refine p7 _ ?_; clear p7 K1 | ((first | refine hA ?_ | refine hB ?_); clear hA hB A B) | ((first | apply b9 E19 | apply c7 E19); exact (M4 ns fl nk _); refine p7 _ ?_; clear p7 K1) | (refine g8 (v := ?_) (fun hg p8 => ?_) ?_; rotate_left; (focus (try ((try simp only [BN] at hg); simp only [S1, simprocAttr, y4, List.length_map, hS, hne, e9, h0', hg] at p8 ⊢)); first | exact p8 | ((first | apply b9 E19 | apply c7 E19); exact (M4 ns fl nk _); exact p8)); refine p7 _ ?_; clear p7 K1) | (((first | (refine ⟨fun hg => hA ?_, fun hg => hB ?_⟩ <;> clear hA hB A B) | refine ⟨fun hg => ?_, fun hg => ?_⟩) <;> (try simp only [BN2] at hg) <;> (try simp only [hg, cndB])) <;> (try (refine p7 _ ?_; clear p7 K1)) <;> (try simp only [BN3] at hg))) | refine b6 fun K hK => ?_ | ((first | apply c8 | apply b8 | apply a9 | refine d5 ?_ | apply b7 | apply c9 | apply d4 | apply d7); try simp only [NB, simprocAttr]))
    refine s5 40 71 (fun i => [(5, .i i), (3, .ptr (h.length + 1) 0 0), (2, .ptr h.length 0 0)]) (fun i => [some ⟨0, [.p (.sl (ns.map eN)), .p (.sl (fl.map eF))]⟩, some ⟨0, S.map AV.i⟩]) (fun i => ∀ j, j < i → dY fl.length S j = false) ?_ (fun j hj => absurd hj (Nat.not_lt_zero _)) fun i hi hp K hK => ?_
    · refine ⟨rfl, ⟨[], by simp only [List.append_nil]⟩, ?_, ⟨trivial, trivial, trivial⟩, j6 _ _, trivial⟩
      simp only [S1, simprocAttr, KNB] <;> (try and_intros) <;> (try assumption) <;> (try trivial) <;> (try omega)
    rcases Nat.lt_or_ge i 40 with hlt | hge
    · have i0 : (0 : Int) ≤ (i : Int) := by omega
      have i40 : (i : Int) < 40 := by omega
      have hx : S[i]? = some (tk S i) := F8 hS (by omega)
      have dr := J1 hx
      have ebt : dY fl.length S i = ((decide (tk S i < 0) || decide (3 < tk S i)) || (decide ((fl.length : Int) ≤ (i : Int)) && (tk S i != 0))) := rfl
      generalize tk S (i : Int) = v at *
      cases f1 : decide (v < 0) with
      | true =>
        have hbad : dY fl.length S i = true := by rw [ebt, f1]; rfl
        repeat' (first | ((repeat ((fail_if_success (refine hK _ ?_)); clear hK K)); refine hK _ ?_; clear hK K) | ((first | refine d8 fun K1 p7 => ?_ | refine d6 fun K1 p7 => ?_ | refine b5 fun A B hA hB => ?_); simp only [S1, simprocAttr, y4, M9 hlt rfl, i0, i40, dr, f1, hne, hS, e9, g9, h9, LNB]; first | refine p7 _ ?_; clear p7 K1 | ((first | refine hA ?_ | refine hB ?_); clear hA hB A B) | (refine g8 (v := ?_) (fun hg p8 => ?_) ?_; rotate_left; (focus (try ((try simp only [BN] at hg); simp only [S1, simprocAttr, y4, M9 hlt rfl, i0, i40, dr, f1, hne, hS, e9, g9, h9, LNB, hg] at p8 ⊢)); first | exact p8); refine p7 _ ?_; clear p7 K1) | (((first | (refine ⟨fun hg => hA ?_, fun hg => hB ?_⟩ <;> clear hA hB A B) | refine ⟨fun hg => ?_, fun hg => ?_⟩) <;> (try simp only [BN2] at hg) <;> (try simp only [hg, cndB])) <;> (try (refine p7 _ ?_; clear p7 K1)) <;> (try simp only [BN3] at hg))) | refine b6 fun K hK => ?_ | ((first | apply c8 | apply b8 | apply a9 | refine d5 ?_ | apply b7 | apply c9 | apply d4 | apply d7); try simp only [NB, simprocAttr]))
        all_goals simp only [S1, simprocAttr, ENB, y4]
        all_goals rw [ik h0 hlt hbad]
      | false =>
      cases f2 : decide (3 < v) with
      | true =>
        have hbad : dY fl.length S i = true := by rw [ebt, f1, f2]; rfl
        repeat' (first | ((repeat ((fail_if_success (refine hK _ ?_)); clear hK K)); refine hK _ ?_; clear hK K) | ((first | refine d8 fun K1 p7 => ?_ | refine d6 fun K1 p7 => ?_ | refine b5 fun A B hA hB => ?_); simp only [S1, simprocAttr, y4, M9 hlt rfl, i0, i40, dr, f1, f2, hne, hS, e9, g9, h9, LNB]; first | refine p7 _ ?_; clear p7 K1 | ((first | refine hA ?_ | refine hB ?_); clear hA hB A B) | (refine g8 (v := ?_) (fun hg p8 => ?_) ?_; rotate_left; (focus (try ((try simp only [BN] at hg); simp only [S1, simprocAttr, y4, M9 hlt rfl, i0, i40, dr, f1, f2, hne, hS, e9, g9, h9, LNB, hg] at p8 ⊢)); first | exact p8); refine p7 _ ?_; clear p7 K1) | (((first | (refine ⟨fun hg => hA ?_, fun hg => hB ?_⟩ <;> clear hA hB A B) | refine ⟨fun hg => ?_, fun hg => ?_⟩) <;> (try simp only [BN2] at hg) <;> (try simp only [hg, cndB])) <;> (try (refine p7 _ ?_; clear p7 K1)) <;> (try simp only [BN3] at hg))) | refine b6 fun K hK => ?_ | ((first | apply c8 | apply b8 | apply a9 | refine d5 ?_ | apply b7 | apply c9 | apply d4 | apply d7); try simp only [NB, simprocAttr]))
        all_goals simp only [S1, simprocAttr, ENB, y4]
        all_goals rw [ik h0 hlt hbad]
      | false =>
      cases f3 : decide ((fl.length : Int) ≤ (i : Int)) with
      | false =>
        have hbad : dY fl.length S i = false := by rw [ebt, f1, f2, f3]; rfl
        repeat' (first | ((repeat ((fail_if_success (refine hK _ ?_)); clear hK K)); refine hK _ ?_; clear hK K) | ((first | refine d8 fun K1 p7 => ?_ | refine d6 fun K1 p7 => ?_ | refine b5 fun A B hA hB => ?_); simp only [S1, simprocAttr, y4, M9 hlt rfl, A8 (n := 40) (by omega) hlt, i0, i40, dr, f1, f2, f3, hne, hS, e9, g9, h9, LNB]; first | refine p7 _ ?_; clear p7 K1 | ((first | refine hA ?_ | refine hB ?_); clear hA hB A B) | (refine g8 (v := ?_) (fun hg p8 => ?_) ?_; rotate_left; (focus (try ((try simp only [BN] at hg); simp only [S1, simprocAttr, y4, M9 hlt rfl, A8 (n := 40) (by omega) hlt, i0, i40, dr, f1, f2, f3, hne, hS, e9, g9, h9, LNB, hg] at p8 ⊢)); first | exact p8); refine p7 _ ?_; clear p7 K1) | (((first | (refine ⟨fun hg => hA ?_, fun hg => hB ?_⟩ <;> clear hA hB A B) | refine ⟨fun hg => ?_, fun hg => ?_⟩) <;> (try simp only [BN2] at hg) <;> (try simp only [hg, cndB])) <;> (try (refine p7 _ ?_; clear p7 K1)) <;> (try simp only [BN3] at hg))) | refine b6 fun K hK => ?_ | ((first | apply c8 | apply b8 | apply a9 | refine d5 ?_ | apply b7 | apply c9 | apply d4 | apply d7); try simp only [NB, simprocAttr]))
        all_goals refine ⟨hlt, il hp hbad, ?_⟩
        all_goals refine ⟨rfl, ⟨[], by simp only [List.append_nil]⟩, ?_, ⟨trivial, trivial, trivial⟩, j6 _ _, trivial⟩
        all_goals simp only [S1, simprocAttr, KNB] <;> (try and_intros) <;> (try assumption) <;> (try trivial) <;> (try omega)
      | true =>
      cases f4 : (v != 0) with
      | true =>
        have hbad : dY fl.length S i = true := by rw [ebt, f1, f2, f3, f4]; rfl
        repeat' (first | ((repeat ((fail_if_success (refine hK _ ?_)); clear hK K)); refine hK _ ?_; clear hK K) | ((first | refine d8 fun K1 p7 => ?_ | refine d6 fun K1 p7 => ?_ | refine b5 fun A B hA hB => ?_); simp only [S1, simprocAttr, y4, M9 hlt rfl, i0, i40, dr, f1, f2, f3, f4, hne, hS, e9, g9, h9, LNB]; first | refine p7 _ ?_; clear p7 K1 | ((first | refine hA ?_ | refine hB ?_); clear hA hB A B) | (refine g8 (v := ?_) (fun hg p8 => ?_) ?_; rotate_left; (focus (try ((try simp only [BN] at hg); simp only [S1, simprocAttr, y4, M9 hlt rfl, i0, i40, dr, f1, f2, f3, f4, hne, hS, e9, g9, h9, LNB, hg] at p8 ⊢)); first | exact p8); refine p7 _ ?_; clear p7 K1) | (((first | (refine ⟨fun hg => hA ?_, fun hg => hB ?_⟩ <;> clear hA hB A B) | refine ⟨fun hg => ?_, fun hg => ?_⟩) <;> (try simp only [BN2] at hg) <;> (try simp only [hg, cndB])) <;> (try (refine p7 _ ?_; clear p7 K1)) <;> (try simp only [BN3] at hg))) | refine b6 fun K hK => ?_ | ((first | apply c8 | apply b8 | apply a9 | refine d5 ?_ | apply b7 | apply c9 | apply d4 | apply d7); try simp only [NB, simprocAttr]))
        all_goals simp only [S1, simprocAttr, ENB, y4]
        all_goals rw [ik h0 hlt hbad]
      | false =>
        have hbad : dY fl.length S i = false := by rw [ebt, f1, f2, f3, f4]; rfl
        repeat' (first | ((repeat ((fail_if_success (refine hK _ ?_)); clear hK K)); refine hK _ ?_; clear hK K) | ((first | refine d8 fun K1 p7 => ?_ | refine d6 fun K1 p7 => ?_ | refine b5 fun A B hA hB => ?_); simp only [S1, simprocAttr, y4, M9 hlt rfl, A8 (n := 40) (by omega) hlt, i0, i40, dr, f1, f2, f3, f4, hne, hS, e9, g9, h9, LNB]; first | refine p7 _ ?_; clear p7 K1 | ((first | refine hA ?_ | refine hB ?_); clear hA hB A B) | (refine g8 (v := ?_) (fun hg p8 => ?_) ?_; rotate_left; (focus (try ((try simp only [BN] at hg); simp only [S1, simprocAttr, y4, M9 hlt rfl, A8 (n := 40) (by omega) hlt, i0, i40, dr, f1, f2, f3, f4, hne, hS, e9, g9, h9, LNB, hg] at p8 ⊢)); first | exact p8); refine p7 _ ?_; clear p7 K1) | (((first | (refine ⟨fun hg => hA ?_, fun hg => hB ?_⟩ <;> clear hA hB A B) | refine ⟨fun hg => ?_, fun hg => ?_⟩) <;> (try simp only [BN2] at hg) <;> (try simp only [hg, cndB])) <;> (try (refine p7 _ ?_; clear p7 K1)) <;> (try simp only [BN3] at hg))) | refine b6 fun K hK => ?_ | ((first | apply c8 | apply b8 | apply a9 | refine d5 ?_ | apply b7 | apply c9 | apply d4 | apply d7); try simp only [NB, simprocAttr]))
        all_goals refine ⟨hlt, il hp hbad, ?_⟩
        all_goals refine ⟨rfl, ⟨[], by simp only [List.append_nil]⟩, ?_, ⟨trivial, trivial, trivial⟩, j6 _ _, trivial⟩
        all_goals simp only [S1, simprocAttr, KNB] <;> (try and_intros) <;> (try assumption) <;> (try trivial) <;> (try omega)
    obtain rfl : i = 40 := by omega
    have hpT := hp
    repeat' (first | ((repeat ((fail_if_success (refine hK _ ?_)); clear hK K)); refine hK _ ?_; clear hK K) | ((first | refine d8 fun K1 p7 => ?_ | refine d6 fun K1 p7 => ?_ | refine b5 fun A B hA hB => ?_); simp only [S1, simprocAttr, y4]; first | refine p7 _ ?_; clear p7 K1 | ((first | refine hA ?_ | refine hB ?_); clear hA hB A B) | (refine g8 (v := ?_) (fun hg p8 => ?_) ?_; rotate_left; (focus (try ((try simp only [BN] at hg); simp only [S1, simprocAttr, y4, hg] at p8 ⊢)); first | exact p8); refine p7 _ ?_; clear p7 K1) | (((first | (refine ⟨fun hg => hA ?_, fun hg => hB ?_⟩ <;> clear hA hB A B) | refine ⟨fun hg => ?_, fun hg => ?_⟩) <;> (try simp only [BN2] at hg) <;> (try simp only [hg, cndB])) <;> (try (refine p7 _ ?_; clear p7 K1)) <;> (try simp only [BN3] at hg))) | refine b6 fun K hK => ?_ | ((first | apply c8 | apply b8 | apply a9 | refine d5 ?_ | apply b7 | apply c9 | apply d4 | apply d7); try simp only [NB, simprocAttr]))
    refine s5 4 71 (fun i => [(6, .i i), (3, .ptr (h.length + 1) 0 0), (2, .ptr h.length 0 0)]) (fun i => [some ⟨0, [.p (.sl (ns.map eN)), .p (.sl (fl.map eF))]⟩, some ⟨0, S.map AV.i⟩]) (fun i => ∀ j, j < i → ij S j = false) ?_ (fun j hj => absurd hj (Nat.not_lt_zero _)) fun i hi hp K hK => ?_
    · refine ⟨rfl, ⟨[], by simp only [List.append_nil]⟩, ?_, ⟨trivial, trivial, trivial⟩, j6 _ _, trivial⟩
      simp only [S1, simprocAttr, KNB] <;> (try and_intros) <;> (try assumption) <;> (try trivial) <;> (try omega)
    rcases Nat.lt_or_ge i 4 with hlt | hge
    · have i0 : (0 : Int) ≤ (i : Int) := by omega
      have i4 : (i : Int) < 4 := by omega
      have hx : S[44 + i]? = some (qAt S i) := F8 hS (by omega)
      have dr := J1 hx
      have ebt : ij S i = (decide (qAt S i < 0) || decide (3 < qAt S i)) := rfl
      generalize qAt S (i : Int) = v at *
      cases f1 : decide (v < 0) with
      | true =>
        have hbad : ij S i = true := by rw [ebt, f1]; rfl
        repeat' (first | ((repeat ((fail_if_success (refine hK _ ?_)); clear hK K)); refine hK _ ?_; clear hK K) | ((first | refine d8 fun K1 p7 => ?_ | refine d6 fun K1 p7 => ?_ | refine b5 fun A B hA hB => ?_); simp only [S1, simprocAttr, y4, M9 hlt rfl, i0, i4, dr, f1, hne, hS, e9, g9, h9, LNB]; first | refine p7 _ ?_; clear p7 K1 | ((first | refine hA ?_ | refine hB ?_); clear hA hB A B) | (refine g8 (v := ?_) (fun hg p8 => ?_) ?_; rotate_left; (focus (try ((try simp only [BN] at hg); simp only [S1, simprocAttr, y4, M9 hlt rfl, i0, i4, dr, f1, hne, hS, e9, g9, h9, LNB, hg] at p8 ⊢)); first | exact p8); refine p7 _ ?_; clear p7 K1) | (((first | (refine ⟨fun hg => hA ?_, fun hg => hB ?_⟩ <;> clear hA hB A B) | refine ⟨fun hg => ?_, fun hg => ?_⟩) <;> (try simp only [BN2] at hg) <;> (try simp only [hg, cndB])) <;> (try (refine p7 _ ?_; clear p7 K1)) <;> (try simp only [BN3] at hg))) | refine b6 fun K hK => ?_ | ((first | apply c8 | apply b8 | apply a9 | refine d5 ?_ | apply b7 | apply c9 | apply d4 | apply d7); try simp only [NB, simprocAttr]))
        all_goals simp only [S1, simprocAttr, ENB, y4]
        all_goals rw [mB h0 hlt hbad]
      | false =>
      cases f2 : decide (3 < v) with
      | true =>
        have hbad : ij S i = true := by rw [ebt, f1, f2]; rfl
        repeat' (first | ((repeat ((fail_if_success (refine hK _ ?_)); clear hK K)); refine hK _ ?_; clear hK K) | ((first | refine d8 fun K1 p7 => ?_ | refine d6 fun K1 p7 => ?_ | refine b5 fun A B hA hB => ?_); simp only [S1, simprocAttr, y4, M9 hlt rfl, i0, i4, dr, f1, f2, hne, hS, e9, g9, h9, LNB]; first | refine p7 _ ?_; clear p7 K1 | ((first | refine hA ?_ | refine hB ?_); clear hA hB A B) | (refine g8 (v := ?_) (fun hg p8 => ?_) ?_; rotate_left; (focus (try ((try simp only [BN] at hg); simp only [S1, simprocAttr, y4, M9 hlt rfl, i0, i4, dr, f1, f2, hne, hS, e9, g9, h9, LNB, hg] at p8 ⊢)); first | exact p8); refine p7 _ ?_; clear p7 K1) | (((first | (refine ⟨fun hg => hA ?_, fun hg => hB ?_⟩ <;> clear hA hB A B) | refine ⟨fun hg => ?_, fun hg => ?_⟩) <;> (try simp only [BN2] at hg) <;> (try simp only [hg, cndB])) <;> (try (refine p7 _ ?_; clear p7 K1)) <;> (try simp only [BN3] at hg))) | refine b6 fun K hK => ?_ | ((first | apply c8 | apply b8 | apply a9 | refine d5 ?_ | apply b7 | apply c9 | apply d4 | apply d7); try simp only [NB, simprocAttr]))
        all_goals simp only [S1, simprocAttr, ENB, y4]
        all_goals rw [mB h0 hlt hbad]
      | false =>
        have hbad : ij S i = false := by rw [ebt, f1, f2]; rfl
        repeat' (first | ((repeat ((fail_if_success (refine hK _ ?_)); clear hK K)); refine hK _ ?_; clear hK K) | ((first | refine d8 fun K1 p7 => ?_ | refine d6 fun K1 p7 => ?_ | refine b5 fun A B hA hB => ?_); simp only [S1, simprocAttr, y4, M9 hlt rfl, A8 (n := 4) (by omega) hlt, i0, i4, dr, f1, f2, hne, hS, e9, g9, h9, LNB]; first | refine p7 _ ?_; clear p7 K1 | ((first | refine hA ?_ | refine hB ?_); clear hA hB A B) | (refine g8 (v := ?_) (fun hg p8 => ?_) ?_; rotate_left; (focus (try ((try simp only [BN] at hg); simp only [S1, simprocAttr, y4, M9 hlt rfl, A8 (n := 4) (by omega) hlt, i0, i4, dr, f1, f2, hne, hS, e9, g9, h9, LNB, hg] at p8 ⊢)); first | exact p8); refine p7 _ ?_; clear p7 K1) | (((first | (refine ⟨fun hg => hA ?_, fun hg => hB ?_⟩ <;> clear hA hB A B) | refine ⟨fun hg => ?_, fun hg => ?_⟩) <;> (try simp only [BN2] at hg) <;> (try simp only [hg, cndB])) <;> (try (refine p7 _ ?_; clear p7 K1)) <;> (try simp only [BN3] at hg))) | refine b6 fun K hK => ?_ | ((first | apply c8 | apply b8 | apply a9 | refine d5 ?_ | apply b7 | apply c9 | apply d4 | apply d7); try simp only [NB, simprocAttr]))
        all_goals refine ⟨hlt, il hp hbad, ?_⟩
        all_goals refine ⟨rfl, ⟨[], by simp only [List.append_nil]⟩, ?_, ⟨trivial, trivial, trivial⟩, j6 _ _, trivial⟩
        all_goals simp only [S1, simprocAttr, KNB] <;> (try and_intros) <;> (try assumption) <;> (try trivial) <;> (try omega)
    obtain rfl : i = 4 := by omega
    have ar := rW hS
    have dm := J1 (F8 hS (k := 48) (by omega))
    have hok : okS fl.length S = (inV (vS S) && (decide (0 ≤ mdS S) && decide (mdS S ≤ 2))) := by
      have a1 : (List.range 40).all (fun i => !dY fl.length S i) = true := by
        rw [List.all_eq_true]; intro j hj; rw [hpT j (List.mem_range.mp hj)]; rfl
      have a2 : (List.range 4).all (fun i => !ij S i) = true := by
        rw [List.all_eq_true]; intro j hj; rw [hp j (List.mem_range.mp hj)]; rfl
      unfold okS; rw [a1, a2]; rfl
    have hst : stC ns fl S = if (inV (vS S) && (decide (0 ≤ mdS S) && decide (mdS S ≤ 2))) = true then 0 else 1 := by
      unfold stC; rw [if_neg (by simpa using h0), hok]
    have emd : S.getD 48 0 = mdS S := rfl
    rw [emd] at dm
    have hf4 := fun h => H3 (G := gW) (vS S) h
    generalize mdS S = v at *
    cases f1 : inV (vS S) with
    | false =>
      rw [f1] at hst hf4
      repeat' (first | ((repeat ((fail_if_success (refine hK _ ?_)); clear hK K)); refine hK _ ?_; clear hK K) | ((first | refine d8 fun K1 p7 => ?_ | refine d6 fun K1 p7 => ?_ | refine b5 fun A B hA hB => ?_); simp only [S1, simprocAttr, y4, ar, dm, hne, hS, e9, g9, h9, LNB]; first | refine p7 _ ?_; clear p7 K1 | ((first | refine hA ?_ | refine hB ?_); clear hA hB A B) | ((first | apply b9 E25 | apply c7 E25); exact (hf4 _); refine p7 _ ?_; clear p7 K1) | (refine g8 (v := ?_) (fun hg p8 => ?_) ?_; rotate_left; (focus (try ((try simp only [BN] at hg); simp only [S1, simprocAttr, y4, ar, dm, hne, hS, e9, g9, h9, LNB, hg] at p8 ⊢)); first | exact p8 | ((first | apply b9 E25 | apply c7 E25); exact (hf4 _); exact p8)); refine p7 _ ?_; clear p7 K1) | (((first | (refine ⟨fun hg => hA ?_, fun hg => hB ?_⟩ <;> clear hA hB A B) | refine ⟨fun hg => ?_, fun hg => ?_⟩) <;> (try simp only [BN2] at hg) <;> (try simp only [hg, cndB])) <;> (try (refine p7 _ ?_; clear p7 K1)) <;> (try simp only [BN3] at hg))) | refine b6 fun K hK => ?_ | ((first | apply c8 | apply b8 | apply a9 | refine d5 ?_ | apply b7 | apply c9 | apply d4 | apply d7); try simp only [NB, simprocAttr]))
      all_goals simp only [S1, simprocAttr, ENB, y4]
      all_goals rw [hst]; rfl
    | true =>
    rw [f1] at hst hf4
    by_cases h1 : v < 0
    · have f2 : decide (v < 0) = true := decide_eq_true h1
      have f3 : decide (0 ≤ v) = false := decide_eq_false (by omega)
      rw [f3] at hst
      repeat' (first | ((repeat ((fail_if_success (refine hK _ ?_)); clear hK K)); refine hK _ ?_; clear hK K) | ((first | refine d8 fun K1 p7 => ?_ | refine d6 fun K1 p7 => ?_ | refine b5 fun A B hA hB => ?_); simp only [S1, simprocAttr, y4, ar, dm, f2, hne, hS, e9, g9, h9, LNB]; first | refine p7 _ ?_; clear p7 K1 | ((first | refine hA ?_ | refine hB ?_); clear hA hB A B) | ((first | apply b9 E25 | apply c7 E25); exact (hf4 _); refine p7 _ ?_; clear p7 K1) | (refine g8 (v := ?_) (fun hg p8 => ?_) ?_; rotate_left; (focus (try ((try simp only [BN] at hg); simp only [S1, simprocAttr, y4, ar, dm, f2, hne, hS, e9, g9, h9, LNB, hg] at p8 ⊢)); first | exact p8 | ((first | apply b9 E25 | apply c7 E25); exact (hf4 _); exact p8)); refine p7 _ ?_; clear p7 K1) | (((first | (refine ⟨fun hg => hA ?_, fun hg => hB ?_⟩ <;> clear hA hB A B) | refine ⟨fun hg => ?_, fun hg => ?_⟩) <;> (try simp only [BN2] at hg) <;> (try simp only [hg, cndB])) <;> (try (refine p7 _ ?_; clear p7 K1)) <;> (try simp only [BN3] at hg))) | refine b6 fun K hK => ?_ | ((first | apply c8 | apply b8 | apply a9 | refine d5 ?_ | apply b7 | apply c9 | apply d4 | apply d7); try simp only [NB, simprocAttr]))
      all_goals simp only [S1, simprocAttr, ENB, y4]
      all_goals rw [hst]; rfl
    · have f2 : decide (v < 0) = false := decide_eq_false h1
      have f3 : decide (0 ≤ v) = true := decide_eq_true (by omega)
      by_cases h2 : 2 < v
      · have f4 : decide (2 < v) = true := decide_eq_true h2
        have f5 : decide (v ≤ 2) = false := decide_eq_false (by omega)
        rw [f3, f5] at hst
        repeat' (first | ((repeat ((fail_if_success (refine hK _ ?_)); clear hK K)); refine hK _ ?_; clear hK K) | ((first | refine d8 fun K1 p7 => ?_ | refine d6 fun K1 p7 => ?_ | refine b5 fun A B hA hB => ?_); simp only [S1, simprocAttr, y4, ar, dm, f2, f4, hne, hS, e9, g9, h9, LNB]; first | refine p7 _ ?_; clear p7 K1 | ((first | refine hA ?_ | refine hB ?_); clear hA hB A B) | ((first | apply b9 E25 | apply c7 E25); exact (hf4 _); refine p7 _ ?_; clear p7 K1) | (refine g8 (v := ?_) (fun hg p8 => ?_) ?_; rotate_left; (focus (try ((try simp only [BN] at hg); simp only [S1, simprocAttr, y4, ar, dm, f2, f4, hne, hS, e9, g9, h9, LNB, hg] at p8 ⊢)); first | exact p8 | ((first | apply b9 E25 | apply c7 E25); exact (hf4 _); exact p8)); refine p7 _ ?_; clear p7 K1) | (((first | (refine ⟨fun hg => hA ?_, fun hg => hB ?_⟩ <;> clear hA hB A B) | refine ⟨fun hg => ?_, fun hg => ?_⟩) <;> (try simp only [BN2] at hg) <;> (try simp only [hg, cndB])) <;> (try (refine p7 _ ?_; clear p7 K1)) <;> (try simp only [BN3] at hg))) | refine b6 fun K hK => ?_ | ((first | apply c8 | apply b8 | apply a9 | refine d5 ?_ | apply b7 | apply c9 | apply d4 | apply d7); try simp only [NB, simprocAttr]))
        all_goals simp only [S1, simprocAttr, ENB, y4]
        all_goals rw [hst]; rfl
      · have f4 : decide (2 < v) = false := decide_eq_false h2
        have f5 : decide (v ≤ 2) = true := decide_eq_true (by omega)
        rw [f3, f5] at hst
        repeat' (first | ((repeat ((fail_if_success (refine hK _ ?_)); clear hK K)); refine hK _ ?_; clear hK K) | ((first | refine d8 fun K1 p7 => ?_ | refine d6 fun K1 p7 => ?_ | refine b5 fun A B hA hB => ?_); simp only [S1, simprocAttr, y4, ar, dm, f2, f4, hne, hS, e9, g9, h9, LNB]; first | refine p7 _ ?_; clear p7 K1 | ((first | refine hA ?_ | refine hB ?_); clear hA hB A B) | ((first | apply b9 E25 | apply c7 E25); exact (hf4 _); refine p7 _ ?_; clear p7 K1) | (refine g8 (v := ?_) (fun hg p8 => ?_) ?_; rotate_left; (focus (try ((try simp only [BN] at hg); simp only [S1, simprocAttr, y4, ar, dm, f2, f4, hne, hS, e9, g9, h9, LNB, hg] at p8 ⊢)); first | exact p8 | ((first | apply b9 E25 | apply c7 E25); exact (hf4 _); exact p8)); refine p7 _ ?_; clear p7 K1) | (((first | (refine ⟨fun hg => hA ?_, fun hg => hB ?_⟩ <;> clear hA hB A B) | refine ⟨fun hg => ?_, fun hg => ?_⟩) <;> (try simp only [BN2] at hg) <;> (try simp only [hg, cndB])) <;> (try (refine p7 _ ?_; clear p7 K1)) <;> (try simp only [BN3] at hg))) | refine b6 fun K hK => ?_ | ((first | apply c8 | apply b8 | apply a9 | refine d5 ?_ | apply b7 | apply c9 | apply d4 | apply d7); try simp only [NB, simprocAttr]))
        all_goals simp only [S1, simprocAttr, ENB, y4]
        all_goals rw [hst]; rfl
  · have h0' : ((E5 ns fl).1 != 0) = true := by simp [h0]
    have hst : stC ns fl S = 4 := by unfold stC; rw [if_pos h0]
    refine d9 (rl := []) i6 Tryz.func10 rfl (rs := [.tmp 4]) rfl Tryz.ntmps10 (by simp) ?_
    repeat' (first | ((repeat ((fail_if_success (refine hK _ ?_)); clear hK K)); refine hK _ ?_; clear hK K) | ((first | refine d8 fun K1 p7 => ?_ | refine d6 fun K1 p7 => ?_ | refine b5 fun A B hA hB => ?_); simp only [S1, simprocAttr, y4, List.length_map, hS, hne, e9, h0']; first | refine p7 _ ?_; clear p7 K1 | ((first | refine hA ?_ | refine hB ?_); clear hA hB A B) | ((first | apply b9 E19 | apply c7 E19); exact (M4 ns fl nk _); refine p7 _ ?_; clear p7 K1) | (refine g8 (v := ?_) (fun hg p8 => ?_) ?_; rotate_left; (focus (try ((try simp only [BN] at hg); simp only [S1, simprocAttr, y4, List.length_map, hS, hne, e9, h0', hg] at p8 ⊢)); first | exact p8 | ((first | apply b9 E19 | apply c7 E19); exact (M4 ns fl nk _); exact p8)); refine p7 _ ?_; clear p7 K1) | (((first | (refine ⟨fun hg => hA ?_, fun hg => hB ?_⟩ <;> clear hA hB A B) | refine ⟨fun hg => ?_, fun hg => ?_⟩) <;> (try simp only [BN2] at hg) <;> (try simp only [hg, cndB])) <;> (try (refine p7 _ ?_; clear p7 K1)) <;> (try simp only [BN3] at hg))) | refine b6 fun K hK => ?_ | ((first | apply c8 | apply b8 | apply a9 | refine d5 ?_ | apply b7 | apply c9 | apply d4 | apply d7); try simp only [NB, simprocAttr]))
    all_goals simp only [S1, simprocAttr, ENB, y4]
    all_goals rw [hst]
end
section
attribute [local irreducible] awp q9 m7 n7 r5 q8
def y2 (ns : List Nd) (fl : List Fl) (S : List Int) : Nat → List Sp
  | 0 => []
  | j + 1 => y2 ns fl S j ++ (match ns[j]? with | some k => o7 ns fl S j k | none => [])
def bD (ns : List Nd) (m : Int) : Bool := ns.any fun k => k.kind == 8 && k.a == m
def J3 (ns : List Nd) (S : List Int) (m : Nat) : List Sp :=
  if bD ns m = true ∧ qAt S m < 3 then p9 S ⟨-1, m, 5, 0, m, S.set (44 + m) (qAt S m + 1)⟩ [] [] else []
def r7 (ns : List Nd) (S : List Int) : Nat → List Sp
  | 0 => []
  | m + 1 => r7 ns S m ++ J3 ns S m
noncomputable def u6 (ns : List Nd) (fl : List Fl) (S : List Int) : List Sp :=
  if stC ns fl S ≠ 0 ∨ mdS S ≠ 0 then [] else y2 ns fl S ns.length ++ r7 ns S 4
theorem V8 (h : Heap) (A B X Y : Option Blk) (L : Heap) (ns : List Nd) (fl : List Fl) (S : List Int) (l : List Sp) : m3 (h ++ [A, B, X, Y]) (h.length + 2) (h.length + 3) ns fl S l ++ L = h ++ (A :: B :: gmB ns fl S (h.length + 3) l :: spB l :: L) := by
  unfold m3
  simp only [cK, List.set_cons_succ, List.set_cons_zero, List.append_assoc, List.cons_append, List.nil_append]
theorem qw (ns : List Nd) (fl : List Fl) (S : List Int) (hf : fl.length ≤ 40) (i : Nat) (k : Nd) : (o7 ns fl S i k).length ≤ 100 := by
  have hcl : ∀ f d fr, (s9 ns fl S i f d fr).length ≤ 1 := by
    intro f d fr
    unfold s9
    split
    · split
      · simp
      · exact A2 _ _ _ _
    · exact A2 _ _ _ _
  have fm : ∀ (l : List Int) (g : Int → List Sp), (∀ x, (g x).length ≤ 1) → (l.flatMap g).length ≤ l.length := by
    intro l g hg
    induction l with
    | nil => simp
    | cons x r ih => rw [List.flatMap_cons, List.length_append, List.length_cons]; have := hg x; omega
  have hi := oX fl i
  have ho := mf fl i
  have hm := fun x fr to => A2 S x fr to
  unfold o7
  split
  · unfold fg; split <;> exact Nat.le_trans (hm _ _ _) (by omega)
  · split
    · unfold P2
      repeat' split
      · simp
      · rw [List.length_append]
        have := hm ⟨i, 0, 1, i, 0, S.set (40 + k.a.toNat) 0⟩ (p5 fl i) (k3 fl i)
        have := hm ⟨i, 1, 1, i, 1, S.set (40 + k.a.toNat) 1⟩ (p5 fl i) (k3 fl i)
        omega
      · simp
      · exact Nat.le_trans (hm _ _ _) (by omega)
    · split
      · unfold P1
        split
        · exact Nat.le_trans (fm _ _ fun x => hm _ _ _) (by omega)
        · repeat' split
          · simp
          · simp
          · exact Nat.le_trans (hm _ _ _) (by omega)
      · split
        · exact Nat.le_trans (hm _ _ _) (by omega)
        · split
          · exact Nat.le_trans (fm _ _ fun x => hcl _ _ _) (by omega)
          · split
            · exact Nat.le_trans (hcl _ _ _) (by omega)
            · simp
theorem rX {ns : List Nd} {fl : List Fl} {S : List Int} (hS : S.length = 49) (i : Nat) (k : Nd) : ∀ y ∈ o7 ns fl S i k, y.to.length = 49 := by
  have hcl : ∀ f d fr, ∀ y ∈ s9 ns fl S i f d fr, y.to.length = 49 := by
    intro f d fr y hy
    unfold s9 at hy
    split at hy
    · split at hy
      · cases hy
      · exact x7 hS (by rw [List.length_set, hS]) y hy
    · exact x7 hS hS y hy
  have hst : ∀ (a : Nat) (v : Int), (S.set a v).length = 49 := fun a v => by rw [List.length_set, hS]
  have hfa : ∀ e, ∀ y ∈ [u4 S i e], y.to.length = 49 := by
    intro e y hy
    rw [List.mem_singleton.mp hy]; exact hst _ _
  intro y hy
  unfold o7 at hy
  split at hy
  · unfold fg at hy
    split at hy
    · exact x7 hS (hst _ _) y hy
    · exact x7 hS hS y hy
  · split at hy
    · unfold P2 at hy
      split at hy
      · cases hy
      · split at hy
        · rcases List.mem_append.mp hy with hy | hy <;> exact x7 hS (hst _ _) y hy
        · split at hy
          · exact hfa _ y hy
          · exact x7 hS (hst _ _) y hy
    · split at hy
      · unfold P1 at hy
        split at hy
        · obtain ⟨f, _, hy⟩ := List.mem_flatMap.mp hy
          exact x7 hS hS y hy
        · split at hy
          · cases hy
          · split at hy
            · exact hfa _ y hy
            · exact x7 hS hS y hy
      · split at hy
        · exact x7 hS hS y hy
        · split at hy
          · obtain ⟨f, _, hy⟩ := List.mem_flatMap.mp hy
            exact hcl _ _ _ y hy
          · split at hy
            · exact hcl _ _ _ y hy
            · cases hy
theorem ai (ns : List Nd) (fl : List Fl) (S : List Int) (hf : fl.length ≤ 40) : ∀ j, (y2 ns fl S j).length ≤ 100 * j
  | 0 => by simp [y2]
  | j + 1 => by
    have := ai ns fl S hf j
    rw [y2, List.length_append]
    split
    · rename_i k _
      have := qw ns fl S hf j k
      omega
    · simp only [List.length_nil]; omega
theorem R7 {ns : List Nd} {fl : List Fl} {S : List Int} (hS : S.length = 49) : ∀ j, ∀ y ∈ y2 ns fl S j, y.to.length = 49
  | 0, y, hy => by simp [y2] at hy
  | j + 1, y, hy => by
    rw [y2] at hy
    rcases List.mem_append.mp hy with hy | hy
    · exact R7 hS j y hy
    · split at hy
      · exact rX hS j _ y hy
      · cases hy
theorem aj (ns : List Nd) (S : List Int) : ∀ m, (r7 ns S m).length ≤ m
  | 0 => by simp [r7]
  | m + 1 => by
    have := aj ns S m
    rw [r7, List.length_append]
    unfold J3
    split
    · have := A2 S ⟨-1, m, 5, 0, m, S.set (44 + m) (qAt S m + 1)⟩ [] []
      omega
    · simp only [List.length_nil]; omega
theorem bF {ns : List Nd} {S : List Int} (hS : S.length = 49) : ∀ m, ∀ y ∈ r7 ns S m, y.to.length = 49
  | 0, y, hy => by simp [r7] at hy
  | m + 1, y, hy => by
    rw [r7] at hy
    rcases List.mem_append.mp hy with hy | hy
    · exact bF hS m y hy
    · unfold J3 at hy
      split at hy
      · exact x7 hS (by rw [List.length_set, hS]) y hy
      · cases hy
theorem rY {n : Nat} {S : List Int} (hS : S.length = 49) (h : okS n S = true) : StOk S := by
  unfold okS at h
  simp only [Bool.and_eq_true, List.all_eq_true, List.mem_range, Bool.not_eq_true'] at h
  refine ⟨⟨hS, fun i x hi hx => ?_⟩, fun i x h44 h48 hx => ?_⟩
  · have := h.1.1 i hi
    unfold dY at this
    simp only [Bool.or_eq_false_iff, decide_eq_false_iff_not] at this
    have e := F8 hS (k := i) (by omega)
    rw [hx] at e
    have e2 : tk S (i : Int) = x := (Option.some.inj e).symm
    omega
  · have := h.1.2 (i - 44) (by omega)
    unfold ij at this
    simp only [Bool.or_eq_false_iff, decide_eq_false_iff_not] at this
    have e := F8 hS (k := i) (by omega)
    rw [hx] at e
    have e2 : qAt S ((i - 44 : Nat) : Int) = x := by unfold qAt; rw [Int.toNat_natCast, show 44 + (i - 44) = i by omega]; exact (Option.some.inj e).symm
    omega
theorem un (r : Sp) : ∀ x ∈ eSp r, x ≠ .nils := by
  intro x hx
  obtain ⟨n, _, rfl⟩ := List.mem_map.mp hx
  exact fun e => by cases e
theorem im {ns : List Nd} {fl : List Fl} {S : List Int} (h : stC ns fl S = 0) : (E5 ns fl).1 = 0 ∧ okS fl.length S = true := by
  unfold stC at h
  split at h
  · cases h
  · rename_i h0
    split at h
    · rename_i h1; exact ⟨by simpa using h0, h1⟩
    · cases h
end
section
def bW := And.intro T2 (And.intro T3 (And.intro T4 (And.intro T25 (And.intro T26 (And.intro T27 (And.intro T46 (And.intro T53 (And.intro T79 (And.intro T80 (And.intro fq fu))))))))))
attribute [local irreducible] awp q9 m7 n7 r5 q8
variable {G : Nat → Option (List PV)}
def H4 : List Int → List Int → List Int × Bool
  | [], S => (S, true)
  | f :: r, S => if tk S f - 1 < 0 then (S.set f.toNat (tk S f - 1), false) else H4 r (S.set f.toNat (tk S f - 1))
def L2 : List Int → List Int → List Int × Bool
  | [], S => (S, true)
  | f :: r, S => if 3 < tk S f + 1 then (S.set f.toNat (tk S f + 1), false) else L2 r (S.set f.toNat (tk S f + 1))
def mvF (S : List Int) (fr to : List Int) : List Int × Bool := if (H4 fr S).2 = true then L2 to (H4 fr S).1 else H4 fr S
theorem oc {l T : List Int} {i : Nat} {f : Int} (h : l[i]? = some f) : H4 (l.drop i) T = if tk T f - 1 < 0 then (T.set f.toNat (tk T f - 1), false) else H4 (l.drop (i + 1)) (T.set f.toNat (tk T f - 1)) := by
  obtain ⟨hi, e⟩ := List.getElem?_eq_some_iff.mp h
  rw [List.drop_eq_getElem_cons hi, e]; rfl
theorem oe {l T : List Int} {i : Nat} {f : Int} (h : l[i]? = some f) : L2 (l.drop i) T = if 3 < tk T f + 1 then (T.set f.toNat (tk T f + 1), false) else L2 (l.drop (i + 1)) (T.set f.toNat (tk T f + 1)) := by
  obtain ⟨hi, e⟩ := List.getElem?_eq_some_iff.mp h
  rw [List.drop_eq_getElem_cons hi, e]; rfl
def z49 : List PV := List.replicate 49 (.int .i64 0)
def zS : List Int := List.replicate 49 0
theorem TSz : l7 Tryz.prog 29 = some ⟨.struct [(0, 40, 26), (40, 4, 27), (44, 4, 27), (48, 1, 3)], 49, 392, some z49⟩ := by rw [T29]; rfl
theorem i8 : (z49 = []) = False := by simp [z49]
theorem i7 : z49.map AV.p = zS.map AV.i := rfl
theorem j3 : zS.length = 49 := rfl
theorem F1 (h : Heap) (n fuel : Nat) (S : List Int) : I2 h n fuel (S.map AV.i) = some (S.map (PV.int .i64)) := by
  rw [← z9]
  exact nD h n fuel _ fun x hx => by obtain ⟨y, _, rfl⟩ := List.mem_map.mp hx; exact fun e => by cases e
theorem D5 {H : Heap} {b : Nat} {x : Option Blk} (h : H[b]? = some x) (L : Heap) : (H ++ L)[b]? = some x := by
  rw [List.getElem?_append_left (List.getElem?_eq_some_iff.mp h).1]; exact h
theorem fh {H : Heap} {b lb n g : Nat} {ns : List Nd} {fl : List Fl} {S : List Int} (hb : H[b]? = some (some ⟨g, gmC ns fl S lb n⟩)) (hh : cU S) (fr to : List Int) (hfr : InF fr) (hto : InF to) :
    f9 Tryz.prog G 72 [.ptr b g 0, aI fr, aI to] H (fun r h' => r = .tup [aS (mvF S fr to).1, .b (mvF S fr to).2] ∧ h' = H) := by
  have hS := hh.1
  have gl := v4 (ns := ns) (fl := fl) (lb := lb) (n := n) hS
  have t49 := v8 (ns := ns) (fl := fl) (lb := lb) (n := n) hS
  have hbL := D5 hb
  have hov := n9 (cs := S.map AV.i) (n := 49) (by rw [List.length_map, hS])
  have hzl : (zS.map AV.i).length = 49 := by rw [List.length_map]; rfl
  have hTl : ∀ T : List Int, T.length = 49 → ((T.map AV.i).take 49 = T.map AV.i) := fun T hT => List.take_of_length_le (by rw [List.length_map, hT]; exact Nat.le_refl _)
  have hto' : ∀ T : List Int, T.length = 49 → w9 (zS.map AV.i) 0 (T.map AV.i) = T.map AV.i := fun T hT => n9 (n := 49) (by rw [List.length_map, hT]) _ hzl
  have hso := hto' S hS
  have hem : (zS.map AV.i).isEmpty = false := rfl
  refine d9 (rl := []) i6 Tryz.func72 rfl (rs := [.cell 6 29, .tmp 7]) rfl Tryz.ntmps72 (by simp) ?_
  repeat' (first | ((repeat ((fail_if_success (refine hK _ ?_)); clear hK K)); refine hK _ ?_; clear hK K) | ((first | refine d8 fun K1 p7 => ?_ | refine d6 fun K1 p7 => ?_ | refine b5 fun A B hA hB => ?_); simp only [S1, simprocAttr, bW, TSz, i8, i7, j3, t49, hov, hso, hem, hS, gl, hb, hbL, e9, g9, h9, List.length_map, List.length_take, List.length_drop]; first | refine p7 _ ?_; clear p7 K1 | ((first | refine hA ?_ | refine hB ?_); clear hA hB A B) | (((first | (refine ⟨fun hg => hA ?_, fun hg => hB ?_⟩ <;> clear hA hB A B) | refine ⟨fun hg => ?_, fun hg => ?_⟩) <;> (try simp only [BN2] at hg) <;> (try simp only [hg, cndB])) <;> (try (refine p7 _ ?_; clear p7 K1)) <;> (try simp only [BN3] at hg))) | refine b6 fun K hK => ?_ | ((first | apply c8 | apply b8 | apply a9 | refine d5 ?_ | apply b7 | apply c9 | apply d4 | apply d7); try simp only [NB, simprocAttr]))
  refine N6 (σ := Qt) (fun q => fr.length - q.i) 58 (fun q => [(19, .i q.i), (18, .i fr.length), (17, aI fr), (8, .ptr (H.length + 1) 0 0), (6, .ptr H.length 0 0), (2, aI to)]) (fun q => [some ⟨0, zS.map AV.i⟩, some ⟨0, q.T.map AV.i⟩])
    (fun q => q.i ≤ fr.length ∧ cU q.T ∧ H4 fr S = H4 (fr.drop q.i) q.T) ⟨0, S⟩ ?_ ⟨Nat.zero_le _, hh, rfl⟩ fun q hq K hK => ?_
  · refine ⟨rfl, ⟨[], by simp only [List.append_nil]⟩, ?_, j6 _ _, j6 _ _, trivial⟩
    simp only [S1, simprocAttr, KNB] <;> (try and_intros) <;> (try assumption) <;> (try trivial) <;> (try omega)
  obtain ⟨i, T⟩ := q
  obtain ⟨hi, hT, hrun⟩ := hq
  simp only at hi hT hrun
  have hTlen := hT.1
  rcases Nat.lt_or_ge i fr.length with hlt | hge
  · obtain ⟨f, hf⟩ : ∃ f, fr[i]? = some f := ⟨_, List.getElem?_eq_getElem hlt⟩
    obtain ⟨f0, f40⟩ := hfr.2 f (List.mem_of_getElem? hf)
    obtain ⟨k, rfl⟩ := Int.eq_ofNat_of_zero_le f0
    have k40 : k < 40 := by omega
    obtain ⟨hv, v0, v3⟩ := hT.at k40
    rw [oc hf] at hrun
    have hdr := J1 hv
    have hse := fun v => F0 T k v
    have hln : ∀ v, (T.set k v).length = 49 := fun v => by rw [List.length_set, hTlen]
    have hk49 : k + 1 ≤ 49 := by omega
    generalize hvv : tk T (k : Int) = v at *
    have hw : IntKind.i64.wrap (v - 1) = v - 1 := IntWalk.i64_in _ (by omega)
    have hv2 : (T.set k (v - 1))[k]? = some (v - 1) := by rw [List.getElem?_set]; simp; omega
    have hdr2 := J1 hv2
    have hs2 := hto' _ (hln (v - 1))
    have ht2 := hTl _ (hln (v - 1))
    rw [Int.toNat_natCast] at hrun
    by_cases h1 : v - 1 < 0
    · have h1' : decide (v - 1 < 0) = true := decide_eq_true h1
      rw [if_pos h1] at hrun
      have em : mvF S fr to = (T.set k (v - 1), false) := by unfold mvF; rw [hrun]; rfl
      rw [em]
      repeat' (first | ((repeat ((fail_if_success (refine hK _ ?_)); clear hK K)); refine hK _ ?_; clear hK K) | ((first | refine d8 fun K1 p7 => ?_ | refine d6 fun K1 p7 => ?_ | refine b5 fun A B hA hB => ?_); simp only [S1, simprocAttr, bW, C2 hf, I3 hlt, D9 (by have := hfr.1; omega) hlt, f0, f40, hdr, hse, hw, h1', hdr2, hln, hs2, ht2, hk49, TSz, i8, i7, j3, hem, hTlen, e9, g9, h9, LNB]; first | refine p7 _ ?_; clear p7 K1 | ((first | refine hA ?_ | refine hB ?_); clear hA hB A B) | (((first | (refine ⟨fun hg => hA ?_, fun hg => hB ?_⟩ <;> clear hA hB A B) | refine ⟨fun hg => ?_, fun hg => ?_⟩) <;> (try simp only [BN2] at hg) <;> (try simp only [hg, cndB])) <;> (try (refine p7 _ ?_; clear p7 K1)) <;> (try simp only [BN3] at hg))) | refine b6 fun K hK => ?_ | ((first | apply c8 | apply b8 | apply a9 | refine d5 ?_ | apply b7 | apply c9 | apply d4 | apply d7); try simp only [NB, simprocAttr]))
      all_goals simp only [S1, simprocAttr, ENB, bW, hln, ht2, hse, List.length_map, TSz, h9, F1, z9]
    · have h1' : decide (v - 1 < 0) = false := decide_eq_false h1
      rw [if_neg h1] at hrun
      repeat' (first | ((repeat ((fail_if_success (refine hK _ ?_)); clear hK K)); refine hK _ ?_; clear hK K) | ((first | refine d8 fun K1 p7 => ?_ | refine d6 fun K1 p7 => ?_ | refine b5 fun A B hA hB => ?_); simp only [S1, simprocAttr, bW, C2 hf, I3 hlt, D9 (by have := hfr.1; omega) hlt, f0, f40, hdr, hse, hw, h1', hdr2, hln, hs2, ht2, hk49, TSz, i8, i7, j3, hem, hTlen, e9, g9, h9, LNB]; first | refine p7 _ ?_; clear p7 K1 | ((first | refine hA ?_ | refine hB ?_); clear hA hB A B) | (((first | (refine ⟨fun hg => hA ?_, fun hg => hB ?_⟩ <;> clear hA hB A B) | refine ⟨fun hg => ?_, fun hg => ?_⟩) <;> (try simp only [BN2] at hg) <;> (try simp only [hg, cndB])) <;> (try (refine p7 _ ?_; clear p7 K1)) <;> (try simp only [BN3] at hg))) | refine b6 fun K hK => ?_ | ((first | apply c8 | apply b8 | apply a9 | refine d5 ?_ | apply b7 | apply c9 | apply d4 | apply d7); try simp only [NB, simprocAttr]))
      all_goals refine ⟨⟨i + 1, T.set k (v - 1)⟩, by simp only; omega, ⟨hlt, hT.set k40 (by omega) (by omega), hrun⟩, ?_⟩
      all_goals refine ⟨rfl, ⟨_, rfl⟩, ?_, j6 _ _, j6 _ _, trivial⟩
      all_goals simp only [S1, simprocAttr, KNB] <;> (try and_intros) <;> (try assumption) <;> (try trivial) <;> (try omega)
  · obtain rfl : i = fr.length := by omega
    rw [List.drop_length] at hrun
    have em : mvF S fr to = L2 to T := by unfold mvF; rw [hrun]; rfl
    rw [em]
    repeat' (first | ((repeat ((fail_if_success (refine hK _ ?_)); clear hK K)); refine hK _ ?_; clear hK K) | ((first | refine d8 fun K1 p7 => ?_ | refine d6 fun K1 p7 => ?_ | refine b5 fun A B hA hB => ?_); simp only [S1, simprocAttr, bW, D6]; first | refine p7 _ ?_; clear p7 K1 | ((first | refine hA ?_ | refine hB ?_); clear hA hB A B) | (((first | (refine ⟨fun hg => hA ?_, fun hg => hB ?_⟩ <;> clear hA hB A B) | refine ⟨fun hg => ?_, fun hg => ?_⟩) <;> (try simp only [BN2] at hg) <;> (try simp only [hg, cndB])) <;> (try (refine p7 _ ?_; clear p7 K1)) <;> (try simp only [BN3] at hg))) | refine b6 fun K hK => ?_ | ((first | apply c8 | apply b8 | apply a9 | refine d5 ?_ | apply b7 | apply c9 | apply d4 | apply d7); try simp only [NB, simprocAttr]))
    refine N6 (σ := Qt) (fun q => to.length - q.i) 58 (fun q => [(39, .i q.i), (38, .i to.length), (37, aI to), (8, .ptr (H.length + 1) 0 0), (6, .ptr H.length 0 0)]) (fun q => [some ⟨0, zS.map AV.i⟩, some ⟨0, q.T.map AV.i⟩])
      (fun q => q.i ≤ to.length ∧ cU q.T ∧ L2 to T = L2 (to.drop q.i) q.T) ⟨0, T⟩ ?_ ⟨Nat.zero_le _, hT, rfl⟩ fun q hq K hK => ?_
    · refine ⟨rfl, ⟨[], by simp only [List.append_nil]⟩, ?_, j6 _ _, j6 _ _, trivial⟩
      simp only [S1, simprocAttr, KNB] <;> (try and_intros) <;> (try assumption) <;> (try trivial) <;> (try omega)
    obtain ⟨j, U⟩ := q
    obtain ⟨hj, hU, hrun2⟩ := hq
    simp only at hj hU hrun2
    have hUlen := hU.1
    rcases Nat.lt_or_ge j to.length with hlt | hge
    · obtain ⟨f, hf⟩ : ∃ f, to[j]? = some f := ⟨_, List.getElem?_eq_getElem hlt⟩
      obtain ⟨f0, f40⟩ := hto.2 f (List.mem_of_getElem? hf)
      obtain ⟨k, rfl⟩ := Int.eq_ofNat_of_zero_le f0
      have k40 : k < 40 := by omega
      obtain ⟨hv, v0, v3⟩ := hU.at k40
      rw [oe hf] at hrun2
      have hdr := J1 hv
      have hse := fun v => F0 U k v
      have hln : ∀ v, (U.set k v).length = 49 := fun v => by rw [List.length_set, hUlen]
      have hk49 : k + 1 ≤ 49 := by omega
      generalize hvv : tk U (k : Int) = v at *
      have hw : IntKind.i64.wrap (v + 1) = v + 1 := IntWalk.i64_in _ (by omega)
      have hv2 : (U.set k (v + 1))[k]? = some (v + 1) := by rw [List.getElem?_set]; simp; omega
      have hdr2 := J1 hv2
      have hs2 := hto' _ (hln (v + 1))
      have ht2 := hTl _ (hln (v + 1))
      rw [Int.toNat_natCast] at hrun2
      by_cases h1 : 3 < v + 1
      · have h1' : decide (3 < v + 1) = true := decide_eq_true h1
        rw [if_pos h1] at hrun2
        repeat' (first | ((repeat ((fail_if_success (refine hK _ ?_)); clear hK K)); refine hK _ ?_; clear hK K) | ((first | refine d8 fun K1 p7 => ?_ | refine d6 fun K1 p7 => ?_ | refine b5 fun A B hA hB => ?_); simp only [S1, simprocAttr, bW, C2 hf, I3 hlt, D9 (by have := hto.1; omega) hlt, f0, f40, hdr, hse, hw, h1', hdr2, hln, hs2, ht2, hk49, TSz, i8, i7, j3, hem, hUlen, e9, g9, h9, LNB]; first | refine p7 _ ?_; clear p7 K1 | ((first | refine hA ?_ | refine hB ?_); clear hA hB A B) | (((first | (refine ⟨fun hg => hA ?_, fun hg => hB ?_⟩ <;> clear hA hB A B) | refine ⟨fun hg => ?_, fun hg => ?_⟩) <;> (try simp only [BN2] at hg) <;> (try simp only [hg, cndB])) <;> (try (refine p7 _ ?_; clear p7 K1)) <;> (try simp only [BN3] at hg))) | refine b6 fun K hK => ?_ | ((first | apply c8 | apply b8 | apply a9 | refine d5 ?_ | apply b7 | apply c9 | apply d4 | apply d7); try simp only [NB, simprocAttr]))
        all_goals simp only [S1, simprocAttr, ENB, bW, hln, ht2, hse, List.length_map, TSz, h9, F1, z9]
        all_goals simp only [em, hrun2]
      · have h1' : decide (3 < v + 1) = false := decide_eq_false h1
        rw [if_neg h1] at hrun2
        repeat' (first | ((repeat ((fail_if_success (refine hK _ ?_)); clear hK K)); refine hK _ ?_; clear hK K) | ((first | refine d8 fun K1 p7 => ?_ | refine d6 fun K1 p7 => ?_ | refine b5 fun A B hA hB => ?_); simp only [S1, simprocAttr, bW, C2 hf, I3 hlt, D9 (by have := hto.1; omega) hlt, f0, f40, hdr, hse, hw, h1', hdr2, hln, hs2, ht2, hk49, TSz, i8, i7, j3, hem, hUlen, e9, g9, h9, LNB]; first | refine p7 _ ?_; clear p7 K1 | ((first | refine hA ?_ | refine hB ?_); clear hA hB A B) | (((first | (refine ⟨fun hg => hA ?_, fun hg => hB ?_⟩ <;> clear hA hB A B) | refine ⟨fun hg => ?_, fun hg => ?_⟩) <;> (try simp only [BN2] at hg) <;> (try simp only [hg, cndB])) <;> (try (refine p7 _ ?_; clear p7 K1)) <;> (try simp only [BN3] at hg))) | refine b6 fun K hK => ?_ | ((first | apply c8 | apply b8 | apply a9 | refine d5 ?_ | apply b7 | apply c9 | apply d4 | apply d7); try simp only [NB, simprocAttr]))
        all_goals refine ⟨⟨j + 1, U.set k (v + 1)⟩, by simp only; omega, ⟨hlt, hU.set k40 (by omega) (by omega), hrun2⟩, ?_⟩
        all_goals refine ⟨rfl, ⟨_, rfl⟩, ?_, j6 _ _, j6 _ _, trivial⟩
        all_goals simp only [S1, simprocAttr, KNB] <;> (try and_intros) <;> (try assumption) <;> (try trivial) <;> (try omega)
    · obtain rfl : j = to.length := by omega
      rw [List.drop_length] at hrun2
      have ht2 := hTl _ hUlen
      have hs2 := hto' _ hUlen
      repeat' (first | ((repeat ((fail_if_success (refine hK _ ?_)); clear hK K)); refine hK _ ?_; clear hK K) | ((first | refine d8 fun K1 p7 => ?_ | refine d6 fun K1 p7 => ?_ | refine b5 fun A B hA hB => ?_); simp only [S1, simprocAttr, bW, D6, hs2, ht2, TSz, i8, i7, j3, hem, hUlen, e9, g9, h9, LNB]; first | refine p7 _ ?_; clear p7 K1 | ((first | refine hA ?_ | refine hB ?_); clear hA hB A B) | (((first | (refine ⟨fun hg => hA ?_, fun hg => hB ?_⟩ <;> clear hA hB A B) | refine ⟨fun hg => ?_, fun hg => ?_⟩) <;> (try simp only [BN2] at hg) <;> (try simp only [hg, cndB])) <;> (try (refine p7 _ ?_; clear p7 K1)) <;> (try simp only [BN3] at hg))) | refine b6 fun K hK => ?_ | ((first | apply c8 | apply b8 | apply a9 | refine d5 ?_ | apply b7 | apply c9 | apply d4 | apply d7); try simp only [NB, simprocAttr]))
      all_goals simp only [S1, simprocAttr, ENB, bW, ht2, hUlen, List.length_map, TSz, h9, F1, z9]
      all_goals simp only [em, hrun2, L2]
end
section
def ph := And.intro T2 (And.intro T3 (And.intro T4 (And.intro T25 (And.intro T26 (And.intro T27 (And.intro T46 (And.intro T53 (And.intro T79 (And.intro T80 (And.intro T83 (And.intro fq (And.intro fu gp))))))))))))
attribute [local irreducible] awp q9 m7 n7 r5 q8
variable {G : Nat → Option (List PV)}
theorem bG : ∀ (l S : List Int), (H4 l S).1.length = S.length
  | [], S => rfl
  | f :: r, S => by
    unfold H4
    split
    · simp
    · rw [bG r]; simp
theorem dZ : ∀ (l S : List Int), (L2 l S).1.length = S.length
  | [], S => rfl
  | f :: r, S => by
    unfold L2
    split
    · simp
    · rw [dZ r]; simp
theorem pj (S fr to : List Int) : (mvF S fr to).1.length = S.length := by
  unfold mvF
  split
  · rw [dZ, bG]
  · rw [bG]
theorem jB {S X : List Int} (hS : S.length = 49) {k : Nat} (hk : k < 40) (v : Int) : (z8 S X).set k v = z8 (S.set k v) X := by
  unfold z8
  rw [List.set_append_left _ _ (by rw [List.length_take]; omega), List.take_set]
theorem eb {S X : List Int} (hS : S.length = 49) {k : Nat} (hk : k < 40) : tk (z8 S X) k = tk S k := by
  unfold tk z8
  rw [Int.toNat_natCast, List.getD_eq_getElem?_getD, List.getElem?_append_left (by rw [List.length_take]; omega), List.getElem?_take_of_lt (by omega), ← List.getD_eq_getElem?_getD]
theorem ed (step : List Int → Int → Option (List Int)) (f : Int) (r S : List Int) : P6 step (f :: r) S = (step S f).bind (P6 step r) := by
  unfold P6; rw [List.foldlM_cons]; rfl
theorem jC {X : List Int} : ∀ {l S : List Int}, S.length = 49 → InF l → P6 Q2 l (z8 S X) = if (H4 l S).2 = true then some (z8 (H4 l S).1 X) else none
  | [], S, _, _ => rfl
  | f :: r, S, hS, h => by
    obtain ⟨f0, f40⟩ := h.2 f (by simp)
    obtain ⟨k, rfl⟩ := Int.eq_ofNat_of_zero_le f0
    have k40 : k < 40 := by omega
    have ih := jC (X := X) (l := r) (S := S.set k (tk S k - 1)) (by rw [List.length_set, hS]) ⟨by have := h.1; simp at this; omega, fun g hg => h.2 g (by simp [hg])⟩
    have e : Q2 (z8 S X) (k : Int) = if tk S k < 1 then none else some (z8 (S.set k (tk S k - 1)) X) := by
      unfold Q2; rw [eb hS k40, Int.toNat_natCast, jB hS k40]
    rw [ed, e]
    by_cases h1 : tk S k < 1
    · have e2 : H4 ((k : Int) :: r) S = (S.set k (tk S k - 1), false) := by
        unfold H4; rw [if_pos (by omega), Int.toNat_natCast]
      rw [if_pos h1, e2]; rfl
    · have e2 : H4 ((k : Int) :: r) S = H4 r (S.set k (tk S k - 1)) := by
        conv => lhs; unfold H4
        rw [if_neg (by omega), Int.toNat_natCast]
      rw [if_neg h1, e2]; exact ih
theorem jD {X : List Int} : ∀ {l S : List Int}, S.length = 49 → InF l → P6 U3 l (z8 S X) = if (L2 l S).2 = true then some (z8 (L2 l S).1 X) else none
  | [], S, _, _ => rfl
  | f :: r, S, hS, h => by
    obtain ⟨f0, f40⟩ := h.2 f (by simp)
    obtain ⟨k, rfl⟩ := Int.eq_ofNat_of_zero_le f0
    have k40 : k < 40 := by omega
    have ih := jD (X := X) (l := r) (S := S.set k (tk S k + 1)) (by rw [List.length_set, hS]) ⟨by have := h.1; simp at this; omega, fun g hg => h.2 g (by simp [hg])⟩
    have e : U3 (z8 S X) (k : Int) = if 2 < tk S k then none else some (z8 (S.set k (tk S k + 1)) X) := by
      unfold U3; rw [eb hS k40, Int.toNat_natCast, jB hS k40]
    rw [ed, e]
    by_cases h1 : 2 < tk S k
    · have e2 : L2 ((k : Int) :: r) S = (S.set k (tk S k + 1), false) := by
        unfold L2; rw [if_pos (by omega), Int.toNat_natCast]
      rw [if_pos h1, e2]; rfl
    · have e2 : L2 ((k : Int) :: r) S = L2 r (S.set k (tk S k + 1)) := by
        conv => lhs; unfold L2
        rw [if_neg (by omega), Int.toNat_natCast]
      rw [if_neg h1, e2]; exact ih
def stF (S : List Int) (m : Sp) (chg : List Int → List Int) (fr to : List Int) : List Sp := if (mvF S fr to).2 = true then [{ m with to := chg (mvF S fr to).1 }] else []
def Chg (S : List Int) (chg : List Int → List Int) (X : List Int) : Prop := X.length = 49 ∧ ∀ T : List Int, T.length = 49 → T.drop 40 = S.drop 40 → chg T = z8 T X
theorem ak {S : List Int} {k : Nat} (hk : k < 40) (v : Int) : (S.set k v).drop 40 = S.drop 40 := List.drop_set_of_lt hk
theorem al : ∀ {l S : List Int}, InF l → (H4 l S).1.drop 40 = S.drop 40
  | [], S, _ => rfl
  | f :: r, S, h => by
    obtain ⟨f0, f40⟩ := h.2 f (by simp)
    have k40 : f.toNat < 40 := by omega
    unfold H4
    split
    · exact ak k40 _
    · rw [al (l := r) ⟨by have := h.1; simp at this; omega, fun g hg => h.2 g (by simp [hg])⟩]; exact ak k40 _
theorem cu : ∀ {l S : List Int}, InF l → (L2 l S).1.drop 40 = S.drop 40
  | [], S, _ => rfl
  | f :: r, S, h => by
    obtain ⟨f0, f40⟩ := h.2 f (by simp)
    have k40 : f.toNat < 40 := by omega
    unfold L2
    split
    · exact ak k40 _
    · rw [cu (l := r) ⟨by have := h.1; simp at this; omega, fun g hg => h.2 g (by simp [hg])⟩]; exact ak k40 _
theorem F4 {S X : List Int} (hS : S.length = 49) {m : Sp} {chg : List Int → List Int} (hc : Chg S chg X) {fr to : List Int} (hf : InF fr) (ht : InF to) : stF S m chg fr to = p9 S { m with to := X } fr to := by
  unfold stF p9
  simp only
  rw [jC hS hf]
  have l1 : (H4 fr S).1.length = 49 := by rw [bG, hS]
  have d1 := al (S := S) hf
  unfold mvF
  cases h1 : (H4 fr S).2 with
  | false => simp [h1]
  | true =>
    have d2 := cu (S := (H4 fr S).1) ht
    simp only [if_true]
    rw [jD l1 ht]
    cases h2 : (L2 to (H4 fr S).1).2 with
    | false => simp
    | true =>
      simp only [if_true]
      rw [hc.2 _ (by rw [dZ, l1]) (by rw [d2, d1])]
theorem og {T X : List Int} (h : T.drop 40 = X.drop 40) : z8 T X = T := by unfold z8; rw [← h, List.take_append_drop]
theorem Chg.id {S : List Int} (hS : S.length = 49) : Chg S (fun T => T) S := ⟨hS, fun T _ hd => (og hd).symm⟩
theorem Chg.set {S : List Int} (hS : S.length = 49) {k : Nat} (hk : 40 ≤ k) (v : Int) : Chg S (fun T => T.set k v) (S.set k v) := by
  refine ⟨by rw [List.length_set, hS], fun T hT hd => ?_⟩
  unfold z8
  simp only
  rw [List.drop_set, if_neg (by omega), ← hd]
  conv => lhs; rw [← List.take_append_drop 40 T]
  rw [List.set_append_right _ _ (by rw [List.length_take]; omega), List.length_take, Nat.min_eq_left (by omega)]
abbrev aMv (m : Sp) : AV := .agg [.i m.node, .i m.arg, .i m.lk, .i m.ln, .i m.la]
theorem dj {h : Heap} {b lb : Nat} {ns : List Nd} {fl : List Fl} {S : List Int} {l : List Sp} (ok : GmOk h b lb S l) (m : Sp) (fr to : List Int) (hfr : InF fr) (hto : InF to) :
    f9 Tryz.prog G 41 [.ptr b 0 0, aMv m, aI fr, aI to, .p .nilf] (m3 h b lb ns fl S l) (fun r h' => r = .undef ∧ h' = m3 h b lb ns fl S (l ++ stF S m (fun T => T) fr to)) := by
  have hb := ok.hb
  have hl := ok.hl
  have hne := ok.ne
  have hS := ok.held.1
  have hmax : l.length + 1 ≤ o9 := by have := ok.few; unfold o9; omega
  have gl := v4 (ns := ns) (fl := fl) (lb := lb) (n := l.length) hS
  have hmv := fun L => fh (G := G) (H := m3 h b lb ns fl S l ++ L) (n6 hb hne L) ok.held fr to hfr hto
  have hT : (mvF S fr to).1.length = 49 := by rw [pj, hS]
  have hzl : (zS.map AV.i).length = 49 := by rw [List.length_map]; rfl
  have hem : (zS.map AV.i).isEmpty = false := rfl
  have hsF : stF S m (fun T => T) fr to = if (mvF S fr to).2 = true then [{ m with to := (mvF S fr to).1 }] else [] := rfl
  generalize (mvF S fr to).1 = T at *
  have hso : w9 (zS.map AV.i) 0 (T.map AV.i) = T.map AV.i := n9 (n := 49) (by rw [List.length_map, hT]) _ hzl
  have hTt : ((T.map AV.i).take 49 = T.map AV.i) := List.take_of_length_le (by rw [List.length_map, hT]; exact Nat.le_refl _)
  have htl := F6 hT
  have hx : ({ m with to := T } : Sp).to.length = 49 := hT
  have hln : (cSp { m with to := T }).length = 54 := G4 hx
  have heq : (AV.p (.int .i64 m.node) :: .p (.int .i64 m.arg) :: .p (.int .i64 m.lk) :: .p (.int .i64 m.ln) :: .p (.int .i64 m.la) :: T.map AV.i) = (cSp { m with to := T }).map AV.i := rfl
  have hov2 := n9 (cs := (cSp { m with to := T }).map AV.i) (n := 54) (by rw [List.length_map, hln])
  have hpv := dP (cSp { m with to := T })
  have hti : ((cSp { m with to := T }).map (PV.int .i64)).take 54 = (cSp { m with to := T }).map (PV.int .i64) := List.take_of_length_le (by rw [List.length_map, hln]; exact Nat.le_refl _)
  have hmm := z9 (cSp { m with to := T })
  have hsl := X6 ok.len
  have hrf := Z9 (ns := ns) (fl := fl) (lb := lb) (n := l.length) hS
  have hgs := cT (ns := ns) (fl := fl) (lb := lb) (n := l.length) (m := l.length + 1) hS
  have hgb := mb (ns := ns) (fl := fl) (S := S) (l := l) hb hne
  have hfn : ∀ L : Heap, ((m3 h b lb ns fl S l ++ L).set lb (some ⟨l.length + 1, dO l ++ (cSp { m with to := T }).map AV.i⟩)).set b (some ⟨0, gmC ns fl S lb (l.length + 1)⟩) = m3 h b lb ns fl S (l ++ [{ m with to := T }]) ++ L := fun L => by
    have := gP (ns := ns) (fl := fl) (S := S) (l := l) (l' := l ++ [{ m with to := T }]) hb hl hne L
    simpa only [spB, gmB, List.length_append, List.length_cons, List.length_nil, Nat.zero_add, bh] using this
  rw [hsF]
  cases hq : (mvF S fr to).2 with
  | false =>
    simp only [hq, if_false, List.append_nil, Bool.false_eq_true] at hmv ⊢
    refine j8 (rl := []) i6 Tryz.func41 rfl (rs := []) rfl Tryz.ntmps41 (by simp) ?_
    repeat' (first | ((repeat ((fail_if_success (refine hK _ ?_)); clear hK K)); refine hK _ ?_; clear hK K) | ((first | refine d8 fun K1 p7 => ?_ | refine d6 fun K1 p7 => ?_ | refine b5 fun A B hA hB => ?_); simp only [S1, simprocAttr, ph, TSz, i8, i7, j3, hem, hso, hT, hTt, htl, e9, n6 hb hne, k9 hl, l6 hb hne, j9 hl, g9, h9, List.length_map, List.length_take, List.length_drop, j7, u0, s4, x9, t6, Nat.mul_one]; first | refine p7 _ ?_; clear p7 K1 | ((first | refine hA ?_ | refine hB ?_); clear hA hB A B) | ((first | apply b9 E72 | apply c7 E72); exact (hmv _); refine p7 _ ?_; clear p7 K1) | (((first | (refine ⟨fun hg => hA ?_, fun hg => hB ?_⟩ <;> clear hA hB A B) | refine ⟨fun hg => ?_, fun hg => ?_⟩) <;> (try simp only [BN2] at hg) <;> (try simp only [hg, cndB])) <;> (try (refine p7 _ ?_; clear p7 K1)) <;> (try simp only [BN3] at hg))) | refine b6 fun K hK => ?_ | ((first | apply c8 | apply b8 | apply a9 | refine d5 ?_ | apply b7 | apply c9 | apply d4 | apply d7); try simp only [NB, simprocAttr]))
    all_goals simp only [S1, simprocAttr, ENB, y8, y1, j7, m8, l8] <;> first | exact i5 hl | exact ⟨i5 hl, rfl⟩ | exact ⟨i5 hl, rfl, rfl⟩
  | true =>
    simp only [hq, if_true] at hmv ⊢
    refine j8 (rl := []) i6 Tryz.func41 rfl (rs := []) rfl Tryz.ntmps41 (by simp) ?_
    repeat' (first | ((first | refine c8 ?_ | refine b8 ?_ | refine o5 ?_ | refine m9 ?_); (try simp only [NB])) | ((repeat ((fail_if_success (refine hK _ ?_)); clear hK K)); refine hK _ ?_; clear hK K) | ((first | refine d8 fun K1 p7 => ?_ | refine d6 fun K1 p7 => ?_ | refine o6 rfl rfl rfl fun K1 p7 => ?_ | refine b5 fun A B hA hB => ?_); simp only [S1, simprocAttr, ph, TSz, i8, i7, j3, hem, hso, hT, hTt, htl, heq, hln, hov2, hpv, hti, hmm, hsl, hrf, hgs, hgb, hfn, hmax, e9, n6 hb hne, k9 hl, l6 hb hne, j9 hl, gmB, spB, gl, g9, h9, List.length_map, List.length_take, List.length_drop, j7, u0, s4, x9, t6, Nat.mul_one]; first | (refine p7 _ ?_; clear p7 K1) | ((first | refine hA ?_ | refine hB ?_); clear hA hB A B) | ((first | apply b9 E72 | apply c7 E72); exact (hmv _); (refine p7 _ ?_; clear p7 K1)) | (((first | (refine ⟨fun hg => hA ?_, fun hg => hB ?_⟩ <;> clear hA hB A B) | refine ⟨fun hg => ?_, fun hg => ?_⟩) <;> (try simp only [BN2] at hg) <;> (try simp only [hg, cndB])) <;> (try (refine p7 _ ?_; clear p7 K1)) <;> (try simp only [BN3] at hg))) | ((first | refine t9 (v := ?_) rfl rfl rfl rfl (by decide) (fun R1 K1 p7 => ?_) ?_ | refine t8 (v := ?_) rfl rfl rfl (by decide) (fun K1 p7 => ?_) ?_ | refine r8 (v := ?_) rfl rfl rfl (by decide) (fun K1 p7 => ?_) ?_); rotate_left; (focus (simp only [S1, simprocAttr, ph, TSz, i8, i7, j3, hem, hso, hT, hTt, htl, heq, hln, hov2, hpv, hti, hmm, hsl, hrf, hgs, hgb, hfn, hmax, e9, n6 hb hne, k9 hl, l6 hb hne, j9 hl, gmB, spB, gl, g9, h9, List.length_map, List.length_take, List.length_drop, j7, u0, s4, x9, t6, Nat.mul_one]; first | (exact p7 _ _ _) | ((first | apply b9 E72 | apply c7 E72); exact (hmv _); exact p7 _ _ _)))) | (refine n5 rfl rfl rfl ?_) | ((first | refine i3 (z := ?_) 0 rfl rfl rfl rfl (by decide) rfl ?_ ?_ | refine i3 (z := ?_) 1 rfl rfl rfl rfl (by decide) rfl ?_ ?_ | refine i3 (z := ?_) 2 rfl rfl rfl rfl (by decide) rfl ?_ ?_); rotate_left; (focus (simp only [S1, simprocAttr, ph, TSz, i8, i7, j3, hem, hso, hT, hTt, htl, heq, hln, hov2, hpv, hti, hmm, hsl, hrf, hgs, hgb, hfn, hmax, e9, n6 hb hne, k9 hl, l6 hb hne, j9 hl, gmB, spB, gl, g9, h9, List.length_map, List.length_take, List.length_drop, j7, u0, s4, x9, t6, Nat.mul_one, u9]; rfl))) | (refine b6 fun K hK => ?_) | (refine p6 [0, 1, 2, 3, 4, 5, 6, 7, 8, 9, 10, 11, 12] 0 (fs := []) rfl (by kernel_rfl) (by kernel_rfl) ?_) | ((first | refine a9 ?_ | refine j4 (by kernel_rfl) ?_ | refine b7 ?_ | refine c9 ?_ | refine d4 ?_ | refine d7 ?_); try simp only [NB, simprocAttr]))
    all_goals simp only [S1, simprocAttr, ENB, y8, y1, j7, m8, l8] <;> first | exact i5 hl | exact ⟨i5 hl, rfl⟩ | exact ⟨i5 hl, rfl, rfl⟩
end
section
def pk := And.intro T2 (And.intro T3 (And.intro T4 (And.intro T25 (And.intro T26 (And.intro T27 (And.intro T46 (And.intro T53 (And.intro T70 (And.intro T79 (And.intro T80 (And.intro T83 (And.intro fq (And.intro fu (And.intro jZ gp))))))))))))))
attribute [local irreducible] awp q9 m7 n7 r5 q8
variable {G : Nat → Option (List PV)}
theorem tr {h : Heap} {b lb : Nat} {ns : List Nd} {fl : List Fl} {S : List Int} {l : List Sp} (ok : GmOk h b lb S l) (m : Sp) (fr to : List Int) (hfr : InF fr) (hto : InF to) {f : FuncId} (hE : j5 Tryz.prog f) {caps : List AV} (hcap : q6 h.length caps) {chg : List Int → List Int} (hlen : ∀ T : List Int, T.length = 49 → (chg T).length = 49)
    (hC : ∀ (A : Option Blk) (T : List Int), T.length = 49 → T.drop 40 = S.drop 40 → f9 Tryz.prog G f (.ptr (h.length + 1) 0 0 :: caps) (m3 h b lb ns fl S l ++ [A, some ⟨0, T.map AV.i⟩]) (fun r h' => r = .undef ∧ h' = m3 h b lb ns fl S l ++ [A, some ⟨0, (chg T).map AV.i⟩])) :
    f9 Tryz.prog G 41 [.ptr b 0 0, aMv m, aI fr, aI to, .fn f caps] (m3 h b lb ns fl S l) (fun r h' => r = .undef ∧ h' = m3 h b lb ns fl S (l ++ stF S m chg fr to)) := by
  have hb := ok.hb
  have hl := ok.hl
  have hne := ok.ne
  have hS := ok.held.1
  have hmax : l.length + 1 ≤ o9 := by have := ok.few; unfold o9; omega
  have gl := v4 (ns := ns) (fl := fl) (lb := lb) (n := l.length) hS
  have hmv := fun L => fh (G := G) (H := m3 h b lb ns fl S l ++ L) (n6 hb hne L) ok.held fr to hfr hto
  have hT : (mvF S fr to).1.length = 49 := by rw [pj, hS]
  have hzl : (zS.map AV.i).length = 49 := by rw [List.length_map]; rfl
  have hem : (zS.map AV.i).isEmpty = false := rfl
  have hsF : stF S m chg fr to = if (mvF S fr to).2 = true then [{ m with to := chg (mvF S fr to).1 }] else [] := rfl
  have hdp : (mvF S fr to).1.drop 40 = S.drop 40 := by
    unfold mvF
    split
    · rw [cu hto, al hfr]
    · exact al hfr
  generalize (mvF S fr to).1 = T at *
  have hCT := fun A => hC A T hT hdp
  have hT0 := hT
  have hso0 : w9 (zS.map AV.i) 0 (T.map AV.i) = T.map AV.i := n9 (n := 49) (by rw [List.length_map, hT]) _ hzl
  have hTt0 : ((T.map AV.i).take 49 = T.map AV.i) := List.take_of_length_le (by rw [List.length_map, hT]; exact Nat.le_refl _)
  have hU := hlen T hT
  generalize chg T = U at *
  have hTt : ((U.map AV.i).take 49 = U.map AV.i) := List.take_of_length_le (by rw [List.length_map, hU]; exact Nat.le_refl _)
  have htl := F6 hU
  have hx : ({ m with to := U } : Sp).to.length = 49 := hU
  have hln : (cSp { m with to := U }).length = 54 := G4 hx
  have heq : (AV.p (.int .i64 m.node) :: .p (.int .i64 m.arg) :: .p (.int .i64 m.lk) :: .p (.int .i64 m.ln) :: .p (.int .i64 m.la) :: U.map AV.i) = (cSp { m with to := U }).map AV.i := rfl
  have hov2 := n9 (cs := (cSp { m with to := U }).map AV.i) (n := 54) (by rw [List.length_map, hln])
  have hpv := dP (cSp { m with to := U })
  have hti : ((cSp { m with to := U }).map (PV.int .i64)).take 54 = (cSp { m with to := U }).map (PV.int .i64) := List.take_of_length_le (by rw [List.length_map, hln]; exact Nat.le_refl _)
  have hmm := z9 (cSp { m with to := U })
  have hsl := X6 ok.len
  have hrf := Z9 (ns := ns) (fl := fl) (lb := lb) (n := l.length) hS
  have hgs := cT (ns := ns) (fl := fl) (lb := lb) (n := l.length) (m := l.length + 1) hS
  have hgb := mb (ns := ns) (fl := fl) (S := S) (l := l) hb hne
  have hfn : ∀ L : Heap, ((m3 h b lb ns fl S l ++ L).set lb (some ⟨l.length + 1, dO l ++ (cSp { m with to := U }).map AV.i⟩)).set b (some ⟨0, gmC ns fl S lb (l.length + 1)⟩) = m3 h b lb ns fl S (l ++ [{ m with to := U }]) ++ L := fun L => by
    have := gP (ns := ns) (fl := fl) (S := S) (l := l) (l' := l ++ [{ m with to := U }]) hb hl hne L
    simpa only [spB, gmB, List.length_append, List.length_cons, List.length_nil, Nat.zero_add, bh] using this
  rw [hsF]
  cases hq : (mvF S fr to).2 with
  | false =>
    simp only [hq, if_false, List.append_nil, Bool.false_eq_true] at hmv ⊢
    refine j8 (rl := []) i6 Tryz.func41 rfl (rs := []) rfl Tryz.ntmps41 (by simp) ?_
    repeat' (first | ((repeat ((fail_if_success (refine hK _ ?_)); clear hK K)); refine hK _ ?_; clear hK K) | ((first | refine d8 fun K1 p7 => ?_ | refine d6 fun K1 p7 => ?_ | refine b5 fun A B hA hB => ?_); simp only [S1, simprocAttr, pk, TSz, i8, i7, j3, hem, hso0, hT0, hTt0, hU, hTt, htl, e9, n6 hb hne, k9 hl, l6 hb hne, j9 hl, g9, h9, List.length_map, List.length_take, List.length_drop, j7, u0, s4, x9, t6, Nat.mul_one]; first | refine p7 _ ?_; clear p7 K1 | ((first | refine hA ?_ | refine hB ?_); clear hA hB A B) | ((first | apply b9 E72 | apply c7 E72); exact (hmv _); refine p7 _ ?_; clear p7 K1) | ((first | apply b9 hE | apply c7 hE); exact (hCT _); refine p7 _ ?_; clear p7 K1) | (((first | (refine ⟨fun hg => hA ?_, fun hg => hB ?_⟩ <;> clear hA hB A B) | refine ⟨fun hg => ?_, fun hg => ?_⟩) <;> (try simp only [BN2] at hg) <;> (try simp only [hg, cndB])) <;> (try (refine p7 _ ?_; clear p7 K1)) <;> (try simp only [BN3] at hg))) | refine b6 fun K hK => ?_ | ((first | apply c8 | apply b8 | apply a9 | refine d5 ?_ | apply b7 | apply c9 | apply d4 | apply d7); try simp only [NB, simprocAttr]))
    all_goals simp only [S1, simprocAttr, ENB, y8, y1, j7, m8, l8] <;> first | exact i5 hl | exact ⟨i5 hl, rfl⟩ | exact ⟨i5 hl, rfl, rfl⟩
  | true =>
    simp only [hq, if_true] at hmv ⊢
    refine j8 (rl := []) i6 Tryz.func41 rfl (rs := []) rfl Tryz.ntmps41 (by simp) ?_
    repeat' (first | ((first | refine c8 ?_ | refine b8 ?_ | refine o5 ?_ | refine m9 ?_); (try simp only [NB])) | ((repeat ((fail_if_success (refine hK _ ?_)); clear hK K)); refine hK _ ?_; clear hK K) | ((first | refine d8 fun K1 p7 => ?_ | refine d6 fun K1 p7 => ?_ | refine o6 rfl rfl rfl fun K1 p7 => ?_ | refine b5 fun A B hA hB => ?_); simp only [S1, simprocAttr, pk, TSz, i8, i7, j3, hem, hso0, hT0, hTt0, hU, hTt, htl, heq, hln, hov2, hpv, hti, hmm, hsl, hrf, hgs, hgb, hfn, hmax, e9, n6 hb hne, k9 hl, l6 hb hne, j9 hl, gmB, spB, gl, g9, h9, List.length_map, List.length_take, List.length_drop, j7, u0, s4, x9, t6, Nat.mul_one]; first | (refine p7 _ ?_; clear p7 K1) | ((first | refine hA ?_ | refine hB ?_); clear hA hB A B) | ((first | apply b9 E72 | apply c7 E72); exact (hmv _); (refine p7 _ ?_; clear p7 K1)) | ((first | apply b9 hE | apply c7 hE); exact (hCT _); (refine p7 _ ?_; clear p7 K1)) | (((first | (refine ⟨fun hg => hA ?_, fun hg => hB ?_⟩ <;> clear hA hB A B) | refine ⟨fun hg => ?_, fun hg => ?_⟩) <;> (try simp only [BN2] at hg) <;> (try simp only [hg, cndB])) <;> (try (refine p7 _ ?_; clear p7 K1)) <;> (try simp only [BN3] at hg))) | ((first | refine t9 (v := ?_) rfl rfl rfl rfl (by decide) (fun R1 K1 p7 => ?_) ?_ | refine t8 (v := ?_) rfl rfl rfl (by decide) (fun K1 p7 => ?_) ?_ | refine r8 (v := ?_) rfl rfl rfl (by decide) (fun K1 p7 => ?_) ?_); rotate_left; (focus (simp only [S1, simprocAttr, pk, TSz, i8, i7, j3, hem, hso0, hT0, hTt0, hU, hTt, htl, heq, hln, hov2, hpv, hti, hmm, hsl, hrf, hgs, hgb, hfn, hmax, e9, n6 hb hne, k9 hl, l6 hb hne, j9 hl, gmB, spB, gl, g9, h9, List.length_map, List.length_take, List.length_drop, j7, u0, s4, x9, t6, Nat.mul_one]; first | (exact p7 _ _ _) | ((first | apply b9 E72 | apply c7 E72); exact (hmv _); exact p7 _ _ _) | ((first | apply b9 hE | apply c7 hE); exact (hCT _); exact p7 _ _ _)))) | (refine n5 rfl rfl rfl ?_) | ((first | refine i3 (z := ?_) 0 rfl rfl rfl rfl (by decide) rfl ?_ ?_ | refine i3 (z := ?_) 1 rfl rfl rfl rfl (by decide) rfl ?_ ?_ | refine i3 (z := ?_) 2 rfl rfl rfl rfl (by decide) rfl ?_ ?_); rotate_left; (focus (simp only [S1, simprocAttr, pk, TSz, i8, i7, j3, hem, hso0, hT0, hTt0, hU, hTt, htl, heq, hln, hov2, hpv, hti, hmm, hsl, hrf, hgs, hgb, hfn, hmax, e9, n6 hb hne, k9 hl, l6 hb hne, j9 hl, gmB, spB, gl, g9, h9, List.length_map, List.length_take, List.length_drop, j7, u0, s4, x9, t6, Nat.mul_one, u9]; rfl))) | (refine b6 fun K hK => ?_) | (refine p6 [0, 1, 2, 3, 4, 5, 6, 7, 8, 9, 10, 11, 12] 0 (fs := []) rfl (by kernel_rfl) (by kernel_rfl) ?_) | ((first | refine a9 ?_ | refine j4 (by kernel_rfl) ?_ | refine b7 ?_ | refine c9 ?_ | refine d4 ?_ | refine d7 ?_); try simp only [NB, simprocAttr]))
    all_goals simp only [S1, simprocAttr, ENB, y8, y1, j7, m8, l8] <;> first | exact i5 hl | exact ⟨i5 hl, rfl⟩ | exact ⟨i5 hl, rfl, rfl⟩
end
section
def N1 := And.intro T2 (And.intro T3 (And.intro T4 (And.intro T25 (And.intro T26 (And.intro T27 (And.intro T46 (And.intro T53 (And.intro T68 (And.intro T70 (And.intro T79 (And.intro T80 (And.intro fq (And.intro fu (And.intro jZ gp))))))))))))))
attribute [local irreducible] awp q9 m7 n7 r5 q8
variable {G : Nat → Option (List PV)}
theorem bo {H : Heap} {c g : Nat} {T U : List Int} : ∀ (b : Nat) (bk : Blk), (H.set c (some ⟨g, U.map AV.i⟩))[b]? = some (some bk) → H[b]? = some (some bk) ∨ ∀ x ∈ bk.cells, AVlt H.length x := by
  intro b bk hb
  rw [List.getElem?_set] at hb
  split at hb
  · split at hb
    · cases hb; exact .inr (M2 _ (j6 _ U))
    · cases hb
  · exact .inl hb
theorem bp (H : Heap) (c : Nat) (x : Option Blk) : (H.set c x).take H.length = H.set c x := List.take_of_length_le (by simp)
theorem dk (H : Heap) (c : Nat) (x : Option Blk) : (H.set c x).length = H.length := by simp
theorem uo {H : Heap} {c r x gc gr gx : Nat} {T : List Int} (hc : H[c]? = some (some ⟨gc, T.map AV.i⟩)) (hT : T.length = 49) {v : Int} (hr : H[r]? = some (some ⟨gr, [.i v]⟩)) {kd : Int} {a : Nat} (ha : a < 4) {rest : List AV} (hx : H[x]? = some (some ⟨gx, .i kd :: .i a :: rest⟩)) :
    f9 Tryz.prog G 63 [.ptr c gc 0, .ptr r gr 0, .ptr x gx 0] H (fun q h' => q = .undef ∧ h' = H.set c (some ⟨gc, (T.set (40 + a) v).map AV.i⟩)) := by
  have hcL := D5 hc
  have hrL := D5 hr
  have hxL := D5 hx
  have a0 : (0 : Int) ≤ (a : Int) := by omega
  have a4' : (a : Int) < 4 := by omega
  have h49 : 40 + a + 1 ≤ 49 := by omega
  have hse := fun v => F0 T (40 + a) v
  have hk := bo (H := H) (c := c) (g := gc) (T := T) (U := T.set (40 + a) v)
  have htk := bp H c
  have hsl := dk H c
  refine j8 (rl := []) i6 Tryz.func63 rfl (rs := []) rfl Tryz.ntmps63 (by simp) ?_
  repeat' (first | ((first | refine c8 ?_ | refine b8 ?_ | refine o5 ?_ | refine m9 ?_); (try simp only [NB])) | ((repeat ((fail_if_success (refine hK _ ?_)); clear hK K)); refine hK _ ?_; clear hK K) | ((first | refine d8 fun K1 p7 => ?_ | refine d6 fun K1 p7 => ?_ | refine o6 rfl rfl rfl fun K1 p7 => ?_ | refine b5 fun A B hA hB => ?_); simp only [S1, simprocAttr, N1, TSz, i8, hc, hr, hx, hcL, hrL, hxL, a0, a4', h49, hse, hT, htk, hsl, List.length_map, Nat.mul_one]; first | (refine p7 _ ?_; clear p7 K1) | ((first | refine hA ?_ | refine hB ?_); clear hA hB A B) | (((first | (refine ⟨fun hg => hA ?_, fun hg => hB ?_⟩ <;> clear hA hB A B) | refine ⟨fun hg => ?_, fun hg => ?_⟩) <;> (try simp only [BN2] at hg) <;> (try simp only [hg, cndB])) <;> (try (refine p7 _ ?_; clear p7 K1)) <;> (try simp only [BN3] at hg))) | ((first | refine t9 (v := ?_) rfl rfl rfl rfl (by decide) (fun R1 K1 p7 => ?_) ?_ | refine t8 (v := ?_) rfl rfl rfl (by decide) (fun K1 p7 => ?_) ?_ | refine r8 (v := ?_) rfl rfl rfl (by decide) (fun K1 p7 => ?_) ?_); rotate_left; (focus (simp only [S1, simprocAttr, N1, TSz, i8, hc, hr, hx, hcL, hrL, hxL, a0, a4', h49, hse, hT, htk, hsl, List.length_map, Nat.mul_one]; first | (exact p7 _ _ _)))) | (refine n5 rfl rfl rfl ?_) | ((first | refine i3 (z := ?_) 0 rfl rfl rfl rfl (by decide) rfl ?_ ?_ | refine i3 (z := ?_) 1 rfl rfl rfl rfl (by decide) rfl ?_ ?_ | refine i3 (z := ?_) 2 rfl rfl rfl rfl (by decide) rfl ?_ ?_); rotate_left; (focus (simp only [S1, simprocAttr, N1, TSz, i8, hc, hr, hx, hcL, hrL, hxL, a0, a4', h49, hse, hT, htk, hsl, List.length_map, Nat.mul_one, u9]; rfl))) | (refine b6 fun K hK => ?_) | (refine p6 [0, 1, 2, 3, 4, 5, 6, 7] 0 (fs := []) rfl (by kernel_rfl) (by kernel_rfl) ?_) | ((first | refine a9 ?_ | refine j4 (by kernel_rfl) ?_ | refine b7 ?_ | refine c9 ?_ | refine d4 ?_ | refine d7 ?_); try simp only [NB, simprocAttr]))
  all_goals simp only [y8, y1, Q6, S4, K6, F2, D8, D3, pur, I2, hsl, htk, List.length_append, List.length_cons, List.length_nil, S1, simprocAttr, N1, Nat.le_add_right, Nat.le_refl, List.append_nil]
  all_goals exact hk
theorem uq {H : Heap} {c r x gc gr gx : Nat} {T : List Int} (hc : H[c]? = some (some ⟨gc, T.map AV.i⟩)) (hT : T.length = 49) {v : Int} (hr : H[r]? = some (some ⟨gr, [.i v]⟩)) {kd : Int} {a : Nat} (ha : a < 4) {rest : List AV} (hx : H[x]? = some (some ⟨gx, .i kd :: .i a :: rest⟩)) :
    f9 Tryz.prog G 66 [.ptr c gc 0, .ptr r gr 0, .ptr x gx 0] H (fun q h' => q = .undef ∧ h' = H.set c (some ⟨gc, (T.set (40 + a) v).map AV.i⟩)) := by
  have hcL := D5 hc
  have hrL := D5 hr
  have hxL := D5 hx
  have a0 : (0 : Int) ≤ (a : Int) := by omega
  have a4' : (a : Int) < 4 := by omega
  have h49 : 40 + a + 1 ≤ 49 := by omega
  have hse := fun v => F0 T (40 + a) v
  have hk := bo (H := H) (c := c) (g := gc) (T := T) (U := T.set (40 + a) v)
  have htk := bp H c
  have hsl := dk H c
  refine j8 (rl := []) i6 Tryz.func66 rfl (rs := []) rfl Tryz.ntmps66 (by simp) ?_
  repeat' (first | ((first | refine c8 ?_ | refine b8 ?_ | refine o5 ?_ | refine m9 ?_); (try simp only [NB])) | ((repeat ((fail_if_success (refine hK _ ?_)); clear hK K)); refine hK _ ?_; clear hK K) | ((first | refine d8 fun K1 p7 => ?_ | refine d6 fun K1 p7 => ?_ | refine o6 rfl rfl rfl fun K1 p7 => ?_ | refine b5 fun A B hA hB => ?_); simp only [S1, simprocAttr, N1, TSz, i8, hc, hr, hx, hcL, hrL, hxL, a0, a4', h49, hse, hT, htk, hsl, List.length_map, Nat.mul_one]; first | (refine p7 _ ?_; clear p7 K1) | ((first | refine hA ?_ | refine hB ?_); clear hA hB A B) | (((first | (refine ⟨fun hg => hA ?_, fun hg => hB ?_⟩ <;> clear hA hB A B) | refine ⟨fun hg => ?_, fun hg => ?_⟩) <;> (try simp only [BN2] at hg) <;> (try simp only [hg, cndB])) <;> (try (refine p7 _ ?_; clear p7 K1)) <;> (try simp only [BN3] at hg))) | ((first | refine t9 (v := ?_) rfl rfl rfl rfl (by decide) (fun R1 K1 p7 => ?_) ?_ | refine t8 (v := ?_) rfl rfl rfl (by decide) (fun K1 p7 => ?_) ?_ | refine r8 (v := ?_) rfl rfl rfl (by decide) (fun K1 p7 => ?_) ?_); rotate_left; (focus (simp only [S1, simprocAttr, N1, TSz, i8, hc, hr, hx, hcL, hrL, hxL, a0, a4', h49, hse, hT, htk, hsl, List.length_map, Nat.mul_one]; first | (exact p7 _ _ _)))) | (refine n5 rfl rfl rfl ?_) | ((first | refine i3 (z := ?_) 0 rfl rfl rfl rfl (by decide) rfl ?_ ?_ | refine i3 (z := ?_) 1 rfl rfl rfl rfl (by decide) rfl ?_ ?_ | refine i3 (z := ?_) 2 rfl rfl rfl rfl (by decide) rfl ?_ ?_); rotate_left; (focus (simp only [S1, simprocAttr, N1, TSz, i8, hc, hr, hx, hcL, hrL, hxL, a0, a4', h49, hse, hT, htk, hsl, List.length_map, Nat.mul_one, u9]; rfl))) | (refine b6 fun K hK => ?_) | (refine p6 [0, 1, 2, 3, 4, 5, 6, 7] 0 (fs := []) rfl (by kernel_rfl) (by kernel_rfl) ?_) | ((first | refine a9 ?_ | refine j4 (by kernel_rfl) ?_ | refine b7 ?_ | refine c9 ?_ | refine d4 ?_ | refine d7 ?_); try simp only [NB, simprocAttr]))
  all_goals simp only [y8, y1, Q6, S4, K6, F2, D8, D3, pur, I2, hsl, htk, List.length_append, List.length_cons, List.length_nil, S1, simprocAttr, N1, Nat.le_add_right, Nat.le_refl, List.append_nil]
  all_goals exact hk
theorem oh {H : Heap} {c gc : Nat} {T : List Int} (hc : H[c]? = some (some ⟨gc, T.map AV.i⟩)) (hT : T.length = 49) :
    f9 Tryz.prog G 69 [.ptr c gc 0] H (fun q h' => q = .undef ∧ h' = H.set c (some ⟨gc, (T.set 48 1).map AV.i⟩)) := by
  have hcL := D5 hc
  have hse := fun v => F0 T 48 v
  have hk := bo (H := H) (c := c) (g := gc) (T := T) (U := T.set 48 1)
  have htk := bp H c
  have hsl := dk H c
  refine j8 (rl := []) i6 Tryz.func69 rfl (rs := []) rfl Tryz.ntmps69 (by simp) ?_
  repeat' (first | ((repeat ((fail_if_success (refine hK _ ?_)); clear hK K)); refine hK _ ?_; clear hK K) | ((first | refine d8 fun K1 p7 => ?_ | refine d6 fun K1 p7 => ?_ | refine b5 fun A B hA hB => ?_); simp only [S1, simprocAttr, N1, TSz, i8, hc, hcL, hse, hT, htk, hsl, List.length_map, Nat.mul_one]; first | refine p7 _ ?_; clear p7 K1 | ((first | refine hA ?_ | refine hB ?_); clear hA hB A B) | (((first | (refine ⟨fun hg => hA ?_, fun hg => hB ?_⟩ <;> clear hA hB A B) | refine ⟨fun hg => ?_, fun hg => ?_⟩) <;> (try simp only [BN2] at hg) <;> (try simp only [hg, cndB])) <;> (try (refine p7 _ ?_; clear p7 K1)) <;> (try simp only [BN3] at hg))) | refine b6 fun K hK => ?_ | ((first | apply c8 | apply b8 | apply a9 | refine d5 ?_ | apply b7 | apply c9 | apply d4 | apply d7); try simp only [NB, simprocAttr]))
  all_goals simp only [y8, y1, Q6, S4, K6, F2, D8, D3, pur, I2, hsl, htk, List.length_append, List.length_cons, List.length_nil, S1, simprocAttr, N1, Nat.le_add_right, Nat.le_refl, List.append_nil]
  all_goals exact hk
theorem ol {H : Heap} {c r gc gr : Nat} {T : List Int} (hc : H[c]? = some (some ⟨gc, T.map AV.i⟩)) (hT : T.length = 49) {a : Nat} (ha : a < 4) (hr : H[r]? = some (some ⟨gr, [.i a]⟩)) {q : Int} (hq : T[44 + a]? = some q) (hq0 : 0 ≤ q ∧ q ≤ 3) :
    f9 Tryz.prog G 87 [.ptr c gc 0, .ptr r gr 0] H (fun u h' => u = .undef ∧ h' = H.set c (some ⟨gc, (T.set (44 + a) (q - 1)).map AV.i⟩)) := by
  have hcL := D5 hc
  have hrL := D5 hr
  have a0 : (0 : Int) ≤ (a : Int) := by omega
  have a4' : (a : Int) < 4 := by omega
  have h49 : 44 + a + 1 ≤ 49 := by omega
  have hw : IntKind.i64.wrap (q - 1) = q - 1 := IntWalk.i64_in _ (by omega)
  have hdr := J1 hq
  have hse := fun v => F0 T (44 + a) v
  have hk := bo (H := H) (c := c) (g := gc) (T := T) (U := T.set (44 + a) (q - 1))
  have htk := bp H c
  have hsl := dk H c
  refine j8 (rl := []) i6 Tryz.func87 rfl (rs := []) rfl Tryz.ntmps87 (by simp) ?_
  repeat' (first | ((first | refine c8 ?_ | refine b8 ?_ | refine o5 ?_ | refine m9 ?_); (try simp only [NB])) | ((repeat ((fail_if_success (refine hK _ ?_)); clear hK K)); refine hK _ ?_; clear hK K) | ((first | refine d8 fun K1 p7 => ?_ | refine d6 fun K1 p7 => ?_ | refine o6 rfl rfl rfl fun K1 p7 => ?_ | refine b5 fun A B hA hB => ?_); simp only [S1, simprocAttr, N1, TSz, i8, hc, hr, hcL, hrL, a0, a4', h49, hw, hdr, hse, hT, htk, hsl, List.length_map, Nat.mul_one]; first | (refine p7 _ ?_; clear p7 K1) | ((first | refine hA ?_ | refine hB ?_); clear hA hB A B) | (((first | (refine ⟨fun hg => hA ?_, fun hg => hB ?_⟩ <;> clear hA hB A B) | refine ⟨fun hg => ?_, fun hg => ?_⟩) <;> (try simp only [BN2] at hg) <;> (try simp only [hg, cndB])) <;> (try (refine p7 _ ?_; clear p7 K1)) <;> (try simp only [BN3] at hg))) | ((first | refine t9 (v := ?_) rfl rfl rfl rfl (by decide) (fun R1 K1 p7 => ?_) ?_ | refine t8 (v := ?_) rfl rfl rfl (by decide) (fun K1 p7 => ?_) ?_ | refine r8 (v := ?_) rfl rfl rfl (by decide) (fun K1 p7 => ?_) ?_); rotate_left; (focus (simp only [S1, simprocAttr, N1, TSz, i8, hc, hr, hcL, hrL, a0, a4', h49, hw, hdr, hse, hT, htk, hsl, List.length_map, Nat.mul_one]; first | (exact p7 _ _ _)))) | (refine n5 rfl rfl rfl ?_) | ((first | refine i3 (z := ?_) 0 rfl rfl rfl rfl (by decide) rfl ?_ ?_ | refine i3 (z := ?_) 1 rfl rfl rfl rfl (by decide) rfl ?_ ?_ | refine i3 (z := ?_) 2 rfl rfl rfl rfl (by decide) rfl ?_ ?_); rotate_left; (focus (simp only [S1, simprocAttr, N1, TSz, i8, hc, hr, hcL, hrL, a0, a4', h49, hw, hdr, hse, hT, htk, hsl, List.length_map, Nat.mul_one, u9]; rfl))) | (refine b6 fun K hK => ?_) | (refine p6 [0, 1, 2, 3, 4, 5, 6, 7, 8, 9, 10] 0 (fs := []) rfl (by kernel_rfl) (by kernel_rfl) ?_) | ((first | refine a9 ?_ | refine j4 (by kernel_rfl) ?_ | refine b7 ?_ | refine c9 ?_ | refine d4 ?_ | refine d7 ?_); try simp only [NB, simprocAttr]))
  all_goals simp only [y8, y1, Q6, S4, K6, F2, D8, D3, pur, I2, hsl, htk, List.length_append, List.length_cons, List.length_nil, S1, simprocAttr, N1, Nat.le_add_right, Nat.le_refl, List.append_nil]
  all_goals exact hk
theorem om {H : Heap} {c r gc gr : Nat} {T : List Int} (hc : H[c]? = some (some ⟨gc, T.map AV.i⟩)) (hT : T.length = 49) {a : Nat} (ha : a < 4) (hr : H[r]? = some (some ⟨gr, [.i a]⟩)) {q : Int} (hq : T[44 + a]? = some q) (hq0 : 0 ≤ q ∧ q ≤ 3) :
    f9 Tryz.prog G 42 [.ptr c gc 0, .ptr r gr 0] H (fun u h' => u = .undef ∧ h' = H.set c (some ⟨gc, (T.set (44 + a) (q + 1)).map AV.i⟩)) := by
  have hcL := D5 hc
  have hrL := D5 hr
  have a0 : (0 : Int) ≤ (a : Int) := by omega
  have a4' : (a : Int) < 4 := by omega
  have h49 : 44 + a + 1 ≤ 49 := by omega
  have hw : IntKind.i64.wrap (q + 1) = q + 1 := IntWalk.i64_in _ (by omega)
  have hdr := J1 hq
  have hse := fun v => F0 T (44 + a) v
  have hk := bo (H := H) (c := c) (g := gc) (T := T) (U := T.set (44 + a) (q + 1))
  have htk := bp H c
  have hsl := dk H c
  refine j8 (rl := []) i6 Tryz.func42 rfl (rs := []) rfl Tryz.ntmps42 (by simp) ?_
  repeat' (first | ((first | refine c8 ?_ | refine b8 ?_ | refine o5 ?_ | refine m9 ?_); (try simp only [NB])) | ((repeat ((fail_if_success (refine hK _ ?_)); clear hK K)); refine hK _ ?_; clear hK K) | ((first | refine d8 fun K1 p7 => ?_ | refine d6 fun K1 p7 => ?_ | refine o6 rfl rfl rfl fun K1 p7 => ?_ | refine b5 fun A B hA hB => ?_); simp only [S1, simprocAttr, N1, TSz, i8, hc, hr, hcL, hrL, a0, a4', h49, hw, hdr, hse, hT, htk, hsl, List.length_map, Nat.mul_one]; first | (refine p7 _ ?_; clear p7 K1) | ((first | refine hA ?_ | refine hB ?_); clear hA hB A B) | (((first | (refine ⟨fun hg => hA ?_, fun hg => hB ?_⟩ <;> clear hA hB A B) | refine ⟨fun hg => ?_, fun hg => ?_⟩) <;> (try simp only [BN2] at hg) <;> (try simp only [hg, cndB])) <;> (try (refine p7 _ ?_; clear p7 K1)) <;> (try simp only [BN3] at hg))) | ((first | refine t9 (v := ?_) rfl rfl rfl rfl (by decide) (fun R1 K1 p7 => ?_) ?_ | refine t8 (v := ?_) rfl rfl rfl (by decide) (fun K1 p7 => ?_) ?_ | refine r8 (v := ?_) rfl rfl rfl (by decide) (fun K1 p7 => ?_) ?_); rotate_left; (focus (simp only [S1, simprocAttr, N1, TSz, i8, hc, hr, hcL, hrL, a0, a4', h49, hw, hdr, hse, hT, htk, hsl, List.length_map, Nat.mul_one]; first | (exact p7 _ _ _)))) | (refine n5 rfl rfl rfl ?_) | ((first | refine i3 (z := ?_) 0 rfl rfl rfl rfl (by decide) rfl ?_ ?_ | refine i3 (z := ?_) 1 rfl rfl rfl rfl (by decide) rfl ?_ ?_ | refine i3 (z := ?_) 2 rfl rfl rfl rfl (by decide) rfl ?_ ?_); rotate_left; (focus (simp only [S1, simprocAttr, N1, TSz, i8, hc, hr, hcL, hrL, a0, a4', h49, hw, hdr, hse, hT, htk, hsl, List.length_map, Nat.mul_one, u9]; rfl))) | (refine b6 fun K hK => ?_) | (refine p6 [0, 1, 2, 3, 4, 5, 6, 7, 8, 9, 10] 0 (fs := []) rfl (by kernel_rfl) (by kernel_rfl) ?_) | ((first | refine a9 ?_ | refine j4 (by kernel_rfl) ?_ | refine b7 ?_ | refine c9 ?_ | refine d4 ?_ | refine d7 ?_); try simp only [NB, simprocAttr]))
  all_goals simp only [y8, y1, Q6, S4, K6, F2, D8, D3, pur, I2, hsl, htk, List.length_append, List.length_cons, List.length_nil, S1, simprocAttr, N1, Nat.le_add_right, Nat.le_refl, List.append_nil]
  all_goals exact hk
end
section
def jE := And.intro T2 (And.intro T3 (And.intro T4 (And.intro T22 (And.intro T25 (And.intro T26 (And.intro T27 (And.intro T46 (And.intro T53 (And.intro T70 (And.intro T79 (And.intro T80 (And.intro T83 (And.intro fq (And.intro fu (And.intro jZ gp)))))))))))))))
attribute [local irreducible] awp q9 m7 n7 r5 q8
variable {G : Nat → Option (List PV)}
theorem E0 {h : Heap} {b lb : Nat} {ns : List Nd} {fl : List Fl} {S : List Int} {l : List Sp} (ok : GmOk h b lb S l) (m : Sp) (fr to : List Int) (hfr : InF fr) (hto : InF to) (L : Heap) :
    f9 Tryz.prog G 41 [.ptr b 0 0, aMv m, aI fr, aI to, .p .nilf] (m3 h b lb ns fl S l ++ L) (fun r h' => r = .undef ∧ h' = m3 h b lb ns fl S (l ++ stF S m (fun T => T) fr to) ++ L) := by
  have := dj (G := G) (ns := ns) (fl := fl) (ok.ext L) m fr to hfr hto
  rwa [K4 ok.hb ok.hl, K4 ok.hb ok.hl] at this
theorem U5 {h : Heap} {b lb : Nat} {ns : List Nd} {fl : List Fl} {S : List Int} {l : List Sp} (ok : GmOk h b lb S l) (m : Sp) (fr to : List Int) (hfr : InF fr) (hto : InF to) (L : Heap) {f : FuncId} (hE : j5 Tryz.prog f) {caps : List AV} (hcap : q6 (h.length + L.length) caps) {chg : List Int → List Int} (hlen : ∀ T : List Int, T.length = 49 → (chg T).length = 49)
    (hC : ∀ (A : Option Blk) (T : List Int), T.length = 49 → T.drop 40 = S.drop 40 → f9 Tryz.prog G f (.ptr (h.length + L.length + 1) 0 0 :: caps) (m3 h b lb ns fl S l ++ (L ++ [A, some ⟨0, T.map AV.i⟩])) (fun r h' => r = .undef ∧ h' = m3 h b lb ns fl S l ++ (L ++ [A, some ⟨0, (chg T).map AV.i⟩]))) :
    f9 Tryz.prog G 41 [.ptr b 0 0, aMv m, aI fr, aI to, .fn f caps] (m3 h b lb ns fl S l ++ L) (fun r h' => r = .undef ∧ h' = m3 h b lb ns fl S (l ++ stF S m chg fr to) ++ L) := by
  have := tr (G := G) (ns := ns) (fl := fl) (ok.ext L) m fr to hfr hto hE (caps := caps) (by rw [List.length_append]; exact hcap) (chg := chg) hlen (by
    intro A T hT hd
    have := hC A T hT hd
    rw [K4 ok.hb ok.hl, List.length_append, List.append_assoc, List.append_assoc]
    exact this)
  rwa [K4 ok.hb ok.hl, K4 ok.hb ok.hl] at this
theorem dl {h : Heap} {b lb : Nat} {ns : List Nd} {fl : List Fl} {S : List Int} {l : List Sp} (ok : GmOk h b lb S l) (i e : Int) :
    f9 Tryz.prog G 65 [.ptr b 0 0, .i i, .i e] (m3 h b lb ns fl S l) (fun r h' => r = .undef ∧ h' = m3 h b lb ns fl S (l ++ [u4 S i e])) := by
  have hb := ok.hb
  have hl := ok.hl
  have hne := ok.ne
  have hS := ok.held.1
  have hmax : l.length + 1 ≤ o9 := by have := ok.few; unfold o9; omega
  have gl := v4 (ns := ns) (fl := fl) (lb := lb) (n := l.length) hS
  have t49 := v8 (ns := ns) (fl := fl) (lb := lb) (n := l.length) hS
  have hzl : (zS.map AV.i).length = 49 := by rw [List.length_map]; rfl
  have hem : (zS.map AV.i).isEmpty = false := rfl
  have hso : w9 (zS.map AV.i) 0 (S.map AV.i) = S.map AV.i := n9 (n := 49) (by rw [List.length_map, hS]) _ hzl
  have hset := fun v => F0 S 48 v
  have hS2 : (S.set 48 2).length = 49 := by rw [List.length_set, hS]
  have htl := F6 hS2
  have htk : ((S.set 48 2).map AV.i).take 49 = (S.set 48 2).map AV.i := List.take_of_length_le (by rw [List.length_map, hS2]; exact Nat.le_refl _)
  have hx : (u4 S i e).to.length = 49 := hS2
  have hln : (cSp (u4 S i e)).length = 54 := G4 hx
  have heq : (AV.p (.int .i64 i) :: .p (.int .i64 0) :: .p (.int .i64 6) :: .p (.int .i64 i) :: .p (.int .i64 e) :: (S.set 48 2).map AV.i) = (cSp (u4 S i e)).map AV.i := rfl
  have hov2 := n9 (cs := (cSp (u4 S i e)).map AV.i) (n := 54) (by rw [List.length_map, hln])
  have hpv := dP (cSp (u4 S i e))
  have hti : ((cSp (u4 S i e)).map (PV.int .i64)).take 54 = (cSp (u4 S i e)).map (PV.int .i64) := List.take_of_length_le (by rw [List.length_map, hln]; exact Nat.le_refl _)
  have hmm := z9 (cSp (u4 S i e))
  have hsl := X6 ok.len
  have hrf := Z9 (ns := ns) (fl := fl) (lb := lb) (n := l.length) hS
  have hgs := cT (ns := ns) (fl := fl) (lb := lb) (n := l.length) (m := l.length + 1) hS
  have hgb := mb (ns := ns) (fl := fl) (S := S) (l := l) hb hne
  have hfn : ∀ L : Heap, ((m3 h b lb ns fl S l ++ L).set lb (some ⟨l.length + 1, dO l ++ (cSp (u4 S i e)).map AV.i⟩)).set b (some ⟨0, gmC ns fl S lb (l.length + 1)⟩) = m3 h b lb ns fl S (l ++ [u4 S i e]) ++ L := fun L => by
    have := gP (ns := ns) (fl := fl) (S := S) (l := l) (l' := l ++ [u4 S i e]) hb hl hne L
    simpa only [spB, gmB, List.length_append, List.length_cons, List.length_nil, Nat.zero_add, bh] using this
  refine j8 (rl := []) i6 Tryz.func65 rfl (rs := []) rfl Tryz.ntmps65 (by simp) ?_
  repeat' (first | ((first | refine c8 ?_ | refine b8 ?_ | refine o5 ?_ | refine m9 ?_); (try simp only [NB])) | ((repeat ((fail_if_success (refine hK _ ?_)); clear hK K)); refine hK _ ?_; clear hK K) | ((first | refine d8 fun K1 p7 => ?_ | refine d6 fun K1 p7 => ?_ | refine o6 rfl rfl rfl fun K1 p7 => ?_ | refine b5 fun A B hA hB => ?_); simp only [S1, simprocAttr, jE, TSz, i8, i7, j3, hem, hso, t49, hset, hS, hS2, htl, htk, heq, hln, hov2, hpv, hti, hmm, hsl, hrf, hgs, hgb, hfn, hmax, e9, n6 hb hne, k9 hl, l6 hb hne, j9 hl, gmB, spB, gl, g9, h9, List.length_map, List.length_take, List.length_drop, j7, u0, s4, x9, t6, Nat.mul_one]; first | (refine p7 _ ?_; clear p7 K1) | ((first | refine hA ?_ | refine hB ?_); clear hA hB A B) | (((first | (refine ⟨fun hg => hA ?_, fun hg => hB ?_⟩ <;> clear hA hB A B) | refine ⟨fun hg => ?_, fun hg => ?_⟩) <;> (try simp only [BN2] at hg) <;> (try simp only [hg, cndB])) <;> (try (refine p7 _ ?_; clear p7 K1)) <;> (try simp only [BN3] at hg))) | ((first | refine t9 (v := ?_) rfl rfl rfl rfl (by decide) (fun R1 K1 p7 => ?_) ?_ | refine t8 (v := ?_) rfl rfl rfl (by decide) (fun K1 p7 => ?_) ?_ | refine r8 (v := ?_) rfl rfl rfl (by decide) (fun K1 p7 => ?_) ?_); rotate_left; (focus (simp only [S1, simprocAttr, jE, TSz, i8, i7, j3, hem, hso, t49, hset, hS, hS2, htl, htk, heq, hln, hov2, hpv, hti, hmm, hsl, hrf, hgs, hgb, hfn, hmax, e9, n6 hb hne, k9 hl, l6 hb hne, j9 hl, gmB, spB, gl, g9, h9, List.length_map, List.length_take, List.length_drop, j7, u0, s4, x9, t6, Nat.mul_one]; first | (exact p7 _ _ _)))) | (refine n5 rfl rfl rfl ?_) | ((first | refine i3 (z := ?_) 0 rfl rfl rfl rfl (by decide) rfl ?_ ?_ | refine i3 (z := ?_) 1 rfl rfl rfl rfl (by decide) rfl ?_ ?_ | refine i3 (z := ?_) 2 rfl rfl rfl rfl (by decide) rfl ?_ ?_); rotate_left; (focus (simp only [S1, simprocAttr, jE, TSz, i8, i7, j3, hem, hso, t49, hset, hS, hS2, htl, htk, heq, hln, hov2, hpv, hti, hmm, hsl, hrf, hgs, hgb, hfn, hmax, e9, n6 hb hne, k9 hl, l6 hb hne, j9 hl, gmB, spB, gl, g9, h9, List.length_map, List.length_take, List.length_drop, j7, u0, s4, x9, t6, Nat.mul_one, u9]; rfl))) | (refine b6 fun K hK => ?_) | (refine p6 [0, 1, 2, 3, 4, 5, 6, 7, 8, 9, 10, 11, 12, 13, 14, 15, 16] 0 (fs := []) rfl (by kernel_rfl) (by kernel_rfl) ?_) | ((first | refine a9 ?_ | refine j4 (by kernel_rfl) ?_ | refine b7 ?_ | refine c9 ?_ | refine d4 ?_ | refine d7 ?_); try simp only [NB, simprocAttr]))
  all_goals simp only [S1, simprocAttr, ENB, y8, y1, j7, m8, l8] <;> first | exact i5 hl | exact ⟨i5 hl, rfl⟩ | exact ⟨i5 hl, rfl, rfl⟩
theorem ee {h : Heap} {b lb : Nat} {ns : List Nd} {fl : List Fl} {S : List Int} {l : List Sp} (ok : GmOk h b lb S l) (i e : Int) (L : Heap) :
    f9 Tryz.prog G 65 [.ptr b 0 0, .i i, .i e] (m3 h b lb ns fl S l ++ L) (fun r h' => r = .undef ∧ h' = m3 h b lb ns fl S (l ++ [u4 S i e]) ++ L) := by
  have := dl (G := G) (ns := ns) (fl := fl) (ok.ext L) i e
  rwa [K4 ok.hb ok.hl, K4 ok.hb ok.hl] at this
theorem am {h : Heap} {b lb : Nat} {ns : List Nd} {fl : List Fl} {S : List Int} {l : List Sp} (ok : GmOk h b lb S l) (st : StOk S) (m : Sp) (c : Nat) {k : Nd} (hc : ns[c]? = some k) (ha : 0 ≤ k.a ∧ k.a ≤ 4) (fr : List Int) (hfr : InF fr) (to : List Int) (hto : InF to) (he : to = k3 fl c) :
    f9 Tryz.prog G 68 [.ptr b 0 0, aMv m, .i c, aI fr, aI to] (m3 h b lb ns fl S l) (fun r h' => r = .undef ∧ h' = m3 h b lb ns fl S (l ++ s9 ns fl S m.node m.arg c fr)) := by
  have hb := ok.hb
  have hl := ok.hl
  have hne := ok.ne
  have hS := ok.held.1
  have gl := v4 (ns := ns) (fl := fl) (lb := lb) (n := l.length) hS
  have c0 : (0 : Int) ≤ (c : Int) := by omega
  have hc' := B8 hc
  have en : ndA ns c = k.a := by unfold ndA; rw [Int.toNat_natCast, hc]
  by_cases h4 : k.a = 4
  · have eg : s9 ns fl S m.node m.arg c fr = p9 S ⟨m.node, m.arg, 4, c, 0, S⟩ fr to := by unfold s9; rw [en, if_neg (by omega), he]
    have es := F4 hS (m := ⟨m.node, m.arg, 4, c, 0, S⟩) (Chg.id hS) hfr hto
    have e4 : (k.a == 4) = true := by simp [h4]
    rw [eg, ← es]
    refine j8 (rl := []) i6 Tryz.func68 rfl (rs := []) rfl Tryz.ntmps68 (by simp) ?_
    repeat' (first | ((repeat ((fail_if_success (refine hK _ ?_)); clear hK K)); refine hK _ ?_; clear hK K) | ((first | refine d8 fun K1 p7 => ?_ | refine d6 fun K1 p7 => ?_ | refine b5 fun A B hA hB => ?_); simp only [S1, simprocAttr, jE, c0, hc', i9, e4, eN, PGB, n6 hb hne, k9 hl, l6 hb hne, j9 hl, gmB, spB, gl]; first | refine p7 _ ?_; clear p7 K1 | ((first | refine hA ?_ | refine hB ?_); clear hA hB A B) | ((first | apply b9 E41 | apply c7 E41); exact (E0 ok ⟨m.node, m.arg, 4, c, 0, S⟩ fr to hfr hto _); refine p7 _ ?_; clear p7 K1) | (((first | (refine ⟨fun hg => hA ?_, fun hg => hB ?_⟩ <;> clear hA hB A B) | refine ⟨fun hg => ?_, fun hg => ?_⟩) <;> (try simp only [BN2] at hg) <;> (try simp only [hg, cndB])) <;> (try (refine p7 _ ?_; clear p7 K1)) <;> (try simp only [BN3] at hg))) | refine b6 fun K hK => ?_ | ((first | apply c8 | apply b8 | apply a9 | refine d5 ?_ | apply b7 | apply c9 | apply d4 | apply d7); try simp only [NB, simprocAttr]))
    all_goals simp only [S1, simprocAttr, ENB, y8, y1, j7, m8, l8] <;> first | exact i5 hl | exact ⟨i5 hl, rfl⟩ | exact ⟨i5 hl, rfl, rfl⟩
  · obtain ⟨a, hka⟩ := Int.eq_ofNat_of_zero_le ha.1
    have a4 : a < 4 := by omega
    have a0 : (0 : Int) ≤ (a : Int) := by omega
    have a4' : (a : Int) < 4 := by omega
    have e4 : ((a : Int) == 4) = false := by simp; omega
    obtain ⟨hq, q0, q3⟩ := st.q a4
    have gq := tI (ns := ns) (fl := fl) (lb := lb) (n := l.length) hq
    have e2 : qAt S k.a = qAt S a := by rw [hka]
    generalize hqv : qAt S (a : Int) = q at *
    by_cases hz : q = 0
    · have eg : s9 ns fl S m.node m.arg c fr = [] := by unfold s9; rw [en, if_pos (by omega), e2, if_pos hz]
      have hz' : decide (0 < q) = false := decide_eq_false (by omega)
      rw [eg, List.append_nil]
      refine j8 (rl := []) i6 Tryz.func68 rfl (rs := []) rfl Tryz.ntmps68 (by simp) ?_
      repeat' (first | ((repeat ((fail_if_success (refine hK _ ?_)); clear hK K)); refine hK _ ?_; clear hK K) | ((first | refine d8 fun K1 p7 => ?_ | refine d6 fun K1 p7 => ?_ | refine b5 fun A B hA hB => ?_); simp only [S1, simprocAttr, jE, TSz, i8, c0, hc', i9, hka, e4, a0, a4', gq, hz', eN, PGB, n6 hb hne, k9 hl, l6 hb hne, j9 hl, gmB, spB, gl]; first | refine p7 _ ?_; clear p7 K1 | ((first | refine hA ?_ | refine hB ?_); clear hA hB A B) | (((first | (refine ⟨fun hg => hA ?_, fun hg => hB ?_⟩ <;> clear hA hB A B) | refine ⟨fun hg => ?_, fun hg => ?_⟩) <;> (try simp only [BN2] at hg) <;> (try simp only [hg, cndB])) <;> (try (refine p7 _ ?_; clear p7 K1)) <;> (try simp only [BN3] at hg))) | refine b6 fun K hK => ?_ | ((first | apply c8 | apply b8 | apply a9 | refine d5 ?_ | apply b7 | apply c9 | apply d4 | apply d7); try simp only [NB, simprocAttr]))
      all_goals simp only [S1, simprocAttr, ENB, y8, y1, j7, m8, l8] <;> first | exact i5 hl | exact ⟨i5 hl, rfl⟩ | exact ⟨i5 hl, rfl, rfl⟩
    · have eg : s9 ns fl S m.node m.arg c fr = p9 S ⟨m.node, m.arg, 3, c, 0, S.set (44 + a) (q - 1)⟩ fr to := by
        unfold s9; rw [en, if_pos (by omega), e2, if_neg hz, hka, Int.toNat_natCast, he]
      have hz' : decide (0 < q) = true := decide_eq_true (by omega)
      have es := F4 hS (m := ⟨m.node, m.arg, 3, c, 0, S⟩) (Chg.set hS (k := 44 + a) (by omega) (q - 1)) hfr hto
      simp only at es
      rw [eg, ← es]
      have hCl : ∀ (X : Option Blk) (A : Option Blk) (T : List Int), T.length = 49 → T.drop 40 = S.drop 40 → f9 Tryz.prog G 87 [.ptr (h.length + 2 + 1) 0 0, .ptr (h.length + 1) 0 0] (m3 h b lb ns fl S l ++ ([X, some ⟨0, [.i a]⟩] ++ [A, some ⟨0, T.map AV.i⟩])) (fun r h' => r = .undef ∧ h' = m3 h b lb ns fl S l ++ ([X, some ⟨0, [.i a]⟩] ++ [A, some ⟨0, (T.set (44 + a) (q - 1)).map AV.i⟩])) := by
        intro X A T hT hd
        have hqT : T[44 + a]? = some q := by
          have e : (T.drop 40)[4 + a]? = (S.drop 40)[4 + a]? := by rw [hd]
          rw [List.getElem?_drop, List.getElem?_drop, show 40 + (4 + a) = 44 + a by omega] at e
          rw [e, hq]
        have := ol (G := G) (H := m3 h b lb ns fl S l ++ ([X, some ⟨0, [.i a]⟩] ++ [A, some ⟨0, T.map AV.i⟩])) (c := h.length + 2 + 1) (r := h.length + 1) (gc := 0) (gr := 0) (by rw [show h.length + 2 + 1 = h.length + 3 by omega, s4]; rfl) hT a4 (by rw [s4]; rfl) hqT ⟨q0, q3⟩
        rw [show h.length + 2 + 1 = h.length + 3 by omega] at this ⊢
        rw [t6] at this
        exact this
      have hst := fun X => U5 (G := G) (ns := ns) (fl := fl) ok ⟨m.node, m.arg, 3, c, 0, S⟩ fr to hfr hto [X, some ⟨0, [.i a]⟩] E87 (caps := [.ptr (h.length + 1) 0 0]) ⟨by simp [y6], trivial⟩ (fun T hT => by rw [List.length_set, hT]) (hCl X)
      refine j8 (rl := []) i6 Tryz.func68 rfl (rs := []) rfl Tryz.ntmps68 (by simp) ?_
      repeat' (first | ((repeat ((fail_if_success (refine hK _ ?_)); clear hK K)); refine hK _ ?_; clear hK K) | ((first | refine d8 fun K1 p7 => ?_ | refine d6 fun K1 p7 => ?_ | refine b5 fun A B hA hB => ?_); simp only [S1, simprocAttr, jE, TSz, i8, c0, hc', i9, hka, e4, a0, a4', gq, hz', eN, PGB, n6 hb hne, k9 hl, l6 hb hne, j9 hl, gmB, spB, gl]; first | refine p7 _ ?_; clear p7 K1 | ((first | refine hA ?_ | refine hB ?_); clear hA hB A B) | ((first | apply b9 E41 | apply c7 E41); exact (hst _); refine p7 _ ?_; clear p7 K1) | (((first | (refine ⟨fun hg => hA ?_, fun hg => hB ?_⟩ <;> clear hA hB A B) | refine ⟨fun hg => ?_, fun hg => ?_⟩) <;> (try simp only [BN2] at hg) <;> (try simp only [hg, cndB])) <;> (try (refine p7 _ ?_; clear p7 K1)) <;> (try simp only [BN3] at hg))) | refine b6 fun K hK => ?_ | ((first | apply c8 | apply b8 | apply a9 | refine d5 ?_ | apply b7 | apply c9 | apply d4 | apply d7); try simp only [NB, simprocAttr]))
      all_goals simp only [S1, simprocAttr, ENB, y8, y1, j7, m8, l8] <;> first | exact i5 hl | exact ⟨i5 hl, rfl⟩ | exact ⟨i5 hl, rfl, rfl⟩
end
section
def P3 := And.intro T2 (And.intro T3 (And.intro T4 (And.intro T22 (And.intro T23 (And.intro T25 (And.intro T26 (And.intro T27 (And.intro T46 (And.intro T53 (And.intro T70 (And.intro T79 (And.intro T80 (And.intro T91 (And.intro fq (And.intro fu (And.intro jZ gp))))))))))))))))
attribute [local irreducible] awp q9 m7 n7 r5 q8
variable {G : Nat → Option (List PV)}
theorem bX (S : List Int) (hS : S.length = 49) (h : Heap) : f9 Tryz.prog G 14 [aS S] h (fun r h' => r = .i (bL (S.take 40)) ∧ h' = h) := by
  have hne := U1 hS
  have t40 : ((S.map AV.i).take 40) = (S.take 40).map AV.i := by rw [List.map_take]
  have l40 : (S.take 40).length = 40 := by rw [List.length_take]; omega
  refine d9 (rl := []) i6 Tryz.func14 rfl (rs := [.tmp 2]) rfl Tryz.ntmps14 (by simp) ?_
  repeat' (first | ((repeat ((fail_if_success (refine hK _ ?_)); clear hK K)); refine hK _ ?_; clear hK K) | ((first | refine d8 fun K1 p7 => ?_ | refine d6 fun K1 p7 => ?_ | refine b5 fun A B hA hB => ?_); simp only [S1, simprocAttr, P3, TSz, i8, i7, j3, List.length_map, hS, hne, t40, e9, g9, h9, List.drop_zero]; first | refine p7 _ ?_; clear p7 K1 | ((first | refine hA ?_ | refine hB ?_); clear hA hB A B) | (((first | (refine ⟨fun hg => hA ?_, fun hg => hB ?_⟩ <;> clear hA hB A B) | refine ⟨fun hg => ?_, fun hg => ?_⟩) <;> (try simp only [BN2] at hg) <;> (try simp only [hg, cndB])) <;> (try (refine p7 _ ?_; clear p7 K1)) <;> (try simp only [BN3] at hg))) | refine b6 fun K hK => ?_ | ((first | apply c8 | apply b8 | apply a9 | refine d5 ?_ | apply b7 | apply c9 | apply d4 | apply d7); try simp only [NB, simprocAttr]))
  refine s5 40 16 (fun i => [(8, .i i), (7, .agg ((S.take 40).map AV.i)), (3, .i (bL (S.take i)))]) (fun i => []) (fun i => True) ?_ trivial fun i hi hp K hK => ?_
  · refine ⟨rfl, ⟨[some ⟨0, S.map AV.i⟩], rfl⟩, ?_, trivial⟩
    simp only [List.take_zero, bL, List.foldl_nil]
    simp only [S5, y6, q6, A6, frL, U9, S1, simprocAttr, P3, List.length_map, Int.natCast_zero, AV.p.injEq, PV.int.injEq, PV.bool.injEq, PV.sl.injEq] <;> (try and_intros) <;> (try assumption) <;> (try trivial) <;> (try omega)
    all_goals exact j6 _ _
  rcases Nat.lt_or_ge i 40 with hlt | hge
  · obtain ⟨x, hx⟩ : ∃ x, S[i]? = some x := ⟨_, List.getElem?_eq_getElem (by omega)⟩
    have i0 : (0 : Int) ≤ (i : Int) := by omega
    have i40 : (i : Int) < 40 := by omega
    have hst := jp hx
    have hxt : (S.take 40)[i]? = some x := by rw [List.getElem?_take_of_lt hlt]; exact hx
    repeat' (first | ((repeat ((fail_if_success (refine hK _ ?_)); clear hK K)); refine hK _ ?_; clear hK K) | ((first | refine d8 fun K1 p7 => ?_ | refine d6 fun K1 p7 => ?_ | refine b5 fun A B hA hB => ?_); simp only [S1, simprocAttr, P3, M9 hlt rfl, A8 (n := 40) (by omega) hlt, i0, i40, J1 hxt, l40, List.length_map, Nat.mul_one]; first | refine p7 _ ?_; clear p7 K1 | ((first | refine hA ?_ | refine hB ?_); clear hA hB A B) | (((first | (refine ⟨fun hg => hA ?_, fun hg => hB ?_⟩ <;> clear hA hB A B) | refine ⟨fun hg => ?_, fun hg => ?_⟩) <;> (try simp only [BN2] at hg) <;> (try simp only [hg, cndB])) <;> (try (refine p7 _ ?_; clear p7 K1)) <;> (try simp only [BN3] at hg))) | refine b6 fun K hK => ?_ | ((first | apply c8 | apply b8 | apply a9 | refine d5 ?_ | apply b7 | apply c9 | apply d4 | apply d7); try simp only [NB, simprocAttr]))
    all_goals refine ⟨hlt, trivial, ?_⟩
    all_goals simp only [hst]
    all_goals refine ⟨rfl, ⟨[], by simp only [List.append_nil]⟩, ?_, trivial⟩
    all_goals simp only [S5, y6, q6, A6, frL, U9, S1, simprocAttr, P3, List.length_map, Int.natCast_zero, AV.p.injEq, PV.int.injEq, PV.bool.injEq, PV.sl.injEq] <;> (try and_intros) <;> (try assumption) <;> (try trivial) <;> (try omega)
    all_goals exact j6 _ _
  · obtain rfl : i = 40 := by omega
    repeat' (first | ((repeat ((fail_if_success (refine hK _ ?_)); clear hK K)); refine hK _ ?_; clear hK K) | ((first | refine d8 fun K1 p7 => ?_ | refine d6 fun K1 p7 => ?_ | refine b5 fun A B hA hB => ?_); simp only [S1, simprocAttr, P3]; first | refine p7 _ ?_; clear p7 K1 | ((first | refine hA ?_ | refine hB ?_); clear hA hB A B) | (((first | (refine ⟨fun hg => hA ?_, fun hg => hB ?_⟩ <;> clear hA hB A B) | refine ⟨fun hg => ?_, fun hg => ?_⟩) <;> (try simp only [BN2] at hg) <;> (try simp only [hg, cndB])) <;> (try (refine p7 _ ?_; clear p7 K1)) <;> (try simp only [BN3] at hg))) | refine b6 fun K hK => ?_ | ((first | apply c8 | apply b8 | apply a9 | refine d5 ?_ | apply b7 | apply c9 | apply d4 | apply d7); try simp only [NB, simprocAttr]))
    all_goals simp only [S1, simprocAttr, ENB, P3]
theorem kL (k : Nd) (m : Int) (H : Heap) {r g : Nat} (hr : H[r]? = some (some ⟨g, [.i m]⟩)) : f9 Tryz.prog G 71 [aNd k, .ptr r g 0] H (fun q h' => q = .b (k.kind == 8 && k.a == m) ∧ h' = H) := by
  have hrL := D5 hr
  cases e : (k.kind == 8) with
  | false =>
    refine d9 (rl := []) i6 Tryz.func71 rfl (rs := [.tmp 3]) rfl Tryz.ntmps71 (by simp) ?_
    repeat' (first | ((repeat ((fail_if_success (refine hK _ ?_)); clear hK K)); refine hK _ ?_; clear hK K) | ((first | refine d8 fun K1 p7 => ?_ | refine d6 fun K1 p7 => ?_ | refine b5 fun A B hA hB => ?_); simp only [S1, simprocAttr, P3, hr, hrL, e]; first | refine p7 _ ?_; clear p7 K1 | ((first | refine hA ?_ | refine hB ?_); clear hA hB A B) | (refine g8 (v := ?_) (fun hg p8 => ?_) ?_; rotate_left; (focus (try ((try simp only [BN] at hg); simp only [S1, simprocAttr, P3, hr, hrL, e, hg] at p8 ⊢)); first | exact p8); refine p7 _ ?_; clear p7 K1) | (((first | (refine ⟨fun hg => hA ?_, fun hg => hB ?_⟩ <;> clear hA hB A B) | refine ⟨fun hg => ?_, fun hg => ?_⟩) <;> (try simp only [BN2] at hg) <;> (try simp only [hg, cndB])) <;> (try (refine p7 _ ?_; clear p7 K1)) <;> (try simp only [BN3] at hg))) | refine b6 fun K hK => ?_ | ((first | apply c8 | apply b8 | apply a9 | refine d5 ?_ | apply b7 | apply c9 | apply d4 | apply d7); try simp only [NB, simprocAttr]))
    all_goals simp only [S1, simprocAttr, ENB, P3]
    all_goals rfl
  | true =>
    refine d9 (rl := []) i6 Tryz.func71 rfl (rs := [.tmp 3]) rfl Tryz.ntmps71 (by simp) ?_
    repeat' (first | ((repeat ((fail_if_success (refine hK _ ?_)); clear hK K)); refine hK _ ?_; clear hK K) | ((first | refine d8 fun K1 p7 => ?_ | refine d6 fun K1 p7 => ?_ | refine b5 fun A B hA hB => ?_); simp only [S1, simprocAttr, P3, hr, hrL, e]; first | refine p7 _ ?_; clear p7 K1 | ((first | refine hA ?_ | refine hB ?_); clear hA hB A B) | (refine g8 (v := ?_) (fun hg p8 => ?_) ?_; rotate_left; (focus (try ((try simp only [BN] at hg); simp only [S1, simprocAttr, P3, hr, hrL, e, hg] at p8 ⊢)); first | exact p8); refine p7 _ ?_; clear p7 K1) | (((first | (refine ⟨fun hg => hA ?_, fun hg => hB ?_⟩ <;> clear hA hB A B) | refine ⟨fun hg => ?_, fun hg => ?_⟩) <;> (try simp only [BN2] at hg) <;> (try simp only [hg, cndB])) <;> (try (refine p7 _ ?_; clear p7 K1)) <;> (try simp only [BN3] at hg))) | refine b6 fun K hK => ?_ | ((first | apply c8 | apply b8 | apply a9 | refine d5 ?_ | apply b7 | apply c9 | apply d4 | apply d7); try simp only [NB, simprocAttr]))
    all_goals simp only [S1, simprocAttr, ENB, P3]
    all_goals rfl
theorem jF {α : Type} (p : α → Bool) : ∀ (l : List α) (i : Nat), decide (0 ≤ G2 p l i) = l.any p
  | [], i => rfl
  | k :: r, i => by
    unfold G2
    cases h : p k with
    | true => simp [h]
    | false => simp [h, jF p r (i + 1)]
theorem fy {f : FuncId} (hE : j5 Tryz.prog f) {caps : List AV} {p : Nd → Bool} (ks : List Nd) (hl : ks.length ≤ 100) (h : Heap) (hcap : q6 h.length caps)
    (hc : ∀ k ∈ ks, f9 Tryz.prog G f (aNd k :: caps) h (fun r h' => r = .b (p k) ∧ h' = h)) :
    f9 Tryz.prog G 70 [.p (.sl (ks.map eN)), .fn f caps] h (fun r h' => r = .b (ks.any p) ∧ h' = h) := by
  rw [← jF p ks 0]
  refine d9 (rl := []) i6 Tryz.func70 rfl (rs := [.tmp 4]) rfl Tryz.ntmps70 (by simp) ?_
  repeat' (first | ((repeat ((fail_if_success (refine hK _ ?_)); clear hK K)); refine hK _ ?_; clear hK K) | ((first | refine d8 fun K1 p7 => ?_ | refine d6 fun K1 p7 => ?_ | refine b5 fun A B hA hB => ?_); simp only [S1, simprocAttr, P3]; first | refine p7 _ ?_; clear p7 K1 | ((first | refine hA ?_ | refine hB ?_); clear hA hB A B) | ((first | apply b9 E49 | apply c7 E49); exact (Z5 hE ks hl _ hcap hc); refine p7 _ ?_; clear p7 K1) | (((first | (refine ⟨fun hg => hA ?_, fun hg => hB ?_⟩ <;> clear hA hB A B) | refine ⟨fun hg => ?_, fun hg => ?_⟩) <;> (try simp only [BN2] at hg) <;> (try simp only [hg, cndB])) <;> (try (refine p7 _ ?_; clear p7 K1)) <;> (try simp only [BN3] at hg))) | refine b6 fun K hK => ?_ | ((first | apply c8 | apply b8 | apply a9 | refine d5 ?_ | apply b7 | apply c9 | apply d4 | apply d7); try simp only [NB, simprocAttr]))
  simp only [S1, simprocAttr, ENB, P3]
theorem kM (ns : List Nd) (fl : List Fl) (hl : ns.length ≤ 100) (m : Nat) (hm : m < 4) (h : Heap) : f9 Tryz.prog G 40 [N5 ns fl, .i m] h (fun r h' => r = .b (bD ns m) ∧ h' = h) := by
  have m0 : decide ((0 : Int) ≤ (m : Int)) = true := by simp
  have m4 : decide ((m : Int) < 4) = true := by simp; omega
  have hA : ∀ A : Option Blk, ∀ k ∈ ns, f9 Tryz.prog G 71 [aNd k, .ptr (h.length + 1) 0 0] (h ++ [A, some ⟨0, [.i m]⟩]) (fun q h' => q = .b (k.kind == 8 && k.a == m) ∧ h' = h ++ [A, some ⟨0, [.i m]⟩]) :=
    fun A k _ => kL k m _ (by rw [q7]; rfl)
  have hcn := fun A : Option Blk => fy (G := G) E71 (caps := [.ptr (h.length + 1) 0 0]) (p := fun k => k.kind == 8 && k.a == m) ns hl (h ++ [A, some ⟨0, [.i m]⟩]) ⟨by simp [y6], trivial⟩ (hA A)
  have ea : (ns.any fun k => k.kind == 8 && k.a == m) = bD ns m := rfl
  rw [← ea]
  refine d9 (rl := []) i6 Tryz.func40 rfl (rs := [.tmp 4]) rfl Tryz.ntmps40 (by simp) ?_
  repeat' (first | ((repeat ((fail_if_success (refine hK _ ?_)); clear hK K)); refine hK _ ?_; clear hK K) | ((first | refine d8 fun K1 p7 => ?_ | refine d6 fun K1 p7 => ?_ | refine b5 fun A B hA hB => ?_); simp only [S1, simprocAttr, P3, m0, m4, List.length_map]; first | refine p7 _ ?_; clear p7 K1 | ((first | refine hA ?_ | refine hB ?_); clear hA hB A B) | ((first | apply b9 E70 | apply c7 E70); exact (hcn _); refine p7 _ ?_; clear p7 K1) | (refine g8 (v := ?_) (fun hg p8 => ?_) ?_; rotate_left; (focus (try ((try simp only [BN] at hg); simp only [S1, simprocAttr, P3, m0, m4, List.length_map, hg] at p8 ⊢)); first | exact p8 | ((first | apply b9 E70 | apply c7 E70); exact (hcn _); exact p8)); refine p7 _ ?_; clear p7 K1) | (((first | (refine ⟨fun hg => hA ?_, fun hg => hB ?_⟩ <;> clear hA hB A B) | refine ⟨fun hg => ?_, fun hg => ?_⟩) <;> (try simp only [BN2] at hg) <;> (try simp only [hg, cndB])) <;> (try (refine p7 _ ?_; clear p7 K1)) <;> (try simp only [BN3] at hg))) | refine b6 fun K hK => ?_ | ((first | apply c8 | apply b8 | apply a9 | refine d5 ?_ | apply b7 | apply c9 | apply d4 | apply d7); try simp only [NB, simprocAttr]))
  all_goals simp only [S1, simprocAttr, ENB, P3]
end
section
def dn := And.intro T2 (And.intro T3 (And.intro T4 (And.intro T22 (And.intro T23 (And.intro T25 (And.intro T26 (And.intro T27 (And.intro T34 (And.intro T46 (And.intro T53 (And.intro T68 (And.intro T70 (And.intro T73 (And.intro T79 (And.intro T80 (And.intro fq (And.intro fu gp)))))))))))))))))
attribute [local irreducible] awp q9 m7 n7 r5 q8
theorem B9 {P : Program} {G : Nat → Option (List PV)} {rl : List String} {h0 : Heap} {id : Nat} {ops : Array Oper} {Q : Exit → St → Prop} {fr : Nat → Option AV} {nt : Nat} {hp : Heap} (ord : List Nat) (hl : ord.length = ops.size) (hn : ops.toList.all (fun o => !r6 o) = true) (hr : (zsB P ops).length = 0) {fs : List Nat} (hB : dD .any ops fs ord (Array.replicate ops.size false) = true)
    (h : r5 P G rl ops fs hp.length 0 (Q .normal) ord ⟨fr, nt, hp ++ List.replicate 0 (some ⟨0, []⟩)⟩) : awp P G rl h0 (.region id ops true) Q ⟨fr, nt, hp⟩ := p6 ord 0 hl hr hB h
def fi (fl : List Fl) (l : List Int) : Int := ((l.filter (z7 fl)).getLast?).getD (-1)
theorem oq {fl : List Fl} {l : List Int} {j : Nat} {f : Int} (h : l[j]? = some f) : fi fl (l.take (j + 1)) = if z7 fl f = true then f else fi fl (l.take j) := by
  unfold fi
  rw [List.take_add_one, h, List.filter_append]
  cases he : z7 fl f with
  | true => simp [he]
  | false => simp [he]
theorem jG {fl : List Fl} : ∀ {l : List Int}, l.countP (z7 fl) = 1 → fi fl l = chE fl l
  | [], h => by simp at h
  | f :: r, h => by
    unfold chE
    by_cases he : z7 fl f = true
    · rw [if_pos he]
      have h0 : r.countP (z7 fl) = 0 := by rw [List.countP_cons_of_pos he] at h; omega
      have h1 : r.filter (z7 fl) = [] := by
        rw [← List.length_eq_zero_iff, ← List.countP_eq_length_filter]; exact h0
      unfold fi
      rw [List.filter_cons_of_pos he, h1]; rfl
    · rw [if_neg he]
      rw [List.countP_cons_of_neg he] at h
      rw [← jG h]
      unfold fi
      rw [List.filter_cons_of_neg he]
theorem Right.els1 {ns : List Nd} {fl : List Fl} (h : Right ns fl) {i : Nat} {k : Nd} (hc : ns[i]? = some k) (h5 : k.kind = 5) (hn : (k3 fl i).length ≠ 1) : (k3 fl i).countP (z7 fl) = 1 := by
  have hi := (List.getElem?_eq_some_iff.mp hc).1
  have := h.three hi
  unfold C8 at this
  simp only [N9 hc, h5] at this
  simp only [Int.reduceEq, reduceIte, Bool.or_eq_true, Bool.and_eq_true, beq_iff_eq, decide_eq_true_eq] at this
  rcases this with h | h
  · have h2 := h.2
    unfold Z7 at h2
    rwa [List.take_length] at h2
  · exact absurd h.2 hn
theorem R8 {ns : List Nd} {fl : List Fl} {S : List Int} {lb n e bt : Nat} {z : Option (List PV)} : P8 ⟨.slice e, 1, bt, z⟩ ((gmC ns fl S lb n).drop 1) = some (.p (.sl (fl.map eF))) := rfl
theorem ot {h : Heap} {b lb : Nat} {ns : List Nd} {fl : List Fl} (nk : NetOk ns fl) {S : List Int} {l : List Sp} (ok : GmOk h b lb S l) (st : StOk S) (few : l.length ≤ 900000) (i : Int) (ins outs : List Int) (hi : InF ins) (ho : InF outs) (hof : ∀ x ∈ outs, ∃ i : Nat, x = (i : Int) ∧ i < fl.length)
    (hz : outs.length ≠ 1 → tk S (ins.headD 0) ≠ 0) (hels : outs.length ≠ 1 → outs.countP (z7 fl) = 1) :
    f9 Tryz.prog gW 67 [.ptr b 0 0, .i i, aI ins, aI outs] (m3 h b lb ns fl S l) (fun r h' => r = .undef ∧ h' = m3 h b lb ns fl S (l ++ P1 fl S i ins outs)) := by
  have hb := ok.hb
  have hl := ok.hl
  have hne := ok.ne
  have hS := ok.held.1
  have gl := v4 (ns := ns) (fl := fl) (lb := lb) (n := l.length) hS
  have gv := D4 (ns := ns) (fl := fl) (lb := lb) (n := l.length) hS
  obtain ⟨m2, hm2, ht2⟩ := nk.tf
  by_cases h1 : outs.length = 1
  · have h1' : ((outs.length : Int) == 1) = true := by simp [h1]
    let acc := fun j => (ins.take j).flatMap fun f => p9 S ⟨i, f, 0, 0, 0, S⟩ [f] outs
    have hal : ∀ j, (acc j).length ≤ j := by
      intro j
      induction j with
      | zero => simp [acc]
      | succ j ih =>
        rcases Nat.lt_or_ge j ins.length with hj | hj
        · have e : ins.take (j + 1) = ins.take j ++ [ins[j]] := by rw [List.take_add_one, List.getElem?_eq_getElem hj]; rfl
          simp only [acc] at ih ⊢
          rw [e, List.flatMap_append, List.length_append]
          have := A2 S ⟨i, ins[j], 0, 0, 0, S⟩ [ins[j]] outs
          simp only [List.flatMap_cons, List.flatMap_nil, List.append_nil]
          omega
        · have e : ins.take (j + 1) = ins.take j := by rw [List.take_of_length_le (by omega), List.take_of_length_le hj]
          simp only [acc] at ih ⊢
          rw [e]; omega
    have hto : ∀ j, ∀ y ∈ acc j, y.to.length = 49 := by
      intro j y hy
      obtain ⟨f, _, hy⟩ := List.mem_flatMap.mp hy
      exact x7 hS hS y hy
    have eg : P1 fl S i ins outs = acc ins.length := by unfold P1; rw [if_pos h1]; simp only [acc, List.take_length]
    rw [eg]
    have hil := hi.1
    refine j8 (rl := []) i6 Tryz.func67 rfl (rs := []) rfl Tryz.ntmps67 (by simp) ?_
    repeat' (first | ((repeat ((fail_if_success (refine hK _ ?_)); clear hK K)); refine hK _ ?_; clear hK K) | ((first | refine d8 fun K1 p7 => ?_ | refine d6 fun K1 p7 => ?_ | refine b5 fun A B hA hB => ?_); simp only [S1, simprocAttr, dn, h1', TSz, i8, i7, j3, PGB, n6 hb hne, k9 hl, l6 hb hne, j9 hl, gmB, spB, gl]; first | refine p7 _ ?_; clear p7 K1 | ((first | refine hA ?_ | refine hB ?_); clear hA hB A B) | (((first | (refine ⟨fun hg => hA ?_, fun hg => hB ?_⟩ <;> clear hA hB A B) | refine ⟨fun hg => ?_, fun hg => ?_⟩) <;> (try simp only [BN2] at hg) <;> (try simp only [hg, cndB])) <;> (try (refine p7 _ ?_; clear p7 K1)) <;> (try simp only [BN3] at hg))) | refine b6 fun K hK => ?_ | ((first | apply c8 | apply b8 | apply a9 | refine d5 ?_ | apply b7 | apply c9 | apply d4 | apply d7); try simp only [NB, simprocAttr]))
    refine S6 ins.length 84 (fun j => m3 h b lb ns fl S (l ++ acc j)) (fun j => [(20, .i j), (19, .i ins.length), (18, aI ins), (3, aI outs), (1, .i i), (0, .ptr b 0 0)]) (fun j => []) (fun j => True) (fun j => ⟨by rw [j7, j7], aa hl⟩) ?_ trivial fun j hj hp K hK => ?_
    · have e0 : acc 0 = [] := by simp [acc]
      simp only [e0, List.append_nil]
      refine ⟨rfl, ⟨[], by simp only [List.append_nil]⟩, ?_, trivial⟩
      simp only [S1, simprocAttr, KNB, j7] <;> (try and_intros) <;> (try assumption) <;> (try trivial) <;> (try omega)
    have okj : GmOk h b lb S (l ++ acc j) := ok.app (hto j) (by have := hal j; omega)
    rcases Nat.lt_or_ge j ins.length with hlt | hge
    · obtain ⟨f, hfj⟩ : ∃ f, ins[j]? = some f := ⟨_, List.getElem?_eq_getElem hlt⟩
      have hf1 : InF [f] := ⟨by simp, fun g hg => by rw [List.mem_singleton.mp hg]; exact hi.2 f (List.mem_of_getElem? hfj)⟩
      have es := F4 hS (m := ⟨i, f, 0, 0, 0, S⟩) (Chg.id hS) hf1 ho
      have ea : acc (j + 1) = acc j ++ p9 S ⟨i, f, 0, 0, 0, S⟩ [f] outs := by
        simp only [acc]
        rw [List.take_add_one, hfj, List.flatMap_append]; simp
      have ea' : l ++ acc (j + 1) = (l ++ acc j) ++ stF S ⟨i, f, 0, 0, 0, S⟩ (fun T => T) [f] outs := by rw [ea, List.append_assoc, es]
      generalize hlj : l ++ acc j = lj at ea' okj ⊢
      repeat' (first | ((repeat ((fail_if_success (refine hK _ ?_)); clear hK K)); refine hK _ ?_; clear hK K) | ((first | refine d8 fun K1 p7 => ?_ | refine d6 fun K1 p7 => ?_ | refine b5 fun A B hA hB => ?_); simp only [S1, simprocAttr, dn, C2 hfj, I3 hlt, D9 (by omega) hlt, TSz, i8, i7, j3, PGB, n6 hb hne, k9 hl, l6 hb hne, j9 hl, gmB, spB, gl]; first | refine p7 _ ?_; clear p7 K1 | ((first | refine hA ?_ | refine hB ?_); clear hA hB A B) | ((first | apply b9 E41 | apply c7 E41); exact (dj okj ⟨i, f, 0, 0, 0, S⟩ [f] outs hf1 ho); refine p7 _ ?_; clear p7 K1) | (((first | (refine ⟨fun hg => hA ?_, fun hg => hB ?_⟩ <;> clear hA hB A B) | refine ⟨fun hg => ?_, fun hg => ?_⟩) <;> (try simp only [BN2] at hg) <;> (try simp only [hg, cndB])) <;> (try (refine p7 _ ?_; clear p7 K1)) <;> (try simp only [BN3] at hg))) | refine b6 fun K hK => ?_ | ((first | apply c8 | apply b8 | apply a9 | refine d5 ?_ | apply b7 | apply c9 | apply d4 | apply d7); try simp only [NB, simprocAttr]))
      all_goals refine ⟨hlt, trivial, ?_⟩
      all_goals simp only [ea']
      all_goals refine ⟨rfl, ⟨[], by simp only [List.append_nil]⟩, ?_, trivial⟩
      all_goals simp only [S1, simprocAttr, KNB, j7] <;> (try and_intros) <;> (try assumption) <;> (try trivial) <;> (try omega)
    · obtain rfl : j = ins.length := by omega
      repeat' (first | ((repeat ((fail_if_success (refine hK _ ?_)); clear hK K)); refine hK _ ?_; clear hK K) | ((first | refine d8 fun K1 p7 => ?_ | refine d6 fun K1 p7 => ?_ | refine b5 fun A B hA hB => ?_); simp only [S1, simprocAttr, dn, D6]; first | refine p7 _ ?_; clear p7 K1 | ((first | refine hA ?_ | refine hB ?_); clear hA hB A B) | (((first | (refine ⟨fun hg => hA ?_, fun hg => hB ?_⟩ <;> clear hA hB A B) | refine ⟨fun hg => ?_, fun hg => ?_⟩) <;> (try simp only [BN2] at hg) <;> (try simp only [hg, cndB])) <;> (try (refine p7 _ ?_; clear p7 K1)) <;> (try simp only [BN3] at hg))) | refine b6 fun K hK => ?_ | ((first | apply c8 | apply b8 | apply a9 | refine d5 ?_ | apply b7 | apply c9 | apply d4 | apply d7); try simp only [NB, simprocAttr]))
      all_goals simp only [S1, simprocAttr, ENB, y8, y1, j7, m8, l8] <;> first | exact i5 hl | exact ⟨i5 hl, rfl⟩ | exact ⟨i5 hl, rfl, rfl⟩
  have h1' : ((outs.length : Int) == 1) = false := by simp; omega
  have hol := ho.1
  have hels := hels h1
  have hz := hz h1
  refine j8 (rl := []) i6 Tryz.func67 rfl (rs := []) rfl Tryz.ntmps67 (by simp) ?_
  repeat' (first | ((repeat ((fail_if_success (refine hK _ ?_)); clear hK K)); refine hK _ ?_; clear hK K) | ((first | refine d8 fun K1 p7 => ?_ | refine d6 fun K1 p7 => ?_ | refine b5 fun A B hA hB => ?_); simp only [S1, simprocAttr, dn, h1', TSz, i8, i7, j3, PGB, n6 hb hne, k9 hl, l6 hb hne, j9 hl, gmB, spB, gl]; first | refine p7 _ ?_; clear p7 K1 | ((first | refine hA ?_ | refine hB ?_); clear hA hB A B) | (((first | (refine ⟨fun hg => hA ?_, fun hg => hB ?_⟩ <;> clear hA hB A B) | refine ⟨fun hg => ?_, fun hg => ?_⟩) <;> (try simp only [BN2] at hg) <;> (try simp only [hg, cndB])) <;> (try (refine p7 _ ?_; clear p7 K1)) <;> (try simp only [BN3] at hg))) | refine b6 fun K hK => ?_ | ((first | apply c8 | apply b8 | apply a9 | refine d5 ?_ | apply b7 | apply c9 | apply d4 | apply d7); try simp only [NB, simprocAttr]))
  refine s5 outs.length 84 (fun j => [(35, .i j), (34, .i outs.length), (33, aI outs), (10, .i (fi fl (outs.take j))), (2, aI ins), (1, .i i), (0, .ptr b 0 0)]) (fun j => []) (fun j => chF fl (vS S) outs = chF fl (vS S) (outs.drop j)) ?_ rfl fun j hj hp K hK => ?_
  · refine ⟨rfl, ⟨[], by simp only [List.append_nil]⟩, ?_, trivial⟩
    have e0 : fi fl (outs.take 0) = -1 := rfl
    simp only [e0]
    simp only [S1, simprocAttr, KNB, j7] <;> (try and_intros) <;> (try assumption) <;> (try trivial) <;> (try omega)
  rcases Nat.lt_or_ge j outs.length with hlt | hge
  · obtain ⟨f, hf⟩ : ∃ f, outs[j]? = some f := ⟨_, List.getElem?_eq_getElem hlt⟩
    obtain ⟨q, rfl, hq⟩ := hof f (List.mem_of_getElem? hf)
    obtain ⟨x, hx⟩ : ∃ x, fl[q]? = some x := ⟨_, List.getElem?_eq_getElem hq⟩
    have hx' := I8 hx
    have q0 : (0 : Int) ≤ (q : Int) := by omega
    have ht := fun h => mt (ht2 x (List.mem_of_getElem? hx)) (vS S) kJ h
    have hee : z7 fl (q : Int) = x.els := by unfold z7; rw [Int.toNat_natCast, hx]
    have hls := oq (fl := fl) hf
    rw [hee] at hls
    rw [mu hf, Int.toNat_natCast, hx] at hp
    simp only at hp
    cases he : x.els with
    | true =>
      rw [he, if_pos rfl] at hp hls
      repeat' (first | ((repeat ((fail_if_success (refine hK _ ?_)); clear hK K)); refine hK _ ?_; clear hK K) | ((first | refine d8 fun K1 p7 => ?_ | refine d6 fun K1 p7 => ?_ | refine b5 fun A B hA hB => ?_); simp only [S1, simprocAttr, dn, C2 hf, I3 hlt, D9 (by omega) hlt, q0, hx', eF, he, R8, gL, TSz, i8, i7, j3, PGB, n6 hb hne, k9 hl, l6 hb hne, j9 hl, gmB, spB, gl]; first | refine p7 _ ?_; clear p7 K1 | ((first | refine hA ?_ | refine hB ?_); clear hA hB A B) | (((first | (refine ⟨fun hg => hA ?_, fun hg => hB ?_⟩ <;> clear hA hB A B) | refine ⟨fun hg => ?_, fun hg => ?_⟩) <;> (try simp only [BN2] at hg) <;> (try simp only [hg, cndB])) <;> (try (refine p7 _ ?_; clear p7 K1)) <;> (try simp only [BN3] at hg))) | refine b6 fun K hK => ?_ | ((first | apply c8 | apply b8 | apply a9 | refine d5 ?_ | apply b7 | apply c9 | apply d4 | apply d7); try simp only [NB, simprocAttr]))
      all_goals refine ⟨hlt, hp, ?_⟩
      all_goals simp only [hls]
      all_goals refine ⟨rfl, ⟨[], by simp only [List.append_nil]⟩, ?_, trivial⟩
      all_goals simp only [S1, simprocAttr, KNB, j7] <;> (try and_intros) <;> (try assumption) <;> (try trivial) <;> (try omega)
    | false =>
      rw [he, if_neg (by decide)] at hp hls
      by_cases h0 : (P0 x.cond (vS S)).2 = 0
      · have h0' : ((P0 x.cond (vS S)).2 != 0) = false := by simp [h0]
        rw [if_neg (by simpa using h0)] at hp
        cases hb2 : (P0 x.cond (vS S)).1 with
        | true =>
          rw [hb2, if_pos rfl] at hp
          have ec : s6 fl (vS S) outs = ((q : Int), 0) := by unfold s6; rw [hp]; rfl
          have hf1 : InF [(q : Int)] := ⟨by simp, fun g hg => by rw [List.mem_singleton.mp hg]; exact ho.2 _ (List.mem_of_getElem? hf)⟩
          have es := F4 hS (m := ⟨i, q, 0, 0, 0, S⟩) (Chg.id hS) hi hf1
          have eg : P1 fl S i ins outs = stF S ⟨i, q, 0, 0, 0, S⟩ (fun T => T) ins [(q : Int)] := by
            unfold P1; rw [if_neg h1, if_neg hz, ec, if_neg (by simp), es]
          repeat' (first | ((repeat ((fail_if_success (refine hK _ ?_)); clear hK K)); refine hK _ ?_; clear hK K) | ((first | refine d8 fun K1 p7 => ?_ | refine d6 fun K1 p7 => ?_ | refine b5 fun A B hA hB => ?_); simp only [S1, simprocAttr, dn, C2 hf, I3 hlt, D9 (by omega) hlt, q0, hx', eF, he, h0', hb2, gv, R8, gL, TSz, i8, i7, j3, PGB, n6 hb hne, k9 hl, l6 hb hne, j9 hl, gmB, spB, gl]; first | refine p7 _ ?_; clear p7 K1 | ((first | refine hA ?_ | refine hB ?_); clear hA hB A B) | ((first | apply b9 E86 | apply c7 E86); exact (ht _); refine p7 _ ?_; clear p7 K1) | ((first | apply b9 E41 | apply c7 E41); exact (dj ok ⟨i, q, 0, 0, 0, S⟩ ins [(q : Int)] hi hf1); refine p7 _ ?_; clear p7 K1) | (((first | (refine ⟨fun hg => hA ?_, fun hg => hB ?_⟩ <;> clear hA hB A B) | refine ⟨fun hg => ?_, fun hg => ?_⟩) <;> (try simp only [BN2] at hg) <;> (try simp only [hg, cndB])) <;> (try (refine p7 _ ?_; clear p7 K1)) <;> (try simp only [BN3] at hg))) | refine b6 fun K hK => ?_ | ((first | apply c8 | apply b8 | apply a9 | refine d5 ?_ | apply b7 | apply c9 | apply d4 | apply d7); try simp only [NB, simprocAttr]))
          all_goals rw [eg]
          all_goals simp only [S1, simprocAttr, ENB, y8, y1, j7, m8, l8] <;> first | exact i5 hl | exact ⟨i5 hl, rfl⟩ | exact ⟨i5 hl, rfl, rfl⟩
        | false =>
          rw [hb2, if_neg (by decide)] at hp
          repeat' (first | ((repeat ((fail_if_success (refine hK _ ?_)); clear hK K)); refine hK _ ?_; clear hK K) | ((first | refine d8 fun K1 p7 => ?_ | refine d6 fun K1 p7 => ?_ | refine b5 fun A B hA hB => ?_); simp only [S1, simprocAttr, dn, C2 hf, I3 hlt, D9 (by omega) hlt, q0, hx', eF, he, h0', hb2, gv, R8, gL, TSz, i8, i7, j3, PGB, n6 hb hne, k9 hl, l6 hb hne, j9 hl, gmB, spB, gl]; first | refine p7 _ ?_; clear p7 K1 | ((first | refine hA ?_ | refine hB ?_); clear hA hB A B) | ((first | apply b9 E86 | apply c7 E86); exact (ht _); refine p7 _ ?_; clear p7 K1) | (((first | (refine ⟨fun hg => hA ?_, fun hg => hB ?_⟩ <;> clear hA hB A B) | refine ⟨fun hg => ?_, fun hg => ?_⟩) <;> (try simp only [BN2] at hg) <;> (try simp only [hg, cndB])) <;> (try (refine p7 _ ?_; clear p7 K1)) <;> (try simp only [BN3] at hg))) | refine b6 fun K hK => ?_ | ((first | apply c8 | apply b8 | apply a9 | refine d5 ?_ | apply b7 | apply c9 | apply d4 | apply d7); try simp only [NB, simprocAttr]))
          all_goals refine ⟨hlt, hp, ?_⟩
          all_goals simp only [hls]
          all_goals refine ⟨rfl, ⟨[], by simp only [List.append_nil]⟩, ?_, trivial⟩
          all_goals simp only [S1, simprocAttr, KNB, j7] <;> (try and_intros) <;> (try assumption) <;> (try trivial) <;> (try omega)
      · have h0' : ((P0 x.cond (vS S)).2 != 0) = true := by simp [h0]
        rw [if_pos h0] at hp
        have ec : s6 fl (vS S) outs = (0, (P0 x.cond (vS S)).2) := by unfold s6; rw [hp]; rfl
        have eg : P1 fl S i ins outs = [u4 S i (P0 x.cond (vS S)).2] := by
          unfold P1; rw [if_neg h1, if_neg hz, ec, if_pos h0]
        repeat' (first | ((repeat ((fail_if_success (refine hK _ ?_)); clear hK K)); refine hK _ ?_; clear hK K) | ((first | refine d8 fun K1 p7 => ?_ | refine d6 fun K1 p7 => ?_ | refine b5 fun A B hA hB => ?_); simp only [S1, simprocAttr, dn, C2 hf, I3 hlt, D9 (by omega) hlt, q0, hx', eF, he, h0', gv, R8, gL, TSz, i8, i7, j3, PGB, n6 hb hne, k9 hl, l6 hb hne, j9 hl, gmB, spB, gl]; first | refine p7 _ ?_; clear p7 K1 | ((first | refine hA ?_ | refine hB ?_); clear hA hB A B) | ((first | apply b9 E86 | apply c7 E86); exact (ht _); refine p7 _ ?_; clear p7 K1) | ((first | apply b9 E65 | apply c7 E65); exact (dl ok i (P0 x.cond (vS S)).2); refine p7 _ ?_; clear p7 K1) | (((first | (refine ⟨fun hg => hA ?_, fun hg => hB ?_⟩ <;> clear hA hB A B) | refine ⟨fun hg => ?_, fun hg => ?_⟩) <;> (try simp only [BN2] at hg) <;> (try simp only [hg, cndB])) <;> (try (refine p7 _ ?_; clear p7 K1)) <;> (try simp only [BN3] at hg))) | refine b6 fun K hK => ?_ | ((first | apply c8 | apply b8 | apply a9 | refine d5 ?_ | apply b7 | apply c9 | apply d4 | apply d7); try simp only [NB, simprocAttr]))
        all_goals rw [eg]
        all_goals simp only [S1, simprocAttr, ENB, y8, y1, j7, m8, l8] <;> first | exact i5 hl | exact ⟨i5 hl, rfl⟩ | exact ⟨i5 hl, rfl, rfl⟩
  obtain rfl : j = outs.length := by omega
  rw [List.drop_length] at hp
  have ec : s6 fl (vS S) outs = (chE fl outs, 0) := by unfold s6; rw [hp]; rfl
  have ho1 : chE fl outs ∈ outs := oa (by
    obtain ⟨f, hf, he⟩ := List.countP_pos_iff.mp (by omega : 0 < outs.countP (z7 fl))
    exact ⟨f, hf, he⟩)
  have hf1 : InF [chE fl outs] := ⟨by simp, fun g hg => by rw [List.mem_singleton.mp hg]; exact ho.2 _ ho1⟩
  have es := F4 hS (m := ⟨i, chE fl outs, 0, 0, 0, S⟩) (Chg.id hS) hi hf1
  have eg : P1 fl S i ins outs = stF S ⟨i, chE fl outs, 0, 0, 0, S⟩ (fun T => T) ins [chE fl outs] := by
    unfold P1; rw [if_neg h1, if_neg hz, ec, if_neg (by simp), es]
  have el := jG hels
  rw [List.take_length]
  repeat' (first | ((repeat ((fail_if_success (refine hK _ ?_)); clear hK K)); refine hK _ ?_; clear hK K) | ((first | refine d8 fun K1 p7 => ?_ | refine d6 fun K1 p7 => ?_ | refine b5 fun A B hA hB => ?_); simp only [S1, simprocAttr, dn, D6, el, TSz, i8, i7, j3, PGB, n6 hb hne, k9 hl, l6 hb hne, j9 hl, gmB, spB, gl]; first | refine p7 _ ?_; clear p7 K1 | ((first | refine hA ?_ | refine hB ?_); clear hA hB A B) | ((first | apply b9 E41 | apply c7 E41); exact (dj ok ⟨i, chE fl outs, 0, 0, 0, S⟩ ins [chE fl outs] hi hf1); refine p7 _ ?_; clear p7 K1) | (((first | (refine ⟨fun hg => hA ?_, fun hg => hB ?_⟩ <;> clear hA hB A B) | refine ⟨fun hg => ?_, fun hg => ?_⟩) <;> (try simp only [BN2] at hg) <;> (try simp only [hg, cndB])) <;> (try (refine p7 _ ?_; clear p7 K1)) <;> (try simp only [BN3] at hg))) | refine b6 fun K hK => ?_ | ((first | apply c8 | apply b8 | apply a9 | refine d5 ?_ | apply b7 | apply c9 | apply d4 | apply d7); try simp only [NB, simprocAttr]))
  all_goals rw [eg]
  all_goals simp only [S1, simprocAttr, ENB, y8, y1, j7, m8, l8] <;> first | exact i5 hl | exact ⟨i5 hl, rfl⟩ | exact ⟨i5 hl, rfl, rfl⟩
end
section
def pm := And.intro T2 (And.intro T3 (And.intro T4 (And.intro T22 (And.intro T23 (And.intro T25 (And.intro T26 (And.intro T27 (And.intro T34 (And.intro T46 (And.intro T53 (And.intro T68 (And.intro T70 (And.intro T73 (And.intro T79 (And.intro T80 (And.intro T83 (And.intro fq (And.intro fu (And.intro jZ gp)))))))))))))))))))
attribute [local irreducible] awp q9 m7 n7 r5 q8
theorem qx {S : List Int} {f : Int} (h : tk S f = 0) : P6 Q2 [f] S = none := by
  rw [ed]
  unfold Q2
  rw [if_pos (by omega)]; rfl
theorem qy {S : List Int} {x : Sp} {m : Nat} (hm : m < 40) (hS : S.length = 49) (h : tk S (m : Int) = 0) (to : List Int) : p9 S x [(m : Int)] to = [] := by
  unfold p9
  rw [qx (by rw [eb hS hm]; exact h)]
theorem qz {ns : List Nd} {fl : List Fl} {S : List Int} (hS : S.length = 49) {i : Nat} {k : Nd} {m : Nat} (hm : m < 40) (hi : p5 fl i = [(m : Int)]) (h0 : tk S (m : Int) = 0) (hx : k.kind = 5 → (k3 fl i).length ≠ 1) : o7 ns fl S i k = [] := by
  have mz := fun x to => qy (x := x) hm hS h0 to
  have cz : ∀ a b c, s9 ns fl S a b c [(m : Int)] = [] := by
    intro a b c
    unfold s9
    repeat' split
    · rfl
    · exact mz _ _
    · exact mz _ _
  unfold o7
  rw [hi]
  split
  · unfold fg
    split
    · exact mz _ _
    · exact mz _ _
  · split
    · unfold P2; rw [List.headD_cons, if_pos h0]
    · split
      · rename_i h5
        unfold P1; rw [if_neg (hx h5), List.headD_cons, if_pos h0]
      · split
        · exact mz _ _
        · split
          · rw [List.flatMap_eq_nil_iff]
            exact fun x _ => cz _ _ _
          · split
            · exact cz _ _ _
            · rfl
abbrev xB (k : Nd) (a : Nat) : Option Blk := some ⟨0, [.i k.kind, .i a, .i k.term.op, .i k.term.n, .p (.sl (k.term.kids.map eT))]⟩
section
variable {h : Heap} {b lb : Nat} {ns : List Nd} {fl : List Fl} {S : List Int} {l : List Sp}
theorem rZ (k : Nd) {a : Nat} (ha : a < 4) (v : Int) (gr : Nat) (A : Option Blk) (T : List Int) (hT : T.length = 49) : f9 Tryz.prog gW 63 [.ptr (h.length + 2 + 1) 0 0, .ptr (h.length + 1) gr 0, .ptr h.length 0 0] (m3 h b lb ns fl S l ++ ([xB k a, some ⟨gr, [.i v]⟩] ++ [A, some ⟨0, T.map AV.i⟩]))
    (fun r h' => r = .undef ∧ h' = m3 h b lb ns fl S l ++ ([xB k a, some ⟨gr, [.i v]⟩] ++ [A, some ⟨0, (T.set (40 + a) v).map AV.i⟩])) := by
  have := uo (G := gW) (H := m3 h b lb ns fl S l ++ ([xB k a, some ⟨gr, [.i v]⟩] ++ [A, some ⟨0, T.map AV.i⟩])) (c := h.length + 3) (r := h.length + 1) (x := h.length) (gc := 0) (gr := gr) (gx := 0) (by rw [s4]; rfl) hT (by rw [s4]; rfl) ha (by rw [u0]; rfl)
  rw [t6] at this
  exact this
theorem sa (k : Nd) {a : Nat} (ha : a < 4) (v : Int) (gr : Nat) (A : Option Blk) (T : List Int) (hT : T.length = 49) : f9 Tryz.prog gW 66 [.ptr (h.length + 2 + 1) 0 0, .ptr (h.length + 1) gr 0, .ptr h.length 0 0] (m3 h b lb ns fl S l ++ ([xB k a, some ⟨gr, [.i v]⟩] ++ [A, some ⟨0, T.map AV.i⟩]))
    (fun r h' => r = .undef ∧ h' = m3 h b lb ns fl S l ++ ([xB k a, some ⟨gr, [.i v]⟩] ++ [A, some ⟨0, (T.set (40 + a) v).map AV.i⟩])) := by
  have := uq (G := gW) (H := m3 h b lb ns fl S l ++ ([xB k a, some ⟨gr, [.i v]⟩] ++ [A, some ⟨0, T.map AV.i⟩])) (c := h.length + 3) (r := h.length + 1) (x := h.length) (gc := 0) (gr := gr) (gx := 0) (by rw [s4]; rfl) hT (by rw [s4]; rfl) ha (by rw [u0]; rfl)
  rw [t6] at this
  exact this
theorem ou (nk : NetOk ns fl) (rt : Right ns fl) (ok : GmOk h b lb S l) (c : Nat) {k : Nd} (hc : ns[c]? = some k) (m : Nat) (hm : m < 40) (hi : p5 fl c = [(m : Int)]) (h1 : k.kind ≠ 1) (h0 : tk S (m : Int) = 0) :
    f9 Tryz.prog gW 39 [.ptr b 0 0, .i c] (m3 h b lb ns fl S l) (fun r h' => r = .undef ∧ h' = m3 h b lb ns fl S l) := by
  have hb := ok.hb
  have hl := ok.hl
  have hne := ok.ne
  have hS := ok.held.1
  have gl := v4 (ns := ns) (fl := fl) (lb := lb) (n := l.length) hS
  have c0 : (0 : Int) ≤ (c : Int) := by omega
  have hc' := B8 hc
  have hf' : fl.length ≤ 100 := by have := rt.f; omega
  obtain ⟨hv, v0, v3⟩ := ok.held.at hm
  have gk := U2 (ns := ns) (fl := fl) (lb := lb) (n := l.length) hv
  have f0 : (0 : Int) ≤ (m : Int) := by omega
  have f40 : (m : Int) < 40 := by omega
  have hz' : (tk S (m : Int) == 0) = true := by simp [h0]
  have e1 : (k.kind != 1) = true := by simp [h1]
  have hil : (((p5 fl c).length : Int) == 1) = true := by rw [hi]; rfl
  have hi0 : (p5 fl c)[0]? = some (m : Int) := by rw [hi]; rfl
  have hei : eI (m : Int) = [.int .i64 (m : Int)] := rfl
  have hin0 : (0 : Int) ≤ 0 := Int.le_refl 0
  refine j8 (rl := []) i6 Tryz.func39 rfl (rs := []) rfl Tryz.ntmps39 (by simp) ?_
  repeat' (first | ((first | refine c8 ?_ | refine b8 ?_ | refine o5 ?_ | refine m9 ?_); (try simp only [NB])) | ((repeat ((fail_if_success (refine hK _ ?_)); clear hK K)); refine hK _ ?_; clear hK K) | ((first | refine d8 fun K1 p7 => ?_ | refine d6 fun K1 p7 => ?_ | refine o6 rfl rfl rfl fun K1 p7 => ?_ | refine b5 fun A B hA hB => ?_); simp only [S1, simprocAttr, pm, e1, hil, hi0, hei, hin0, f0, f40, gk, hz', c0, hc', eN, i9, k8, TSz, i8, i7, j3, PGB, n6 hb hne, k9 hl, l6 hb hne, j9 hl, gmB, spB, gl]; first | (refine p7 _ ?_; clear p7 K1) | ((first | refine hA ?_ | refine hB ?_); clear hA hB A B) | ((first | apply b9 E62 | apply c7 E62); exact (l9 _ fl hf' _ _); (refine p7 _ ?_; clear p7 K1)) | ((first | apply b9 E29 | apply c7 E29); exact (k4 _ fl hf' _ _); (refine p7 _ ?_; clear p7 K1)) | (refine g8 (v := ?_) (fun hg p8 => ?_) ?_; rotate_left; (focus (try ((try simp only [BN] at hg); simp only [S1, simprocAttr, pm, e1, hil, hi0, hei, hin0, f0, f40, gk, hz', c0, hc', eN, i9, k8, TSz, i8, i7, j3, PGB, n6 hb hne, k9 hl, l6 hb hne, j9 hl, gmB, spB, gl, hg] at p8 ⊢)); first | exact p8 | ((first | apply b9 E62 | apply c7 E62); exact (l9 _ fl hf' _ _); exact p8) | ((first | apply b9 E29 | apply c7 E29); exact (k4 _ fl hf' _ _); exact p8)); (refine p7 _ ?_; clear p7 K1)) | (((first | (refine ⟨fun hg => hA ?_, fun hg => hB ?_⟩ <;> clear hA hB A B) | refine ⟨fun hg => ?_, fun hg => ?_⟩) <;> (try simp only [BN2] at hg) <;> (try simp only [hg, cndB])) <;> (try (refine p7 _ ?_; clear p7 K1)) <;> (try simp only [BN3] at hg))) | ((first | refine t9 (v := ?_) rfl rfl rfl rfl (by decide) (fun R1 K1 p7 => ?_) ?_ | refine t8 (v := ?_) rfl rfl rfl (by decide) (fun K1 p7 => ?_) ?_ | refine r8 (v := ?_) rfl rfl rfl (by decide) (fun K1 p7 => ?_) ?_); rotate_left; (focus (simp only [S1, simprocAttr, pm, e1, hil, hi0, hei, hin0, f0, f40, gk, hz', c0, hc', eN, i9, k8, TSz, i8, i7, j3, PGB, n6 hb hne, k9 hl, l6 hb hne, j9 hl, gmB, spB, gl]; first | (exact p7 _ _ _) | ((first | apply b9 E62 | apply c7 E62); exact (l9 _ fl hf' _ _); exact p7 _ _ _) | ((first | apply b9 E29 | apply c7 E29); exact (k4 _ fl hf' _ _); exact p7 _ _ _)))) | (refine n5 rfl rfl rfl ?_) | ((first | refine i3 (z := ?_) 0 rfl rfl rfl rfl (by decide) rfl ?_ ?_ | refine i3 (z := ?_) 1 rfl rfl rfl rfl (by decide) rfl ?_ ?_ | refine i3 (z := ?_) 2 rfl rfl rfl rfl (by decide) rfl ?_ ?_); rotate_left; (focus (simp only [S1, simprocAttr, pm, e1, hil, hi0, hei, hin0, f0, f40, gk, hz', c0, hc', eN, i9, k8, TSz, i8, i7, j3, PGB, n6 hb hne, k9 hl, l6 hb hne, j9 hl, gmB, spB, gl, u9]; rfl))) | (refine b6 fun K hK => ?_) | (refine p6 [0, 1, 2, 3, 4, 5, 6, 7, 8, 9, 10, 11, 12, 13] 0 (fs := []) rfl (by kernel_rfl) (by kernel_rfl) ?_) | ((first | refine a9 ?_ | refine j4 (by kernel_rfl) ?_ | refine b7 ?_ | refine c9 ?_ | refine d4 ?_ | refine d7 ?_); try simp only [NB, simprocAttr]))
  all_goals simp only [S1, simprocAttr, ENB, y8, y1, j7, m8, l8] <;> first | exact i5 hl | exact ⟨i5 hl, rfl⟩ | exact ⟨i5 hl, rfl, rfl⟩
end
end
section
def L3 := And.intro T2 (And.intro T3 (And.intro T4 (And.intro T22 (And.intro T23 (And.intro T25 (And.intro T26 (And.intro T27 (And.intro T34 (And.intro T46 (And.intro T53 (And.intro T68 (And.intro T70 (And.intro T73 (And.intro T79 (And.intro T80 (And.intro T83 (And.intro fq (And.intro fu (And.intro jZ gp)))))))))))))))))))
attribute [local irreducible] awp q9 m7 n7 r5 q8
section
variable {h : Heap} {b lb : Nat} {ns : List Nd} {fl : List Fl} {S : List Int} {l : List Sp}
theorem bH (nk : NetOk ns fl) (ok : GmOk h b lb S l) (st : StOk S) (few : l.length ≤ 900000) (i : Int) (ins outs : List Int) (hi : InF ins) (ho : InF outs) (hof : ∀ x ∈ outs, ∃ i : Nat, x = (i : Int) ∧ i < fl.length)
    (hz : outs.length ≠ 1 → tk S (ins.headD 0) ≠ 0) (hels : outs.length ≠ 1 → outs.countP (z7 fl) = 1) (L : Heap) :
    f9 Tryz.prog gW 67 [.ptr b 0 0, .i i, aI ins, aI outs] (m3 h b lb ns fl S l ++ L) (fun r h' => r = .undef ∧ h' = m3 h b lb ns fl S (l ++ P1 fl S i ins outs) ++ L) := by
  have := ot nk (ok.ext L) st few i ins outs hi ho hof hz hels
  rwa [K4 ok.hb ok.hl, K4 ok.hb ok.hl] at this
theorem eh {G : Nat → Option (List PV)} (ok : GmOk h b lb S l) (st : StOk S) (m : Sp) (c : Nat) {k : Nd} (hc : ns[c]? = some k) (ha : 0 ≤ k.a ∧ k.a ≤ 4) (fr : List Int) (hfr : InF fr) (to : List Int) (hto : InF to) (he : to = k3 fl c) (L : Heap) :
    f9 Tryz.prog G 68 [.ptr b 0 0, aMv m, .i c, aI fr, aI to] (m3 h b lb ns fl S l ++ L) (fun r h' => r = .undef ∧ h' = m3 h b lb ns fl S (l ++ s9 ns fl S m.node m.arg c fr) ++ L) := by
  have := am (G := G) (ok.ext L) st m c hc ha fr hfr to hto he
  rwa [K4 ok.hb ok.hl, K4 ok.hb ok.hl] at this
theorem cv (ok : GmOk h b lb S l) (m : Sp) (fr : List Int) (hfr : InF fr) (L : Heap) :
    f9 Tryz.prog gW 41 [.ptr b 0 0, aMv m, aI fr, .p .nils, .p .nilf] (m3 h b lb ns fl S l ++ L) (fun r h' => r = .undef ∧ h' = m3 h b lb ns fl S (l ++ stF S m (fun T => T) fr []) ++ L) := by
  have := E0 (G := gW) (ns := ns) (fl := fl) ok m fr [] hfr ⟨by simp, by simp⟩ L
  refine f9.nrm ?_
  have hk := cr fr
  simp only [X2, gA, nrm, hk]
  exact this
theorem qA (ok : GmOk h b lb S l) (m : Sp) (fr : List Int) (hfr : InF fr) (L : Heap) {f : FuncId} (hE : j5 Tryz.prog f) {caps : List AV} (hcap : q6 (h.length + L.length) caps) {chg : List Int → List Int} (hlen : ∀ T : List Int, T.length = 49 → (chg T).length = 49)
    (hC : ∀ (A : Option Blk) (T : List Int), T.length = 49 → T.drop 40 = S.drop 40 → f9 Tryz.prog gW f (.ptr (h.length + L.length + 1) 0 0 :: caps) (m3 h b lb ns fl S l ++ (L ++ [A, some ⟨0, T.map AV.i⟩])) (fun r h' => r = .undef ∧ h' = m3 h b lb ns fl S l ++ (L ++ [A, some ⟨0, (chg T).map AV.i⟩]))) :
    f9 Tryz.prog gW 41 [.ptr b 0 0, aMv m, aI fr, .p .nils, .fn f caps] (m3 h b lb ns fl S l ++ L) (fun r h' => r = .undef ∧ h' = m3 h b lb ns fl S (l ++ stF S m chg fr []) ++ L) := by
  have := U5 (G := gW) (ns := ns) (fl := fl) ok m fr [] hfr ⟨by simp, by simp⟩ L hE hcap hlen hC
  refine f9.nrm ?_
  have hk := cr fr
  simp only [X2, gA, nrm, hk]
  exact this
theorem tt (X Y : Option Blk) (A : Option Blk) (T : List Int) (hT : T.length = 49) : f9 Tryz.prog gW 69 [.ptr (h.length + 2 + 1) 0 0] (m3 h b lb ns fl S l ++ ([X, Y] ++ [A, some ⟨0, T.map AV.i⟩]))
    (fun r h' => r = .undef ∧ h' = m3 h b lb ns fl S l ++ ([X, Y] ++ [A, some ⟨0, (T.set 48 1).map AV.i⟩])) := by
  have := oh (G := gW) (H := m3 h b lb ns fl S l ++ ([X, Y] ++ [A, some ⟨0, T.map AV.i⟩])) (c := h.length + 3) (gc := 0) (by rw [s4]; rfl) hT
  rw [t6] at this
  exact this
theorem sb (nk : NetOk ns fl) (rt : Right ns fl) (ok : GmOk h b lb S l) (st : StOk S) (few : l.length ≤ 900000) (c : Nat) {k : Nd} (hc : ns[c]? = some k) (hk : k.kind = 5) (m : Nat) (hm : m < 40) (hin : p5 fl c = [(m : Int)]) (h0 : tk S (m : Int) ≠ 0) :
    f9 Tryz.prog gW 39 [.ptr b 0 0, .i c] (m3 h b lb ns fl S l) (fun r h' => r = .undef ∧ h' = m3 h b lb ns fl S (l ++ o7 ns fl S c k)) := by
  have hb := ok.hb
  have hl := ok.hl
  have hne := ok.ne
  have hS := ok.held.1
  have gl := v4 (ns := ns) (fl := fl) (lb := lb) (n := l.length) hS
  have gv := D4 (ns := ns) (fl := fl) (lb := lb) (n := l.length) hS
  have t49 := v8 (ns := ns) (fl := fl) (lb := lb) (n := l.length) hS
  have c0 : (0 : Int) ≤ (c : Int) := by omega
  have hc' := B8 hc
  have hf := rt.f
  have hf' : fl.length ≤ 100 := by omega
  have hkd := rt.kind hc
  have hi := J5 hf c
  have ho := A0 hf c
  obtain ⟨hv, v0, v3⟩ := ok.held.at hm
  have gk := U2 (ns := ns) (fl := fl) (lb := lb) (n := l.length) hv
  have f0 : (0 : Int) ≤ (m : Int) := by omega
  have f40 : (m : Int) < 40 := by omega
  have hz' : (tk S (m : Int) == 0) = false := by simp [h0]
  have hil : (((p5 fl c).length : Int) == 1) = true := by rw [hin]; rfl
  have hi0 : (p5 fl c)[0]? = some (m : Int) := by rw [hin]; rfl
  have hei : eI (m : Int) = [.int .i64 (m : Int)] := rfl
  have hin0 : (0 : Int) ≤ 0 := Int.le_refl 0
  have e2 : (k.kind == 2) = false := by simp [hk]
  have e3 : (k.kind == 3) = false := by simp [hk]
  have e4 : (k.kind == 4) = false := by simp [hk]
  have e5 : (k.kind == 5) = true := by simp [hk]
  have e6 : (k.kind == 6) = false := by simp [hk]
  have e7 : (k.kind == 7) = false := by simp [hk]
  have e8 : (k.kind == 8) = false := by simp [hk]
  have e1 : (k.kind != 1) = true := by simp [hk]
  have eg : o7 ns fl S c k = P1 fl S c (p5 fl c) (k3 fl c) := by unfold o7; rw [if_neg (by omega), if_neg (by omega), if_pos hk]
  rw [eg]
  have hz9 : (k3 fl c).length ≠ 1 → tk S ((p5 fl c).headD 0) ≠ 0 := fun _ => by rw [hin]; exact h0
  refine j8 (rl := []) i6 Tryz.func39 rfl (rs := []) rfl Tryz.ntmps39 (by simp) ?_
  repeat' (first | ((first | refine c8 ?_ | refine b8 ?_ | refine o5 ?_ | refine m9 ?_); (try simp only [NB])) | ((repeat ((fail_if_success (refine hK _ ?_)); clear hK K)); refine hK _ ?_; clear hK K) | ((first | refine d8 fun K1 p7 => ?_ | refine d6 fun K1 p7 => ?_ | refine o6 rfl rfl rfl fun K1 p7 => ?_ | refine b5 fun A B hA hB => ?_); simp only [S1, simprocAttr, L3, e1, e2, e3, e4, e5, e6, e7, e8, hil, hi0, hei, hin0, f0, f40, gk, hz', c0, hc', eN, i9, k8, TSz, i8, i7, j3, PGB, n6 hb hne, k9 hl, l6 hb hne, j9 hl, gmB, spB, gl]; first | (refine p7 _ ?_; clear p7 K1) | ((first | refine hA ?_ | refine hB ?_); clear hA hB A B) | ((first | apply b9 E62 | apply c7 E62); exact (l9 _ fl hf' _ _); (refine p7 _ ?_; clear p7 K1)) | ((first | apply b9 E29 | apply c7 E29); exact (k4 _ fl hf' _ _); (refine p7 _ ?_; clear p7 K1)) | ((first | apply b9 E67 | apply c7 E67); exact (bH nk ok st few c _ _ hi ho (R3 c) hz9 (rt.els1 hc hk) _); (refine p7 _ ?_; clear p7 K1)) | (refine g8 (v := ?_) (fun hg p8 => ?_) ?_; rotate_left; (focus (try ((try simp only [BN] at hg); simp only [S1, simprocAttr, L3, e1, e2, e3, e4, e5, e6, e7, e8, hil, hi0, hei, hin0, f0, f40, gk, hz', c0, hc', eN, i9, k8, TSz, i8, i7, j3, PGB, n6 hb hne, k9 hl, l6 hb hne, j9 hl, gmB, spB, gl, hg] at p8 ⊢)); first | exact p8 | ((first | apply b9 E62 | apply c7 E62); exact (l9 _ fl hf' _ _); exact p8) | ((first | apply b9 E29 | apply c7 E29); exact (k4 _ fl hf' _ _); exact p8) | ((first | apply b9 E67 | apply c7 E67); exact (bH nk ok st few c _ _ hi ho (R3 c) hz9 (rt.els1 hc hk) _); exact p8)); (refine p7 _ ?_; clear p7 K1)) | (((first | (refine ⟨fun hg => hA ?_, fun hg => hB ?_⟩ <;> clear hA hB A B) | refine ⟨fun hg => ?_, fun hg => ?_⟩) <;> (try simp only [BN2] at hg) <;> (try simp only [hg, cndB])) <;> (try (refine p7 _ ?_; clear p7 K1)) <;> (try simp only [BN3] at hg))) | ((first | refine t9 (v := ?_) rfl rfl rfl rfl (by decide) (fun R1 K1 p7 => ?_) ?_ | refine t8 (v := ?_) rfl rfl rfl (by decide) (fun K1 p7 => ?_) ?_ | refine r8 (v := ?_) rfl rfl rfl (by decide) (fun K1 p7 => ?_) ?_); rotate_left; (focus (simp only [S1, simprocAttr, L3, e1, e2, e3, e4, e5, e6, e7, e8, hil, hi0, hei, hin0, f0, f40, gk, hz', c0, hc', eN, i9, k8, TSz, i8, i7, j3, PGB, n6 hb hne, k9 hl, l6 hb hne, j9 hl, gmB, spB, gl]; first | (exact p7 _ _ _) | ((first | apply b9 E62 | apply c7 E62); exact (l9 _ fl hf' _ _); exact p7 _ _ _) | ((first | apply b9 E29 | apply c7 E29); exact (k4 _ fl hf' _ _); exact p7 _ _ _) | ((first | apply b9 E67 | apply c7 E67); exact (bH nk ok st few c _ _ hi ho (R3 c) hz9 (rt.els1 hc hk) _); exact p7 _ _ _)))) | (refine n5 rfl rfl rfl ?_) | ((first | refine i3 (z := ?_) 0 rfl rfl rfl rfl (by decide) rfl ?_ ?_ | refine i3 (z := ?_) 1 rfl rfl rfl rfl (by decide) rfl ?_ ?_ | refine i3 (z := ?_) 2 rfl rfl rfl rfl (by decide) rfl ?_ ?_); rotate_left; (focus (simp only [S1, simprocAttr, L3, e1, e2, e3, e4, e5, e6, e7, e8, hil, hi0, hei, hin0, f0, f40, gk, hz', c0, hc', eN, i9, k8, TSz, i8, i7, j3, PGB, n6 hb hne, k9 hl, l6 hb hne, j9 hl, gmB, spB, gl, u9]; rfl))) | (refine b6 fun K hK => ?_) | (refine B9 [0, 1, 2, 3, 4, 5, 6, 7, 8, 9, 10, 11, 12, 13] (fs := []) rfl rfl (by kernel_rfl) (by kernel_rfl) ?_) | ((first | refine a9 ?_ | refine j4 (by kernel_rfl) ?_ | refine b7 ?_ | refine c9 ?_ | refine d4 ?_ | refine d7 ?_); try simp only [NB, simprocAttr]))
  all_goals simp only [S1, simprocAttr, ENB, y8, y1, j7, m8, l8] <;> first | exact i5 hl | exact ⟨i5 hl, rfl⟩ | exact ⟨i5 hl, rfl, rfl⟩
theorem sc (nk : NetOk ns fl) (rt : Right ns fl) (ok : GmOk h b lb S l) (st : StOk S) (few : l.length ≤ 900000) (c : Nat) {k : Nd} (hc : ns[c]? = some k) (hk : k.kind = 5) (hin : (p5 fl c).length ≠ 1) :
    f9 Tryz.prog gW 39 [.ptr b 0 0, .i c] (m3 h b lb ns fl S l) (fun r h' => r = .undef ∧ h' = m3 h b lb ns fl S (l ++ o7 ns fl S c k)) := by
  have hb := ok.hb
  have hl := ok.hl
  have hne := ok.ne
  have hS := ok.held.1
  have gl := v4 (ns := ns) (fl := fl) (lb := lb) (n := l.length) hS
  have gv := D4 (ns := ns) (fl := fl) (lb := lb) (n := l.length) hS
  have t49 := v8 (ns := ns) (fl := fl) (lb := lb) (n := l.length) hS
  have c0 : (0 : Int) ≤ (c : Int) := by omega
  have hc' := B8 hc
  have hf := rt.f
  have hf' : fl.length ≤ 100 := by omega
  have hkd := rt.kind hc
  have hi := J5 hf c
  have ho := A0 hf c
  have hil : (((p5 fl c).length : Int) == 1) = false := by simp; omega
  have e2 : (k.kind == 2) = false := by simp [hk]
  have e3 : (k.kind == 3) = false := by simp [hk]
  have e4 : (k.kind == 4) = false := by simp [hk]
  have e5 : (k.kind == 5) = true := by simp [hk]
  have e6 : (k.kind == 6) = false := by simp [hk]
  have e7 : (k.kind == 7) = false := by simp [hk]
  have e8 : (k.kind == 8) = false := by simp [hk]
  have e1 : (k.kind != 1) = true := by simp [hk]
  have eg : o7 ns fl S c k = P1 fl S c (p5 fl c) (k3 fl c) := by unfold o7; rw [if_neg (by omega), if_neg (by omega), if_pos hk]
  rw [eg]
  have hz9 : (k3 fl c).length ≠ 1 → tk S ((p5 fl c).headD 0) ≠ 0 := fun h => by have := rt.xor (List.getElem?_eq_some_iff.mp hc).1 (by rw [N9 hc]; exact hk); omega
  refine j8 (rl := []) i6 Tryz.func39 rfl (rs := []) rfl Tryz.ntmps39 (by simp) ?_
  repeat' (first | ((first | refine c8 ?_ | refine b8 ?_ | refine o5 ?_ | refine m9 ?_); (try simp only [NB])) | ((repeat ((fail_if_success (refine hK _ ?_)); clear hK K)); refine hK _ ?_; clear hK K) | ((first | refine d8 fun K1 p7 => ?_ | refine d6 fun K1 p7 => ?_ | refine o6 rfl rfl rfl fun K1 p7 => ?_ | refine b5 fun A B hA hB => ?_); simp only [S1, simprocAttr, L3, e1, e2, e3, e4, e5, e6, e7, e8, hil, c0, hc', eN, i9, k8, TSz, i8, i7, j3, PGB, n6 hb hne, k9 hl, l6 hb hne, j9 hl, gmB, spB, gl]; first | (refine p7 _ ?_; clear p7 K1) | ((first | refine hA ?_ | refine hB ?_); clear hA hB A B) | ((first | apply b9 E62 | apply c7 E62); exact (l9 _ fl hf' _ _); (refine p7 _ ?_; clear p7 K1)) | ((first | apply b9 E29 | apply c7 E29); exact (k4 _ fl hf' _ _); (refine p7 _ ?_; clear p7 K1)) | ((first | apply b9 E67 | apply c7 E67); exact (bH nk ok st few c _ _ hi ho (R3 c) hz9 (rt.els1 hc hk) _); (refine p7 _ ?_; clear p7 K1)) | (refine g8 (v := ?_) (fun hg p8 => ?_) ?_; rotate_left; (focus (try ((try simp only [BN] at hg); simp only [S1, simprocAttr, L3, e1, e2, e3, e4, e5, e6, e7, e8, hil, c0, hc', eN, i9, k8, TSz, i8, i7, j3, PGB, n6 hb hne, k9 hl, l6 hb hne, j9 hl, gmB, spB, gl, hg] at p8 ⊢)); first | exact p8 | ((first | apply b9 E62 | apply c7 E62); exact (l9 _ fl hf' _ _); exact p8) | ((first | apply b9 E29 | apply c7 E29); exact (k4 _ fl hf' _ _); exact p8) | ((first | apply b9 E67 | apply c7 E67); exact (bH nk ok st few c _ _ hi ho (R3 c) hz9 (rt.els1 hc hk) _); exact p8)); (refine p7 _ ?_; clear p7 K1)) | (((first | (refine ⟨fun hg => hA ?_, fun hg => hB ?_⟩ <;> clear hA hB A B) | refine ⟨fun hg => ?_, fun hg => ?_⟩) <;> (try simp only [BN2] at hg) <;> (try simp only [hg, cndB])) <;> (try (refine p7 _ ?_; clear p7 K1)) <;> (try simp only [BN3] at hg))) | ((first | refine t9 (v := ?_) rfl rfl rfl rfl (by decide) (fun R1 K1 p7 => ?_) ?_ | refine t8 (v := ?_) rfl rfl rfl (by decide) (fun K1 p7 => ?_) ?_ | refine r8 (v := ?_) rfl rfl rfl (by decide) (fun K1 p7 => ?_) ?_); rotate_left; (focus (simp only [S1, simprocAttr, L3, e1, e2, e3, e4, e5, e6, e7, e8, hil, c0, hc', eN, i9, k8, TSz, i8, i7, j3, PGB, n6 hb hne, k9 hl, l6 hb hne, j9 hl, gmB, spB, gl]; first | (exact p7 _ _ _) | ((first | apply b9 E62 | apply c7 E62); exact (l9 _ fl hf' _ _); exact p7 _ _ _) | ((first | apply b9 E29 | apply c7 E29); exact (k4 _ fl hf' _ _); exact p7 _ _ _) | ((first | apply b9 E67 | apply c7 E67); exact (bH nk ok st few c _ _ hi ho (R3 c) hz9 (rt.els1 hc hk) _); exact p7 _ _ _)))) | (refine n5 rfl rfl rfl ?_) | ((first | refine i3 (z := ?_) 0 rfl rfl rfl rfl (by decide) rfl ?_ ?_ | refine i3 (z := ?_) 1 rfl rfl rfl rfl (by decide) rfl ?_ ?_ | refine i3 (z := ?_) 2 rfl rfl rfl rfl (by decide) rfl ?_ ?_); rotate_left; (focus (simp only [S1, simprocAttr, L3, e1, e2, e3, e4, e5, e6, e7, e8, hil, c0, hc', eN, i9, k8, TSz, i8, i7, j3, PGB, n6 hb hne, k9 hl, l6 hb hne, j9 hl, gmB, spB, gl, u9]; rfl))) | (refine b6 fun K hK => ?_) | (refine B9 [0, 1, 2, 3, 4, 5, 6, 7, 8, 9, 10, 11, 12, 13] (fs := []) rfl rfl (by kernel_rfl) (by kernel_rfl) ?_) | ((first | refine a9 ?_ | refine j4 (by kernel_rfl) ?_ | refine b7 ?_ | refine c9 ?_ | refine d4 ?_ | refine d7 ?_); try simp only [NB, simprocAttr]))
  all_goals simp only [S1, simprocAttr, ENB, y8, y1, j7, m8, l8] <;> first | exact i5 hl | exact ⟨i5 hl, rfl⟩ | exact ⟨i5 hl, rfl, rfl⟩
theorem sd (nk : NetOk ns fl) (rt : Right ns fl) (ok : GmOk h b lb S l) (st : StOk S) (few : l.length ≤ 900000) (c : Nat) {k : Nd} (hc : ns[c]? = some k) (hk : k.kind = 6) (m : Nat) (hm : m < 40) (hin : p5 fl c = [(m : Int)]) (h0 : tk S (m : Int) ≠ 0) :
    f9 Tryz.prog gW 39 [.ptr b 0 0, .i c] (m3 h b lb ns fl S l) (fun r h' => r = .undef ∧ h' = m3 h b lb ns fl S (l ++ o7 ns fl S c k)) := by
  have hb := ok.hb
  have hl := ok.hl
  have hne := ok.ne
  have hS := ok.held.1
  have gl := v4 (ns := ns) (fl := fl) (lb := lb) (n := l.length) hS
  have gv := D4 (ns := ns) (fl := fl) (lb := lb) (n := l.length) hS
  have t49 := v8 (ns := ns) (fl := fl) (lb := lb) (n := l.length) hS
  have c0 : (0 : Int) ≤ (c : Int) := by omega
  have hc' := B8 hc
  have hf := rt.f
  have hf' : fl.length ≤ 100 := by omega
  have hkd := rt.kind hc
  have hi := J5 hf c
  have ho := A0 hf c
  obtain ⟨hv, v0, v3⟩ := ok.held.at hm
  have gk := U2 (ns := ns) (fl := fl) (lb := lb) (n := l.length) hv
  have f0 : (0 : Int) ≤ (m : Int) := by omega
  have f40 : (m : Int) < 40 := by omega
  have hz' : (tk S (m : Int) == 0) = false := by simp [h0]
  have hil : (((p5 fl c).length : Int) == 1) = true := by rw [hin]; rfl
  have hi0 : (p5 fl c)[0]? = some (m : Int) := by rw [hin]; rfl
  have hei : eI (m : Int) = [.int .i64 (m : Int)] := rfl
  have hin0 : (0 : Int) ≤ 0 := Int.le_refl 0
  have e2 : (k.kind == 2) = false := by simp [hk]
  have e3 : (k.kind == 3) = false := by simp [hk]
  have e4 : (k.kind == 4) = false := by simp [hk]
  have e5 : (k.kind == 5) = false := by simp [hk]
  have e6 : (k.kind == 6) = true := by simp [hk]
  have e7 : (k.kind == 7) = false := by simp [hk]
  have e8 : (k.kind == 8) = false := by simp [hk]
  have e1 : (k.kind != 1) = true := by simp [hk]
  have eg : o7 ns fl S c k = p9 S ⟨c, 0, 0, 0, 0, S⟩ (p5 fl c) (k3 fl c) := by unfold o7; rw [if_neg (by omega), if_neg (by omega), if_neg (by omega), if_pos hk]
  have es := F4 hS (m := ⟨c, 0, 0, 0, 0, S⟩) (Chg.id hS) hi ho
  simp only at es
  rw [eg, ← es]
  refine j8 (rl := []) i6 Tryz.func39 rfl (rs := []) rfl Tryz.ntmps39 (by simp) ?_
  repeat' (first | ((first | refine c8 ?_ | refine b8 ?_ | refine o5 ?_ | refine m9 ?_); (try simp only [NB])) | ((repeat ((fail_if_success (refine hK _ ?_)); clear hK K)); refine hK _ ?_; clear hK K) | ((first | refine d8 fun K1 p7 => ?_ | refine d6 fun K1 p7 => ?_ | refine o6 rfl rfl rfl fun K1 p7 => ?_ | refine b5 fun A B hA hB => ?_); simp only [S1, simprocAttr, L3, e1, e2, e3, e4, e5, e6, e7, e8, hil, hi0, hei, hin0, f0, f40, gk, hz', c0, hc', eN, i9, k8, TSz, i8, i7, j3, PGB, n6 hb hne, k9 hl, l6 hb hne, j9 hl, gmB, spB, gl]; first | (refine p7 _ ?_; clear p7 K1) | ((first | refine hA ?_ | refine hB ?_); clear hA hB A B) | ((first | apply b9 E62 | apply c7 E62); exact (l9 _ fl hf' _ _); (refine p7 _ ?_; clear p7 K1)) | ((first | apply b9 E29 | apply c7 E29); exact (k4 _ fl hf' _ _); (refine p7 _ ?_; clear p7 K1)) | ((first | apply b9 E41 | apply c7 E41); exact (E0 ok ⟨c, 0, 0, 0, 0, S⟩ _ _ hi ho _); (refine p7 _ ?_; clear p7 K1)) | (refine g8 (v := ?_) (fun hg p8 => ?_) ?_; rotate_left; (focus (try ((try simp only [BN] at hg); simp only [S1, simprocAttr, L3, e1, e2, e3, e4, e5, e6, e7, e8, hil, hi0, hei, hin0, f0, f40, gk, hz', c0, hc', eN, i9, k8, TSz, i8, i7, j3, PGB, n6 hb hne, k9 hl, l6 hb hne, j9 hl, gmB, spB, gl, hg] at p8 ⊢)); first | exact p8 | ((first | apply b9 E62 | apply c7 E62); exact (l9 _ fl hf' _ _); exact p8) | ((first | apply b9 E29 | apply c7 E29); exact (k4 _ fl hf' _ _); exact p8) | ((first | apply b9 E41 | apply c7 E41); exact (E0 ok ⟨c, 0, 0, 0, 0, S⟩ _ _ hi ho _); exact p8)); (refine p7 _ ?_; clear p7 K1)) | (((first | (refine ⟨fun hg => hA ?_, fun hg => hB ?_⟩ <;> clear hA hB A B) | refine ⟨fun hg => ?_, fun hg => ?_⟩) <;> (try simp only [BN2] at hg) <;> (try simp only [hg, cndB])) <;> (try (refine p7 _ ?_; clear p7 K1)) <;> (try simp only [BN3] at hg))) | ((first | refine t9 (v := ?_) rfl rfl rfl rfl (by decide) (fun R1 K1 p7 => ?_) ?_ | refine t8 (v := ?_) rfl rfl rfl (by decide) (fun K1 p7 => ?_) ?_ | refine r8 (v := ?_) rfl rfl rfl (by decide) (fun K1 p7 => ?_) ?_); rotate_left; (focus (simp only [S1, simprocAttr, L3, e1, e2, e3, e4, e5, e6, e7, e8, hil, hi0, hei, hin0, f0, f40, gk, hz', c0, hc', eN, i9, k8, TSz, i8, i7, j3, PGB, n6 hb hne, k9 hl, l6 hb hne, j9 hl, gmB, spB, gl]; first | (exact p7 _ _ _) | ((first | apply b9 E62 | apply c7 E62); exact (l9 _ fl hf' _ _); exact p7 _ _ _) | ((first | apply b9 E29 | apply c7 E29); exact (k4 _ fl hf' _ _); exact p7 _ _ _) | ((first | apply b9 E41 | apply c7 E41); exact (E0 ok ⟨c, 0, 0, 0, 0, S⟩ _ _ hi ho _); exact p7 _ _ _)))) | (refine n5 rfl rfl rfl ?_) | ((first | refine i3 (z := ?_) 0 rfl rfl rfl rfl (by decide) rfl ?_ ?_ | refine i3 (z := ?_) 1 rfl rfl rfl rfl (by decide) rfl ?_ ?_ | refine i3 (z := ?_) 2 rfl rfl rfl rfl (by decide) rfl ?_ ?_); rotate_left; (focus (simp only [S1, simprocAttr, L3, e1, e2, e3, e4, e5, e6, e7, e8, hil, hi0, hei, hin0, f0, f40, gk, hz', c0, hc', eN, i9, k8, TSz, i8, i7, j3, PGB, n6 hb hne, k9 hl, l6 hb hne, j9 hl, gmB, spB, gl, u9]; rfl))) | (refine b6 fun K hK => ?_) | (refine B9 [0, 1, 2, 3, 4, 5, 6, 7, 8, 9, 10, 11, 12, 13] (fs := []) rfl rfl (by kernel_rfl) (by kernel_rfl) ?_) | ((first | refine a9 ?_ | refine j4 (by kernel_rfl) ?_ | refine b7 ?_ | refine c9 ?_ | refine d4 ?_ | refine d7 ?_); try simp only [NB, simprocAttr]))
  all_goals simp only [S1, simprocAttr, ENB, y8, y1, j7, m8, l8] <;> first | exact i5 hl | exact ⟨i5 hl, rfl⟩ | exact ⟨i5 hl, rfl, rfl⟩
theorem se (nk : NetOk ns fl) (rt : Right ns fl) (ok : GmOk h b lb S l) (st : StOk S) (few : l.length ≤ 900000) (c : Nat) {k : Nd} (hc : ns[c]? = some k) (hk : k.kind = 6) (hin : (p5 fl c).length ≠ 1) :
    f9 Tryz.prog gW 39 [.ptr b 0 0, .i c] (m3 h b lb ns fl S l) (fun r h' => r = .undef ∧ h' = m3 h b lb ns fl S (l ++ o7 ns fl S c k)) := by
  have hb := ok.hb
  have hl := ok.hl
  have hne := ok.ne
  have hS := ok.held.1
  have gl := v4 (ns := ns) (fl := fl) (lb := lb) (n := l.length) hS
  have gv := D4 (ns := ns) (fl := fl) (lb := lb) (n := l.length) hS
  have t49 := v8 (ns := ns) (fl := fl) (lb := lb) (n := l.length) hS
  have c0 : (0 : Int) ≤ (c : Int) := by omega
  have hc' := B8 hc
  have hf := rt.f
  have hf' : fl.length ≤ 100 := by omega
  have hkd := rt.kind hc
  have hi := J5 hf c
  have ho := A0 hf c
  have hil : (((p5 fl c).length : Int) == 1) = false := by simp; omega
  have e2 : (k.kind == 2) = false := by simp [hk]
  have e3 : (k.kind == 3) = false := by simp [hk]
  have e4 : (k.kind == 4) = false := by simp [hk]
  have e5 : (k.kind == 5) = false := by simp [hk]
  have e6 : (k.kind == 6) = true := by simp [hk]
  have e7 : (k.kind == 7) = false := by simp [hk]
  have e8 : (k.kind == 8) = false := by simp [hk]
  have e1 : (k.kind != 1) = true := by simp [hk]
  have eg : o7 ns fl S c k = p9 S ⟨c, 0, 0, 0, 0, S⟩ (p5 fl c) (k3 fl c) := by unfold o7; rw [if_neg (by omega), if_neg (by omega), if_neg (by omega), if_pos hk]
  have es := F4 hS (m := ⟨c, 0, 0, 0, 0, S⟩) (Chg.id hS) hi ho
  simp only at es
  rw [eg, ← es]
  refine j8 (rl := []) i6 Tryz.func39 rfl (rs := []) rfl Tryz.ntmps39 (by simp) ?_
  repeat' (first | ((first | refine c8 ?_ | refine b8 ?_ | refine o5 ?_ | refine m9 ?_); (try simp only [NB])) | ((repeat ((fail_if_success (refine hK _ ?_)); clear hK K)); refine hK _ ?_; clear hK K) | ((first | refine d8 fun K1 p7 => ?_ | refine d6 fun K1 p7 => ?_ | refine o6 rfl rfl rfl fun K1 p7 => ?_ | refine b5 fun A B hA hB => ?_); simp only [S1, simprocAttr, L3, e1, e2, e3, e4, e5, e6, e7, e8, hil, c0, hc', eN, i9, k8, TSz, i8, i7, j3, PGB, n6 hb hne, k9 hl, l6 hb hne, j9 hl, gmB, spB, gl]; first | (refine p7 _ ?_; clear p7 K1) | ((first | refine hA ?_ | refine hB ?_); clear hA hB A B) | ((first | apply b9 E62 | apply c7 E62); exact (l9 _ fl hf' _ _); (refine p7 _ ?_; clear p7 K1)) | ((first | apply b9 E29 | apply c7 E29); exact (k4 _ fl hf' _ _); (refine p7 _ ?_; clear p7 K1)) | ((first | apply b9 E41 | apply c7 E41); exact (E0 ok ⟨c, 0, 0, 0, 0, S⟩ _ _ hi ho _); (refine p7 _ ?_; clear p7 K1)) | (refine g8 (v := ?_) (fun hg p8 => ?_) ?_; rotate_left; (focus (try ((try simp only [BN] at hg); simp only [S1, simprocAttr, L3, e1, e2, e3, e4, e5, e6, e7, e8, hil, c0, hc', eN, i9, k8, TSz, i8, i7, j3, PGB, n6 hb hne, k9 hl, l6 hb hne, j9 hl, gmB, spB, gl, hg] at p8 ⊢)); first | exact p8 | ((first | apply b9 E62 | apply c7 E62); exact (l9 _ fl hf' _ _); exact p8) | ((first | apply b9 E29 | apply c7 E29); exact (k4 _ fl hf' _ _); exact p8) | ((first | apply b9 E41 | apply c7 E41); exact (E0 ok ⟨c, 0, 0, 0, 0, S⟩ _ _ hi ho _); exact p8)); (refine p7 _ ?_; clear p7 K1)) | (((first | (refine ⟨fun hg => hA ?_, fun hg => hB ?_⟩ <;> clear hA hB A B) | refine ⟨fun hg => ?_, fun hg => ?_⟩) <;> (try simp only [BN2] at hg) <;> (try simp only [hg, cndB])) <;> (try (refine p7 _ ?_; clear p7 K1)) <;> (try simp only [BN3] at hg))) | ((first | refine t9 (v := ?_) rfl rfl rfl rfl (by decide) (fun R1 K1 p7 => ?_) ?_ | refine t8 (v := ?_) rfl rfl rfl (by decide) (fun K1 p7 => ?_) ?_ | refine r8 (v := ?_) rfl rfl rfl (by decide) (fun K1 p7 => ?_) ?_); rotate_left; (focus (simp only [S1, simprocAttr, L3, e1, e2, e3, e4, e5, e6, e7, e8, hil, c0, hc', eN, i9, k8, TSz, i8, i7, j3, PGB, n6 hb hne, k9 hl, l6 hb hne, j9 hl, gmB, spB, gl]; first | (exact p7 _ _ _) | ((first | apply b9 E62 | apply c7 E62); exact (l9 _ fl hf' _ _); exact p7 _ _ _) | ((first | apply b9 E29 | apply c7 E29); exact (k4 _ fl hf' _ _); exact p7 _ _ _) | ((first | apply b9 E41 | apply c7 E41); exact (E0 ok ⟨c, 0, 0, 0, 0, S⟩ _ _ hi ho _); exact p7 _ _ _)))) | (refine n5 rfl rfl rfl ?_) | ((first | refine i3 (z := ?_) 0 rfl rfl rfl rfl (by decide) rfl ?_ ?_ | refine i3 (z := ?_) 1 rfl rfl rfl rfl (by decide) rfl ?_ ?_ | refine i3 (z := ?_) 2 rfl rfl rfl rfl (by decide) rfl ?_ ?_); rotate_left; (focus (simp only [S1, simprocAttr, L3, e1, e2, e3, e4, e5, e6, e7, e8, hil, c0, hc', eN, i9, k8, TSz, i8, i7, j3, PGB, n6 hb hne, k9 hl, l6 hb hne, j9 hl, gmB, spB, gl, u9]; rfl))) | (refine b6 fun K hK => ?_) | (refine B9 [0, 1, 2, 3, 4, 5, 6, 7, 8, 9, 10, 11, 12, 13] (fs := []) rfl rfl (by kernel_rfl) (by kernel_rfl) ?_) | ((first | refine a9 ?_ | refine j4 (by kernel_rfl) ?_ | refine b7 ?_ | refine c9 ?_ | refine d4 ?_ | refine d7 ?_); try simp only [NB, simprocAttr]))
  all_goals simp only [S1, simprocAttr, ENB, y8, y1, j7, m8, l8] <;> first | exact i5 hl | exact ⟨i5 hl, rfl⟩ | exact ⟨i5 hl, rfl, rfl⟩
theorem tu (nk : NetOk ns fl) (rt : Right ns fl) (ok : GmOk h b lb S l) (st : StOk S) (few : l.length ≤ 900000) (c : Nat) {k : Nd} (hc : ns[c]? = some k) (hk : k.kind = 8) (m : Nat) (hm : m < 40) (hin : p5 fl c = [(m : Int)]) (h0 : tk S (m : Int) ≠ 0) :
    f9 Tryz.prog gW 39 [.ptr b 0 0, .i c] (m3 h b lb ns fl S l) (fun r h' => r = .undef ∧ h' = m3 h b lb ns fl S (l ++ o7 ns fl S c k)) := by
  have hb := ok.hb
  have hl := ok.hl
  have hne := ok.ne
  have hS := ok.held.1
  have gl := v4 (ns := ns) (fl := fl) (lb := lb) (n := l.length) hS
  have gv := D4 (ns := ns) (fl := fl) (lb := lb) (n := l.length) hS
  have t49 := v8 (ns := ns) (fl := fl) (lb := lb) (n := l.length) hS
  have c0 : (0 : Int) ≤ (c : Int) := by omega
  have hc' := B8 hc
  have hf := rt.f
  have hf' : fl.length ≤ 100 := by omega
  have hkd := rt.kind hc
  have hi := J5 hf c
  have ho := A0 hf c
  obtain ⟨hv, v0, v3⟩ := ok.held.at hm
  have gk := U2 (ns := ns) (fl := fl) (lb := lb) (n := l.length) hv
  have f0 : (0 : Int) ≤ (m : Int) := by omega
  have f40 : (m : Int) < 40 := by omega
  have hz' : (tk S (m : Int) == 0) = false := by simp [h0]
  have hil : (((p5 fl c).length : Int) == 1) = true := by rw [hin]; rfl
  have hi0 : (p5 fl c)[0]? = some (m : Int) := by rw [hin]; rfl
  have hei : eI (m : Int) = [.int .i64 (m : Int)] := rfl
  have hin0 : (0 : Int) ≤ 0 := Int.le_refl 0
  have e2 : (k.kind == 2) = false := by simp [hk]
  have e3 : (k.kind == 3) = false := by simp [hk]
  have e4 : (k.kind == 4) = false := by simp [hk]
  have e5 : (k.kind == 5) = false := by simp [hk]
  have e6 : (k.kind == 6) = false := by simp [hk]
  have e7 : (k.kind == 7) = false := by simp [hk]
  have e8 : (k.kind == 8) = true := by simp [hk]
  have e1 : (k.kind != 1) = true := by simp [hk]
  have eg : o7 ns fl S c k = s9 ns fl S c 0 c (p5 fl c) := by unfold o7; rw [if_neg (by omega), if_neg (by omega), if_neg (by omega), if_neg (by omega), if_neg (by omega), if_pos hk]
  rw [eg]
  refine j8 (rl := []) i6 Tryz.func39 rfl (rs := []) rfl Tryz.ntmps39 (by simp) ?_
  repeat' (first | ((first | refine c8 ?_ | refine b8 ?_ | refine o5 ?_ | refine m9 ?_); (try simp only [NB])) | ((repeat ((fail_if_success (refine hK _ ?_)); clear hK K)); refine hK _ ?_; clear hK K) | ((first | refine d8 fun K1 p7 => ?_ | refine d6 fun K1 p7 => ?_ | refine o6 rfl rfl rfl fun K1 p7 => ?_ | refine b5 fun A B hA hB => ?_); simp only [S1, simprocAttr, L3, e1, e2, e3, e4, e5, e6, e7, e8, hil, hi0, hei, hin0, f0, f40, gk, hz', c0, hc', eN, i9, k8, TSz, i8, i7, j3, PGB, n6 hb hne, k9 hl, l6 hb hne, j9 hl, gmB, spB, gl]; first | (refine p7 _ ?_; clear p7 K1) | ((first | refine hA ?_ | refine hB ?_); clear hA hB A B) | ((first | apply b9 E62 | apply c7 E62); exact (l9 _ fl hf' _ _); (refine p7 _ ?_; clear p7 K1)) | ((first | apply b9 E29 | apply c7 E29); exact (k4 _ fl hf' _ _); (refine p7 _ ?_; clear p7 K1)) | ((first | apply b9 E68 | apply c7 E68); exact (eh ok st ⟨c, 0, 0, 0, 0, S⟩ c hc ⟨hkd.2.1, hkd.2.2.2⟩ _ hi _ ho rfl _); (refine p7 _ ?_; clear p7 K1)) | (refine g8 (v := ?_) (fun hg p8 => ?_) ?_; rotate_left; (focus (try ((try simp only [BN] at hg); simp only [S1, simprocAttr, L3, e1, e2, e3, e4, e5, e6, e7, e8, hil, hi0, hei, hin0, f0, f40, gk, hz', c0, hc', eN, i9, k8, TSz, i8, i7, j3, PGB, n6 hb hne, k9 hl, l6 hb hne, j9 hl, gmB, spB, gl, hg] at p8 ⊢)); first | exact p8 | ((first | apply b9 E62 | apply c7 E62); exact (l9 _ fl hf' _ _); exact p8) | ((first | apply b9 E29 | apply c7 E29); exact (k4 _ fl hf' _ _); exact p8) | ((first | apply b9 E68 | apply c7 E68); exact (eh ok st ⟨c, 0, 0, 0, 0, S⟩ c hc ⟨hkd.2.1, hkd.2.2.2⟩ _ hi _ ho rfl _); exact p8)); (refine p7 _ ?_; clear p7 K1)) | (((first | (refine ⟨fun hg => hA ?_, fun hg => hB ?_⟩ <;> clear hA hB A B) | refine ⟨fun hg => ?_, fun hg => ?_⟩) <;> (try simp only [BN2] at hg) <;> (try simp only [hg, cndB])) <;> (try (refine p7 _ ?_; clear p7 K1)) <;> (try simp only [BN3] at hg))) | ((first | refine t9 (v := ?_) rfl rfl rfl rfl (by decide) (fun R1 K1 p7 => ?_) ?_ | refine t8 (v := ?_) rfl rfl rfl (by decide) (fun K1 p7 => ?_) ?_ | refine r8 (v := ?_) rfl rfl rfl (by decide) (fun K1 p7 => ?_) ?_); rotate_left; (focus (simp only [S1, simprocAttr, L3, e1, e2, e3, e4, e5, e6, e7, e8, hil, hi0, hei, hin0, f0, f40, gk, hz', c0, hc', eN, i9, k8, TSz, i8, i7, j3, PGB, n6 hb hne, k9 hl, l6 hb hne, j9 hl, gmB, spB, gl]; first | (exact p7 _ _ _) | ((first | apply b9 E62 | apply c7 E62); exact (l9 _ fl hf' _ _); exact p7 _ _ _) | ((first | apply b9 E29 | apply c7 E29); exact (k4 _ fl hf' _ _); exact p7 _ _ _) | ((first | apply b9 E68 | apply c7 E68); exact (eh ok st ⟨c, 0, 0, 0, 0, S⟩ c hc ⟨hkd.2.1, hkd.2.2.2⟩ _ hi _ ho rfl _); exact p7 _ _ _)))) | (refine n5 rfl rfl rfl ?_) | ((first | refine i3 (z := ?_) 0 rfl rfl rfl rfl (by decide) rfl ?_ ?_ | refine i3 (z := ?_) 1 rfl rfl rfl rfl (by decide) rfl ?_ ?_ | refine i3 (z := ?_) 2 rfl rfl rfl rfl (by decide) rfl ?_ ?_); rotate_left; (focus (simp only [S1, simprocAttr, L3, e1, e2, e3, e4, e5, e6, e7, e8, hil, hi0, hei, hin0, f0, f40, gk, hz', c0, hc', eN, i9, k8, TSz, i8, i7, j3, PGB, n6 hb hne, k9 hl, l6 hb hne, j9 hl, gmB, spB, gl, u9]; rfl))) | (refine b6 fun K hK => ?_) | (refine B9 [0, 1, 2, 3, 4, 5, 6, 7, 8, 9, 10, 11, 12, 13] (fs := []) rfl rfl (by kernel_rfl) (by kernel_rfl) ?_) | ((first | refine a9 ?_ | refine j4 (by kernel_rfl) ?_ | refine b7 ?_ | refine c9 ?_ | refine d4 ?_ | refine d7 ?_); try simp only [NB, simprocAttr]))
  all_goals simp only [S1, simprocAttr, ENB, y8, y1, j7, m8, l8] <;> first | exact i5 hl | exact ⟨i5 hl, rfl⟩ | exact ⟨i5 hl, rfl, rfl⟩
end
end
section
def L4 := And.intro T2 (And.intro T3 (And.intro T4 (And.intro T22 (And.intro T23 (And.intro T25 (And.intro T26 (And.intro T27 (And.intro T34 (And.intro T46 (And.intro T53 (And.intro T68 (And.intro T70 (And.intro T73 (And.intro T79 (And.intro T80 (And.intro T83 (And.intro fq (And.intro fu (And.intro jZ gp)))))))))))))))))))
attribute [local irreducible] awp q9 m7 n7 r5 q8
section
variable {h : Heap} {b lb : Nat} {ns : List Nd} {fl : List Fl} {S : List Int} {l : List Sp}
theorem tv (nk : NetOk ns fl) (rt : Right ns fl) (ok : GmOk h b lb S l) (st : StOk S) (few : l.length ≤ 900000) (c : Nat) {k : Nd} (hc : ns[c]? = some k) (hk : k.kind = 2) (m : Nat) (hm : m < 40) (hin : p5 fl c = [(m : Int)]) (h0 : tk S (m : Int) ≠ 0) :
    f9 Tryz.prog gW 39 [.ptr b 0 0, .i c] (m3 h b lb ns fl S l) (fun r h' => r = .undef ∧ h' = m3 h b lb ns fl S (l ++ o7 ns fl S c k)) := by
  have hb := ok.hb
  have hl := ok.hl
  have hne := ok.ne
  have hS := ok.held.1
  have gl := v4 (ns := ns) (fl := fl) (lb := lb) (n := l.length) hS
  have gv := D4 (ns := ns) (fl := fl) (lb := lb) (n := l.length) hS
  have t49 := v8 (ns := ns) (fl := fl) (lb := lb) (n := l.length) hS
  have c0 : (0 : Int) ≤ (c : Int) := by omega
  have hc' := B8 hc
  have hf := rt.f
  have hf' : fl.length ≤ 100 := by omega
  have hkd := rt.kind hc
  have hi := J5 hf c
  have ho := A0 hf c
  obtain ⟨hv, v0, v3⟩ := ok.held.at hm
  have gk := U2 (ns := ns) (fl := fl) (lb := lb) (n := l.length) hv
  have f0 : (0 : Int) ≤ (m : Int) := by omega
  have f40 : (m : Int) < 40 := by omega
  have hz' : (tk S (m : Int) == 0) = false := by simp [h0]
  have hil : (((p5 fl c).length : Int) == 1) = true := by rw [hin]; rfl
  have hi0 : (p5 fl c)[0]? = some (m : Int) := by rw [hin]; rfl
  have hei : eI (m : Int) = [.int .i64 (m : Int)] := rfl
  have hin0 : (0 : Int) ≤ 0 := Int.le_refl 0
  have e2 : (k.kind == 2) = true := by simp [hk]
  have e3 : (k.kind == 3) = false := by simp [hk]
  have e4 : (k.kind == 4) = false := by simp [hk]
  have e5 : (k.kind == 5) = false := by simp [hk]
  have e6 : (k.kind == 6) = false := by simp [hk]
  have e7 : (k.kind == 7) = false := by simp [hk]
  have e8 : (k.kind == 8) = false := by simp [hk]
  have e1 : (k.kind != 1) = true := by simp [hk]
  have hw9 := fun h => bX (G := gW) S hS h
  by_cases hw : bL (S.take 40) = 1
  · have eg : o7 ns fl S c k = p9 S ⟨c, 0, 7, 0, 0, S.set 48 1⟩ (p5 fl c) [] := by unfold o7 fg; rw [if_pos hk, if_pos hw]
    have hw' : (bL (S.take 40) == 1) = true := by simp [hw]
    have es := F4 hS (m := ⟨c, 0, 7, 0, 0, S⟩) (Chg.set hS (k := 48) (by omega) 1) hi (to := []) ⟨by simp, by simp⟩
    simp only at es
    rw [eg, ← es]
    have hst := fun X Y => qA (ns := ns) (fl := fl) ok ⟨c, 0, 7, 0, 0, S⟩ (p5 fl c) hi [X, Y] E69 (caps := []) trivial (fun T hT => by rw [List.length_set, hT]) (fun A T hT _ => tt X Y A T hT)
    refine j8 (rl := []) i6 Tryz.func39 rfl (rs := []) rfl Tryz.ntmps39 (by simp) ?_
    repeat' (first | ((first | refine c8 ?_ | refine b8 ?_ | refine o5 ?_ | refine m9 ?_); (try simp only [NB])) | ((repeat ((fail_if_success (refine hK _ ?_)); clear hK K)); refine hK _ ?_; clear hK K) | ((first | refine d8 fun K1 p7 => ?_ | refine d6 fun K1 p7 => ?_ | refine o6 rfl rfl rfl fun K1 p7 => ?_ | refine b5 fun A B hA hB => ?_); simp only [S1, simprocAttr, L4, e1, e2, e3, e4, e5, e6, e7, e8, hil, hi0, hei, hin0, f0, f40, gk, hz', hw', t49, c0, hc', eN, i9, k8, TSz, i8, i7, j3, PGB, n6 hb hne, k9 hl, l6 hb hne, j9 hl, gmB, spB, gl]; first | (refine p7 _ ?_; clear p7 K1) | ((first | refine hA ?_ | refine hB ?_); clear hA hB A B) | ((first | apply b9 E62 | apply c7 E62); exact (l9 _ fl hf' _ _); (refine p7 _ ?_; clear p7 K1)) | ((first | apply b9 E29 | apply c7 E29); exact (k4 _ fl hf' _ _); (refine p7 _ ?_; clear p7 K1)) | ((first | apply b9 E14 | apply c7 E14); exact (hw9 _); (refine p7 _ ?_; clear p7 K1)) | ((first | apply b9 E41 | apply c7 E41); exact (hst _ _); (refine p7 _ ?_; clear p7 K1)) | (refine g8 (v := ?_) (fun hg p8 => ?_) ?_; rotate_left; (focus (try ((try simp only [BN] at hg); simp only [S1, simprocAttr, L4, e1, e2, e3, e4, e5, e6, e7, e8, hil, hi0, hei, hin0, f0, f40, gk, hz', hw', t49, c0, hc', eN, i9, k8, TSz, i8, i7, j3, PGB, n6 hb hne, k9 hl, l6 hb hne, j9 hl, gmB, spB, gl, hg] at p8 ⊢)); first | exact p8 | ((first | apply b9 E62 | apply c7 E62); exact (l9 _ fl hf' _ _); exact p8) | ((first | apply b9 E29 | apply c7 E29); exact (k4 _ fl hf' _ _); exact p8) | ((first | apply b9 E14 | apply c7 E14); exact (hw9 _); exact p8) | ((first | apply b9 E41 | apply c7 E41); exact (hst _ _); exact p8)); (refine p7 _ ?_; clear p7 K1)) | (((first | (refine ⟨fun hg => hA ?_, fun hg => hB ?_⟩ <;> clear hA hB A B) | refine ⟨fun hg => ?_, fun hg => ?_⟩) <;> (try simp only [BN2] at hg) <;> (try simp only [hg, cndB])) <;> (try (refine p7 _ ?_; clear p7 K1)) <;> (try simp only [BN3] at hg))) | ((first | refine t9 (v := ?_) rfl rfl rfl rfl (by decide) (fun R1 K1 p7 => ?_) ?_ | refine t8 (v := ?_) rfl rfl rfl (by decide) (fun K1 p7 => ?_) ?_ | refine r8 (v := ?_) rfl rfl rfl (by decide) (fun K1 p7 => ?_) ?_); rotate_left; (focus (simp only [S1, simprocAttr, L4, e1, e2, e3, e4, e5, e6, e7, e8, hil, hi0, hei, hin0, f0, f40, gk, hz', hw', t49, c0, hc', eN, i9, k8, TSz, i8, i7, j3, PGB, n6 hb hne, k9 hl, l6 hb hne, j9 hl, gmB, spB, gl]; first | (exact p7 _ _ _) | ((first | apply b9 E62 | apply c7 E62); exact (l9 _ fl hf' _ _); exact p7 _ _ _) | ((first | apply b9 E29 | apply c7 E29); exact (k4 _ fl hf' _ _); exact p7 _ _ _) | ((first | apply b9 E14 | apply c7 E14); exact (hw9 _); exact p7 _ _ _) | ((first | apply b9 E41 | apply c7 E41); exact (hst _ _); exact p7 _ _ _)))) | (refine n5 rfl rfl rfl ?_) | ((first | refine i3 (z := ?_) 0 rfl rfl rfl rfl (by decide) rfl ?_ ?_ | refine i3 (z := ?_) 1 rfl rfl rfl rfl (by decide) rfl ?_ ?_ | refine i3 (z := ?_) 2 rfl rfl rfl rfl (by decide) rfl ?_ ?_); rotate_left; (focus (simp only [S1, simprocAttr, L4, e1, e2, e3, e4, e5, e6, e7, e8, hil, hi0, hei, hin0, f0, f40, gk, hz', hw', t49, c0, hc', eN, i9, k8, TSz, i8, i7, j3, PGB, n6 hb hne, k9 hl, l6 hb hne, j9 hl, gmB, spB, gl, u9]; rfl))) | (refine b6 fun K hK => ?_) | (refine B9 [0, 1, 2, 3, 4, 5, 6, 7, 8, 9, 10, 11, 12, 13] (fs := []) rfl rfl (by kernel_rfl) (by kernel_rfl) ?_) | ((first | refine a9 ?_ | refine j4 (by kernel_rfl) ?_ | refine b7 ?_ | refine c9 ?_ | refine d4 ?_ | refine d7 ?_); try simp only [NB, simprocAttr]))
    all_goals simp only [S1, simprocAttr, ENB, y8, y1, j7, m8, l8] <;> first | exact i5 hl | exact ⟨i5 hl, rfl⟩ | exact ⟨i5 hl, rfl, rfl⟩
  · have eg : o7 ns fl S c k = p9 S ⟨c, 0, 0, 0, 0, S⟩ (p5 fl c) [] := by unfold o7 fg; rw [if_pos hk, if_neg hw]
    have hw' : (bL (S.take 40) == 1) = false := by simp [hw]
    have es := F4 hS (m := ⟨c, 0, 0, 0, 0, S⟩) (Chg.id hS) hi (to := []) ⟨by simp, by simp⟩
    simp only at es
    rw [eg, ← es]
    refine j8 (rl := []) i6 Tryz.func39 rfl (rs := []) rfl Tryz.ntmps39 (by simp) ?_
    repeat' (first | ((first | refine c8 ?_ | refine b8 ?_ | refine o5 ?_ | refine m9 ?_); (try simp only [NB])) | ((repeat ((fail_if_success (refine hK _ ?_)); clear hK K)); refine hK _ ?_; clear hK K) | ((first | refine d8 fun K1 p7 => ?_ | refine d6 fun K1 p7 => ?_ | refine o6 rfl rfl rfl fun K1 p7 => ?_ | refine b5 fun A B hA hB => ?_); simp only [S1, simprocAttr, L4, e1, e2, e3, e4, e5, e6, e7, e8, hil, hi0, hei, hin0, f0, f40, gk, hz', hw', t49, c0, hc', eN, i9, k8, TSz, i8, i7, j3, PGB, n6 hb hne, k9 hl, l6 hb hne, j9 hl, gmB, spB, gl]; first | (refine p7 _ ?_; clear p7 K1) | ((first | refine hA ?_ | refine hB ?_); clear hA hB A B) | ((first | apply b9 E62 | apply c7 E62); exact (l9 _ fl hf' _ _); (refine p7 _ ?_; clear p7 K1)) | ((first | apply b9 E29 | apply c7 E29); exact (k4 _ fl hf' _ _); (refine p7 _ ?_; clear p7 K1)) | ((first | apply b9 E14 | apply c7 E14); exact (hw9 _); (refine p7 _ ?_; clear p7 K1)) | ((first | apply b9 E41 | apply c7 E41); exact (cv ok ⟨c, 0, 0, 0, 0, S⟩ _ hi _); (refine p7 _ ?_; clear p7 K1)) | (refine g8 (v := ?_) (fun hg p8 => ?_) ?_; rotate_left; (focus (try ((try simp only [BN] at hg); simp only [S1, simprocAttr, L4, e1, e2, e3, e4, e5, e6, e7, e8, hil, hi0, hei, hin0, f0, f40, gk, hz', hw', t49, c0, hc', eN, i9, k8, TSz, i8, i7, j3, PGB, n6 hb hne, k9 hl, l6 hb hne, j9 hl, gmB, spB, gl, hg] at p8 ⊢)); first | exact p8 | ((first | apply b9 E62 | apply c7 E62); exact (l9 _ fl hf' _ _); exact p8) | ((first | apply b9 E29 | apply c7 E29); exact (k4 _ fl hf' _ _); exact p8) | ((first | apply b9 E14 | apply c7 E14); exact (hw9 _); exact p8) | ((first | apply b9 E41 | apply c7 E41); exact (cv ok ⟨c, 0, 0, 0, 0, S⟩ _ hi _); exact p8)); (refine p7 _ ?_; clear p7 K1)) | (((first | (refine ⟨fun hg => hA ?_, fun hg => hB ?_⟩ <;> clear hA hB A B) | refine ⟨fun hg => ?_, fun hg => ?_⟩) <;> (try simp only [BN2] at hg) <;> (try simp only [hg, cndB])) <;> (try (refine p7 _ ?_; clear p7 K1)) <;> (try simp only [BN3] at hg))) | ((first | refine t9 (v := ?_) rfl rfl rfl rfl (by decide) (fun R1 K1 p7 => ?_) ?_ | refine t8 (v := ?_) rfl rfl rfl (by decide) (fun K1 p7 => ?_) ?_ | refine r8 (v := ?_) rfl rfl rfl (by decide) (fun K1 p7 => ?_) ?_); rotate_left; (focus (simp only [S1, simprocAttr, L4, e1, e2, e3, e4, e5, e6, e7, e8, hil, hi0, hei, hin0, f0, f40, gk, hz', hw', t49, c0, hc', eN, i9, k8, TSz, i8, i7, j3, PGB, n6 hb hne, k9 hl, l6 hb hne, j9 hl, gmB, spB, gl]; first | (exact p7 _ _ _) | ((first | apply b9 E62 | apply c7 E62); exact (l9 _ fl hf' _ _); exact p7 _ _ _) | ((first | apply b9 E29 | apply c7 E29); exact (k4 _ fl hf' _ _); exact p7 _ _ _) | ((first | apply b9 E14 | apply c7 E14); exact (hw9 _); exact p7 _ _ _) | ((first | apply b9 E41 | apply c7 E41); exact (cv ok ⟨c, 0, 0, 0, 0, S⟩ _ hi _); exact p7 _ _ _)))) | (refine n5 rfl rfl rfl ?_) | ((first | refine i3 (z := ?_) 0 rfl rfl rfl rfl (by decide) rfl ?_ ?_ | refine i3 (z := ?_) 1 rfl rfl rfl rfl (by decide) rfl ?_ ?_ | refine i3 (z := ?_) 2 rfl rfl rfl rfl (by decide) rfl ?_ ?_); rotate_left; (focus (simp only [S1, simprocAttr, L4, e1, e2, e3, e4, e5, e6, e7, e8, hil, hi0, hei, hin0, f0, f40, gk, hz', hw', t49, c0, hc', eN, i9, k8, TSz, i8, i7, j3, PGB, n6 hb hne, k9 hl, l6 hb hne, j9 hl, gmB, spB, gl, u9]; rfl))) | (refine b6 fun K hK => ?_) | (refine B9 [0, 1, 2, 3, 4, 5, 6, 7, 8, 9, 10, 11, 12, 13] (fs := []) rfl rfl (by kernel_rfl) (by kernel_rfl) ?_) | ((first | refine a9 ?_ | refine j4 (by kernel_rfl) ?_ | refine b7 ?_ | refine c9 ?_ | refine d4 ?_ | refine d7 ?_); try simp only [NB, simprocAttr]))
    all_goals simp only [S1, simprocAttr, ENB, y8, y1, j7, m8, l8] <;> first | exact i5 hl | exact ⟨i5 hl, rfl⟩ | exact ⟨i5 hl, rfl, rfl⟩
theorem tw (nk : NetOk ns fl) (rt : Right ns fl) (ok : GmOk h b lb S l) (st : StOk S) (few : l.length ≤ 900000) (c : Nat) {k : Nd} (hc : ns[c]? = some k) (hk : k.kind = 1) :
    f9 Tryz.prog gW 39 [.ptr b 0 0, .i c] (m3 h b lb ns fl S l) (fun r h' => r = .undef ∧ h' = m3 h b lb ns fl S (l ++ o7 ns fl S c k)) := by
  have hb := ok.hb
  have hl := ok.hl
  have hne := ok.ne
  have hS := ok.held.1
  have gl := v4 (ns := ns) (fl := fl) (lb := lb) (n := l.length) hS
  have gv := D4 (ns := ns) (fl := fl) (lb := lb) (n := l.length) hS
  have t49 := v8 (ns := ns) (fl := fl) (lb := lb) (n := l.length) hS
  have c0 : (0 : Int) ≤ (c : Int) := by omega
  have hc' := B8 hc
  have hf := rt.f
  have hf' : fl.length ≤ 100 := by omega
  have hkd := rt.kind hc
  have hi := J5 hf c
  have ho := A0 hf c
  have e2 : (k.kind == 2) = false := by simp [hk]
  have e3 : (k.kind == 3) = false := by simp [hk]
  have e4 : (k.kind == 4) = false := by simp [hk]
  have e5 : (k.kind == 5) = false := by simp [hk]
  have e6 : (k.kind == 6) = false := by simp [hk]
  have e7 : (k.kind == 7) = false := by simp [hk]
  have e8 : (k.kind == 8) = false := by simp [hk]
  have e1 : (k.kind != 1) = false := by simp [hk]
  have eg : o7 ns fl S c k = [] := by unfold o7; rw [if_neg (by omega), if_neg (by omega), if_neg (by omega), if_neg (by omega), if_neg (by omega), if_neg (by omega)]
  rw [eg, List.append_nil]
  refine j8 (rl := []) i6 Tryz.func39 rfl (rs := []) rfl Tryz.ntmps39 (by simp) ?_
  repeat' (first | ((first | refine c8 ?_ | refine b8 ?_ | refine o5 ?_ | refine m9 ?_); (try simp only [NB])) | ((repeat ((fail_if_success (refine hK _ ?_)); clear hK K)); refine hK _ ?_; clear hK K) | ((first | refine d8 fun K1 p7 => ?_ | refine d6 fun K1 p7 => ?_ | refine o6 rfl rfl rfl fun K1 p7 => ?_ | refine b5 fun A B hA hB => ?_); simp only [S1, simprocAttr, L4, e1, e2, e3, e4, e5, e6, e7, e8, c0, hc', eN, i9, k8, TSz, i8, i7, j3, PGB, n6 hb hne, k9 hl, l6 hb hne, j9 hl, gmB, spB, gl]; first | (refine p7 _ ?_; clear p7 K1) | ((first | refine hA ?_ | refine hB ?_); clear hA hB A B) | ((first | apply b9 E62 | apply c7 E62); exact (l9 _ fl hf' _ _); (refine p7 _ ?_; clear p7 K1)) | ((first | apply b9 E29 | apply c7 E29); exact (k4 _ fl hf' _ _); (refine p7 _ ?_; clear p7 K1)) | (refine g8 (v := ?_) (fun hg p8 => ?_) ?_; rotate_left; (focus (try ((try simp only [BN] at hg); simp only [S1, simprocAttr, L4, e1, e2, e3, e4, e5, e6, e7, e8, c0, hc', eN, i9, k8, TSz, i8, i7, j3, PGB, n6 hb hne, k9 hl, l6 hb hne, j9 hl, gmB, spB, gl, hg] at p8 ⊢)); first | exact p8 | ((first | apply b9 E62 | apply c7 E62); exact (l9 _ fl hf' _ _); exact p8) | ((first | apply b9 E29 | apply c7 E29); exact (k4 _ fl hf' _ _); exact p8)); (refine p7 _ ?_; clear p7 K1)) | (((first | (refine ⟨fun hg => hA ?_, fun hg => hB ?_⟩ <;> clear hA hB A B) | refine ⟨fun hg => ?_, fun hg => ?_⟩) <;> (try simp only [BN2] at hg) <;> (try simp only [hg, cndB])) <;> (try (refine p7 _ ?_; clear p7 K1)) <;> (try simp only [BN3] at hg))) | ((first | refine t9 (v := ?_) rfl rfl rfl rfl (by decide) (fun R1 K1 p7 => ?_) ?_ | refine t8 (v := ?_) rfl rfl rfl (by decide) (fun K1 p7 => ?_) ?_ | refine r8 (v := ?_) rfl rfl rfl (by decide) (fun K1 p7 => ?_) ?_); rotate_left; (focus (simp only [S1, simprocAttr, L4, e1, e2, e3, e4, e5, e6, e7, e8, c0, hc', eN, i9, k8, TSz, i8, i7, j3, PGB, n6 hb hne, k9 hl, l6 hb hne, j9 hl, gmB, spB, gl]; first | (exact p7 _ _ _) | ((first | apply b9 E62 | apply c7 E62); exact (l9 _ fl hf' _ _); exact p7 _ _ _) | ((first | apply b9 E29 | apply c7 E29); exact (k4 _ fl hf' _ _); exact p7 _ _ _)))) | (refine n5 rfl rfl rfl ?_) | ((first | refine i3 (z := ?_) 0 rfl rfl rfl rfl (by decide) rfl ?_ ?_ | refine i3 (z := ?_) 1 rfl rfl rfl rfl (by decide) rfl ?_ ?_ | refine i3 (z := ?_) 2 rfl rfl rfl rfl (by decide) rfl ?_ ?_); rotate_left; (focus (simp only [S1, simprocAttr, L4, e1, e2, e3, e4, e5, e6, e7, e8, c0, hc', eN, i9, k8, TSz, i8, i7, j3, PGB, n6 hb hne, k9 hl, l6 hb hne, j9 hl, gmB, spB, gl, u9]; rfl))) | (refine b6 fun K hK => ?_) | (refine B9 [0, 1, 2, 3, 4, 5, 6, 7, 8, 9, 10, 11, 12, 13] (fs := []) rfl rfl (by kernel_rfl) (by kernel_rfl) ?_) | ((first | refine a9 ?_ | refine j4 (by kernel_rfl) ?_ | refine b7 ?_ | refine c9 ?_ | refine d4 ?_ | refine d7 ?_); try simp only [NB, simprocAttr]))
  all_goals simp only [S1, simprocAttr, ENB, y8, y1, j7, m8, l8] <;> first | exact i5 hl | exact ⟨i5 hl, rfl⟩ | exact ⟨i5 hl, rfl, rfl⟩
theorem tx (nk : NetOk ns fl) (rt : Right ns fl) (ok : GmOk h b lb S l) (st : StOk S) (few : l.length ≤ 900000) (c : Nat) {k : Nd} (hc : ns[c]? = some k) (hk : k.kind = 7) (m : Nat) (hm : m < 40) (hin : p5 fl c = [(m : Int)]) (h0 : tk S (m : Int) ≠ 0) :
    f9 Tryz.prog gW 39 [.ptr b 0 0, .i c] (m3 h b lb ns fl S l) (fun r h' => r = .undef ∧ h' = m3 h b lb ns fl S (l ++ o7 ns fl S c k)) := by
  have hb := ok.hb
  have hl := ok.hl
  have hne := ok.ne
  have hS := ok.held.1
  have gl := v4 (ns := ns) (fl := fl) (lb := lb) (n := l.length) hS
  have gv := D4 (ns := ns) (fl := fl) (lb := lb) (n := l.length) hS
  have t49 := v8 (ns := ns) (fl := fl) (lb := lb) (n := l.length) hS
  have c0 : (0 : Int) ≤ (c : Int) := by omega
  have hc' := B8 hc
  have hf := rt.f
  have hf' : fl.length ≤ 100 := by omega
  have hkd := rt.kind hc
  have hi := J5 hf c
  have ho := A0 hf c
  obtain ⟨hv, v0, v3⟩ := ok.held.at hm
  have gk := U2 (ns := ns) (fl := fl) (lb := lb) (n := l.length) hv
  have f0 : (0 : Int) ≤ (m : Int) := by omega
  have f40 : (m : Int) < 40 := by omega
  have hz' : (tk S (m : Int) == 0) = false := by simp [h0]
  have hil : (((p5 fl c).length : Int) == 1) = true := by rw [hin]; rfl
  have hi0 : (p5 fl c)[0]? = some (m : Int) := by rw [hin]; rfl
  have hei : eI (m : Int) = [.int .i64 (m : Int)] := rfl
  have hin0 : (0 : Int) ≤ 0 := Int.le_refl 0
  have e2 : (k.kind == 2) = false := by simp [hk]
  have e3 : (k.kind == 3) = false := by simp [hk]
  have e4 : (k.kind == 4) = false := by simp [hk]
  have e5 : (k.kind == 5) = false := by simp [hk]
  have e6 : (k.kind == 6) = false := by simp [hk]
  have e7 : (k.kind == 7) = true := by simp [hk]
  have e8 : (k.kind == 8) = false := by simp [hk]
  have e1 : (k.kind != 1) = true := by simp [hk]
  have eg : o7 ns fl S c k = (k3 fl c).flatMap fun f => s9 ns fl S c f (V4 fl f) (p5 fl c) := by unfold o7; rw [if_neg (by omega), if_neg (by omega), if_neg (by omega), if_neg (by omega), if_pos hk]
  let acc := fun j => ((k3 fl c).take j).flatMap fun f => s9 ns fl S c f (V4 fl f) (p5 fl c)
  have hcl : ∀ f d, (s9 ns fl S c f d (p5 fl c)).length ≤ 1 := by
    intro f d
    unfold s9
    split
    · split
      · simp
      · exact A2 _ _ _ _
    · exact A2 _ _ _ _
  have hal : ∀ j, (acc j).length ≤ j := by
    intro j
    induction j with
    | zero => simp [acc]
    | succ j ih =>
      rcases Nat.lt_or_ge j (k3 fl c).length with hj | hj
      · have e : (k3 fl c).take (j + 1) = (k3 fl c).take j ++ [(k3 fl c)[j]] := by rw [List.take_add_one, List.getElem?_eq_getElem hj]; rfl
        simp only [acc] at ih ⊢
        rw [e, List.flatMap_append, List.length_append]
        have := hcl (k3 fl c)[j] (V4 fl (k3 fl c)[j])
        simp only [List.flatMap_cons, List.flatMap_nil, List.append_nil]
        omega
      · have e : (k3 fl c).take (j + 1) = (k3 fl c).take j := by rw [List.take_of_length_le (by omega), List.take_of_length_le hj]
        simp only [acc] at ih ⊢
        rw [e]; omega
  have hto : ∀ j, ∀ y ∈ acc j, y.to.length = 49 := by
    intro j y hy
    obtain ⟨f, _, hy⟩ := List.mem_flatMap.mp hy
    unfold s9 at hy
    split at hy
    · split at hy
      · cases hy
      · exact x7 hS (by rw [List.length_set, hS]) y hy
    · exact x7 hS hS y hy
  have eg2 : o7 ns fl S c k = acc (k3 fl c).length := by rw [eg]; simp only [acc, List.take_length]
  rw [eg2]
  have hol := ho.1
  refine j8 (rl := []) i6 Tryz.func39 rfl (rs := []) rfl Tryz.ntmps39 (by simp) ?_
  repeat' (first | ((first | refine c8 ?_ | refine b8 ?_ | refine o5 ?_ | refine m9 ?_); (try simp only [NB])) | ((repeat ((fail_if_success (refine hK _ ?_)); clear hK K)); refine hK _ ?_; clear hK K) | ((first | refine d8 fun K1 p7 => ?_ | refine d6 fun K1 p7 => ?_ | refine o6 rfl rfl rfl fun K1 p7 => ?_ | refine b5 fun A B hA hB => ?_); simp only [S1, simprocAttr, L4, e1, e2, e3, e4, e5, e6, e7, e8, hil, hi0, hei, hin0, f0, f40, gk, hz', c0, hc', eN, i9, k8, TSz, i8, i7, j3, PGB, n6 hb hne, k9 hl, l6 hb hne, j9 hl, gmB, spB, gl]; first | (refine p7 _ ?_; clear p7 K1) | ((first | refine hA ?_ | refine hB ?_); clear hA hB A B) | ((first | apply b9 E62 | apply c7 E62); exact (l9 _ fl hf' _ _); (refine p7 _ ?_; clear p7 K1)) | ((first | apply b9 E29 | apply c7 E29); exact (k4 _ fl hf' _ _); (refine p7 _ ?_; clear p7 K1)) | (refine g8 (v := ?_) (fun hg p8 => ?_) ?_; rotate_left; (focus (try ((try simp only [BN] at hg); simp only [S1, simprocAttr, L4, e1, e2, e3, e4, e5, e6, e7, e8, hil, hi0, hei, hin0, f0, f40, gk, hz', c0, hc', eN, i9, k8, TSz, i8, i7, j3, PGB, n6 hb hne, k9 hl, l6 hb hne, j9 hl, gmB, spB, gl, hg] at p8 ⊢)); first | exact p8 | ((first | apply b9 E62 | apply c7 E62); exact (l9 _ fl hf' _ _); exact p8) | ((first | apply b9 E29 | apply c7 E29); exact (k4 _ fl hf' _ _); exact p8)); (refine p7 _ ?_; clear p7 K1)) | (((first | (refine ⟨fun hg => hA ?_, fun hg => hB ?_⟩ <;> clear hA hB A B) | refine ⟨fun hg => ?_, fun hg => ?_⟩) <;> (try simp only [BN2] at hg) <;> (try simp only [hg, cndB])) <;> (try (refine p7 _ ?_; clear p7 K1)) <;> (try simp only [BN3] at hg))) | ((first | refine t9 (v := ?_) rfl rfl rfl rfl (by decide) (fun R1 K1 p7 => ?_) ?_ | refine t8 (v := ?_) rfl rfl rfl (by decide) (fun K1 p7 => ?_) ?_ | refine r8 (v := ?_) rfl rfl rfl (by decide) (fun K1 p7 => ?_) ?_); rotate_left; (focus (simp only [S1, simprocAttr, L4, e1, e2, e3, e4, e5, e6, e7, e8, hil, hi0, hei, hin0, f0, f40, gk, hz', c0, hc', eN, i9, k8, TSz, i8, i7, j3, PGB, n6 hb hne, k9 hl, l6 hb hne, j9 hl, gmB, spB, gl]; first | (exact p7 _ _ _) | ((first | apply b9 E62 | apply c7 E62); exact (l9 _ fl hf' _ _); exact p7 _ _ _) | ((first | apply b9 E29 | apply c7 E29); exact (k4 _ fl hf' _ _); exact p7 _ _ _)))) | (refine n5 rfl rfl rfl ?_) | ((first | refine i3 (z := ?_) 0 rfl rfl rfl rfl (by decide) rfl ?_ ?_ | refine i3 (z := ?_) 1 rfl rfl rfl rfl (by decide) rfl ?_ ?_ | refine i3 (z := ?_) 2 rfl rfl rfl rfl (by decide) rfl ?_ ?_); rotate_left; (focus (simp only [S1, simprocAttr, L4, e1, e2, e3, e4, e5, e6, e7, e8, hil, hi0, hei, hin0, f0, f40, gk, hz', c0, hc', eN, i9, k8, TSz, i8, i7, j3, PGB, n6 hb hne, k9 hl, l6 hb hne, j9 hl, gmB, spB, gl, u9]; rfl))) | (refine b6 fun K hK => ?_) | (refine B9 [0, 1, 2, 3, 4, 5, 6, 7, 8, 9, 10, 11, 12, 13] (fs := []) rfl rfl (by kernel_rfl) (by kernel_rfl) ?_) | ((first | refine a9 ?_ | refine j4 (by kernel_rfl) ?_ | refine b7 ?_ | refine c9 ?_ | refine d4 ?_ | refine d7 ?_); try simp only [NB, simprocAttr]))
  refine S6 (k3 fl c).length 174 (fun j => m3 h b lb ns fl S (l ++ acc j)) (fun j => [(121, .i j), (120, .i (k3 fl c).length), (119, aI (k3 fl c)), (5, aI (p5 fl c)), (1, .i c), (0, .ptr b 0 0)]) (fun j => []) (fun j => True) (fun j => ⟨by rw [j7, j7], aa hl⟩) ?_ trivial fun j hj hp K hK => ?_
  · have e0 : acc 0 = [] := by simp [acc]
    simp only [e0, List.append_nil]
    refine ⟨rfl, ⟨_, rfl⟩, ?_, trivial⟩
    simp only [S1, simprocAttr, KNB, j7] <;> (try and_intros) <;> (try assumption) <;> (try trivial) <;> (try omega)
  have okj : GmOk h b lb S (l ++ acc j) := ok.app (hto j) (by have := hal j; omega)
  rcases Nat.lt_or_ge j (k3 fl c).length with hlt | hge
  · obtain ⟨f, hfj⟩ : ∃ f, (k3 fl c)[j]? = some f := ⟨_, List.getElem?_eq_getElem hlt⟩
    obtain ⟨q, hfq, hq⟩ := R3 c f (List.mem_of_getElem? hfj)
    subst hfq
    obtain ⟨x, hx⟩ : ∃ x, fl[q]? = some x := ⟨_, List.getElem?_eq_getElem hq⟩
    obtain ⟨⟨s0, s1⟩, d0, d1⟩ := rt.isIn x (List.mem_of_getElem? hx)
    obtain ⟨d, hd⟩ := Int.eq_ofNat_of_zero_le d0
    obtain ⟨k2, hk2⟩ : ∃ k2, ns[d]? = some k2 := ⟨_, List.getElem?_eq_getElem (by omega)⟩
    have hkd2 := rt.kind hk2
    have hx' := I8 hx
    have q0 : (0 : Int) ≤ (q : Int) := by omega
    have eds : V4 fl (q : Int) = (d : Int) := by unfold V4; rw [Int.toNat_natCast, hx]; exact hd
    have ea' : l ++ acc (j + 1) = (l ++ acc j) ++ s9 ns fl S c q d (p5 fl c) := by
      simp only [acc]
      rw [List.take_add_one, hfj, List.flatMap_append, List.append_assoc]
      simp [eds]
    generalize hlj : l ++ acc j = lj at ea' okj ⊢
    repeat' (first | ((repeat ((fail_if_success (refine hK _ ?_)); clear hK K)); refine hK _ ?_; clear hK K) | ((first | refine d8 fun K1 p7 => ?_ | refine d6 fun K1 p7 => ?_ | refine b5 fun A B hA hB => ?_); simp only [S1, simprocAttr, L4, C2 hfj, I3 hlt, D9 (by omega) hlt, q0, hx', eF, hd, R8, gL, k8, TSz, i8, i7, j3, PGB, n6 hb hne, k9 hl, l6 hb hne, j9 hl, gmB, spB, gl]; first | refine p7 _ ?_; clear p7 K1 | ((first | refine hA ?_ | refine hB ?_); clear hA hB A B) | ((first | apply b9 E29 | apply c7 E29); exact (k4 _ fl hf' _ _); refine p7 _ ?_; clear p7 K1) | ((first | apply b9 E68 | apply c7 E68); exact (am okj st ⟨c, q, 0, 0, 0, S⟩ d hk2 ⟨hkd2.2.1, hkd2.2.2.2⟩ _ hi _ (A0 hf d) rfl); refine p7 _ ?_; clear p7 K1) | (refine g8 (v := ?_) (fun hg p8 => ?_) ?_; rotate_left; (focus (try ((try simp only [BN] at hg); simp only [S1, simprocAttr, L4, C2 hfj, I3 hlt, D9 (by omega) hlt, q0, hx', eF, hd, R8, gL, k8, TSz, i8, i7, j3, PGB, n6 hb hne, k9 hl, l6 hb hne, j9 hl, gmB, spB, gl, hg] at p8 ⊢)); first | exact p8 | ((first | apply b9 E29 | apply c7 E29); exact (k4 _ fl hf' _ _); exact p8) | ((first | apply b9 E68 | apply c7 E68); exact (am okj st ⟨c, q, 0, 0, 0, S⟩ d hk2 ⟨hkd2.2.1, hkd2.2.2.2⟩ _ hi _ (A0 hf d) rfl); exact p8)); refine p7 _ ?_; clear p7 K1) | (((first | (refine ⟨fun hg => hA ?_, fun hg => hB ?_⟩ <;> clear hA hB A B) | refine ⟨fun hg => ?_, fun hg => ?_⟩) <;> (try simp only [BN2] at hg) <;> (try simp only [hg, cndB])) <;> (try (refine p7 _ ?_; clear p7 K1)) <;> (try simp only [BN3] at hg))) | refine b6 fun K hK => ?_ | ((first | apply c8 | apply b8 | apply a9 | refine d5 ?_ | apply b7 | apply c9 | apply d4 | apply d7); try simp only [NB, simprocAttr]))
    all_goals refine ⟨hlt, trivial, ?_⟩
    all_goals simp only [ea']
    all_goals refine ⟨rfl, ⟨[], by simp only [List.append_nil]⟩, ?_, trivial⟩
    all_goals simp only [S1, simprocAttr, KNB, j7] <;> (try and_intros) <;> (try assumption) <;> (try trivial) <;> (try omega)
  · obtain rfl : j = (k3 fl c).length := by omega
    repeat' (first | ((repeat ((fail_if_success (refine hK _ ?_)); clear hK K)); refine hK _ ?_; clear hK K) | ((first | refine d8 fun K1 p7 => ?_ | refine d6 fun K1 p7 => ?_ | refine b5 fun A B hA hB => ?_); simp only [S1, simprocAttr, L4, D6]; first | refine p7 _ ?_; clear p7 K1 | ((first | refine hA ?_ | refine hB ?_); clear hA hB A B) | (refine g8 (v := ?_) (fun hg p8 => ?_) ?_; rotate_left; (focus (try ((try simp only [BN] at hg); simp only [S1, simprocAttr, L4, D6, hg] at p8 ⊢)); first | exact p8); refine p7 _ ?_; clear p7 K1) | (((first | (refine ⟨fun hg => hA ?_, fun hg => hB ?_⟩ <;> clear hA hB A B) | refine ⟨fun hg => ?_, fun hg => ?_⟩) <;> (try simp only [BN2] at hg) <;> (try simp only [hg, cndB])) <;> (try (refine p7 _ ?_; clear p7 K1)) <;> (try simp only [BN3] at hg))) | refine b6 fun K hK => ?_ | ((first | apply c8 | apply b8 | apply a9 | refine d5 ?_ | apply b7 | apply c9 | apply d4 | apply d7); try simp only [NB, simprocAttr]))
    all_goals simp only [S1, simprocAttr, ENB, y8, y1, j7, m8, l8] <;> first | exact i5 hl | exact ⟨i5 hl, rfl⟩ | exact ⟨i5 hl, rfl, rfl⟩
end
end
end Go.Proofs.YtjpphhcimpclpaaGreatDoor.AM
