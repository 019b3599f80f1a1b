/- Proved here, in parts, for one law: Plain: how many rules a node has, and what they need. The law of how many rules a process has. Conditions: none. -/
import Derived.Test.YtlophgkgmhcagaaDoorZAllE

section
set_option linter.unusedVariables false
set_option linter.unusedSimpArgs false
namespace Go.Proofs.YtlophgkgmhcagaaDoor.AM
open Go Go.Proofs

theorem pickF_has {q : Fl → Bool} {l : List Fl} : ∀ {j i : Nat} {f : Fl}, l[i]? = some f → q f = true → i < j → (i : Int) ∈ pickF q l j
  | 0, i, f, _, _, h => by omega
  | j + 1, i, f, hf, hq, h => by
    unfold pickF
    rcases Nat.lt_or_ge i j with h1 | h1
    · have := pickF_has (j := j) hf hq h1
      split
      · split
        · exact List.mem_append_left _ this
        · exact this
      · exact this
    · obtain rfl : i = j := by omega
      rw [hf]
      simp only [hq, if_true]
      exact List.mem_append_right _ (by simp)

theorem ins_has {fl : List Fl} {k : Nat} {f : Fl} (hf : fl[k]? = some f) : (k : Int) ∈ insN fl f.dst :=
  pickF_has hf (by simp) (List.getElem?_eq_some_iff.mp hf).1
theorem outs_has {fl : List Fl} {k : Nat} {f : Fl} (hf : fl[k]? = some f) : (k : Int) ∈ outsN fl f.src :=
  pickF_has hf (by simp) (List.getElem?_eq_some_iff.mp hf).1

theorem Right.event {ns : List Nd} {fl : List Fl} (h : Right ns fl) {i : Nat} (hi : i < ns.length) (hk : kindAt ns i = 7) : (insN fl i).length = 1 ∧ 2 ≤ (outsN fl i).length := by
  have := h.three hi
  unfold threeB at this
  simp only [hk] at this
  simp only [Int.reduceEq, reduceIte, Bool.or_eq_true, Bool.and_eq_true, beq_iff_eq, decide_eq_true_eq] at this
  omega
theorem Right.start {ns : List Nd} {fl : List Fl} (h : Right ns fl) {i : Nat} (hi : i < ns.length) (hk : kindAt ns i = 1) : (insN fl i).length = 0 ∧ (outsN fl i).length = 1 := by
  have := h.three hi
  unfold threeB at this
  simp only [hk] at this
  simp only [Int.reduceEq, reduceIte, Bool.or_eq_true, Bool.and_eq_true, beq_iff_eq, decide_eq_true_eq] at this
  omega
theorem Right.stop {ns : List Nd} {fl : List Fl} (h : Right ns fl) {i : Nat} (hi : i < ns.length) (hk : kindAt ns i = 2) : (insN fl i).length = 1 ∧ (outsN fl i).length = 0 := by
  have := h.three hi
  unfold threeB at this
  simp only [hk] at this
  simp only [Int.reduceEq, reduceIte, Bool.or_eq_true, Bool.and_eq_true, beq_iff_eq, decide_eq_true_eq] at this
  omega

theorem Right.count {ns : List Nd} {fl : List Fl} (h : Right ns fl) {i : Nat} (hi : i < ns.length) :
    (kindAt ns i = 1 → (ruOf fl i (kindAt ns i)).length = 0) ∧ (kindAt ns i = 5 ∨ kindAt ns i = 7 → (ruOf fl i (kindAt ns i)).length = (insN fl i).length * (outsN fl i).length) ∧
    (kindAt ns i ≠ 1 → kindAt ns i ≠ 5 → kindAt ns i ≠ 7 → (ruOf fl i (kindAt ns i)).length = 1) := by
  refine ⟨fun hk => ?_, fun hk => ?_, fun k1 k5 k7 => ?_⟩
  · unfold ruOf; rw [if_pos hk]; rfl
  · rcases hk with hk | hk
    · unfold ruOf
      rw [if_neg (by omega), if_neg (by omega), if_neg (by omega), if_pos hk]
      rcases h.xor hi hk with ⟨a, b⟩ | ⟨a, b⟩
      · rw [if_pos (by omega), List.length_map, a, Nat.one_mul]
      · rw [if_neg (by omega), List.length_map, b, Nat.mul_one]
    · unfold ruOf
      rw [if_neg (by omega), if_pos hk, List.length_map, (h.event hi hk).1, Nat.one_mul]
  · unfold ruOf
    rw [if_neg k1, if_neg k7]
    split <;> rfl

theorem ruOf_sub {ns : List Nd} {fl : List Fl} {i : Nat} : ∀ {j : Nat}, i < j → ∀ r ∈ ruOf fl i (kindAt ns i), r ∈ ruTo ns fl j
  | 0, h, _, _ => by omega
  | j + 1, h, r, hr => by
    rw [ruTo, List.mem_append]
    rcases Nat.lt_or_ge i j with h1 | h1
    · exact .inl (ruOf_sub h1 r hr)
    · obtain rfl : i = j := by omega
      exact .inr hr

/-- Each flow is needed by some rule. -/
theorem Right.needed {ns : List Nd} {fl : List Fl} (h : Right ns fl) {k : Nat} {f : Fl} (hf : fl[k]? = some f) : ∃ r ∈ ruTo ns fl ns.length, (k : Int) ∈ r.needs := by
  obtain ⟨⟨a1, a2⟩, b1, b2⟩ := h.isIn f (List.mem_of_getElem? hf)
  obtain ⟨i, hi⟩ := Int.eq_ofNat_of_zero_le b1
  have hin := ins_has hf
  rw [hi] at hin b2
  have hlt : i < ns.length := by omega
  have hpos : 0 < (insN fl i).length := List.length_pos_of_mem hin
  have k1 : kindAt ns i ≠ 1 := fun hk => by have := h.start hlt hk; omega
  have key : ∃ r ∈ ruOf fl i (kindAt ns i), (k : Int) ∈ r.needs := by
    unfold ruOf
    rw [if_neg k1]
    by_cases k7 : kindAt ns i = 7
    · rw [if_pos k7]
      have := (h.event hlt k7).2
      obtain ⟨o, ho⟩ := List.exists_mem_of_length_pos (l := outsN fl i) (by omega)
      exact ⟨_, List.mem_map.mpr ⟨o, ho, rfl⟩, hin⟩
    rw [if_neg k7]
    by_cases k8 : kindAt ns i = 8
    · rw [if_pos k8]; exact ⟨_, List.mem_singleton.mpr rfl, hin⟩
    rw [if_neg k8]
    by_cases k5 : kindAt ns i = 5
    · rw [if_pos k5]
      rcases h.xor hlt k5 with ⟨a, b⟩ | ⟨a, b⟩
      · rw [if_pos (by omega)]
        obtain ⟨o, ho⟩ := List.exists_mem_of_length_pos (l := outsN fl i) (by omega)
        exact ⟨_, List.mem_map.mpr ⟨o, ho, rfl⟩, hin⟩
      · rw [if_neg (by omega)]
        exact ⟨_, List.mem_map.mpr ⟨_, hin, rfl⟩, List.mem_singleton.mpr rfl⟩
    · rw [if_neg k5]; exact ⟨_, List.mem_singleton.mpr rfl, hin⟩
  obtain ⟨r, hr, hn⟩ := key
  exact ⟨r, ruOf_sub hlt r hr, hn⟩

/-- No flow leads from an End. -/
theorem Right.notEnd {ns : List Nd} {fl : List Fl} (h : Right ns fl) {k : Nat} {f : Fl} (hf : fl[k]? = some f) : kindAt ns f.src ≠ 2 := by
  obtain ⟨⟨a1, a2⟩, b1, b2⟩ := h.isIn f (List.mem_of_getElem? hf)
  obtain ⟨i, hi⟩ := Int.eq_ofNat_of_zero_le a1
  have hin := outs_has hf
  rw [hi] at hin a2 ⊢
  intro hk
  have := h.stop (i := i) (by omega) hk
  have := List.length_pos_of_mem hin
  omega

/-- Is a flow asked for among the first needs of a list? -/
def hasI (k : Int) (l : List Int) (j : Nat) : Bool := (l.take j).any (· == k)
def hasR (k : Int) (l : List Ru) (j : Nat) : Bool := (l.take j).any fun r => r.needs.any (· == k)

theorem hasI_step {k x : Int} {l : List Int} {j : Nat} (h : l[j]? = some x) : hasI k l (j + 1) = (hasI k l j || x == k) := by
  unfold hasI; rw [List.take_add_one, h]; simp
theorem hasR_step {k : Int} {x : Ru} {l : List Ru} {j : Nat} (h : l[j]? = some x) : hasR k l (j + 1) = (hasR k l j || hasI k x.needs x.needs.length) := by
  unfold hasR hasI; rw [List.take_add_one, h, List.take_length]; simp
theorem hasR_all {k : Int} {l : List Ru} (h : ∃ r ∈ l, k ∈ r.needs) : hasR k l l.length = true := by
  obtain ⟨r, hr, hn⟩ := h
  unfold hasR
  rw [List.take_length, List.any_eq_true]
  exact ⟨r, hr, List.any_eq_true.mpr ⟨k, hn, by simp⟩⟩
end Go.Proofs.YtlophgkgmhcagaaDoor.AM
end

section
set_option linter.unusedVariables false
set_option linter.unusedSimpArgs false
set_option maxRecDepth 4000
set_option maxHeartbeats 4000000
namespace Go.Proofs.YtlophgkgmhcagaaDoor.AM
open Go Go.Proofs
attribute [local irreducible] awp aops aqops aeops arun arunT

theorem ruleCounts_law (ns : List Nd) (fl : List Fl) (h : Heap) : ACalls Tryd.prog gW 5 [aNet ns fl] h (fun r h' => r = .b true ∧ h' = h) := by
  have hlg := fun h => large_calls (G := gW) ns fl h
  cases hL : largeN ns fl with
  | true =>
    rw [hL] at hlg
    refine acalls_pure (rl := []) mixed Tryd.func5 rfl (rs := [.tmp 2]) rfl Tryd.ntmps5 (by simp) ?_
    repeat' (first | ((first | refine aops_nil ?_ | refine aqops_nil ?_); (try simp only [NB])) | ((repeat ((fail_if_success (refine hK _ ?_)); clear hK K)); refine hK _ ?_; clear hK K) | ((first | refine aops_k fun K1 hK1 => ?_ | refine aqops_k fun K1 hK1 => ?_ | refine awp_cond_k fun A B hA hB => ?_); simp only [S1, simprocAttr, T2, T3, T4, T22, T23, T25, T28, T29, T35, T37, T49, T51, T53, T55, T58]; first | (refine hK1 _ ?_; clear hK1 K1) | ((first | refine hA ?_ | refine hB ?_); clear hA hB A B) | ((first | apply call_a E7 | apply call_q E7); exact (hlg _); (refine hK1 _ ?_; clear hK1 K1)) | ((first | apply call_a E8 | apply call_q E8); exact (line_calls _); (refine hK1 _ ?_; clear hK1 K1)) | (refine join_x (v := ?_) (fun hg hk9 => ?_) ?_; rotate_left; (focus (try ((try simp only [BN] at hg); simp only [S1, simprocAttr, T2, T3, T4, T22, T23, T25, T28, T29, T35, T37, T49, T51, T53, T55, T58, hg] at hk9 ⊢)); first | exact hk9 | ((first | apply call_a E7 | apply call_q E7); exact (hlg _); exact hk9) | ((first | apply call_a E8 | apply call_q E8); exact (line_calls _); exact hk9)); (refine hK1 _ ?_; clear hK1 K1)) | (((first | (refine ⟨fun hg => hA ?_, fun hg => hB ?_⟩ <;> clear hA hB A B) | refine ⟨fun hg => ?_, fun hg => ?_⟩) <;> (try simp only [BN2] at hg) <;> (try simp only [hg, cond_true, cond_false])) <;> (try (refine hK1 _ ?_; clear hK1 K1)) <;> (try simp only [BN3] at hg))) | (refine awp_seq_k fun K hK => ?_) | ((first | refine awp_region ?_ | refine awp_draw (by kernel_rfl) ?_ | refine awp_block ?_ | refine awp_exit ?_ | refine awp_skip ?_ | refine awp_ret ?_); (try simp only [NB, simprocAttr])))
    all_goals simp only [EndP, FinP, resA, resL, resA1, lastV, lastA, lastAs, pur, purs, take_app, List.take_length, S1, simprocAttr, T2, T3, T4, T22, T23, T25, T28, T29, T35, T37, T49, T51, T53, T55, T58, Nat.le_add_right, Nat.le_refl]
  | false =>
    rw [hL] at hlg
    have ok := large_ok hL
    have hl := ok.f
    have hn := ok.n
    have hck := fun h => rCheck_calls (G := gW) ns fl ok h
    by_cases h0 : (netN ns fl).1 = 0
    case neg =>
      have f0 : ((netN ns fl).1 != 0) = true := by simpa using h0
      refine acalls_pure (rl := []) mixed Tryd.func5 rfl (rs := [.tmp 2]) rfl Tryd.ntmps5 (by simp) ?_
      repeat' (first | ((first | refine aops_nil ?_ | refine aqops_nil ?_); (try simp only [NB])) | ((repeat ((fail_if_success (refine hK _ ?_)); clear hK K)); refine hK _ ?_; clear hK K) | ((first | refine aops_k fun K1 hK1 => ?_ | refine aqops_k fun K1 hK1 => ?_ | refine awp_cond_k fun A B hA hB => ?_); simp only [S1, simprocAttr, T2, T3, T4, T22, T23, T25, T28, T29, T35, T37, T49, T51, T53, T55, T58, f0]; first | (refine hK1 _ ?_; clear hK1 K1) | ((first | refine hA ?_ | refine hB ?_); clear hA hB A B) | ((first | apply call_a E7 | apply call_q E7); exact (hlg _); (refine hK1 _ ?_; clear hK1 K1)) | ((first | apply call_a E8 | apply call_q E8); exact (line_calls _); (refine hK1 _ ?_; clear hK1 K1)) | ((first | apply call_a E17 | apply call_q E17); exact (hck _); (refine hK1 _ ?_; clear hK1 K1)) | (refine join_x (v := ?_) (fun hg hk9 => ?_) ?_; rotate_left; (focus (try ((try simp only [BN] at hg); simp only [S1, simprocAttr, T2, T3, T4, T22, T23, T25, T28, T29, T35, T37, T49, T51, T53, T55, T58, f0, hg] at hk9 ⊢)); first | exact hk9 | ((first | apply call_a E7 | apply call_q E7); exact (hlg _); exact hk9) | ((first | apply call_a E8 | apply call_q E8); exact (line_calls _); exact hk9) | ((first | apply call_a E17 | apply call_q E17); exact (hck _); exact hk9)); (refine hK1 _ ?_; clear hK1 K1)) | (((first | (refine ⟨fun hg => hA ?_, fun hg => hB ?_⟩ <;> clear hA hB A B) | refine ⟨fun hg => ?_, fun hg => ?_⟩) <;> (try simp only [BN2] at hg) <;> (try simp only [hg, cond_true, cond_false])) <;> (try (refine hK1 _ ?_; clear hK1 K1)) <;> (try simp only [BN3] at hg))) | (refine awp_seq_k fun K hK => ?_) | ((first | refine awp_region ?_ | refine awp_draw (by kernel_rfl) ?_ | refine awp_block ?_ | refine awp_exit ?_ | refine awp_skip ?_ | refine awp_ret ?_); (try simp only [NB, simprocAttr])))
      all_goals simp only [EndP, FinP, resA, resL, resA1, lastV, lastA, lastAs, pur, purs, take_app, List.take_length, S1, simprocAttr, T2, T3, T4, T22, T23, T25, T28, T29, T35, T37, T49, T51, T53, T55, T58, Nat.le_add_right, Nat.le_refl]
    have f0 : ((netN ns fl).1 != 0) = false := by simpa using h0
    have hR := Right.of h0
    have hd := hR.isIn
    have ha := fun h => rAll_calls ns fl ok h
    have e : allRu ns fl = (ruTo ns fl ns.length, 0) := by unfold allRu; rw [if_pos h0]
    rw [e] at ha
    have hll : (ruTo ns fl ns.length).length ≤ 20000 := by
      have h1 := ruTo_le ns fl ns.length
      have h2 : ns.length * (fl.length + 1) ≤ 100 * 101 := Nat.mul_le_mul hn (by omega)
      omega
    refine acalls_pure (rl := []) mixed Tryd.func5 rfl (rs := [.tmp 2]) rfl Tryd.ntmps5 (by simp) ?_
    repeat' (first | ((first | refine aops_nil ?_ | refine aqops_nil ?_); (try simp only [NB])) | ((repeat ((fail_if_success (refine hK _ ?_)); clear hK K)); refine hK _ ?_; clear hK K) | ((first | refine aops_k fun K1 hK1 => ?_ | refine aqops_k fun K1 hK1 => ?_ | refine awp_cond_k fun A B hA hB => ?_); simp only [S1, simprocAttr, T2, T3, T4, T22, T23, T25, T28, T29, T35, T37, T49, T51, T53, T55, T58, f0, List.length_map]; first | (refine hK1 _ ?_; clear hK1 K1) | ((first | refine hA ?_ | refine hB ?_); clear hA hB A B) | ((first | apply call_a E7 | apply call_q E7); exact (hlg _); (refine hK1 _ ?_; clear hK1 K1)) | ((first | apply call_a E17 | apply call_q E17); exact (hck _); (refine hK1 _ ?_; clear hK1 K1)) | ((first | apply call_a E9 | apply call_q E9); exact (ha _); (refine hK1 _ ?_; clear hK1 K1)) | (refine join_x (v := ?_) (fun hg hk9 => ?_) ?_; rotate_left; (focus (try ((try simp only [BN] at hg); simp only [S1, simprocAttr, T2, T3, T4, T22, T23, T25, T28, T29, T35, T37, T49, T51, T53, T55, T58, f0, List.length_map, hg] at hk9 ⊢)); first | exact hk9 | ((first | apply call_a E7 | apply call_q E7); exact (hlg _); exact hk9) | ((first | apply call_a E17 | apply call_q E17); exact (hck _); exact hk9) | ((first | apply call_a E9 | apply call_q E9); exact (ha _); exact hk9)); (refine hK1 _ ?_; clear hK1 K1)) | (((first | (refine ⟨fun hg => hA ?_, fun hg => hB ?_⟩ <;> clear hA hB A B) | refine ⟨fun hg => ?_, fun hg => ?_⟩) <;> (try simp only [BN2] at hg) <;> (try simp only [hg, cond_true, cond_false])) <;> (try (refine hK1 _ ?_; clear hK1 K1)) <;> (try simp only [BN3] at hg))) | (refine awp_seq_k fun K hK => ?_) | ((first | refine awp_region ?_ | refine awp_draw (by kernel_rfl) ?_ | refine awp_block ?_ | refine awp_exit ?_ | refine awp_skip ?_ | refine awp_ret ?_); (try simp only [NB, simprocAttr])))
    refine awp_for ns.length 115 (fun j => [(34, .i j), (33, .i ns.length), (32, .p (.sl (ns.map eN))), (5, .i (ruTo ns fl j).length), (4, .i 0), (3, aRus (ruTo ns fl ns.length)), (1, .ptr h.length 0 0)]) (fun j => [some ⟨0, cNet ns fl⟩]) (fun j => True) ?_ trivial fun j hj hp K hK => ?_
    · (refine ⟨rfl, (by first | exact ⟨_, rfl⟩ | exact ⟨[], by simp⟩), ?_, ?_⟩ <;> simp only [keeps, avlt, avlts, blksLt, frL, upd_get, S1, simprocAttr, List.length_map, Int.natCast_zero, AV.p.injEq, PV.int.injEq, PV.bool.injEq, PV.sl.injEq] <;> (try and_intros) <;> (try assumption) <;> (try trivial) <;> (try omega))
    rcases Nat.lt_or_ge j ns.length with hlt | hge
    · obtain ⟨k, hx⟩ : ∃ k, ns[j]? = some k := ⟨_, List.getElem?_eq_getElem hlt⟩
      have ek := kind_of hx
      obtain ⟨c1, c2, c3⟩ := hR.count hlt
      have ej : (ruTo ns fl (j + 1)).length = (ruTo ns fl j).length + (ruOf fl j (kindAt ns j)).length := by rw [ruTo, List.length_append]
      have hb : (ruTo ns fl j).length ≤ 20000 := by
        have h1 := ruTo_le ns fl j
        have h2 : j * (fl.length + 1) ≤ 100 * 101 := Nat.mul_le_mul (by omega) (by omega)
        omega
      have ho := ruOf_le fl j (kindAt ns j)
      rw [ek] at c1 c2 c3 ej ho
      by_cases k1 : k.kind = 1
      · have e1 : (ruTo ns fl (j + 1)).length = (ruTo ns fl j).length := by rw [ej, c1 k1]; rfl
        repeat' (first | ((first | refine aops_nil ?_ | refine aqops_nil ?_); (try simp only [NB])) | ((repeat ((fail_if_success (refine hK _ ?_)); clear hK K)); refine hK _ ?_; clear hK K) | ((first | refine aops_k fun K1 hK1 => ?_ | refine aqops_k fun K1 hK1 => ?_ | refine awp_cond_k fun A B hA hB => ?_); simp only [S1, simprocAttr, T2, T3, T4, T22, T23, T25, T28, T29, T35, T37, T49, T51, T53, T55, T58, rowN hx, hitN hlt, nextN hn hlt, eN, k1, List.length_map]; first | (refine hK1 _ ?_; clear hK1 K1) | ((first | refine hA ?_ | refine hB ?_); clear hA hB A B) | ((first | apply call_a E18 | apply call_q E18); exact (rIns_calls _ fl hl _ _); (refine hK1 _ ?_; clear hK1 K1)) | ((first | apply call_a E19 | apply call_q E19); exact (rOuts_calls _ fl hl _ _); (refine hK1 _ ?_; clear hK1 K1)) | (refine join_x (v := ?_) (fun hg hk9 => ?_) ?_; rotate_left; (focus (try ((try simp only [BN] at hg); simp only [S1, simprocAttr, T2, T3, T4, T22, T23, T25, T28, T29, T35, T37, T49, T51, T53, T55, T58, rowN hx, hitN hlt, nextN hn hlt, eN, k1, List.length_map, hg] at hk9 ⊢)); first | exact hk9 | ((first | apply call_a E18 | apply call_q E18); exact (rIns_calls _ fl hl _ _); exact hk9) | ((first | apply call_a E19 | apply call_q E19); exact (rOuts_calls _ fl hl _ _); exact hk9)); (refine hK1 _ ?_; clear hK1 K1)) | (((first | (refine ⟨fun hg => hA ?_, fun hg => hB ?_⟩ <;> clear hA hB A B) | refine ⟨fun hg => ?_, fun hg => ?_⟩) <;> (try simp only [BN2] at hg) <;> (try simp only [hg, cond_true, cond_false])) <;> (try (refine hK1 _ ?_; clear hK1 K1)) <;> (try simp only [BN3] at hg))) | (refine awp_seq_k fun K hK => ?_) | ((first | refine awp_region ?_ | refine awp_draw (by kernel_rfl) ?_ | refine awp_block ?_ | refine awp_exit ?_ | refine awp_skip ?_ | refine awp_ret ?_); (try simp only [NB, simprocAttr])))
        all_goals refine ⟨hlt, trivial, ?_⟩
        all_goals simp only [e1]
        all_goals (refine ⟨rfl, (by first | exact ⟨_, rfl⟩ | exact ⟨[], by simp⟩), ?_, ?_⟩ <;> simp only [keeps, avlt, avlts, blksLt, frL, upd_get, S1, simprocAttr, List.length_map, Int.natCast_zero, AV.p.injEq, PV.int.injEq, PV.bool.injEq, PV.sl.injEq] <;> (try and_intros) <;> (try assumption) <;> (try trivial) <;> (try omega))
      have f1 : (k.kind == 1) = false := by simp [k1]
      by_cases k57 : k.kind = 5 ∨ k.kind = 7
      · have e1 := c2 k57
        have w1 : IntKind.i64.wrap (((insN fl j).length : Int) * ((outsN fl j).length : Int)) = ((ruOf fl j k.kind).length : Int) := by
          rw [e1, Int.natCast_mul]
          refine IntWalk.i64_in _ ?_
          rw [← Int.natCast_mul, ← e1]; omega
        have w2 : IntKind.i64.wrap (((ruTo ns fl j).length : Int) + ((ruOf fl j k.kind).length : Int)) = ((ruTo ns fl (j + 1)).length : Int) := by
          rw [IntWalk.i64_in _ (by omega), ej]; omega
        rcases k57 with k5 | k7
        · rw [k5] at w1 w2
          repeat' (first | ((first | refine aops_nil ?_ | refine aqops_nil ?_); (try simp only [NB])) | ((repeat ((fail_if_success (refine hK _ ?_)); clear hK K)); refine hK _ ?_; clear hK K) | ((first | refine aops_k fun K1 hK1 => ?_ | refine aqops_k fun K1 hK1 => ?_ | refine awp_cond_k fun A B hA hB => ?_); simp only [S1, simprocAttr, T2, T3, T4, T22, T23, T25, T28, T29, T35, T37, T49, T51, T53, T55, T58, rowN hx, hitN hlt, nextN hn hlt, eN, k5, w1, w2, List.length_map]; first | (refine hK1 _ ?_; clear hK1 K1) | ((first | refine hA ?_ | refine hB ?_); clear hA hB A B) | ((first | apply call_a E18 | apply call_q E18); exact (rIns_calls _ fl hl _ _); (refine hK1 _ ?_; clear hK1 K1)) | ((first | apply call_a E19 | apply call_q E19); exact (rOuts_calls _ fl hl _ _); (refine hK1 _ ?_; clear hK1 K1)) | (refine join_x (v := ?_) (fun hg hk9 => ?_) ?_; rotate_left; (focus (try ((try simp only [BN] at hg); simp only [S1, simprocAttr, T2, T3, T4, T22, T23, T25, T28, T29, T35, T37, T49, T51, T53, T55, T58, rowN hx, hitN hlt, nextN hn hlt, eN, k5, w1, w2, List.length_map, hg] at hk9 ⊢)); first | exact hk9 | ((first | apply call_a E18 | apply call_q E18); exact (rIns_calls _ fl hl _ _); exact hk9) | ((first | apply call_a E19 | apply call_q E19); exact (rOuts_calls _ fl hl _ _); exact hk9)); (refine hK1 _ ?_; clear hK1 K1)) | (((first | (refine ⟨fun hg => hA ?_, fun hg => hB ?_⟩ <;> clear hA hB A B) | refine ⟨fun hg => ?_, fun hg => ?_⟩) <;> (try simp only [BN2] at hg) <;> (try simp only [hg, cond_true, cond_false])) <;> (try (refine hK1 _ ?_; clear hK1 K1)) <;> (try simp only [BN3] at hg))) | (refine awp_seq_k fun K hK => ?_) | ((first | refine awp_region ?_ | refine awp_draw (by kernel_rfl) ?_ | refine awp_block ?_ | refine awp_exit ?_ | refine awp_skip ?_ | refine awp_ret ?_); (try simp only [NB, simprocAttr])))
          all_goals refine ⟨hlt, trivial, ?_⟩
          all_goals (refine ⟨rfl, (by first | exact ⟨_, rfl⟩ | exact ⟨[], by simp⟩), ?_, ?_⟩ <;> simp only [keeps, avlt, avlts, blksLt, frL, upd_get, S1, simprocAttr, List.length_map, Int.natCast_zero, AV.p.injEq, PV.int.injEq, PV.bool.injEq, PV.sl.injEq] <;> (try and_intros) <;> (try assumption) <;> (try trivial) <;> (try omega))
        · have f5 : (k.kind == 5) = false := by simp [k7]
          rw [k7] at w1 w2
          repeat' (first | ((first | refine aops_nil ?_ | refine aqops_nil ?_); (try simp only [NB])) | ((repeat ((fail_if_success (refine hK _ ?_)); clear hK K)); refine hK _ ?_; clear hK K) | ((first | refine aops_k fun K1 hK1 => ?_ | refine aqops_k fun K1 hK1 => ?_ | refine awp_cond_k fun A B hA hB => ?_); simp only [S1, simprocAttr, T2, T3, T4, T22, T23, T25, T28, T29, T35, T37, T49, T51, T53, T55, T58, rowN hx, hitN hlt, nextN hn hlt, eN, k7, w1, w2, List.length_map]; first | (refine hK1 _ ?_; clear hK1 K1) | ((first | refine hA ?_ | refine hB ?_); clear hA hB A B) | ((first | apply call_a E18 | apply call_q E18); exact (rIns_calls _ fl hl _ _); (refine hK1 _ ?_; clear hK1 K1)) | ((first | apply call_a E19 | apply call_q E19); exact (rOuts_calls _ fl hl _ _); (refine hK1 _ ?_; clear hK1 K1)) | (refine join_x (v := ?_) (fun hg hk9 => ?_) ?_; rotate_left; (focus (try ((try simp only [BN] at hg); simp only [S1, simprocAttr, T2, T3, T4, T22, T23, T25, T28, T29, T35, T37, T49, T51, T53, T55, T58, rowN hx, hitN hlt, nextN hn hlt, eN, k7, w1, w2, List.length_map, hg] at hk9 ⊢)); first | exact hk9 | ((first | apply call_a E18 | apply call_q E18); exact (rIns_calls _ fl hl _ _); exact hk9) | ((first | apply call_a E19 | apply call_q E19); exact (rOuts_calls _ fl hl _ _); exact hk9)); (refine hK1 _ ?_; clear hK1 K1)) | (((first | (refine ⟨fun hg => hA ?_, fun hg => hB ?_⟩ <;> clear hA hB A B) | refine ⟨fun hg => ?_, fun hg => ?_⟩) <;> (try simp only [BN2] at hg) <;> (try simp only [hg, cond_true, cond_false])) <;> (try (refine hK1 _ ?_; clear hK1 K1)) <;> (try simp only [BN3] at hg))) | (refine awp_seq_k fun K hK => ?_) | ((first | refine awp_region ?_ | refine awp_draw (by kernel_rfl) ?_ | refine awp_block ?_ | refine awp_exit ?_ | refine awp_skip ?_ | refine awp_ret ?_); (try simp only [NB, simprocAttr])))
          all_goals refine ⟨hlt, trivial, ?_⟩
          all_goals (refine ⟨rfl, (by first | exact ⟨_, rfl⟩ | exact ⟨[], by simp⟩), ?_, ?_⟩ <;> simp only [keeps, avlt, avlts, blksLt, frL, upd_get, S1, simprocAttr, List.length_map, Int.natCast_zero, AV.p.injEq, PV.int.injEq, PV.bool.injEq, PV.sl.injEq] <;> (try and_intros) <;> (try assumption) <;> (try trivial) <;> (try omega))
      · have f5 : (k.kind == 5) = false := by simp; omega
        have f7 : (k.kind == 7) = false := by simp; omega
        have e1 := c3 k1 (by omega) (by omega)
        have w2 : IntKind.i64.wrap (((ruTo ns fl j).length : Int) + 1) = ((ruTo ns fl (j + 1)).length : Int) := by
          rw [IntWalk.i64_in _ (by omega), ej, e1]; omega
        repeat' (first | ((first | refine aops_nil ?_ | refine aqops_nil ?_); (try simp only [NB])) | ((repeat ((fail_if_success (refine hK _ ?_)); clear hK K)); refine hK _ ?_; clear hK K) | ((first | refine aops_k fun K1 hK1 => ?_ | refine aqops_k fun K1 hK1 => ?_ | refine awp_cond_k fun A B hA hB => ?_); simp only [S1, simprocAttr, T2, T3, T4, T22, T23, T25, T28, T29, T35, T37, T49, T51, T53, T55, T58, rowN hx, hitN hlt, nextN hn hlt, eN, f1, f5, f7, w2, List.length_map]; first | (refine hK1 _ ?_; clear hK1 K1) | ((first | refine hA ?_ | refine hB ?_); clear hA hB A B) | ((first | apply call_a E18 | apply call_q E18); exact (rIns_calls _ fl hl _ _); (refine hK1 _ ?_; clear hK1 K1)) | ((first | apply call_a E19 | apply call_q E19); exact (rOuts_calls _ fl hl _ _); (refine hK1 _ ?_; clear hK1 K1)) | (refine join_x (v := ?_) (fun hg hk9 => ?_) ?_; rotate_left; (focus (try ((try simp only [BN] at hg); simp only [S1, simprocAttr, T2, T3, T4, T22, T23, T25, T28, T29, T35, T37, T49, T51, T53, T55, T58, rowN hx, hitN hlt, nextN hn hlt, eN, f1, f5, f7, w2, List.length_map, hg] at hk9 ⊢)); first | exact hk9 | ((first | apply call_a E18 | apply call_q E18); exact (rIns_calls _ fl hl _ _); exact hk9) | ((first | apply call_a E19 | apply call_q E19); exact (rOuts_calls _ fl hl _ _); exact hk9)); (refine hK1 _ ?_; clear hK1 K1)) | (((first | (refine ⟨fun hg => hA ?_, fun hg => hB ?_⟩ <;> clear hA hB A B) | refine ⟨fun hg => ?_, fun hg => ?_⟩) <;> (try simp only [BN2] at hg) <;> (try simp only [hg, cond_true, cond_false])) <;> (try (refine hK1 _ ?_; clear hK1 K1)) <;> (try simp only [BN3] at hg))) | (refine awp_seq_k fun K hK => ?_) | ((first | refine awp_region ?_ | refine awp_draw (by kernel_rfl) ?_ | refine awp_block ?_ | refine awp_exit ?_ | refine awp_skip ?_ | refine awp_ret ?_); (try simp only [NB, simprocAttr])))
        all_goals refine ⟨hlt, trivial, ?_⟩
        all_goals (refine ⟨rfl, (by first | exact ⟨_, rfl⟩ | exact ⟨[], by simp⟩), ?_, ?_⟩ <;> simp only [keeps, avlt, avlts, blksLt, frL, upd_get, S1, simprocAttr, List.length_map, Int.natCast_zero, AV.p.injEq, PV.int.injEq, PV.bool.injEq, PV.sl.injEq] <;> (try and_intros) <;> (try assumption) <;> (try trivial) <;> (try omega))
    obtain rfl : j = ns.length := by omega
    generalize hlr : ruTo ns fl ns.length = l at *
    repeat' (first | ((first | refine aops_nil ?_ | refine aqops_nil ?_); (try simp only [NB])) | ((repeat ((fail_if_success (refine hK _ ?_)); clear hK K)); refine hK _ ?_; clear hK K) | ((first | refine aops_k fun K1 hK1 => ?_ | refine aqops_k fun K1 hK1 => ?_ | refine awp_cond_k fun A B hA hB => ?_); simp only [S1, simprocAttr, T2, T3, T4, T22, T23, T25, T28, T29, T35, T37, T49, T51, T53, T55, T58, endN, List.length_map]; first | (refine hK1 _ ?_; clear hK1 K1) | ((first | refine hA ?_ | refine hB ?_); clear hA hB A B) | (refine join_x (v := ?_) (fun hg hk9 => ?_) ?_; rotate_left; (focus (try ((try simp only [BN] at hg); simp only [S1, simprocAttr, T2, T3, T4, T22, T23, T25, T28, T29, T35, T37, T49, T51, T53, T55, T58, endN, List.length_map, hg] at hk9 ⊢)); first | exact hk9); (refine hK1 _ ?_; clear hK1 K1)) | (((first | (refine ⟨fun hg => hA ?_, fun hg => hB ?_⟩ <;> clear hA hB A B) | refine ⟨fun hg => ?_, fun hg => ?_⟩) <;> (try simp only [BN2] at hg) <;> (try simp only [hg, cond_true, cond_false])) <;> (try (refine hK1 _ ?_; clear hK1 K1)) <;> (try simp only [BN3] at hg))) | (refine awp_seq_k fun K hK => ?_) | ((first | refine awp_region ?_ | refine awp_draw (by kernel_rfl) ?_ | refine awp_block ?_ | refine awp_exit ?_ | refine awp_skip ?_ | refine awp_ret ?_); (try simp only [NB, simprocAttr])))
    refine awp_for fl.length 115 (fun k => [(65, .i k), (64, .i fl.length), (63, .p (.sl (fl.map eF))), (5, .i l.length), (4, .i 0), (3, aRus l), (1, .ptr h.length 0 0)]) (fun j => [some ⟨0, cNet ns fl⟩]) (fun j => True) ?_ trivial fun k hk hp K hK => ?_
    · (refine ⟨rfl, (by first | exact ⟨_, rfl⟩ | exact ⟨[], by simp⟩), ?_, ?_⟩ <;> simp only [keeps, avlt, avlts, blksLt, frL, upd_get, S1, simprocAttr, List.length_map, Int.natCast_zero, AV.p.injEq, PV.int.injEq, PV.bool.injEq, PV.sl.injEq] <;> (try and_intros) <;> (try assumption) <;> (try trivial) <;> (try omega))
    rcases Nat.lt_or_ge k fl.length with hlt | hge
    · obtain ⟨f, hx⟩ : ∃ f, fl[k]? = some f := ⟨_, List.getElem?_eq_getElem hlt⟩
      obtain ⟨⟨a1, a2⟩, b1, b2⟩ := hd f (List.mem_of_getElem? hx)
      have hne := hR.notEnd hx
      have hall : hasR k l l.length = true := by rw [← hlr]; exact hasR_all (hR.needed hx)
      obtain ⟨kn, hkn⟩ : ∃ q, ns[f.src.toNat]? = some q := ⟨_, List.getElem?_eq_getElem (by have := Int.toNat_of_nonneg a1; omega)⟩
      have hkn' := rowN hkn
      have hk2 : (kn.kind == 2) = false := by
        have : kindAt ns f.src = kn.kind := by unfold kindAt; rw [hkn]
        rw [this] at hne
        simpa using hne
      repeat' (first | ((first | refine aops_nil ?_ | refine aqops_nil ?_); (try simp only [NB])) | ((repeat ((fail_if_success (refine hK _ ?_)); clear hK K)); refine hK _ ?_; clear hK K) | ((first | refine aops_k fun K1 hK1 => ?_ | refine aqops_k fun K1 hK1 => ?_ | refine awp_cond_k fun A B hA hB => ?_); simp only [S1, simprocAttr, T2, T3, T4, T22, T23, T25, T28, T29, T35, T37, T49, T51, T53, T55, T58, rowF hx, hitF hlt, nextF hl hlt, eF, List.length_map]; first | (refine hK1 _ ?_; clear hK1 K1) | ((first | refine hA ?_ | refine hB ?_); clear hA hB A B) | (refine join_x (v := ?_) (fun hg hk9 => ?_) ?_; rotate_left; (focus (try ((try simp only [BN] at hg); simp only [S1, simprocAttr, T2, T3, T4, T22, T23, T25, T28, T29, T35, T37, T49, T51, T53, T55, T58, rowF hx, hitF hlt, nextF hl hlt, eF, List.length_map, hg] at hk9 ⊢)); first | exact hk9); (refine hK1 _ ?_; clear hK1 K1)) | (((first | (refine ⟨fun hg => hA ?_, fun hg => hB ?_⟩ <;> clear hA hB A B) | refine ⟨fun hg => ?_, fun hg => ?_⟩) <;> (try simp only [BN2] at hg) <;> (try simp only [hg, cond_true, cond_false])) <;> (try (refine hK1 _ ?_; clear hK1 K1)) <;> (try simp only [BN3] at hg))) | (refine awp_seq_k fun K hK => ?_) | ((first | refine awp_region ?_ | refine awp_draw (by kernel_rfl) ?_ | refine awp_block ?_ | refine awp_exit ?_ | refine awp_skip ?_ | refine awp_ret ?_); (try simp only [NB, simprocAttr])))
      refine awp_for l.length 115 (fun r => [(72, .i r), (71, .i l.length), (70, aRus l), (12, .b (hasR k l r)), (11, .ptr (h.length + 1) 0 0), (10, .i k), (65, .i k), (64, .i fl.length), (63, .p (.sl (fl.map eF))), (5, .i l.length), (4, .i 0), (3, aRus l), (1, .ptr h.length 0 0)])
        (fun r => [some ⟨0, cNet ns fl⟩, some ⟨0, [.i f.src, .i f.dst, .b f.els, .i f.cond.op, .i f.cond.n, .p (.sl (f.cond.kids.map eT))]⟩]) (fun r => True) ?_ trivial fun r hr hp K hK => ?_
      · (refine ⟨rfl, (by first | exact ⟨_, rfl⟩ | exact ⟨[], by simp⟩), ?_, ?_⟩ <;> simp only [keeps, avlt, avlts, blksLt, frL, upd_get, S1, simprocAttr, List.length_map, Int.natCast_zero, AV.p.injEq, PV.int.injEq, PV.bool.injEq, PV.sl.injEq] <;> (try and_intros) <;> (try assumption) <;> (try trivial) <;> (try omega))
      rcases Nat.lt_or_ge r l.length with hltr | hger
      · obtain ⟨x, hxr⟩ : ∃ f, l[r]? = some f := ⟨_, List.getElem?_eq_getElem hltr⟩
        have hxr' : (l.map eRu)[r]? = some (eRu x) := by simp [hxr]
        have hnl : x.needs.length ≤ 101 := by
          rw [← hlr] at hxr
          have := (ruTo_ok x (List.mem_of_getElem? hxr)).1; omega
        have hnr : IntKind.i64.wrap ((r : Int) + 1) = ((r + 1 : Nat) : Int) := by rw [IntWalk.i64_in _ (by omega)]; omega
        have hst := hasR_step (k := (k : Int)) hxr
        repeat' (first | ((first | refine aops_nil ?_ | refine aqops_nil ?_); (try simp only [NB])) | ((repeat ((fail_if_success (refine hK _ ?_)); clear hK K)); refine hK _ ?_; clear hK K) | ((first | refine aops_k fun K1 hK1 => ?_ | refine aqops_k fun K1 hK1 => ?_ | refine awp_cond_k fun A B hA hB => ?_); simp only [S1, simprocAttr, T2, T3, T4, T22, T23, T25, T28, T29, T35, T37, T49, T51, T53, T55, T58, hxr', hitK hltr, eRu, List.length_map]; first | (refine hK1 _ ?_; clear hK1 K1) | ((first | refine hA ?_ | refine hB ?_); clear hA hB A B) | (refine join_x (v := ?_) (fun hg hk9 => ?_) ?_; rotate_left; (focus (try ((try simp only [BN] at hg); simp only [S1, simprocAttr, T2, T3, T4, T22, T23, T25, T28, T29, T35, T37, T49, T51, T53, T55, T58, hxr', hitK hltr, eRu, List.length_map, hg] at hk9 ⊢)); first | exact hk9); (refine hK1 _ ?_; clear hK1 K1)) | (((first | (refine ⟨fun hg => hA ?_, fun hg => hB ?_⟩ <;> clear hA hB A B) | refine ⟨fun hg => ?_, fun hg => ?_⟩) <;> (try simp only [BN2] at hg) <;> (try simp only [hg, cond_true, cond_false])) <;> (try (refine hK1 _ ?_; clear hK1 K1)) <;> (try simp only [BN3] at hg))) | (refine awp_seq_k fun K hK => ?_) | ((first | refine awp_region ?_ | refine awp_draw (by kernel_rfl) ?_ | refine awp_block ?_ | refine awp_exit ?_ | refine awp_skip ?_ | refine awp_ret ?_); (try simp only [NB, simprocAttr])))
        refine awp_for x.needs.length 115 (fun y => [(79, .i y), (78, .i x.needs.length), (77, aI x.needs), (12, .b (hasR k l r || hasI k x.needs y)), (72, .i r), (71, .i l.length), (70, aRus l), (11, .ptr (h.length + 1) 0 0), (10, .i k), (65, .i k), (64, .i fl.length), (63, .p (.sl (fl.map eF))), (5, .i l.length), (4, .i 0), (3, aRus l), (1, .ptr h.length 0 0)])
          (fun r => [some ⟨0, cNet ns fl⟩, some ⟨0, [.i f.src, .i f.dst, .b f.els, .i f.cond.op, .i f.cond.n, .p (.sl (f.cond.kids.map eT))]⟩]) (fun r => True) ?_ trivial fun y hy hp K hK => ?_
        · have e0 : (hasR k l r || hasI k x.needs 0) = hasR k l r := by simp [hasI]
          simp only [e0]
          (refine ⟨rfl, (by first | exact ⟨_, rfl⟩ | exact ⟨[], by simp⟩), ?_, ?_⟩ <;> simp only [keeps, avlt, avlts, blksLt, frL, upd_get, S1, simprocAttr, List.length_map, Int.natCast_zero, AV.p.injEq, PV.int.injEq, PV.bool.injEq, PV.sl.injEq] <;> (try and_intros) <;> (try assumption) <;> (try trivial) <;> (try omega))
        rcases Nat.lt_or_ge y x.needs.length with hlty | hgey
        · obtain ⟨z, hxz⟩ : ∃ f, x.needs[y]? = some f := ⟨_, List.getElem?_eq_getElem hlty⟩
          have hsy := hasI_step (k := (k : Int)) hxz
          have e1 : (hasR k l r || hasI k x.needs (y + 1)) = ((hasR k l r || hasI k x.needs y) || z == (k : Int)) := by rw [hsy, Bool.or_assoc]
          generalize hw : (hasR k l r || hasI k x.needs y) = w at *
          repeat' (first | ((first | refine aops_nil ?_ | refine aqops_nil ?_); (try simp only [NB])) | ((repeat ((fail_if_success (refine hK _ ?_)); clear hK K)); refine hK _ ?_; clear hK K) | ((first | refine aops_k fun K1 hK1 => ?_ | refine aqops_k fun K1 hK1 => ?_ | refine awp_cond_k fun A B hA hB => ?_); simp only [S1, simprocAttr, T2, T3, T4, T22, T23, T25, T28, T29, T35, T37, T49, T51, T53, T55, T58, rowI hxz, hitI hlty, nextI (by omega) hlty, List.length_map]; first | (refine hK1 _ ?_; clear hK1 K1) | ((first | refine hA ?_ | refine hB ?_); clear hA hB A B) | (refine join_x (v := ?_) (fun hg hk9 => ?_) ?_; rotate_left; (focus (try ((try simp only [BN] at hg); simp only [S1, simprocAttr, T2, T3, T4, T22, T23, T25, T28, T29, T35, T37, T49, T51, T53, T55, T58, rowI hxz, hitI hlty, nextI (by omega) hlty, List.length_map, hg] at hk9 ⊢)); first | exact hk9); (refine hK1 _ ?_; clear hK1 K1)) | (((first | (refine ⟨fun hg => hA ?_, fun hg => hB ?_⟩ <;> clear hA hB A B) | refine ⟨fun hg => ?_, fun hg => ?_⟩) <;> (try simp only [BN2] at hg) <;> (try simp only [hg, cond_true, cond_false])) <;> (try (refine hK1 _ ?_; clear hK1 K1)) <;> (try simp only [BN3] at hg))) | (refine awp_seq_k fun K hK => ?_) | ((first | refine awp_region ?_ | refine awp_draw (by kernel_rfl) ?_ | refine awp_block ?_ | refine awp_exit ?_ | refine awp_skip ?_ | refine awp_ret ?_); (try simp only [NB, simprocAttr])))
          all_goals refine ⟨hlty, trivial, ?_⟩
          all_goals simp only [e1]
          all_goals (refine ⟨rfl, (by first | exact ⟨_, rfl⟩ | exact ⟨[], by simp⟩), ?_, ?_⟩ <;> simp only [keeps, avlt, avlts, blksLt, frL, upd_get, S1, simprocAttr, List.length_map, Int.natCast_zero, AV.p.injEq, PV.int.injEq, PV.bool.injEq, PV.sl.injEq] <;> (try and_intros) <;> (try assumption) <;> (try trivial) <;> (try omega))
        obtain rfl : y = x.needs.length := by omega
        repeat' (first | ((first | refine aops_nil ?_ | refine aqops_nil ?_); (try simp only [NB])) | ((repeat ((fail_if_success (refine hK _ ?_)); clear hK K)); refine hK _ ?_; clear hK K) | ((first | refine aops_k fun K1 hK1 => ?_ | refine aqops_k fun K1 hK1 => ?_ | refine awp_cond_k fun A B hA hB => ?_); simp only [S1, simprocAttr, T2, T3, T4, T22, T23, T25, T28, T29, T35, T37, T49, T51, T53, T55, T58, endI, hnr]; first | (refine hK1 _ ?_; clear hK1 K1) | ((first | refine hA ?_ | refine hB ?_); clear hA hB A B) | (refine join_x (v := ?_) (fun hg hk9 => ?_) ?_; rotate_left; (focus (try ((try simp only [BN] at hg); simp only [S1, simprocAttr, T2, T3, T4, T22, T23, T25, T28, T29, T35, T37, T49, T51, T53, T55, T58, endI, hnr, hg] at hk9 ⊢)); first | exact hk9); (refine hK1 _ ?_; clear hK1 K1)) | (((first | (refine ⟨fun hg => hA ?_, fun hg => hB ?_⟩ <;> clear hA hB A B) | refine ⟨fun hg => ?_, fun hg => ?_⟩) <;> (try simp only [BN2] at hg) <;> (try simp only [hg, cond_true, cond_false])) <;> (try (refine hK1 _ ?_; clear hK1 K1)) <;> (try simp only [BN3] at hg))) | (refine awp_seq_k fun K hK => ?_) | ((first | refine awp_region ?_ | refine awp_draw (by kernel_rfl) ?_ | refine awp_block ?_ | refine awp_exit ?_ | refine awp_skip ?_ | refine awp_ret ?_); (try simp only [NB, simprocAttr])))
        all_goals refine ⟨hltr, trivial, ?_⟩
        all_goals simp only [hst]
        all_goals (refine ⟨rfl, (by first | exact ⟨_, rfl⟩ | exact ⟨[], by simp⟩), ?_, ?_⟩ <;> simp only [keeps, avlt, avlts, blksLt, frL, upd_get, S1, simprocAttr, List.length_map, Int.natCast_zero, AV.p.injEq, PV.int.injEq, PV.bool.injEq, PV.sl.injEq] <;> (try and_intros) <;> (try assumption) <;> (try trivial) <;> (try omega))
      obtain rfl : r = l.length := by omega
      repeat' (first | ((first | refine aops_nil ?_ | refine aqops_nil ?_); (try simp only [NB])) | ((repeat ((fail_if_success (refine hK _ ?_)); clear hK K)); refine hK _ ?_; clear hK K) | ((first | refine aops_k fun K1 hK1 => ?_ | refine aqops_k fun K1 hK1 => ?_ | refine awp_cond_k fun A B hA hB => ?_); simp only [S1, simprocAttr, T2, T3, T4, T22, T23, T25, T28, T29, T35, T37, T49, T51, T53, T55, T58, endK, hall, hkn', hk2, eN, a1, a2, nextF hl hlt, List.length_map]; first | (refine hK1 _ ?_; clear hK1 K1) | ((first | refine hA ?_ | refine hB ?_); clear hA hB A B) | (refine join_x (v := ?_) (fun hg hk9 => ?_) ?_; rotate_left; (focus (try ((try simp only [BN] at hg); simp only [S1, simprocAttr, T2, T3, T4, T22, T23, T25, T28, T29, T35, T37, T49, T51, T53, T55, T58, endK, hall, hkn', hk2, eN, a1, a2, nextF hl hlt, List.length_map, hg] at hk9 ⊢)); first | exact hk9); (refine hK1 _ ?_; clear hK1 K1)) | (((first | (refine ⟨fun hg => hA ?_, fun hg => hB ?_⟩ <;> clear hA hB A B) | refine ⟨fun hg => ?_, fun hg => ?_⟩) <;> (try simp only [BN2] at hg) <;> (try simp only [hg, cond_true, cond_false])) <;> (try (refine hK1 _ ?_; clear hK1 K1)) <;> (try simp only [BN3] at hg))) | (refine awp_seq_k fun K hK => ?_) | ((first | refine awp_region ?_ | refine awp_draw (by kernel_rfl) ?_ | refine awp_block ?_ | refine awp_exit ?_ | refine awp_skip ?_ | refine awp_ret ?_); (try simp only [NB, simprocAttr])))
      all_goals refine ⟨hlt, trivial, ?_⟩
      all_goals (refine ⟨rfl, (by first | exact ⟨_, rfl⟩ | exact ⟨[], by simp⟩), ?_, ?_⟩ <;> simp only [keeps, avlt, avlts, blksLt, frL, upd_get, S1, simprocAttr, List.length_map, Int.natCast_zero, AV.p.injEq, PV.int.injEq, PV.bool.injEq, PV.sl.injEq] <;> (try and_intros) <;> (try assumption) <;> (try trivial) <;> (try omega))
    obtain rfl : k = fl.length := by omega
    have bq : ((l.length : Int) == (l.length : Int)) = true := by simp
    repeat' (first | ((first | refine aops_nil ?_ | refine aqops_nil ?_); (try simp only [NB])) | ((repeat ((fail_if_success (refine hK _ ?_)); clear hK K)); refine hK _ ?_; clear hK K) | ((first | refine aops_k fun K1 hK1 => ?_ | refine aqops_k fun K1 hK1 => ?_ | refine awp_cond_k fun A B hA hB => ?_); simp only [S1, simprocAttr, T2, T3, T4, T22, T23, T25, T28, T29, T35, T37, T49, T51, T53, T55, T58, endF, bq, List.length_map]; first | (refine hK1 _ ?_; clear hK1 K1) | ((first | refine hA ?_ | refine hB ?_); clear hA hB A B) | ((first | apply call_a E8 | apply call_q E8); exact (line_calls _); (refine hK1 _ ?_; clear hK1 K1)) | (refine join_x (v := ?_) (fun hg hk9 => ?_) ?_; rotate_left; (focus (try ((try simp only [BN] at hg); simp only [S1, simprocAttr, T2, T3, T4, T22, T23, T25, T28, T29, T35, T37, T49, T51, T53, T55, T58, endF, bq, List.length_map, hg] at hk9 ⊢)); first | exact hk9 | ((first | apply call_a E8 | apply call_q E8); exact (line_calls _); exact hk9)); (refine hK1 _ ?_; clear hK1 K1)) | (((first | (refine ⟨fun hg => hA ?_, fun hg => hB ?_⟩ <;> clear hA hB A B) | refine ⟨fun hg => ?_, fun hg => ?_⟩) <;> (try simp only [BN2] at hg) <;> (try simp only [hg, cond_true, cond_false])) <;> (try (refine hK1 _ ?_; clear hK1 K1)) <;> (try simp only [BN3] at hg))) | (refine awp_seq_k fun K hK => ?_) | ((first | refine awp_region ?_ | refine awp_draw (by kernel_rfl) ?_ | refine awp_block ?_ | refine awp_exit ?_ | refine awp_skip ?_ | refine awp_ret ?_); (try simp only [NB, simprocAttr])))
    all_goals simp only [EndP, FinP, resA, resL, resA1, lastV, lastA, lastAs, pur, purs, take_app, List.take_length, S1, simprocAttr, T2, T3, T4, T22, T23, T25, T28, T29, T35, T37, T49, T51, T53, T55, T58, Nat.le_add_right, Nat.le_refl]

theorem counts_given (xss : List (List PV)) (hl : xss.length = [25].length) (ht : ∀ (j : Nat) t xs, [25][j]? = some t → xss[j]? = some xs → ∃ fuel, Ty Tryd.prog fuel t xs) :
    ACalls Tryd.prog gW 5 (List.zipWith (argA Tryd.prog) [25] xss) [] fun r h' => r = .b true ∧ h' = [] := by
  match xss, hl, ht with
  | [x0], _, ht =>
    obtain ⟨_, h0⟩ := ht 0 25 x0 rfl rfl
    obtain ⟨ns, fl, e0⟩ := arg_net h0
    simp only [List.zipWith_cons_cons, List.zipWith_nil_left, e0]
    exact ruleCounts_law ns fl []
end Go.Proofs.YtlophgkgmhcagaaDoor.AM
end
