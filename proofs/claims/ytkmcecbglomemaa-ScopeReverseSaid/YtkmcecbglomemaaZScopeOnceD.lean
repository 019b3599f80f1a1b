/- Proved here, in parts, for one law: PLAIN: what is kept by Enter and Leave; contracts: a run is made; a fault is told. Contracts: a run is made; two that are undone; a nil run. PLAIN: the document's run of scopes, as its functions have it. The document's run of scopes in a heap; contracts: in, Enter, last. Contracts: the document's run: last, Leave, ends. Contracts: the document's run: ends. Contracts: the document's run: undoes, Fault. Contracts: the document's run: Fault. Contracts: plans that are none; plans are handed on as the document's. Contracts: the document's run is made. Conditions: none. -/
import Derived.Test.YtkmcecbglomemaaZScopeOnceC

section
set_option linter.unusedVariables false
set_option linter.unusedSimpArgs false
set_option maxRecDepth 4000
set_option maxHeartbeats 4000000
namespace Go.Proofs.Ytkmcecbglomemaa.AM
open Go Go.Proofs
set_option linter.defProp false in
def TTScP := And.intro T2 (And.intro T3 (And.intro T4 (And.intro T22 (And.intro T25 (And.intro T26 (And.intro T37 (And.intro T41 (And.intro T45 (And.intro T49 T54)))))))))
attribute [local irreducible] awp aops aqops aeops arun arunT arunN
variable {G : Nat → Option (List PV)}

section
variable {P : List Sc} {s : Rs}
def newSt (n : Nat) : List Int := (List.replicate n (0 : Int)).set 0 1
theorem newSt_at (n k : Nat) (hn : 1 ≤ n) : stA (newSt n) k = if k = 0 then 1 else 0 := by
  unfold newSt
  rw [stA_set (by rw [List.length_replicate]; exact hn)]
  split
  · rfl
  · unfold stA
    rw [List.getElem?_replicate]
    split <;> rfl
theorem RsOk.new (pl : PlOk P) : RsOk P ⟨newSt P.length, [], []⟩ := by
  have h := fun k => newSt_at P.length k pl.n1
  refine ⟨by simp [newSt], fun k => ?_, fun k j hp h1 => ?_, fun k => ?_, List.nodup_nil, by simp, by simp⟩
  · show 0 ≤ stA (newSt P.length) k ∧ _
    rw [h]; split <;> omega
  · change stA (newSt P.length) k = 1 at h1
    rw [h] at h1
    split at h1
    · rename_i e; subst e; rw [pl.root] at hp; omega
    · omega
  · show k ∈ [] ↔ stA (newSt P.length) k = 2
    rw [h]
    simp
    split <;> omega
theorem RsOk.enter (pl : PlOk P) (ok : RsOk P s) (i : Int) : RsOk P (enterF P s i).1 := by
  unfold enterF
  split
  · exact ok
  rename_i c0
  split
  · exact ok
  rename_i c1
  obtain ⟨k, rfl⟩ : ∃ k : Nat, i = (k : Int) := ⟨i.toNat, by omega⟩
  rw [Int.toNat_natCast] at c1 ⊢
  have hk : k < P.length := by omega
  have h0 : stA s.st k = 0 := by omega
  have hlt : k < s.st.length := by rw [ok.len]; exact hk
  have hs := fun j => stA_set (x := 1) hlt j
  obtain ⟨hp0, hpk⟩ := pl.par k (by omega) hk
  obtain ⟨q, hq⟩ : ∃ q : Nat, parA P k = (q : Int) := ⟨(parA P k).toNat, by omega⟩
  rw [hq, Int.toNat_natCast] at c1
  have hq1 : stA s.st q = 1 := by omega
  refine ⟨by simpa using ok.len, fun j => ?_, fun j m hp h1 => ?_, fun j => ?_, ok.ndp, ok.acn, fun a ha => ?_⟩
  · show 0 ≤ stA (s.st.set k 1) j ∧ _
    rw [hs]; split
    · omega
    · exact ok.rng j
  · change stA (s.st.set k 1) j = 1 at h1
    show stA (s.st.set k 1) m = 1
    rw [hs] at h1 ⊢
    split
    · rfl
    split at h1
    · rename_i e; subst e
      rw [hq] at hp
      have : q = m := by omega
      rw [← this]; exact hq1
    · exact ok.inp j m hp h1
  · show j ∈ s.dn ↔ stA (s.st.set k 1) j = 2
    rw [hs, ok.dnp]
    split
    · rename_i e; subst e; omega
    · exact Iff.rfl
  · show 3 ≤ stA (s.st.set k 1) a.2
    have := ok.ac3 a ha
    rw [hs, if_neg (by intro e; rw [e] at this; omega)]
    exact this
theorem RsOk.leave {g : Rg} (ok : RsOk P s) (i : Int) : RsOk P (leaveF P g s i).2.1 := by
  unfold leaveF
  split
  · exact ok
  rename_i c0
  split
  · exact ok
  rename_i c1
  obtain ⟨k, rfl⟩ : ∃ k : Nat, i = (k : Int) := ⟨i.toNat, by omega⟩
  rw [Int.toNat_natCast] at c1 ⊢
  have hk : k < P.length := by omega
  have h1 : stA s.st k = 1 := by omega
  have hlt : k < s.st.length := by rw [ok.len]; exact hk
  have hs := fun j => stA_set (x := 2) hlt j
  have hnone : ∀ j, parA P j = (k : Int) → stA s.st j ≠ 1 := fun j hj e => by
    have : j ∈ prts P s.st k 1 := mem_prts.mpr ⟨ok.lt (by omega), hj, e⟩
    have := List.length_pos_of_mem this
    omega
  refine ⟨by simpa using ok.len, fun j => ?_, fun j m hp h2 => ?_, fun j => ?_, ?_, ok.acn, fun a ha => ?_⟩
  · show 0 ≤ stA (s.st.set k 2) j ∧ _
    rw [hs]; split
    · omega
    · exact ok.rng j
  · change stA (s.st.set k 2) j = 1 at h2
    show stA (s.st.set k 2) m = 1
    rw [hs] at h2 ⊢
    split at h2
    · omega
    · split
      · rename_i e; subst e; exact absurd h2 (hnone j hp)
      · exact ok.inp j m hp h2
  · show j ∈ s.dn ++ [k] ↔ stA (s.st.set k 2) j = 2
    rw [hs, List.mem_append, ok.dnp, List.mem_singleton]
    split
    · rename_i e; simp [e]
    · rename_i e; simp [e]
  · rw [List.nodup_append]
    refine ⟨ok.ndp, by simp, fun a ha b hb e => ?_⟩
    rw [List.mem_singleton] at hb
    have := (ok.dnp a).mp ha
    rw [e, hb] at this; omega
  · show 3 ≤ stA (s.st.set k 2) a.2
    have := ok.ac3 a ha
    rw [hs, if_neg (by intro e; rw [e] at this; omega)]
    exact this
theorem RsOk.clear (ok : RsOk P s) : RsOk P ⟨s.st, s.dn, []⟩ := ⟨ok.len, ok.rng, ok.inp, ok.dnp, ok.ndp, by simp, by simp⟩
end

def eAct (a : Int × Nat) : List PV := [.int .i64 a.1, .int .i64 (a.2 : Int)]
abbrev aAc (l : List (Int × Nat)) : AV := .p (.sl (l.map eAct))
theorem cAct_rows (l : List (Int × Nat)) : ((l.map eAct).flatMap id).map AV.p = cAct l := by
  unfold cAct
  rw [List.flatMap_map, List.map_flatMap]; rfl
theorem eAct_all (l : List (Int × Nat)) : (l.map eAct).all (fun r => r.length == 2) = true := by simp [eAct]

theorem keeps_congr {s s' : St} {m : Nat} (e : s'.fr = s.fr) : ∀ {l : List (Nat × AV)}, keeps s m l → keeps s' m l
  | [], _ => trivial
  | (k, x) :: r, h => ⟨by rw [e]; exact h.1, h.2.1, keeps_congr e h.2.2⟩
section
variable {h : Heap} {P : List Sc} {g : Rg} {s : Rs} {L : Heap}
/-- The list of actions begins anew. -/
theorem rn_reset {fr : Nat → Option AV} {nt : Nat} {l : List (Nat × AV)} (hk : keeps (⟨fr, nt, []⟩ : St) (h.length + (L.length + 4)) l) :
    Ghost Try.prog G (rnH h P g s L) ⟨fr, nt, (rnH h P g s L).set (h.length + 1) (some ⟨0, [aSc P, .ref h.length 0 0 1 s.st.length, .ref (h.length + 2) g.gd 0 1 s.dn.length, .p .nils]⟩)⟩ ⟨frL l, nt, rnH h P ⟨g.gd, g.z, g.ga + 1⟩ ⟨s.st, s.dn, []⟩ L ++ []⟩ := by
  have e0 : (rnH h P g s L).set (h.length + 1) (some ⟨0, [aSc P, .ref h.length 0 0 1 s.st.length, .ref (h.length + 2) g.gd 0 1 s.dn.length, .p .nils]⟩) = h ++ (stB s :: some ⟨0, [aSc P, .ref h.length 0 0 1 s.st.length, .ref (h.length + 2) g.gd 0 1 s.dn.length, .p .nils]⟩ :: dnB g s :: acB g s :: L) := by
    unfold rnH; rw [set_app]; rfl
  rw [e0]
  refine (Ghost.adoptCellG (b := h.length + 1) (j := 3) (bk := ⟨0, [aSc P, .ref h.length 0 0 1 s.st.length, .ref (h.length + 2) g.gd 0 1 s.dn.length, .p .nils]⟩) 2 (by rw [get_app]; rfl) rfl).trans ?_
  simp only [List.set_cons_succ, List.set_cons_zero]
  have e1 : (h ++ (stB s :: some (⟨0, [aSc P, .ref h.length 0 0 1 s.st.length, .ref (h.length + 2) g.gd 0 1 s.dn.length, .p .nils]⟩ : Blk) :: dnB g s :: acB g s :: L)).length = h.length + (L.length + 4) := by simp
  rw [e1, List.append_assoc, set_app]
  simp only [List.cons_append, List.set_cons_succ, List.set_cons_zero]
  refine (Ghost.move (b := h.length + 1) (j := 3) (q := h.length + 3) (m := h.length + (L.length + 4)) (off := 0) (sz := 2) (n := 0) (bk := ⟨0, [aSc P, .ref h.length 0 0 1 s.st.length, .ref (h.length + 2) g.gd 0 1 s.dn.length, .ref (h.length + (L.length + 4)) 0 0 2 0]⟩) (bq := ⟨g.ga, cAct s.ac⟩) (bm := ⟨0, []⟩)
    (by rw [get_app]; rfl) rfl (by rw [get_app]; rfl) (by rw [get_app, show L.length + 4 = L.length + 1 + 1 + 1 + 1 by omega]; simp [List.getElem?_append_right]) (by omega) (by omega) (by omega)).trans ?_
  simp only [List.set_cons_succ, List.set_cons_zero]
  rw [show L.length + 4 = L.length + 1 + 1 + 1 + 1 by omega, set_app]
  simp only [List.set_cons_succ]
  rw [List.set_append_right _ _ (Nat.le_refl _), Nat.sub_self, set_app, set_app]
  simp only [List.set_cons_succ, List.set_cons_zero]
  refine Sub.ghostH (H := rnH h P ⟨g.gd, g.z, g.ga + 1⟩ ⟨s.st, s.dn, []⟩ L) (L := []) (by rw [rn_len, rn_len]) (fun i bk hi => by rw [rn_len]; exact rn_keepA i bk hi) ⟨rfl, ⟨[none], by unfold rnH; simp [stB, runB, dnB, acB, cAct]⟩, ?_, trivial⟩
  rw [rn_len]
  refine keeps_congr (s := ⟨fr, nt, []⟩) (m := h.length + (L.length + 4)) ?_ hk
  rfl

def faultX (P : List Sc) (s : Rs) (k : Nat) : Rs := faultF P (k + 1) k ⟨s.st, s.dn, []⟩
theorem Fault_bad (ok : RsOk P s) (i : Int) (e : Int) (he : (i < 0 ∨ (P.length : Int) ≤ i) ∧ e = 1 ∨ (0 ≤ i ∧ i < (P.length : Int) ∧ stA s.st i.toNat ≠ 1) ∧ e = 7) :
    ACalls Try.prog G 12 [.ptr (h.length + 1) 0 0, .i i] (rnH h P g s L) (fun r h' => r = .tup [aAc [], .i e] ∧ h' = rnH h P g s L) := by
  have hw := wrong_calls (G := G) (h := h) (P := P) (g := g) (s := s) (L := L) i
  have hst := ok.len
  rcases he with ⟨c0, rfl⟩ | ⟨⟨c1, c2, c3⟩, rfl⟩
  · rw [if_pos c0] at hw
    refine acalls_pure (rl := []) mixed Try.func12 rfl (rs := [.tmp 4, .tmp 5]) rfl Try.ntmps12 (by simp) ?_
    repeat' (first | ((first | refine aops_nil ?_ | refine aqops_nil ?_); (try simp only [NB])) | ((repeat ((fail_if_success (refine hK _ ?_)); clear hK K)); refine hK _ ?_; clear hK K) | ((first | refine aops_k fun K1 hK1 => ?_ | refine aqops_k fun K1 hK1 => ?_ | refine awp_cond_k fun A B hA hB => ?_); simp only [S1, simprocAttr, TTScP]; first | (refine hK1 _ ?_; clear hK1 K1) | ((first | refine hA ?_ | refine hB ?_); clear hA hB A B) | ((first | apply call_a E22 | apply call_q E22); exact hw; (refine hK1 _ ?_; clear hK1 K1)) | (((first | (refine ⟨fun hg => hA ?_, fun hg => hB ?_⟩ <;> clear hA hB A B) | refine ⟨fun hg => ?_, fun hg => ?_⟩) <;> (try simp only [BN2] at hg) <;> (try simp only [hg, cond_true, cond_false])) <;> (try (refine hK1 _ ?_; clear hK1 K1)) <;> (try simp only [BN3] at hg))) | (refine awp_seq_k fun K hK => ?_) | ((first | refine awp_region ?_ | refine awp_draw (by kernel_rfl) ?_ | refine awp_block ?_ | refine awp_exit ?_ | refine awp_skip ?_ | refine awp_ret ?_); (try simp only [NB, simprocAttr])))
    all_goals simp only [EndP, FinP, resA, resL, resA1, lastV, lastA, lastAs, pur, purs, take_app, List.take_length, S1, simprocAttr, TTScP, Nat.le_add_right, Nat.le_refl, rn_len, rn_take]
    all_goals rfl
  · rw [if_neg (by omega)] at hw
    obtain ⟨k, rfl⟩ : ∃ k : Nat, i = (k : Int) := ⟨i.toNat, by omega⟩
    rw [Int.toNat_natCast] at c3
    have b1 : (stA s.st k != 1) = true := by simpa using c3
    have ks : (k : Int) < (s.st.length : Int) := by omega
    have dk := dropSt (stA_some (show k < s.st.length by omega))
    refine acalls_pure (rl := []) mixed Try.func12 rfl (rs := [.tmp 4, .tmp 5]) rfl Try.ntmps12 (by simp) ?_
    repeat' (first | ((first | refine aops_nil ?_ | refine aqops_nil ?_); (try simp only [NB])) | ((repeat ((fail_if_success (refine hK _ ?_)); clear hK K)); refine hK _ ?_; clear hK K) | ((first | refine aops_k fun K1 hK1 => ?_ | refine aqops_k fun K1 hK1 => ?_ | refine awp_cond_k fun A B hA hB => ?_); simp only [S1, simprocAttr, TTScP, b1, c1, ks, dk, rn_run, rn_st, runB, stB, Int.toNat_natCast, List.length_map, Nat.mul_one, Nat.zero_add]; first | (refine hK1 _ ?_; clear hK1 K1) | ((first | refine hA ?_ | refine hB ?_); clear hA hB A B) | ((first | apply call_a E22 | apply call_q E22); exact hw; (refine hK1 _ ?_; clear hK1 K1)) | (((first | (refine ⟨fun hg => hA ?_, fun hg => hB ?_⟩ <;> clear hA hB A B) | refine ⟨fun hg => ?_, fun hg => ?_⟩) <;> (try simp only [BN2] at hg) <;> (try simp only [hg, cond_true, cond_false])) <;> (try (refine hK1 _ ?_; clear hK1 K1)) <;> (try simp only [BN3] at hg))) | (refine awp_seq_k fun K hK => ?_) | ((first | refine awp_region ?_ | refine awp_draw (by kernel_rfl) ?_ | refine awp_block ?_ | refine awp_exit ?_ | refine awp_skip ?_ | refine awp_ret ?_); (try simp only [NB, simprocAttr])))
    all_goals simp only [EndP, FinP, resA, resL, resA1, lastV, lastA, lastAs, pur, purs, take_app, List.take_length, S1, simprocAttr, TTScP, Nat.le_add_right, Nat.le_refl, rn_len, rn_take]
    all_goals rfl

theorem Fault_good (pl : PlOk P) (ok : RsOk P s) (k : Nat) (hk : k < P.length) (h1 : stA s.st k = 1) :
    ACalls Try.prog G 12 [.ptr (h.length + 1) 0 0, .i k] (rnH h P g s L) (fun r h' => r = .tup [aAc (faultX P s k).ac, .i 0] ∧ h' = rnH h P (gU ⟨g.gd, g.z, g.ga + 1⟩ ⟨s.st, s.dn, []⟩ (faultX P s k)) (faultX P s k) L) := by
  have hw := wrong_calls (G := G) (h := h) (P := P) (g := g) (s := s) (L := L) k
  rw [if_neg (by omega)] at hw
  have hst := ok.len
  have hfs := fault_spec pl (k + 1) k ⟨s.st, s.dn, []⟩ (by omega) hk ok.clear h1
  have hfc := fault_calls (G := G) (h := h) pl (k + 1) k ⟨s.st, s.dn, []⟩ (by omega) hk ok.clear h1 ⟨g.gd, g.z, g.ga + 1⟩ L
  rw [show faultF P (k + 1) k ⟨s.st, s.dn, []⟩ = faultX P s k from rfl] at hfs hfc
  generalize faultX P s k = t at *
  generalize gU ⟨g.gd, g.z, g.ga + 1⟩ ⟨s.st, s.dn, []⟩ t = g1 at *
  have htne : t.ac ≠ [] := by
    obtain ⟨c, w, m, _, e, _⟩ := hfs.last
    rw [e]; simp
  have h32 := pl.n32
  have hacl := hfs.ok.acle
  have b1 : (stA s.st k != 1) = false := by simp [h1]
  have k0 : (0 : Int) ≤ (k : Int) := by omega
  have ks : (k : Int) < (s.st.length : Int) := by omega
  have dk := dropSt (stA_some (show k < s.st.length by omega))
  have hmc : (t.ac.map eAct) ≠ [] := by simpa using htne
  have hcl : ACalls Try.prog G 24 [.ref (h.length + 3) g1.ga 0 2 t.ac.length] (rnH h P g1 t L) (fun r h' => r = .ref (h.length + (L.length + 4)) 1 0 2 t.ac.length ∧ h' = rnH h P g1 t (L ++ [some ⟨1, cAct t.ac⟩])) := by
    have hb := cloneAc (G := G) (t.ac.map eAct) (eAct_all _) hmc (by rw [List.length_map]; omega) []
    simp only [List.length_map, cAct_rows, List.length_nil, List.nil_append] at hb
    have := ACalls.framed (h := rnH h P g1 t L) (args := [.ref (h.length + 3) g1.ga 0 2 t.ac.length]) (by intro e; have := congrArg List.length e; rw [cAct_len] at this; simp only [List.length_nil] at this; exact htne (List.eq_nil_of_length_eq_zero (by omega))) (fun x hx => by
        unfold cAct at hx
        obtain ⟨a, _, hx⟩ := List.mem_flatMap.mp hx
        simp only [List.mem_cons, List.not_mem_nil, or_false] at hx
        rcases hx with rfl | rfl
        · exact .inl ⟨_, rfl⟩
        · exact .inl ⟨_, rfl⟩) hb rfl (fun ι w hS i x x' v hx hx' hv => by
        match i, hx, hx' with
        | 0, hx, hx' =>
          simp only [List.getElem?_cons_zero, Option.some.injEq] at hx hx'
          subst hx hx'
          refine ref_lasting (rest := []) hS (rows := t.ac.map eAct) (sz := 2) (g := g1.ga) (b := h.length + 3) (by rw [rn_ac, cAct_rows, List.append_nil]; rfl) (fun r hr => by obtain ⟨a, _, rfl⟩ := List.mem_map.mp hr; rfl) (by omega) ?_
          rw [List.length_map]; exact hv)
    rw [rn_len, rn_app] at this
    exact this
  refine Sim.evoKeepG (rl := []) mixed Try.func12 rfl (by rw [Try.ntmps12]; simp) ?_
  rw [Try.ntmps12]
  refine awp_seq_k fun K hK => ?_
  repeat' (first | ((first | refine aops_nil ?_ | refine aqops_nil ?_); (try simp only [NB]); ((repeat ((fail_if_success (refine hK _ ?_)); clear hK K)); refine hK _ ?_; clear hK K)) | ((first | refine aops_k fun K1 hK1 => ?_ | refine aqops_k fun K1 hK1 => ?_ | refine awp_cond_k fun A B hA hB => ?_); simp only [S1, simprocAttr, TTScP]; first | (refine hK1 _ ?_; clear hK1 K1) | ((first | refine hA ?_ | refine hB ?_); clear hA hB A B) | (refine join_x (v := ?_) (fun hg hk9 => ?_) ?_; rotate_left; (focus (try ((try simp only [BN] at hg); simp only [S1, simprocAttr, TTScP, hg] at hk9 ⊢)); first | exact hk9); (refine hK1 _ ?_; clear hK1 K1)) | (((first | (refine ⟨fun hg => hA ?_, fun hg => hB ?_⟩ <;> clear hA hB A B) | refine ⟨fun hg => ?_, fun hg => ?_⟩) <;> (try simp only [BN2] at hg) <;> (try simp only [hg, cond_true, cond_false])) <;> (try (refine hK1 _ ?_; clear hK1 K1)) <;> (try simp only [BN3] at hg))) | (fail) | ((first | refine awp_region ?_ | refine awp_draw (by kernel_rfl) ?_ | refine awp_block ?_ | refine awp_exit ?_ | refine awp_skip ?_ | refine awp_ret ?_); (try simp only [NB, simprocAttr]); (try ((repeat ((fail_if_success (refine hK _ ?_)); clear hK K)); refine hK _ ?_; clear hK K))))
  refine awp_seq_k fun K hK => ?_
  refine awp_seq_k fun K hK => ?_
  repeat' (first | ((first | refine aops_nil ?_ | refine aqops_nil ?_); (try simp only [NB]); ((repeat ((fail_if_success (refine hK _ ?_)); clear hK K)); refine hK _ ?_; clear hK K)) | ((first | refine aops_k fun K1 hK1 => ?_ | refine aqops_k fun K1 hK1 => ?_ | refine awp_cond_k fun A B hA hB => ?_); simp only [S1, simprocAttr, TTScP]; first | (refine hK1 _ ?_; clear hK1 K1) | ((first | refine hA ?_ | refine hB ?_); clear hA hB A B) | ((first | apply call_a E22 | apply call_q E22); exact hw; (refine hK1 _ ?_; clear hK1 K1)) | (refine join_x (v := ?_) (fun hg hk9 => ?_) ?_; rotate_left; (focus (try ((try simp only [BN] at hg); simp only [S1, simprocAttr, TTScP, hg] at hk9 ⊢)); first | exact hk9 | ((first | apply call_a E22 | apply call_q E22); exact hw; exact hk9)); (refine hK1 _ ?_; clear hK1 K1)) | (((first | (refine ⟨fun hg => hA ?_, fun hg => hB ?_⟩ <;> clear hA hB A B) | refine ⟨fun hg => ?_, fun hg => ?_⟩) <;> (try simp only [BN2] at hg) <;> (try simp only [hg, cond_true, cond_false])) <;> (try (refine hK1 _ ?_; clear hK1 K1)) <;> (try simp only [BN3] at hg))) | (fail) | ((first | refine awp_region ?_ | refine awp_draw (by kernel_rfl) ?_ | refine awp_block ?_ | refine awp_exit ?_ | refine awp_skip ?_ | refine awp_ret ?_); (try simp only [NB, simprocAttr]); (try ((repeat ((fail_if_success (refine hK _ ?_)); clear hK K)); refine hK _ ?_; clear hK K))))
  refine awp_seq_k fun K hK => ?_
  repeat' (first | ((first | refine aops_nil ?_ | refine aqops_nil ?_); (try simp only [NB]); ((repeat ((fail_if_success (refine hK _ ?_)); clear hK K)); refine hK _ ?_; clear hK K)) | ((first | refine aops_k fun K1 hK1 => ?_ | refine aqops_k fun K1 hK1 => ?_ | refine awp_cond_k fun A B hA hB => ?_); simp only [S1, simprocAttr, TTScP]; first | (refine hK1 _ ?_; clear hK1 K1) | ((first | refine hA ?_ | refine hB ?_); clear hA hB A B) | (refine join_x (v := ?_) (fun hg hk9 => ?_) ?_; rotate_left; (focus (try ((try simp only [BN] at hg); simp only [S1, simprocAttr, TTScP, hg] at hk9 ⊢)); first | exact hk9); (refine hK1 _ ?_; clear hK1 K1)) | (((first | (refine ⟨fun hg => hA ?_, fun hg => hB ?_⟩ <;> clear hA hB A B) | refine ⟨fun hg => ?_, fun hg => ?_⟩) <;> (try simp only [BN2] at hg) <;> (try simp only [hg, cond_true, cond_false])) <;> (try (refine hK1 _ ?_; clear hK1 K1)) <;> (try simp only [BN3] at hg))) | (fail) | ((first | refine awp_region ?_ | refine awp_draw (by kernel_rfl) ?_ | refine awp_block ?_ | refine awp_exit ?_ | refine awp_skip ?_ | refine awp_ret ?_); (try simp only [NB, simprocAttr]); (try ((repeat ((fail_if_success (refine hK _ ?_)); clear hK K)); refine hK _ ?_; clear hK K))))
  repeat' (first | ((first | refine aops_nil ?_ | refine aqops_nil ?_); (try simp only [NB]); ((repeat ((fail_if_success (refine hK _ ?_)); clear hK K)); refine hK _ ?_; clear hK K)) | ((first | refine aops_k fun K1 hK1 => ?_ | refine aqops_k fun K1 hK1 => ?_ | refine awp_cond_k fun A B hA hB => ?_); simp only [S1, simprocAttr, TTScP]; first | (refine hK1 _ ?_; clear hK1 K1) | ((first | refine hA ?_ | refine hB ?_); clear hA hB A B) | (refine join_x (v := ?_) (fun hg hk9 => ?_) ?_; rotate_left; (focus (try ((try simp only [BN] at hg); simp only [S1, simprocAttr, TTScP, hg] at hk9 ⊢)); first | exact hk9); (refine hK1 _ ?_; clear hK1 K1)) | (((first | (refine ⟨fun hg => hA ?_, fun hg => hB ?_⟩ <;> clear hA hB A B) | refine ⟨fun hg => ?_, fun hg => ?_⟩) <;> (try simp only [BN2] at hg) <;> (try simp only [hg, cond_true, cond_false])) <;> (try (refine hK1 _ ?_; clear hK1 K1)) <;> (try simp only [BN3] at hg))) | (fail) | ((first | refine awp_region ?_ | refine awp_draw (by kernel_rfl) ?_ | refine awp_block ?_ | refine awp_exit ?_ | refine awp_skip ?_ | refine awp_ret ?_); (try simp only [NB, simprocAttr]); (try ((repeat ((fail_if_success (refine hK _ ?_)); clear hK K)); refine hK _ ?_; clear hK K))))
  refine awp_seq_k fun K hK => ?_
  refine awp_seq_k fun K hK => ?_
  repeat' (first | ((first | refine aops_nil ?_ | refine aqops_nil ?_); (try simp only [NB]); ((repeat ((fail_if_success (refine hK _ ?_)); clear hK K)); refine hK _ ?_; clear hK K)) | ((first | refine aops_k fun K1 hK1 => ?_ | refine aqops_k fun K1 hK1 => ?_ | refine awp_cond_k fun A B hA hB => ?_); simp only [S1, simprocAttr, TTScP, b1, k0, ks, dk, rn_run, rn_st, runB, stB, Int.toNat_natCast, List.length_map, Nat.mul_one, Nat.zero_add]; first | (refine hK1 _ ?_; clear hK1 K1) | ((first | refine hA ?_ | refine hB ?_); clear hA hB A B) | (refine join_x (v := ?_) (fun hg hk9 => ?_) ?_; rotate_left; (focus (try ((try simp only [BN] at hg); simp only [S1, simprocAttr, TTScP, b1, k0, ks, dk, rn_run, rn_st, runB, stB, Int.toNat_natCast, List.length_map, Nat.mul_one, Nat.zero_add, hg] at hk9 ⊢)); first | exact hk9); (refine hK1 _ ?_; clear hK1 K1)) | (((first | (refine ⟨fun hg => hA ?_, fun hg => hB ?_⟩ <;> clear hA hB A B) | refine ⟨fun hg => ?_, fun hg => ?_⟩) <;> (try simp only [BN2] at hg) <;> (try simp only [hg, cond_true, cond_false])) <;> (try (refine hK1 _ ?_; clear hK1 K1)) <;> (try simp only [BN3] at hg))) | (fail) | ((first | refine awp_region ?_ | refine awp_draw (by kernel_rfl) ?_ | refine awp_block ?_ | refine awp_exit ?_ | refine awp_skip ?_ | refine awp_ret ?_); (try simp only [NB, simprocAttr]); (try ((repeat ((fail_if_success (refine hK _ ?_)); clear hK K)); refine hK _ ?_; clear hK K))))
  repeat' (first | ((first | refine aops_nil ?_ | refine aqops_nil ?_); (try simp only [NB]); ((repeat ((fail_if_success (refine hK _ ?_)); clear hK K)); refine hK _ ?_; clear hK K)) | ((first | refine aops_k fun K1 hK1 => ?_ | refine aqops_k fun K1 hK1 => ?_ | refine awp_cond_k fun A B hA hB => ?_); simp only [S1, simprocAttr, TTScP]; first | (refine hK1 _ ?_; clear hK1 K1) | ((first | refine hA ?_ | refine hB ?_); clear hA hB A B) | (refine join_x (v := ?_) (fun hg hk9 => ?_) ?_; rotate_left; (focus (try ((try simp only [BN] at hg); simp only [S1, simprocAttr, TTScP, hg] at hk9 ⊢)); first | exact hk9); (refine hK1 _ ?_; clear hK1 K1)) | (((first | (refine ⟨fun hg => hA ?_, fun hg => hB ?_⟩ <;> clear hA hB A B) | refine ⟨fun hg => ?_, fun hg => ?_⟩) <;> (try simp only [BN2] at hg) <;> (try simp only [hg, cond_true, cond_false])) <;> (try (refine hK1 _ ?_; clear hK1 K1)) <;> (try simp only [BN3] at hg))) | (fail) | ((first | refine awp_region ?_ | refine awp_draw (by kernel_rfl) ?_ | refine awp_block ?_ | refine awp_exit ?_ | refine awp_skip ?_ | refine awp_ret ?_); (try simp only [NB, simprocAttr]); (try ((repeat ((fail_if_success (refine hK _ ?_)); clear hK K)); refine hK _ ?_; clear hK K))))
  refine awp_tellG ⟨frL [(0, .ptr (h.length + 1) 0 0), (1, .i k)], 32, rnH h P ⟨g.gd, g.z, g.ga + 1⟩ ⟨s.st, s.dn, []⟩ L ++ []⟩ (fun K hK => ?_) ?_
  · repeat' (first | ((first | refine aops_nil ?_ | refine aqops_nil ?_); (try simp only [NB]); ((repeat ((fail_if_success (refine hK _ ?_)); clear hK K)); refine hK _ ?_; clear hK K)) | ((first | refine aops_k fun K1 hK1 => ?_ | refine aqops_k fun K1 hK1 => ?_ | refine awp_cond_k fun A B hA hB => ?_); simp only [S1, simprocAttr, TTScP, rn_run, runB]; first | (refine hK1 _ ?_; clear hK1 K1) | ((first | refine hA ?_ | refine hB ?_); clear hA hB A B) | (refine join_x (v := ?_) (fun hg hk9 => ?_) ?_; rotate_left; (focus (try ((try simp only [BN] at hg); simp only [S1, simprocAttr, TTScP, rn_run, runB, hg] at hk9 ⊢)); first | exact hk9); (refine hK1 _ ?_; clear hK1 K1)) | (((first | (refine ⟨fun hg => hA ?_, fun hg => hB ?_⟩ <;> clear hA hB A B) | refine ⟨fun hg => ?_, fun hg => ?_⟩) <;> (try simp only [BN2] at hg) <;> (try simp only [hg, cond_true, cond_false])) <;> (try (refine hK1 _ ?_; clear hK1 K1)) <;> (try simp only [BN3] at hg))) | (fail) | ((first | refine awp_region ?_ | refine awp_draw (by kernel_rfl) ?_ | refine awp_block ?_ | refine awp_exit ?_ | refine awp_skip ?_ | refine awp_ret ?_); (try simp only [NB, simprocAttr]); (try ((repeat ((fail_if_success (refine hK _ ?_)); clear hK K)); refine hK _ ?_; clear hK K))))
    all_goals refine rn_reset ?_
    all_goals simp only [keeps, avlt, avlts, blksLt, frL, upd_get, S1, simprocAttr, List.length_map, Int.natCast_zero, AV.p.injEq, PV.int.injEq, PV.bool.injEq, PV.sl.injEq] <;> (try and_intros) <;> (try assumption) <;> (try trivial) <;> (try omega)
  rw [List.append_nil]
  have hrun : ∀ (g : Rg) (s : Rs) (L : Heap), (rnH h P g s L)[h.length + 1]? = some (runB h.length P g s) := fun _ _ _ => rn_run
  repeat' (first | ((first | refine aops_nil ?_ | refine aqops_nil ?_); (try simp only [NB])) | ((repeat ((fail_if_success (refine hK _ ?_)); clear hK K)); refine hK _ ?_; clear hK K) | ((first | refine aops_k fun K1 hK1 => ?_ | refine aqops_k fun K1 hK1 => ?_ | refine awp_cond_k fun A B hA hB => ?_); simp only [S1, simprocAttr, TTScP, hrun, runB]; first | (refine hK1 _ ?_; clear hK1 K1) | ((first | refine hA ?_ | refine hB ?_); clear hA hB A B) | ((first | apply call_a E23 | apply call_q E23); exact hfc; (refine hK1 _ ?_; clear hK1 K1)) | ((first | apply call_a E24 | apply call_q E24); exact hcl; (refine hK1 _ ?_; clear hK1 K1)) | (refine join_x (v := ?_) (fun hg hk9 => ?_) ?_; rotate_left; (focus (try ((try simp only [BN] at hg); simp only [S1, simprocAttr, TTScP, hrun, runB, hg] at hk9 ⊢)); first | exact hk9 | ((first | apply call_a E23 | apply call_q E23); exact hfc; exact hk9) | ((first | apply call_a E24 | apply call_q E24); exact hcl; exact hk9)); (refine hK1 _ ?_; clear hK1 K1)) | (((first | (refine ⟨fun hg => hA ?_, fun hg => hB ?_⟩ <;> clear hA hB A B) | refine ⟨fun hg => ?_, fun hg => ?_⟩) <;> (try simp only [BN2] at hg) <;> (try simp only [hg, cond_true, cond_false])) <;> (try (refine hK1 _ ?_; clear hK1 K1)) <;> (try simp only [BN3] at hg))) | (refine awp_seq_k fun K hK => ?_) | ((first | refine awp_region ?_ | refine awp_draw (by kernel_rfl) ?_ | refine awp_block ?_ | refine awp_exit ?_ | refine awp_skip ?_ | refine awp_ret ?_); (try simp only [NB, simprocAttr])))
  have hbk : (rnH h P g1 t (L ++ [some ⟨1, cAct t.ac⟩]))[h.length + (L.length + 4)]? = some (some ⟨1, cAct t.ac⟩) := by rw [show L.length + 4 = 4 + L.length by omega, rn_at, List.getElem?_append_right (Nat.le_refl _), Nat.sub_self]; rfl
  have hst : (rnH h P g1 t (L ++ [some ⟨1, cAct t.ac⟩])).set (h.length + (L.length + 4)) none = rnH h P g1 t L ++ ([] ++ [none]) := by rw [show L.length + 4 = 4 + L.length by omega, rn_set, List.set_append_right _ _ (Nat.le_refl _), Nat.sub_self, rn_app]; rfl
  all_goals refine ⟨.inr trivial, _, (Ghost.freeze (k := 4) (b := h.length + (L.length + 4)) (sz := 2) (n := t.ac.length) (rows := t.ac.map eAct) (bk := ⟨1, cAct t.ac⟩) (rest := []) rfl hbk (by rw [List.length_map]) (fun r hr => by obtain ⟨a, _, rfl⟩ := List.mem_map.mp hr; rfl) (by omega) (by rw [cAct_rows, List.append_nil])).trans
    (Sub.ghostH (H := rnH h P g1 t L) (l := [(4, aAc t.ac), (5, .i 0)]) (L := []) (by rw [rn_len, rn_len]) (fun i bk hi => by rw [rn_len]; exact rn_keepA i bk hi) ⟨rfl, ⟨[none], hst⟩, ⟨rfl, trivial, rfl, trivial, trivial⟩, trivial⟩), ?_⟩
  all_goals exact ⟨by rw [List.append_nil, rn_len, rn_len]; exact Nat.le_refl _, rfl, List.append_nil _⟩
end
end Go.Proofs.Ytkmcecbglomemaa.AM
end

section
set_option linter.unusedVariables false
set_option linter.unusedSimpArgs false
set_option maxRecDepth 4000
set_option maxHeartbeats 4000000
namespace Go.Proofs.Ytkmcecbglomemaa.AM
open Go Go.Proofs
set_option linter.defProp false in
def TTScQ := And.intro T2 (And.intro T3 (And.intro T4 (And.intro T22 (And.intro T25 (And.intro T26 (And.intro T37 (And.intro T41 (And.intro T45 (And.intro T49 T54)))))))))
attribute [local irreducible] awp aops aqops aeops arun arunT arunN
variable {G : Nat → Option (List PV)}

theorem eSc_all (l : List Sc) : (l.map eSc).all (fun r => r.length == 3) = true := by simp [eSc]
theorem new_set (n : Nat) : (List.replicate n (AV.i 0)).set 0 (.i 1) = (newSt n).map AV.i := by
  unfold newSt
  rw [List.map_set, List.map_replicate]

theorem New_calls {P : List Sc} (pl : PlOk P) (h : Heap) : ACalls Try.prog G 8 [aSc P] h (fun r h' => r = .tup [.ptr (h.length + 1) 0 0, .i 0] ∧ h' = rnH h P ⟨0, 0, 0⟩ ⟨newSt P.length, [], []⟩ []) := by
  have hn1 := pl.n1
  have hn2 := pl.n32
  have hne : P.map eSc ≠ [] := by intro e; have := congrArg List.length e; simp at this; rw [this] at hn1; simp at hn1
  have hcl := fun H : Heap => cloneScP (G := G) (P.map eSc) (eSc_all P) hne (by rw [List.length_map]; omega) H
  have b1 : ¬ (P.length : Int) < 1 := by omega
  have b2 : ¬ (32 : Int) < (P.length : Int) := by omega
  refine Sim.evoKeepG (rl := []) mixed Try.func8 rfl (by rw [Try.ntmps8]; simp) ?_
  rw [Try.ntmps8]
  repeat' (first | ((first | refine aops_nil ?_ | refine aqops_nil ?_); (try simp only [NB])) | ((repeat ((fail_if_success (refine hK _ ?_)); clear hK K)); refine hK _ ?_; clear hK K) | ((first | refine aops_k fun K1 hK1 => ?_ | refine aqops_k fun K1 hK1 => ?_ | refine awp_cond_k fun A B hA hB => ?_); simp only [S1, simprocAttr, TTScQ, b1, b2, List.length_map]; first | (refine hK1 _ ?_; clear hK1 K1) | ((first | refine hA ?_ | refine hB ?_); clear hA hB A B) | (refine join_x (v := ?_) (fun hg hk9 => ?_) ?_; rotate_left; (focus (try ((try simp only [BN] at hg); simp only [S1, simprocAttr, TTScQ, b1, b2, List.length_map, hg] at hk9 ⊢)); first | exact hk9); (refine hK1 _ ?_; clear hK1 K1)) | (((first | (refine ⟨fun hg => hA ?_, fun hg => hB ?_⟩ <;> clear hA hB A B) | refine ⟨fun hg => ?_, fun hg => ?_⟩) <;> (try simp only [BN2] at hg) <;> (try simp only [hg, cond_true, cond_false])) <;> (try (refine hK1 _ ?_; clear hK1 K1)) <;> (try simp only [BN3] at hg))) | (refine awp_seq_k fun K hK => ?_) | ((first | refine awp_region ?_ | refine awp_draw (by kernel_rfl) ?_ | refine awp_block ?_ | refine awp_exit ?_ | refine awp_skip ?_ | refine awp_ret ?_); (try simp only [NB, simprocAttr])))
  refine awp_for P.length 58 (fun j => [(17, .i j), (16, .i P.length), (15, aSc P), (0, aSc P)]) (fun j => []) (fun j => True) ?_ trivial fun j hj hp K hK => ?_
  · (refine ⟨rfl, (by first | exact ⟨_, rfl⟩ | exact ⟨[], by simp⟩), ?_, ?_⟩ <;> simp only [keeps, avlt, avlts, blksLt, frL, upd_get, S1, simprocAttr, List.length_map, Int.natCast_zero, AV.p.injEq, PV.int.injEq, PV.bool.injEq, PV.sl.injEq] <;> (try and_intros) <;> (try assumption) <;> (try trivial) <;> (try omega))
  rcases Nat.lt_or_ge j P.length with hlt | hge
  · obtain ⟨sc, hx⟩ : ∃ k, P[j]? = some k := ⟨_, List.getElem?_eq_getElem hlt⟩
    have jl : (j : Int) < (P.length : Int) := by omega
    have j0 : (0 : Int) ≤ (j : Int) := by omega
    have hnx := nextJ (n := P.length) (by omega) hlt
    have hpa : parA P j = sc.1 := by unfold parA; rw [hx]
    have hxr := rowSc hx
    by_cases c0 : j = 0
    · subst c0
      have e : sc.1 = -1 := by rw [← hpa]; exact pl.root
      rw [e] at hxr
      have z1 : (0 : Int) < (P.length : Int) := by omega
      repeat' (first | ((first | refine aops_nil ?_ | refine aqops_nil ?_); (try simp only [NB])) | ((repeat ((fail_if_success (refine hK _ ?_)); clear hK K)); refine hK _ ?_; clear hK K) | ((first | refine aops_k fun K1 hK1 => ?_ | refine aqops_k fun K1 hK1 => ?_ | refine awp_cond_k fun A B hA hB => ?_); simp only [S1, simprocAttr, TTScQ, hxr, z1, jl, hnx, takeC_st, Int.natCast_zero, List.length_map]; first | (refine hK1 _ ?_; clear hK1 K1) | ((first | refine hA ?_ | refine hB ?_); clear hA hB A B) | (refine join_x (v := ?_) (fun hg hk9 => ?_) ?_; rotate_left; (focus (try ((try simp only [BN] at hg); simp only [S1, simprocAttr, TTScQ, hxr, z1, jl, hnx, takeC_st, Int.natCast_zero, List.length_map, hg] at hk9 ⊢)); first | exact hk9); (refine hK1 _ ?_; clear hK1 K1)) | (((first | (refine ⟨fun hg => hA ?_, fun hg => hB ?_⟩ <;> clear hA hB A B) | refine ⟨fun hg => ?_, fun hg => ?_⟩) <;> (try simp only [BN2] at hg) <;> (try simp only [hg, cond_true, cond_false])) <;> (try (refine hK1 _ ?_; clear hK1 K1)) <;> (try simp only [BN3] at hg))) | (refine awp_seq_k fun K hK => ?_) | ((first | refine awp_region ?_ | refine awp_draw (by kernel_rfl) ?_ | refine awp_block ?_ | refine awp_exit ?_ | refine awp_skip ?_ | refine awp_ret ?_); (try simp only [NB, simprocAttr])))
      all_goals exact ⟨hlt, trivial, by (refine ⟨rfl, (by first | exact ⟨_, rfl⟩ | exact ⟨[], by simp⟩), ?_, ?_⟩ <;> simp only [keeps, avlt, avlts, blksLt, frL, upd_get, S1, simprocAttr, List.length_map, Int.natCast_zero, AV.p.injEq, PV.int.injEq, PV.bool.injEq, PV.sl.injEq] <;> (try and_intros) <;> (try assumption) <;> (try trivial) <;> (try omega))⟩
    · obtain ⟨p0, p1⟩ := pl.par j (by omega) hlt
      rw [hpa] at p0 p1
      have f1 : ¬ (j : Int) ≤ sc.1 := by omega
      have f2 : ¬ sc.1 < 0 := by omega
      have f3 : ((j : Int) == 0) = false := by simp; omega
      repeat' (first | ((first | refine aops_nil ?_ | refine aqops_nil ?_); (try simp only [NB])) | ((repeat ((fail_if_success (refine hK _ ?_)); clear hK K)); refine hK _ ?_; clear hK K) | ((first | refine aops_k fun K1 hK1 => ?_ | refine aqops_k fun K1 hK1 => ?_ | refine awp_cond_k fun A B hA hB => ?_); simp only [S1, simprocAttr, TTScQ, hxr, jl, j0, hnx, f1, f2, f3, takeC_st, Int.toNat_natCast, List.length_map]; first | (refine hK1 _ ?_; clear hK1 K1) | ((first | refine hA ?_ | refine hB ?_); clear hA hB A B) | (refine join_x (v := ?_) (fun hg hk9 => ?_) ?_; rotate_left; (focus (try ((try simp only [BN] at hg); simp only [S1, simprocAttr, TTScQ, hxr, jl, j0, hnx, f1, f2, f3, takeC_st, Int.toNat_natCast, List.length_map, hg] at hk9 ⊢)); first | exact hk9); (refine hK1 _ ?_; clear hK1 K1)) | (((first | (refine ⟨fun hg => hA ?_, fun hg => hB ?_⟩ <;> clear hA hB A B) | refine ⟨fun hg => ?_, fun hg => ?_⟩) <;> (try simp only [BN2] at hg) <;> (try simp only [hg, cond_true, cond_false])) <;> (try (refine hK1 _ ?_; clear hK1 K1)) <;> (try simp only [BN3] at hg))) | (refine awp_seq_k fun K hK => ?_) | ((first | refine awp_region ?_ | refine awp_draw (by kernel_rfl) ?_ | refine awp_block ?_ | refine awp_exit ?_ | refine awp_skip ?_ | refine awp_ret ?_); (try simp only [NB, simprocAttr])))
      all_goals exact ⟨hlt, trivial, by (refine ⟨rfl, (by first | exact ⟨_, rfl⟩ | exact ⟨[], by simp⟩), ?_, ?_⟩ <;> simp only [keeps, avlt, avlts, blksLt, frL, upd_get, S1, simprocAttr, List.length_map, Int.natCast_zero, AV.p.injEq, PV.int.injEq, PV.bool.injEq, PV.sl.injEq] <;> (try and_intros) <;> (try assumption) <;> (try trivial) <;> (try omega))⟩
  · obtain rfl : j = P.length := by omega
    have z1 : (0 : Int) ≤ (P.length : Int) := by omega
    have z2 : (0 : Int) < (P.length : Int) := by omega
    have z3 : (P.length : Int) ≤ 16777216 := by omega
    have z6 : ¬ (P.length : Int) = 0 := by omega
    have z4 : 0 < P.length := by omega
    have z5 : ¬ P.length = 0 := by omega
    have hrp := rep_flat P.length (AV.i 0)
    have hst := new_set P.length
    repeat' (first | ((first | refine aops_nil ?_ | refine aqops_nil ?_ | refine arun_nil ?_ | refine arunT_nil ?_); (try simp only [NB])) | ((repeat ((fail_if_success (refine hK _ ?_)); clear hK K)); refine hK _ ?_; clear hK K) | ((first | refine aops_k fun K1 hK1 => ?_ | refine aqops_k fun K1 hK1 => ?_ | refine arun_eff rfl rfl rfl fun K1 hK1 => ?_ | refine awp_cond_k fun A B hA hB => ?_); simp only [S1, simprocAttr, TTScQ, Int.lt_irrefl, z1, z2, z3, z4, z5, z6, hn1, List.replicate_zero, List.append_nil, hrp, hst, Int.toNat_natCast, List.length_map, List.length_replicate, Nat.mul_one, Nat.zero_add]; first | (refine hK1 _ ?_; clear hK1 K1) | ((first | refine hA ?_ | refine hB ?_); clear hA hB A B) | ((first | apply call_a E18 | apply call_q E18); exact (hcl _); (refine hK1 _ ?_; clear hK1 K1)) | (refine join_x (v := ?_) (fun hg hk9 => ?_) ?_; rotate_left; (focus (try ((try simp only [BN] at hg); simp only [S1, simprocAttr, TTScQ, Int.lt_irrefl, z1, z2, z3, z4, z5, z6, hn1, List.replicate_zero, List.append_nil, hrp, hst, Int.toNat_natCast, List.length_map, List.length_replicate, Nat.mul_one, Nat.zero_add, hg] at hk9 ⊢)); first | exact hk9 | ((first | apply call_a E18 | apply call_q E18); exact (hcl _); exact hk9)); (refine hK1 _ ?_; clear hK1 K1)) | (((first | (refine ⟨fun hg => hA ?_, fun hg => hB ?_⟩ <;> clear hA hB A B) | refine ⟨fun hg => ?_, fun hg => ?_⟩) <;> (try simp only [BN2] at hg) <;> (try simp only [hg, cond_true, cond_false])) <;> (try (refine hK1 _ ?_; clear hK1 K1)) <;> (try simp only [BN3] at hg))) | ((first | refine arun_q (v := ?_) rfl rfl rfl rfl (by decide) (fun R1 K1 hK1 => ?_) ?_ | refine arun_f (v := ?_) rfl rfl rfl (by decide) (fun K1 hK1 => ?_) ?_ | refine arunT_f (v := ?_) rfl rfl rfl (by decide) (fun K1 hK1 => ?_) ?_ | refine arun_w (v := ?_) rfl rfl rfl rfl (by decide) (fun H1 K1 hK1 => ?_) ?_); rotate_left; (focus (simp only [S1, simprocAttr, TTScQ, Int.lt_irrefl, z1, z2, z3, z4, z5, z6, hn1, List.replicate_zero, List.append_nil, hrp, hst, Int.toNat_natCast, List.length_map, List.length_replicate, Nat.mul_one, Nat.zero_add]; first | (exact hK1 _ _ _) | ((first | apply call_a E18 | apply call_q E18); exact (hcl _); exact hK1 _ _ _)))) | (refine arun_tail rfl rfl rfl ?_) | ((first | refine arun_allocj (z := ?_) 0 rfl rfl rfl rfl (by decide) rfl ?_ ?_ | refine arun_allocj (z := ?_) 1 rfl rfl rfl rfl (by decide) rfl ?_ ?_ | refine arun_allocj (z := ?_) 2 rfl rfl rfl rfl (by decide) rfl ?_ ?_); rotate_left; (focus (simp only [S1, simprocAttr, TTScQ, Int.lt_irrefl, z1, z2, z3, z4, z5, z6, hn1, List.replicate_zero, List.append_nil, hrp, hst, Int.toNat_natCast, List.length_map, List.length_replicate, Nat.mul_one, Nat.zero_add, zeroB]; rfl))) | (refine awp_seq_k fun K hK => ?_) | (refine awp_drawR (es := [4, 5]) [0, 1, 2, 3, 4, 5, 6, 7] 0 (fs := [1, 3]) rfl (by kernel_rfl) (by kernel_rfl) ?_) | ((first | refine awp_region ?_ | refine awp_draw (by kernel_rfl) ?_ | refine awp_block ?_ | refine awp_exit ?_ | refine awp_skip ?_ | refine awp_ret ?_); (try simp only [NB, simprocAttr])))
    all_goals refine ⟨.inr trivial, ⟨frL [(2, .ptr (h.length + 1) 0 0), (3, .i 0)], 58, h ++ [stB ⟨newSt P.length, [], []⟩, runB h.length P ⟨0, 0, 0⟩ ⟨newSt P.length, [], []⟩, dnB ⟨0, 0, 0⟩ ⟨newSt P.length, [], []⟩, acB ⟨0, 0, 0⟩ ⟨newSt P.length, [], []⟩]⟩, (Ghost.adoptCellG (b := h.length + 1) (j := 2) (bk := ⟨0, [aSc P, .ref h.length 0 0 1 P.length, .p .nils, .p .nils]⟩) 1 (by rw [get_app]; rfl) rfl).trans ?_, ⟨by simp, rfl, rfl⟩⟩
    have e1 : ∀ A B : Option Blk, (h ++ [A, B] : Heap).length = h.length + 2 := fun A B => by simp
    have e2 : ∀ A B C : Option Blk, (h ++ [A, B, C] : Heap).length = h.length + 3 := fun A B C => by simp
    simp only [List.set_cons_succ, List.set_cons_zero, e1, List.append_assoc, set_app, List.cons_append, List.nil_append]
    refine (Ghost.adoptCellG (b := h.length + 1) (j := 3) (bk := ⟨0, [aSc P, .ref h.length 0 0 1 P.length, .ref (h.length + 2) 0 0 1 0, .p .nils]⟩) 2 (by rw [get_app]; rfl) rfl).trans ?_
    simp only [List.set_cons_succ, List.set_cons_zero, e2, List.append_assoc, set_app, List.cons_append, List.nil_append]
    have hl : (newSt P.length).length = P.length := by simp [newSt]
    refine Sub.ghost ⟨rfl, ⟨[], by simp [stB, runB, dnB, acB, cDn, cAct, hl]⟩, ?_, ⟨avlts_i _ _, ⟨trivial, by simp only [avlt, List.length_cons, List.length_nil]; omega, by simp only [avlt, List.length_cons, List.length_nil]; omega, by simp only [avlt, List.length_cons, List.length_nil]; omega, trivial⟩, cDn_avl _ _ _, cAct_avl _ _, trivial⟩⟩
    simp only [keeps, avlt, avlts, blksLt, frL, upd_get, List.length_cons, List.length_nil, S1, simprocAttr, List.length_map, List.length_cons, List.length_nil, Int.natCast_zero, AV.p.injEq, PV.int.injEq, PV.bool.injEq, PV.sl.injEq] <;> (try and_intros) <;> (try assumption) <;> (try trivial) <;> (try omega)

theorem rn_takeh {h : Heap} {P : List Sc} {g : Rg} {s : Rs} {L : Heap} : (rnH h P g s L).take h.length = h := by unfold rnH; exact List.take_left' rfl
def P3 : List Sc := [(-1, true, false), (0, false, true), (0, false, true)]
theorem P3_ok : PlOk P3 := ⟨by decide, by decide, rfl, fun k h0 hk => by
  match k, h0, hk with
  | 1, _, _ => exact ⟨by decide, by decide⟩
  | 2, _, _ => exact ⟨by decide, by decide⟩
  | k + 3, _, hk => simp [P3] at hk; omega⟩

theorem undone_calls (h : Heap) : ACalls Try.prog G 7 [] h (fun r h' => r = .b true ∧ h' = h) := by
  have pl := P3_ok
  have hN := New_calls (G := G) pl h
  have e0 : (⟨newSt P3.length, [], []⟩ : Rs) = ⟨[1, 0, 0], [], []⟩ := rfl
  rw [e0] at hN
  have k0 : RsOk P3 ⟨[1, 0, 0], [], []⟩ := RsOk.new pl
  have c1 : ACalls Try.prog G 16 [.ptr (h.length + 1) 0 0, .i 1] (rnH h P3 ⟨0, 0, 0⟩ ⟨[1, 0, 0], [], []⟩ []) (fun r h' => r = .i 0 ∧ h' = rnH h P3 ⟨0, 0, 0⟩ ⟨[1, 1, 0], [], []⟩ []) := enter_calls pl rfl 1
  have k1 : RsOk P3 ⟨[1, 1, 0], [], []⟩ := RsOk.enter pl k0 1
  have c2 : ACalls Try.prog G 17 [.ptr (h.length + 1) 0 0, .i 1] (rnH h P3 ⟨0, 0, 0⟩ ⟨[1, 1, 0], [], []⟩ []) (fun r h' => r = .i 0 ∧ h' = rnH h P3 ⟨1, 0, 0⟩ ⟨[1, 2, 0], [1], []⟩ []) := leave_calls pl.n32 rfl (by simp) 1
  have k2 : RsOk P3 ⟨[1, 2, 0], [1], []⟩ := RsOk.leave (g := ⟨0, 0, 0⟩) k1 1
  have c3 : ACalls Try.prog G 16 [.ptr (h.length + 1) 0 0, .i 2] (rnH h P3 ⟨1, 0, 0⟩ ⟨[1, 2, 0], [1], []⟩ []) (fun r h' => r = .i 0 ∧ h' = rnH h P3 ⟨1, 0, 0⟩ ⟨[1, 2, 1], [1], []⟩ []) := enter_calls pl rfl 2
  have k3 : RsOk P3 ⟨[1, 2, 1], [1], []⟩ := RsOk.enter pl k2 2
  have c4 : ACalls Try.prog G 17 [.ptr (h.length + 1) 0 0, .i 2] (rnH h P3 ⟨1, 0, 0⟩ ⟨[1, 2, 1], [1], []⟩ []) (fun r h' => r = .i 0 ∧ h' = rnH h P3 ⟨2, 0, 0⟩ ⟨[1, 2, 2], [1, 2], []⟩ []) := leave_calls pl.n32 rfl (by simp) 2
  have k4 : RsOk P3 ⟨[1, 2, 2], [1, 2], []⟩ := RsOk.leave (g := ⟨1, 0, 0⟩) k3 2
  have c5 : ACalls Try.prog G 12 [.ptr (h.length + 1) 0 0, .i 0] (rnH h P3 ⟨2, 0, 0⟩ ⟨[1, 2, 2], [1, 2], []⟩ []) (fun r h' => r = .tup [aAc [(2, 2), (2, 1), (3, 0)], .i 0] ∧ h' = rnH h P3 ⟨2, 2, 4⟩ ⟨[5, 4, 4], [], [(2, 2), (2, 1), (3, 0)]⟩ []) := Fault_good pl k4 0 (by decide) rfl
  have c6 : ACalls Try.prog G 14 [.ptr (h.length + 1) 0 0, .i 1] (rnH h P3 ⟨2, 2, 4⟩ ⟨[5, 4, 4], [], [(2, 2), (2, 1), (3, 0)]⟩ []) (fun r h' => r = .i 4 ∧ h' = rnH h P3 ⟨2, 2, 4⟩ ⟨[5, 4, 4], [], [(2, 2), (2, 1), (3, 0)]⟩ []) := state_calls rfl 1
  have hac : (aAc [(2, 2), (2, 1), (3, 0)] : AV) = .p (.sl [[.int .i64 2, .int .i64 2], [.int .i64 2, .int .i64 1], [.int .i64 3, .int .i64 0]]) := rfl
  have hsc : (aSc P3 : AV) = .p (.sl [[.int .i64 (-1), .bool true, .bool false], [.int .i64 0, .bool false, .bool true], [.int .i64 0, .bool false, .bool true]]) := rfl
  rw [hac] at c5
  rw [hsc] at hN
  refine acalls_pure (rl := []) mixed Try.func7 rfl (rs := [.tmp 0]) rfl Try.ntmps7 (by simp) ?_
  repeat' (first | ((first | refine aops_nil ?_ | refine aqops_nil ?_); (try simp only [NB])) | ((repeat ((fail_if_success (refine hK _ ?_)); clear hK K)); refine hK _ ?_; clear hK K) | ((first | refine aops_k fun K1 hK1 => ?_ | refine aqops_k fun K1 hK1 => ?_ | refine awp_cond_k fun A B hA hB => ?_); simp only [S1, simprocAttr, TTScQ, eqA, W41, and_self, takeC_st]; first | (refine hK1 _ ?_; clear hK1 K1) | ((first | refine hA ?_ | refine hB ?_); clear hA hB A B) | ((first | apply call_a E8 | apply call_q E8); exact hN; (refine hK1 _ ?_; clear hK1 K1)) | ((first | apply call_a E16 | apply call_q E16); exact c1; (refine hK1 _ ?_; clear hK1 K1)) | ((first | apply call_a E16 | apply call_q E16); exact c3; (refine hK1 _ ?_; clear hK1 K1)) | ((first | apply call_a E17 | apply call_q E17); exact c2; (refine hK1 _ ?_; clear hK1 K1)) | ((first | apply call_a E17 | apply call_q E17); exact c4; (refine hK1 _ ?_; clear hK1 K1)) | ((first | apply call_a E12 | apply call_q E12); exact c5; (refine hK1 _ ?_; clear hK1 K1)) | ((first | apply call_a E14 | apply call_q E14); exact c6; (refine hK1 _ ?_; clear hK1 K1)) | (refine join_x (v := ?_) (fun hg hk9 => ?_) ?_; rotate_left; (focus (try ((try simp only [BN] at hg); simp only [S1, simprocAttr, TTScQ, eqA, W41, and_self, takeC_st, hg] at hk9 ⊢)); first | exact hk9 | ((first | apply call_a E8 | apply call_q E8); exact hN; exact hk9) | ((first | apply call_a E16 | apply call_q E16); exact c1; exact hk9) | ((first | apply call_a E16 | apply call_q E16); exact c3; exact hk9) | ((first | apply call_a E17 | apply call_q E17); exact c2; exact hk9) | ((first | apply call_a E17 | apply call_q E17); exact c4; exact hk9) | ((first | apply call_a E12 | apply call_q E12); exact c5; exact hk9) | ((first | apply call_a E14 | apply call_q E14); exact c6; exact hk9)); (refine hK1 _ ?_; clear hK1 K1)) | (((first | (refine ⟨fun hg => hA ?_, fun hg => hB ?_⟩ <;> clear hA hB A B) | refine ⟨fun hg => ?_, fun hg => ?_⟩) <;> (try simp only [BN2] at hg) <;> (try simp only [hg, cond_true, cond_false])) <;> (try (refine hK1 _ ?_; clear hK1 K1)) <;> (try simp only [BN3] at hg))) | (refine awp_seq_k fun K hK => ?_) | ((first | refine awp_region ?_ | refine awp_draw (by kernel_rfl) ?_ | refine awp_block ?_ | refine awp_exit ?_ | refine awp_skip ?_ | refine awp_ret ?_); (try simp only [NB, simprocAttr])))
  all_goals simp only [EndP, FinP, resA, resL, resA1, lastV, lastA, lastAs, pur, purs, take_app, List.take_length, S1, simprocAttr, TTScQ, Nat.le_add_right, Nat.le_refl, rn_len, rn_takeh]
  all_goals simp

/-! A nil run. -/
end Go.Proofs.Ytkmcecbglomemaa.AM
end

section
set_option linter.unusedVariables false
namespace Go.Proofs.Ytkmcecbglomemaa.AM
open Go

/-- What each is, when it was done, the time, the actions. -/
structure Ro where
  st : Nat → Int
  wh : Nat → Int
  clk : Int
  ac : List (Int × Nat)
def upI (f : Nat → Int) (k : Nat) (x : Int) : Nat → Int := fun j => if j = k then x else f j
def iterR {α : Type} (f : Nat → α → α) : Nat → α → α
  | 0, s => s
  | j + 1, s => f j (iterR f j s)
def lastR (P : List Sc) (s : Ro) (i : Nat) : Nat → Int
  | 0 => -1
  | j + 1 => if parA P j = (i : Int) ∧ s.st j = 2 ∧ (lastR P s i j < 0 ∨ s.wh (lastR P s i j).toNat < s.wh j) then (j : Int) else lastR P s i j
def stepE (P : List Sc) (f : Nat → Ro → Ro) (i k : Nat) (s : Ro) : Ro :=
  if parA P k = (i : Int) ∧ s.st k = 1 then ⟨upI (f k s).st k 3, (f k s).wh, (f k s).clk, (f k s).ac ++ [(1, k)]⟩ else s
def endsR (P : List Sc) : Nat → Nat → Ro → Ro
  | 0, _, s => s
  | d + 1, i, s => iterR (fun j s => stepE P (endsR P d) i (P.length - 1 - j) s) (P.length - 1 - i) s
def stepU (P : List Sc) (f : Nat → Ro → Ro) (i : Nat) (s : Ro) : Ro :=
  if lastR P s i P.length < 0 then s
  else if undA P (lastR P s i P.length).toNat = true then ⟨upI s.st (lastR P s i P.length).toNat 4, s.wh, s.clk, s.ac ++ [(2, (lastR P s i P.length).toNat)]⟩
  else ⟨upI (f (lastR P s i P.length).toNat s).st (lastR P s i P.length).toNat 4, (f (lastR P s i P.length).toNat s).wh, (f (lastR P s i P.length).toNat s).clk, (f (lastR P s i P.length).toNat s).ac⟩
def undosR (P : List Sc) : Nat → Nat → Ro → Ro
  | 0, _, s => s
  | d + 1, i, s => iterR (fun _ s => stepU P (undosR P d) i s) P.length s
def faultR (P : List Sc) : Nat → Int → Ro → Ro
  | 0, _, s => s
  | d + 1, k, s =>
    if k < 0 then s
    else
      let b := undosR P P.length k.toNat (endsR P P.length k.toNat s)
      if catA P k.toNat = true then ⟨upI b.st k.toNat 5, b.wh, b.clk, b.ac ++ [(3, k.toNat)]⟩
      else faultR P d (parA P k.toNat) ⟨upI b.st k.toNat 6, b.wh, b.clk, b.ac ++ [(4, k.toNat)]⟩

theorem iterR_fix {α : Type} {f : α → α} {s : α} {j m : Nat} (h : f (iterR (fun _ => f) j s) = iterR (fun _ => f) j s) (hm : j ≤ m) : iterR (fun _ => f) m s = iterR (fun _ => f) j s := by
  induction m with
  | zero => rw [show j = 0 by omega]
  | succ m ih =>
    rcases Nat.lt_or_ge m j with h1 | h1
    · rw [show j = m + 1 by omega]
    · show f (iterR (fun _ => f) m s) = _
      rw [ih h1, h]

def liveR (n : Nat) (f : Nat → Int) : Nat := (List.range n).countP fun k => f k == 1 || f k == 2
theorem live_succ (n : Nat) (f : Nat → Int) : liveR (n + 1) f = liveR n f + if f n = 1 ∨ f n = 2 then 1 else 0 := by
  unfold liveR
  rw [List.range_succ, List.countP_append, List.countP_singleton]
  simp
theorem live_le (n : Nat) (f : Nat → Int) : liveR n f ≤ n := by
  unfold liveR
  have := List.countP_le_length (p := fun k => f k == 1 || f k == 2) (l := List.range n)
  simpa using this
theorem live_hi {n k : Nat} (f : Nat → Int) (x : Int) (h : n ≤ k) : liveR n (upI f k x) = liveR n f := by
  induction n with
  | zero => rfl
  | succ n ih =>
    have e : upI f k x n = f n := by unfold upI; rw [if_neg (by omega)]
    rw [live_succ, live_succ, ih (by omega), e]
theorem live_up {n k : Nat} {f : Nat → Int} {x : Int} (hx : 3 ≤ x) (h : k < n) : liveR n (upI f k x) + (if f k = 1 ∨ f k = 2 then 1 else 0) = liveR n f := by
  induction n with
  | zero => omega
  | succ n ih =>
    rw [live_succ, live_succ]
    rcases Nat.lt_or_ge k n with h1 | h1
    · have := ih h1
      have e : upI f k x n = f n := by unfold upI; rw [if_neg (by omega)]
      rw [e]; omega
    · obtain rfl : k = n := by omega
      rw [live_hi f x (Nat.le_refl _)]
      have e : upI f k x k = x := by unfold upI; rw [if_pos rfl]
      rw [e, if_neg (by omega), Nat.add_zero]

def pot (P : List Sc) (s : Ro) : Nat := s.ac.length + liveR P.length s.st
structure To (P : List Sc) (i : Nat) (s t : Ro) : Prop where
  low : ∀ j, j ≤ i → t.st j = s.st j
  le : s.ac.length ≤ t.ac.length
  pot : pot P t ≤ pot P s
section
variable {P : List Sc} {i : Nat} {s t u : Ro}
theorem To.refl : To P i s s := ⟨fun _ _ => rfl, Nat.le_refl _, Nat.le_refl _⟩
theorem To.trans (h1 : To P i s t) (h2 : To P i t u) : To P i s u := ⟨fun j hj => (h2.low j hj).trans (h1.low j hj), Nat.le_trans h1.le h2.le, Nat.le_trans h2.pot h1.pot⟩
theorem To.act {k : Nat} {x w : Int} (h : To P k s t) (hik : i < k) (hk : k < P.length) (h1 : s.st k = 1 ∨ s.st k = 2) (hx : 3 ≤ x) : To P i s ⟨upI t.st k x, t.wh, t.clk, t.ac ++ [(w, k)]⟩ := by
  have hu := live_up (n := P.length) (f := t.st) hx hk
  rw [h.low k (Nat.le_refl _), if_pos h1] at hu
  refine ⟨fun j hj => ?_, ?_, ?_⟩
  · show upI t.st k x j = _
    unfold upI
    rw [if_neg (by omega), h.low j (by omega)]
  · have := h.le
    simp only [List.length_append, List.length_cons, List.length_nil]; omega
  · have := h.pot
    unfold AM.pot at this ⊢
    simp only [List.length_append, List.length_cons, List.length_nil]; omega
theorem To.off {k : Nat} {x : Int} (h : To P k s t) (hik : i < k) (hk : k < P.length) (hx : 3 ≤ x) : To P i s ⟨upI t.st k x, t.wh, t.clk, t.ac⟩ := by
  have hu := live_up (n := P.length) (f := t.st) hx hk
  refine ⟨fun j hj => ?_, h.le, ?_⟩
  · show upI t.st k x j = _
    unfold upI
    rw [if_neg (by omega), h.low j (by omega)]
  · have := h.pot
    unfold AM.pot at this ⊢
    simp only
    omega
theorem iter_to {f : Nat → Ro → Ro} {m : Nat} (h : ∀ j, j < m → ∀ s, To P i s (f j s)) : ∀ j, j ≤ m → To P i s (iterR f j s)
  | 0, _ => To.refl
  | j + 1, hj => (iter_to h j (by omega)).trans (h j (by omega) _)
theorem stepE_to {f : Nat → Ro → Ro} (hf : ∀ k s, To P k s (f k s)) {k : Nat} (hik : i < k) (hk : k < P.length) : To P i s (stepE P f i k s) := by
  unfold stepE
  split
  · rename_i h
    exact (hf k s).act hik hk (.inl h.2) (by omega)
  · exact To.refl
theorem ends_to : ∀ (d i : Nat) (s : Ro), To P i s (endsR P d i s)
  | 0, _, _ => To.refl
  | d + 1, i, s => iter_to (m := P.length - 1 - i) (fun j hj s => stepE_to (ends_to d) (by omega) (by omega)) _ (Nat.le_refl _)
theorem last_spec (m : Nat) : lastR P s i m = -1 ∨ ∃ k : Nat, lastR P s i m = (k : Int) ∧ k < m ∧ parA P k = (i : Int) ∧ s.st k = 2 := by
  induction m with
  | zero => exact .inl rfl
  | succ m ih =>
    unfold lastR
    split
    · rename_i h
      exact .inr ⟨m, rfl, by omega, h.1, h.2.1⟩
    · rcases ih with e | ⟨k, e, h1, h2⟩
      · exact .inl e
      · exact .inr ⟨k, e, by omega, h2⟩
theorem stepU_to (pl : PlOk P) {f : Nat → Ro → Ro} (hf : ∀ k s, To P k s (f k s)) : To P i s (stepU P f i s) := by
  unfold stepU
  rcases last_spec (P := P) (s := s) (i := i) P.length with e | ⟨k, e, h1, h2, h3⟩
  · rw [e, if_pos (by omega)]; exact To.refl
  · rw [e, if_neg (by omega), Int.toNat_natCast]
    have := (pl.lt h2).1
    split
    · exact To.act (t := s) To.refl this h1 (.inr h3) (by omega)
    · exact (hf k s).off this h1 (by omega)
theorem undos_to (pl : PlOk P) : ∀ (d i : Nat) (s : Ro), To P i s (undosR P d i s)
  | 0, _, _ => To.refl
  | d + 1, i, s => iter_to (m := P.length) (fun j hj s => stepU_to pl (undos_to pl d)) _ (Nat.le_refl _)

theorem pot_end {k : Nat} {x w : Int} (hk : k < P.length) (hx : 3 ≤ x) : pot P ⟨upI s.st k x, s.wh, s.clk, s.ac ++ [(w, k)]⟩ ≤ pot P s + 1 := by
  have hu := live_up (n := P.length) (f := s.st) hx hk
  unfold AM.pot
  simp only [List.length_append, List.length_cons, List.length_nil]
  omega
theorem pot_le : s.ac.length ≤ pot P s := Nat.le_add_right ..
end

def newR : Ro := ⟨upI (fun _ => 0) 0 1, fun _ => 0, 0, []⟩
def enterR (P : List Sc) (s : Ro) (i : Int) : Ro × Int :=
  if i < 0 ∨ (P.length : Int) ≤ i then (s, 1) else if i = 0 ∨ s.st i.toNat ≠ 0 ∨ s.st (parA P i.toNat).toNat ≠ 1 then (s, 7) else (⟨upI s.st i.toNat 1, s.wh, s.clk, s.ac⟩, 0)
def leaveR (P : List Sc) (s : Ro) (i : Int) : Ro × Int :=
  if i < 0 ∨ (P.length : Int) ≤ i then (s, 1) else if s.st i.toNat ≠ 1 ∨ ∃ k, k < P.length ∧ parA P k = i ∧ s.st k = 1 then (s, 7)
  else (⟨upI s.st i.toNat 2, upI s.wh i.toNat (IntKind.i64.wrap (s.clk + 1)), IntKind.i64.wrap (s.clk + 1), s.ac⟩, 0)
def faultRX (P : List Sc) (s : Ro) (i : Nat) : Ro := faultR P P.length i ⟨s.st, s.wh, s.clk, []⟩
end Go.Proofs.Ytkmcecbglomemaa.AM
end

section
set_option linter.unusedVariables false
set_option linter.unusedSimpArgs false
set_option maxRecDepth 4000
set_option maxHeartbeats 4000000
namespace Go.Proofs.Ytkmcecbglomemaa.AM
open Go Go.Proofs
set_option linter.defProp false in
def TTScT := And.intro T2 (And.intro T3 (And.intro T4 (And.intro T29 (And.intro T45 (And.intro T56 (And.intro T57 (And.intro T59 (And.intro T61 T64))))))))
attribute [local irreducible] awp aops aqops aeops arun arunT arunN
variable {G : Nat → Option (List PV)}

def cOne (P : List Sc) (s : Ro) : List AV := (List.range P.length).flatMap fun k => [.i (parA P k), .b (catA P k), .b (undA P k), .i (s.st k), .i (s.wh k)]
/-- Generations of the scopes and of the actions. -/
structure Rw where
  gp : Nat
  gl : Nat
def wRun (n : Nat) (P : List Sc) (g : Rw) (s : Ro) : Option Blk := some ⟨0, [.ref (n + 1) g.gp 0 5 P.length, .i s.clk, .ref (n + 2) g.gl 0 2 s.ac.length]⟩
def wPs (P : List Sc) (g : Rw) (s : Ro) : Option Blk := some ⟨g.gp, cOne P s⟩
def wAc (g : Rw) (s : Ro) : Option Blk := some ⟨g.gl, cAct s.ac⟩
def rwH (h : Heap) (P : List Sc) (g : Rw) (s : Ro) (L : Heap) : Heap := h ++ (wRun h.length P g s :: wPs P g s :: wAc g s :: L)

theorem flatC_len {f : Nat → List AV} {c : Nat} (hc : ∀ k, (f k).length = c) (n : Nat) : ((List.range n).flatMap f).length = n * c := by
  induction n with
  | zero => simp
  | succ n ih => rw [List.range_succ, List.flatMap_append, List.length_append, ih, List.flatMap_singleton, hc, Nat.succ_mul]
theorem flatC_drop {f : Nat → List AV} {c : Nat} (hc : ∀ k, (f k).length = c) {k n : Nat} (hk : k < n) : ((List.range n).flatMap f).drop (k * c) = f k ++ ((List.range n).flatMap f).drop ((k + 1) * c) := by
  induction n with
  | zero => omega
  | succ n ih =>
    have hl := flatC_len hc n
    rw [List.range_succ, List.flatMap_append, List.flatMap_singleton]
    rcases Nat.lt_or_ge k n with h1 | h1
    · have h2 : (k + 1) * c ≤ n * c := Nat.mul_le_mul_right _ h1
      have h3 : k * c ≤ n * c := Nat.mul_le_mul_right _ (by omega)
      rw [List.drop_append_of_le_length (by omega), List.drop_append_of_le_length (by omega), ih h1, List.append_assoc]
    · obtain rfl : k = n := by omega
      rw [← hl, List.drop_left, List.drop_eq_nil_of_le (by rw [List.length_append, hl, hc, Nat.succ_mul]; exact Nat.le_refl _), List.append_nil]
theorem flatC_set {f f' : Nat → List AV} {c : Nat} (hc : ∀ k, (f k).length = c) {k n r : Nat} {v : AV} (hk : k < n) (hr : r < c) (h1 : f' k = (f k).set r v) (h2 : ∀ j, j ≠ k → f' j = f j) : ((List.range n).flatMap f).set (k * c + r) v = (List.range n).flatMap f' := by
  induction n with
  | zero => omega
  | succ n ih =>
    have hl := flatC_len hc n
    rw [List.range_succ, List.flatMap_append, List.flatMap_append, List.flatMap_singleton, List.flatMap_singleton]
    rcases Nat.lt_or_ge k n with h3 | h3
    · have h4 : (k + 1) * c ≤ n * c := Nat.mul_le_mul_right _ h3
      rw [Nat.succ_mul] at h4
      rw [List.set_append_left _ _ (by omega), ih h3, h2 n (by omega)]
    · obtain rfl : k = n := by omega
      rw [List.set_append_right _ _ (by omega), hl, Nat.add_sub_cancel_left, h1]
      congr 1
      clear ih hk hl h3
      suffices ∀ m, m ≤ k → (List.range m).flatMap f = (List.range m).flatMap f' from this k (Nat.le_refl _)
      intro m
      induction m with
      | zero => intro _; rfl
      | succ m ih => intro hm; rw [List.range_succ, List.flatMap_append, List.flatMap_append, ih (by omega), List.flatMap_singleton, List.flatMap_singleton, h2 m (by omega)]

section
variable {P : List Sc} {s : Ro}
theorem cOne_len : (cOne P s).length = P.length * 5 := flatC_len (f := fun k => [.i (parA P k), .b (catA P k), .b (undA P k), .i (s.st k), .i (s.wh k)]) (fun _ => rfl) _
theorem one_at {k : Nat} (hk : k < P.length) : (cOne P s).drop (k * 5) = .i (parA P k) :: .b (catA P k) :: .b (undA P k) :: .i (s.st k) :: .i (s.wh k) :: (cOne P s).drop ((k + 1) * 5) := flatC_drop (f := fun k => [.i (parA P k), .b (catA P k), .b (undA P k), .i (s.st k), .i (s.wh k)]) (fun _ => rfl) hk
theorem one_at1 {k : Nat} (hk : k < P.length) : (cOne P s).drop (k * 5 + 1) = .b (catA P k) :: .b (undA P k) :: .i (s.st k) :: .i (s.wh k) :: (cOne P s).drop ((k + 1) * 5) := by rw [← List.drop_drop, one_at hk]; rfl
theorem one_at2 {k : Nat} (hk : k < P.length) : (cOne P s).drop (k * 5 + 2) = .b (undA P k) :: .i (s.st k) :: .i (s.wh k) :: (cOne P s).drop ((k + 1) * 5) := by rw [← List.drop_drop, one_at hk]; rfl
theorem one_at3 {k : Nat} (hk : k < P.length) : (cOne P s).drop (k * 5 + 3) = .i (s.st k) :: .i (s.wh k) :: (cOne P s).drop ((k + 1) * 5) := by rw [← List.drop_drop, one_at hk]; rfl
theorem one_at4 {k : Nat} (hk : k < P.length) : (cOne P s).drop (k * 5 + 4) = .i (s.wh k) :: (cOne P s).drop ((k + 1) * 5) := by rw [← List.drop_drop, one_at hk]; rfl
theorem one_set {k : Nat} (hk : k < P.length) (x : Int) : (cOne P s).set (k * 5 + 3) (.i x) = cOne P ⟨upI s.st k x, s.wh, s.clk, s.ac⟩ := by
  refine flatC_set (c := 5) (fun _ => rfl) hk (by decide) ?_ fun j hj => ?_
  · simp [upI]
  · simp [upI, hj]
theorem one_setw {k : Nat} (hk : k < P.length) (x : Int) : (cOne P s).set (k * 5 + 4) (.i x) = cOne P ⟨s.st, upI s.wh k x, s.clk, s.ac⟩ := by
  refine flatC_set (c := 5) (fun _ => rfl) hk (by decide) ?_ fun j hj => ?_
  · simp [upI]
  · simp [upI, hj]
theorem cOne_avl (n : Nat) : avlts n (cOne P s) := by
  unfold cOne
  induction List.range P.length with
  | nil => exact trivial
  | cons a l ih => exact ⟨trivial, trivial, trivial, trivial, trivial, ih⟩
end

section
variable {h : Heap} {P : List Sc} {g : Rw} {s : Ro} {L : Heap}
theorem rw_len : (rwH h P g s L).length = h.length + (L.length + 3) := by simp [rwH]
theorem rw_app (M : Heap) : rwH h P g s L ++ M = rwH h P g s (L ++ M) := by unfold rwH; rw [List.append_assoc]; rfl
theorem rw_run : (rwH h P g s L)[h.length]? = some (wRun h.length P g s) := by unfold rwH; rw [get_app0]; rfl
theorem rw_ps : (rwH h P g s L)[h.length + 1]? = some (wPs P g s) := by unfold rwH; rw [get_app]; rfl
theorem rw_ac : (rwH h P g s L)[h.length + 2]? = some (wAc g s) := by unfold rwH; rw [get_app]; rfl
theorem rw_take : (rwH h P g s L).take (h.length + (L.length + 3)) = rwH h P g s L := by rw [← rw_len (h := h) (P := P) (g := g) (s := s) (L := L), List.take_length]
theorem rw_takeM (M : Heap) : (rwH h P g s (L ++ M)).take (h.length + (L.length + 3)) = rwH h P g s L := by
  rw [← rw_app, ← rw_len (h := h) (P := P) (g := g) (s := s) (L := L), List.take_left']; rfl
theorem rw_keepA {g g0 : Rw} {s s0 : Ro} (i : Nat) (bk : Blk) (hi : (rwH h P g s L)[i]? = some (some bk)) : (rwH h P g0 s0 L)[i]? = some (some bk) ∨ avlts (h.length + (L.length + 3)) bk.cells := by
  unfold rwH at hi ⊢
  rcases Nat.lt_or_ge i h.length with hl | hl
  · rw [List.getElem?_append_left hl] at hi ⊢; exact .inl hi
  rw [List.getElem?_append_right hl] at hi ⊢
  generalize i - h.length = j at hi ⊢
  match j, hi with
  | 0, hi => simp [wRun] at hi; subst hi; exact .inr ⟨by simp only [avlt]; omega, trivial, by simp only [avlt]; omega, trivial⟩
  | 1, hi => simp [wPs] at hi; subst hi; exact .inr (cOne_avl _)
  | 2, hi => simp [wAc] at hi; subst hi; exact .inr (cAct_avl _ _)
  | j + 3, hi => exact .inl (by simpa using hi)
theorem rw_keep {g0 : Rw} {s0 : Ro} (i : Nat) (bk : Blk) (hi : (rwH h P g s L)[i]? = some (some bk)) : (rwH h P g0 s0 L)[i]? = some (some bk) ∨ ∀ x, x ∈ bk.cells → AVlt (h.length + (L.length + 3)) x :=
  (rw_keepA i bk hi).imp id fun hx => avlts_lt _ hx
theorem rw_sst (k : Nat) (x : Int) : (rwH h P g s L).set (h.length + 1) (some ⟨g.gp, cOne P ⟨upI s.st k x, s.wh, s.clk, s.ac⟩⟩) = rwH h P g ⟨upI s.st k x, s.wh, s.clk, s.ac⟩ L := by
  unfold rwH; rw [set_app]; rfl
def isIn (P : List Sc) (i : Int) : Bool := if i < 0 ∨ (P.length : Int) ≤ i then false else true
theorem in_calls (i : Int) : ACalls Try.prog G 27 [.ptr h.length 0 0, .i i] (rwH h P g s L) (fun r h' => r = .b (isIn P i) ∧ h' = rwH h P g s L) := by
  unfold isIn
  by_cases c1 : 0 ≤ i
  · by_cases c2 : i < (P.length : Int)
    · rw [if_neg (by omega)]
      refine acalls_pure (rl := []) mixed Try.func27 rfl (rs := [.tmp 4]) rfl Try.ntmps27 (by simp) ?_
      repeat' (first | ((first | refine aops_nil ?_ | refine aqops_nil ?_); (try simp only [NB])) | ((repeat ((fail_if_success (refine hK _ ?_)); clear hK K)); refine hK _ ?_; clear hK K) | ((first | refine aops_k fun K1 hK1 => ?_ | refine aqops_k fun K1 hK1 => ?_ | refine awp_cond_k fun A B hA hB => ?_); simp only [S1, simprocAttr, TTScT, c1, c2, rw_run, wRun]; first | (refine hK1 _ ?_; clear hK1 K1) | ((first | refine hA ?_ | refine hB ?_); clear hA hB A B) | (refine join_x (v := ?_) (fun hg hk9 => ?_) ?_; rotate_left; (focus (try ((try simp only [BN] at hg); simp only [S1, simprocAttr, TTScT, c1, c2, rw_run, wRun, hg] at hk9 ⊢)); first | exact hk9); (refine hK1 _ ?_; clear hK1 K1)) | (((first | (refine ⟨fun hg => hA ?_, fun hg => hB ?_⟩ <;> clear hA hB A B) | refine ⟨fun hg => ?_, fun hg => ?_⟩) <;> (try simp only [BN2] at hg) <;> (try simp only [hg, cond_true, cond_false])) <;> (try (refine hK1 _ ?_; clear hK1 K1)) <;> (try simp only [BN3] at hg))) | (refine awp_seq_k fun K hK => ?_) | ((first | refine awp_region ?_ | refine awp_draw (by kernel_rfl) ?_ | refine awp_block ?_ | refine awp_exit ?_ | refine awp_skip ?_ | refine awp_ret ?_); (try simp only [NB, simprocAttr])))
      all_goals simp only [EndP, FinP, resA, resL, resA1, lastV, lastA, lastAs, pur, purs, take_app, List.take_length, S1, simprocAttr, TTScT, Nat.le_add_right, Nat.le_refl, rw_len, rw_take]
    · rw [if_pos (by omega)]
      refine acalls_pure (rl := []) mixed Try.func27 rfl (rs := [.tmp 4]) rfl Try.ntmps27 (by simp) ?_
      repeat' (first | ((first | refine aops_nil ?_ | refine aqops_nil ?_); (try simp only [NB])) | ((repeat ((fail_if_success (refine hK _ ?_)); clear hK K)); refine hK _ ?_; clear hK K) | ((first | refine aops_k fun K1 hK1 => ?_ | refine aqops_k fun K1 hK1 => ?_ | refine awp_cond_k fun A B hA hB => ?_); simp only [S1, simprocAttr, TTScT, c1, c2, rw_run, wRun]; first | (refine hK1 _ ?_; clear hK1 K1) | ((first | refine hA ?_ | refine hB ?_); clear hA hB A B) | (refine join_x (v := ?_) (fun hg hk9 => ?_) ?_; rotate_left; (focus (try ((try simp only [BN] at hg); simp only [S1, simprocAttr, TTScT, c1, c2, rw_run, wRun, hg] at hk9 ⊢)); first | exact hk9); (refine hK1 _ ?_; clear hK1 K1)) | (((first | (refine ⟨fun hg => hA ?_, fun hg => hB ?_⟩ <;> clear hA hB A B) | refine ⟨fun hg => ?_, fun hg => ?_⟩) <;> (try simp only [BN2] at hg) <;> (try simp only [hg, cond_true, cond_false])) <;> (try (refine hK1 _ ?_; clear hK1 K1)) <;> (try simp only [BN3] at hg))) | (refine awp_seq_k fun K hK => ?_) | ((first | refine awp_region ?_ | refine awp_draw (by kernel_rfl) ?_ | refine awp_block ?_ | refine awp_exit ?_ | refine awp_skip ?_ | refine awp_ret ?_); (try simp only [NB, simprocAttr])))
      all_goals simp only [EndP, FinP, resA, resL, resA1, lastV, lastA, lastAs, pur, purs, take_app, List.take_length, S1, simprocAttr, TTScT, Nat.le_add_right, Nat.le_refl, rw_len, rw_take]
  · rw [if_pos (by omega)]
    refine acalls_pure (rl := []) mixed Try.func27 rfl (rs := [.tmp 4]) rfl Try.ntmps27 (by simp) ?_
    repeat' (first | ((first | refine aops_nil ?_ | refine aqops_nil ?_); (try simp only [NB])) | ((repeat ((fail_if_success (refine hK _ ?_)); clear hK K)); refine hK _ ?_; clear hK K) | ((first | refine aops_k fun K1 hK1 => ?_ | refine aqops_k fun K1 hK1 => ?_ | refine awp_cond_k fun A B hA hB => ?_); simp only [S1, simprocAttr, TTScT, c1, rw_run, wRun]; first | (refine hK1 _ ?_; clear hK1 K1) | ((first | refine hA ?_ | refine hB ?_); clear hA hB A B) | (refine join_x (v := ?_) (fun hg hk9 => ?_) ?_; rotate_left; (focus (try ((try simp only [BN] at hg); simp only [S1, simprocAttr, TTScT, c1, rw_run, wRun, hg] at hk9 ⊢)); first | exact hk9); (refine hK1 _ ?_; clear hK1 K1)) | (((first | (refine ⟨fun hg => hA ?_, fun hg => hB ?_⟩ <;> clear hA hB A B) | refine ⟨fun hg => ?_, fun hg => ?_⟩) <;> (try simp only [BN2] at hg) <;> (try simp only [hg, cond_true, cond_false])) <;> (try (refine hK1 _ ?_; clear hK1 K1)) <;> (try simp only [BN3] at hg))) | (refine awp_seq_k fun K hK => ?_) | ((first | refine awp_region ?_ | refine awp_draw (by kernel_rfl) ?_ | refine awp_block ?_ | refine awp_exit ?_ | refine awp_skip ?_ | refine awp_ret ?_); (try simp only [NB, simprocAttr])))
    all_goals simp only [EndP, FinP, resA, resL, resA1, lastV, lastA, lastAs, pur, purs, take_app, List.take_length, S1, simprocAttr, TTScT, Nat.le_add_right, Nat.le_refl, rw_len, rw_take]

theorem enterR_calls (pl : PlOk P) (i : Int) : ACalls Try.prog G 19 [.ptr h.length 0 0, .i i] (rwH h P g s L) (fun r h' => r = .i (enterR P s i).2 ∧ h' = rwH h P g (enterR P s i).1 L) := by
  have hw := in_calls (G := G) (h := h) (P := P) (g := g) (s := s) (L := L) i
  unfold enterR
  unfold isIn at hw
  by_cases c0 : i < 0 ∨ (P.length : Int) ≤ i
  · rw [if_pos c0] at hw ⊢
    refine acalls_pure (rl := []) mixed Try.func19 rfl (rs := [.tmp 4]) rfl Try.ntmps19 (by simp) ?_
    repeat' (first | ((first | refine aops_nil ?_ | refine aqops_nil ?_); (try simp only [NB])) | ((repeat ((fail_if_success (refine hK _ ?_)); clear hK K)); refine hK _ ?_; clear hK K) | ((first | refine aops_k fun K1 hK1 => ?_ | refine aqops_k fun K1 hK1 => ?_ | refine awp_cond_k fun A B hA hB => ?_); simp only [S1, simprocAttr, TTScT]; first | (refine hK1 _ ?_; clear hK1 K1) | ((first | refine hA ?_ | refine hB ?_); clear hA hB A B) | ((first | apply call_a E27 | apply call_q E27); exact hw; (refine hK1 _ ?_; clear hK1 K1)) | (refine join_x (v := ?_) (fun hg hk9 => ?_) ?_; rotate_left; (focus (try ((try simp only [BN] at hg); simp only [S1, simprocAttr, TTScT, hg] at hk9 ⊢)); first | exact hk9 | ((first | apply call_a E27 | apply call_q E27); exact hw; exact hk9)); (refine hK1 _ ?_; clear hK1 K1)) | (((first | (refine ⟨fun hg => hA ?_, fun hg => hB ?_⟩ <;> clear hA hB A B) | refine ⟨fun hg => ?_, fun hg => ?_⟩) <;> (try simp only [BN2] at hg) <;> (try simp only [hg, cond_true, cond_false])) <;> (try (refine hK1 _ ?_; clear hK1 K1)) <;> (try simp only [BN3] at hg))) | (refine awp_seq_k fun K hK => ?_) | ((first | refine awp_region ?_ | refine awp_draw (by kernel_rfl) ?_ | refine awp_block ?_ | refine awp_exit ?_ | refine awp_skip ?_ | refine awp_ret ?_); (try simp only [NB, simprocAttr])))
    all_goals simp only [EndP, FinP, resA, resL, resA1, lastV, lastA, lastAs, pur, purs, take_app, List.take_length, S1, simprocAttr, TTScT, Nat.le_add_right, Nat.le_refl, rw_len, rw_take]
  rw [if_neg c0] at hw ⊢
  obtain ⟨k, rfl⟩ : ∃ k : Nat, i = (k : Int) := ⟨i.toNat, by omega⟩
  have hk : k < P.length := by omega
  rw [Int.toNat_natCast]
  by_cases c1 : (k : Int) = 0
  · rw [if_pos (.inl c1)]
    have b1 : ((k : Int) == 0) = true := by simpa using c1
    refine acalls_pure (rl := []) mixed Try.func19 rfl (rs := [.tmp 4]) rfl Try.ntmps19 (by simp) ?_
    repeat' (first | ((first | refine aops_nil ?_ | refine aqops_nil ?_); (try simp only [NB])) | ((repeat ((fail_if_success (refine hK _ ?_)); clear hK K)); refine hK _ ?_; clear hK K) | ((first | refine aops_k fun K1 hK1 => ?_ | refine aqops_k fun K1 hK1 => ?_ | refine awp_cond_k fun A B hA hB => ?_); simp only [S1, simprocAttr, TTScT, b1]; first | (refine hK1 _ ?_; clear hK1 K1) | ((first | refine hA ?_ | refine hB ?_); clear hA hB A B) | ((first | apply call_a E27 | apply call_q E27); exact hw; (refine hK1 _ ?_; clear hK1 K1)) | (refine join_x (v := ?_) (fun hg hk9 => ?_) ?_; rotate_left; (focus (try ((try simp only [BN] at hg); simp only [S1, simprocAttr, TTScT, b1, hg] at hk9 ⊢)); first | exact hk9 | ((first | apply call_a E27 | apply call_q E27); exact hw; exact hk9)); (refine hK1 _ ?_; clear hK1 K1)) | (((first | (refine ⟨fun hg => hA ?_, fun hg => hB ?_⟩ <;> clear hA hB A B) | refine ⟨fun hg => ?_, fun hg => ?_⟩) <;> (try simp only [BN2] at hg) <;> (try simp only [hg, cond_true, cond_false])) <;> (try (refine hK1 _ ?_; clear hK1 K1)) <;> (try simp only [BN3] at hg))) | (refine awp_seq_k fun K hK => ?_) | ((first | refine awp_region ?_ | refine awp_draw (by kernel_rfl) ?_ | refine awp_block ?_ | refine awp_exit ?_ | refine awp_skip ?_ | refine awp_ret ?_); (try simp only [NB, simprocAttr])))
    all_goals simp only [EndP, FinP, resA, resL, resA1, lastV, lastA, lastAs, pur, purs, take_app, List.take_length, S1, simprocAttr, TTScT, Nat.le_add_right, Nat.le_refl, rw_len, rw_take]
  have b1 : ((k : Int) == 0) = false := by simpa using c1
  obtain ⟨hp0, hpk⟩ := pl.par k (by omega) hk
  obtain ⟨q, hq⟩ : ∃ q : Nat, parA P k = (q : Int) := ⟨(parA P k).toNat, by omega⟩
  rw [hq, Int.toNat_natCast]
  have hqn : q < P.length := by omega
  have k0 : (0 : Int) ≤ (k : Int) := by omega
  have q0 : (0 : Int) ≤ (q : Int) := by omega
  have kl : (k : Int) < (P.length : Int) := by omega
  have ql : (q : Int) < (P.length : Int) := by omega
  have dk := one_at (s := s) hk
  have dk3 := one_at3 (s := s) hk
  have dq := one_at3 (s := s) hqn
  rw [hq] at dk
  cases b2 : (s.st k != 0) with
  | true =>
    rw [if_pos (.inr (.inl (by simpa using b2)))]
    refine acalls_pure (rl := []) mixed Try.func19 rfl (rs := [.tmp 4]) rfl Try.ntmps19 (by simp) ?_
    repeat' (first | ((first | refine aops_nil ?_ | refine aqops_nil ?_); (try simp only [NB])) | ((repeat ((fail_if_success (refine hK _ ?_)); clear hK K)); refine hK _ ?_; clear hK K) | ((first | refine aops_k fun K1 hK1 => ?_ | refine aqops_k fun K1 hK1 => ?_ | refine awp_cond_k fun A B hA hB => ?_); simp only [S1, simprocAttr, TTScT, b1, b2, k0, q0, kl, ql, dk, dk3, dq, rw_run, rw_ps, wRun, wPs, Int.toNat_natCast, Nat.mul_one, Nat.zero_add]; first | (refine hK1 _ ?_; clear hK1 K1) | ((first | refine hA ?_ | refine hB ?_); clear hA hB A B) | ((first | apply call_a E27 | apply call_q E27); exact hw; (refine hK1 _ ?_; clear hK1 K1)) | (refine join_x (v := ?_) (fun hg hk9 => ?_) ?_; rotate_left; (focus (try ((try simp only [BN] at hg); simp only [S1, simprocAttr, TTScT, b1, b2, k0, q0, kl, ql, dk, dk3, dq, rw_run, rw_ps, wRun, wPs, Int.toNat_natCast, Nat.mul_one, Nat.zero_add, hg] at hk9 ⊢)); first | exact hk9 | ((first | apply call_a E27 | apply call_q E27); exact hw; exact hk9)); (refine hK1 _ ?_; clear hK1 K1)) | (((first | (refine ⟨fun hg => hA ?_, fun hg => hB ?_⟩ <;> clear hA hB A B) | refine ⟨fun hg => ?_, fun hg => ?_⟩) <;> (try simp only [BN2] at hg) <;> (try simp only [hg, cond_true, cond_false])) <;> (try (refine hK1 _ ?_; clear hK1 K1)) <;> (try simp only [BN3] at hg))) | (refine awp_seq_k fun K hK => ?_) | ((first | refine awp_region ?_ | refine awp_draw (by kernel_rfl) ?_ | refine awp_block ?_ | refine awp_exit ?_ | refine awp_skip ?_ | refine awp_ret ?_); (try simp only [NB, simprocAttr])))
    all_goals simp only [EndP, FinP, resA, resL, resA1, lastV, lastA, lastAs, pur, purs, take_app, List.take_length, S1, simprocAttr, TTScT, Nat.le_add_right, Nat.le_refl, rw_len, rw_take]
  | false =>
  cases b3 : (s.st q != 1) with
  | true =>
    rw [if_pos (.inr (.inr (by simpa using b3)))]
    refine acalls_pure (rl := []) mixed Try.func19 rfl (rs := [.tmp 4]) rfl Try.ntmps19 (by simp) ?_
    repeat' (first | ((first | refine aops_nil ?_ | refine aqops_nil ?_); (try simp only [NB])) | ((repeat ((fail_if_success (refine hK _ ?_)); clear hK K)); refine hK _ ?_; clear hK K) | ((first | refine aops_k fun K1 hK1 => ?_ | refine aqops_k fun K1 hK1 => ?_ | refine awp_cond_k fun A B hA hB => ?_); simp only [S1, simprocAttr, TTScT, b1, b2, b3, k0, q0, kl, ql, dk, dk3, dq, rw_run, rw_ps, wRun, wPs, Int.toNat_natCast, Nat.mul_one, Nat.zero_add]; first | (refine hK1 _ ?_; clear hK1 K1) | ((first | refine hA ?_ | refine hB ?_); clear hA hB A B) | ((first | apply call_a E27 | apply call_q E27); exact hw; (refine hK1 _ ?_; clear hK1 K1)) | (refine join_x (v := ?_) (fun hg hk9 => ?_) ?_; rotate_left; (focus (try ((try simp only [BN] at hg); simp only [S1, simprocAttr, TTScT, b1, b2, b3, k0, q0, kl, ql, dk, dk3, dq, rw_run, rw_ps, wRun, wPs, Int.toNat_natCast, Nat.mul_one, Nat.zero_add, hg] at hk9 ⊢)); first | exact hk9 | ((first | apply call_a E27 | apply call_q E27); exact hw; exact hk9)); (refine hK1 _ ?_; clear hK1 K1)) | (((first | (refine ⟨fun hg => hA ?_, fun hg => hB ?_⟩ <;> clear hA hB A B) | refine ⟨fun hg => ?_, fun hg => ?_⟩) <;> (try simp only [BN2] at hg) <;> (try simp only [hg, cond_true, cond_false])) <;> (try (refine hK1 _ ?_; clear hK1 K1)) <;> (try simp only [BN3] at hg))) | (refine awp_seq_k fun K hK => ?_) | ((first | refine awp_region ?_ | refine awp_draw (by kernel_rfl) ?_ | refine awp_block ?_ | refine awp_exit ?_ | refine awp_skip ?_ | refine awp_ret ?_); (try simp only [NB, simprocAttr])))
    all_goals simp only [EndP, FinP, resA, resL, resA1, lastV, lastA, lastAs, pur, purs, take_app, List.take_length, S1, simprocAttr, TTScT, Nat.le_add_right, Nat.le_refl, rw_len, rw_take]
  | false =>
    have n2 : s.st k = 0 := by simpa using b2
    have n3 : s.st q = 1 := by simpa using b3
    rw [if_neg (by omega)]
    have hos := one_set (s := s) hk 1
    have hss := rw_sst (h := h) (P := P) (g := g) (s := s) (L := L) k 1
    have hcl := cOne_len (P := P) (s := s)
    have kl1 : k * 5 + 3 + 1 ≤ P.length * 5 := by omega
    have kl2 : k * 5 + 3 < P.length * 5 := by omega
    refine acalls_heap (rl := []) mixed Try.func19 rfl (rs := [.tmp 4]) rfl Try.ntmps19 (by simp) ?_
    repeat' (first | ((first | refine aops_nil ?_ | refine aqops_nil ?_); (try simp only [NB])) | ((repeat ((fail_if_success (refine hK _ ?_)); clear hK K)); refine hK _ ?_; clear hK K) | ((first | refine aops_k fun K1 hK1 => ?_ | refine aqops_k fun K1 hK1 => ?_ | refine awp_cond_k fun A B hA hB => ?_); simp only [S1, simprocAttr, TTScT, b1, b2, b3, k0, q0, kl, ql, dk, dk3, dq, hos, hss, hcl, kl1, kl2, rw_run, rw_ps, wRun, wPs, Int.toNat_natCast, Nat.mul_one, Nat.zero_add]; first | (refine hK1 _ ?_; clear hK1 K1) | ((first | refine hA ?_ | refine hB ?_); clear hA hB A B) | ((first | apply call_a E27 | apply call_q E27); exact hw; (refine hK1 _ ?_; clear hK1 K1)) | (refine join_x (v := ?_) (fun hg hk9 => ?_) ?_; rotate_left; (focus (try ((try simp only [BN] at hg); simp only [S1, simprocAttr, TTScT, b1, b2, b3, k0, q0, kl, ql, dk, dk3, dq, hos, hss, hcl, kl1, kl2, rw_run, rw_ps, wRun, wPs, Int.toNat_natCast, Nat.mul_one, Nat.zero_add, hg] at hk9 ⊢)); first | exact hk9 | ((first | apply call_a E27 | apply call_q E27); exact hw; exact hk9)); (refine hK1 _ ?_; clear hK1 K1)) | (((first | (refine ⟨fun hg => hA ?_, fun hg => hB ?_⟩ <;> clear hA hB A B) | refine ⟨fun hg => ?_, fun hg => ?_⟩) <;> (try simp only [BN2] at hg) <;> (try simp only [hg, cond_true, cond_false])) <;> (try (refine hK1 _ ?_; clear hK1 K1)) <;> (try simp only [BN3] at hg))) | (refine awp_seq_k fun K hK => ?_) | ((first | refine awp_region ?_ | refine awp_draw (by kernel_rfl) ?_ | refine awp_block ?_ | refine awp_exit ?_ | refine awp_skip ?_ | refine awp_ret ?_); (try simp only [NB, simprocAttr])))
    all_goals simp only [EndH, FinH, resA, resL, resA1, lastV, lastA, lastAs, pur, purs, rw_len, rw_take, S1, simprocAttr, Nat.le_add_right, Nat.le_refl]
    all_goals first | exact rw_keep | exact ⟨rw_keep, rfl⟩ | exact ⟨rw_keep, rfl, rfl⟩
end
end Go.Proofs.Ytkmcecbglomemaa.AM
end

section
set_option linter.unusedVariables false
set_option linter.unusedSimpArgs false
set_option maxRecDepth 4000
set_option maxHeartbeats 4000000
namespace Go.Proofs.Ytkmcecbglomemaa.AM
open Go Go.Proofs
set_option linter.defProp false in
def TTScU := And.intro T2 (And.intro T3 (And.intro T4 (And.intro T29 (And.intro T45 (And.intro T56 (And.intro T57 (And.intro T59 (And.intro T61 T64))))))))
attribute [local irreducible] awp aops aqops aeops arun arunT arunN
variable {G : Nat → Option (List PV)}

section
variable {h : Heap} {P : List Sc} {g : Rw} {s : Ro} {L : Heap}
theorem last_calls (hn : P.length ≤ 32) (i : Nat) : ACalls Try.prog G 33 [.ptr h.length 0 0, .i i] (rwH h P g s L) (fun r h' => r = .i (lastR P s i P.length) ∧ h' = rwH h P g s L) := by
  have hR : ∀ M, (rwH h P g s L ++ M)[h.length]? = some (wRun h.length P g s) := fun M => by rw [rw_app]; exact rw_run
  have hR0 : (rwH h P g s L)[h.length]? = some (wRun h.length P g s) := rw_run
  have hS : ∀ M, (rwH h P g s L ++ M)[h.length + 1]? = some (wPs P g s) := fun M => by rw [rw_app]; exact rw_ps
  have hS0 : (rwH h P g s L)[h.length + 1]? = some (wPs P g s) := rw_ps
  have hlen : (rwH h P g s L).length = h.length + (L.length + 3) := rw_len
  have ht : (rwH h P g s L).take (h.length + (L.length + 3)) = rwH h P g s L := rw_take
  generalize rwH h P g s L = H at *
  refine acalls_pure (rl := []) mixed Try.func33 rfl (rs := [.tmp 4]) rfl Try.ntmps33 (by simp) ?_
  repeat' (first | ((first | refine aops_nil ?_ | refine aqops_nil ?_); (try simp only [NB])) | ((repeat ((fail_if_success (refine hK _ ?_)); clear hK K)); refine hK _ ?_; clear hK K) | ((first | refine aops_k fun K1 hK1 => ?_ | refine aqops_k fun K1 hK1 => ?_ | refine awp_cond_k fun A B hA hB => ?_); simp only [S1, simprocAttr, TTScU, hR0, wRun]; first | (refine hK1 _ ?_; clear hK1 K1) | ((first | refine hA ?_ | refine hB ?_); clear hA hB A B) | (refine join_x (v := ?_) (fun hg hk9 => ?_) ?_; rotate_left; (focus (try ((try simp only [BN] at hg); simp only [S1, simprocAttr, TTScU, hR0, wRun, hg] at hk9 ⊢)); first | exact hk9); (refine hK1 _ ?_; clear hK1 K1)) | (((first | (refine ⟨fun hg => hA ?_, fun hg => hB ?_⟩ <;> clear hA hB A B) | refine ⟨fun hg => ?_, fun hg => ?_⟩) <;> (try simp only [BN2] at hg) <;> (try simp only [hg, cond_true, cond_false])) <;> (try (refine hK1 _ ?_; clear hK1 K1)) <;> (try simp only [BN3] at hg))) | (refine awp_seq_k fun K hK => ?_) | ((first | refine awp_region ?_ | refine awp_draw (by kernel_rfl) ?_ | refine awp_block ?_ | refine awp_exit ?_ | refine awp_skip ?_ | refine awp_ret ?_); (try simp only [NB, simprocAttr])))
  refine awp_for P.length 59 (fun j => [(13, .i j), (12, .i P.length), (11, .ref (h.length + 1) g.gp 0 5 P.length), (5, .i (lastR P s i j)), (1, .i i), (0, .ptr h.length 0 0)])
    (fun j => []) (fun j => True) ?_ trivial fun j hj hp K hK => ?_
  · refine ⟨rfl, ⟨[], by simp⟩, ?_, trivial⟩
    simp only [keeps, avlt, avlts, blksLt, frL, upd_get, hlen, S1, simprocAttr, List.length_map, List.length_cons, List.length_nil, Int.natCast_zero, AV.p.injEq, PV.int.injEq, PV.bool.injEq, PV.sl.injEq] <;> (try and_intros) <;> (try assumption) <;> (try trivial) <;> (try omega)
  rcases Nat.lt_or_ge j P.length with hlt | hge
  · have jl : (j : Int) < (P.length : Int) := by omega
    have j0 : (0 : Int) ≤ (j : Int) := by omega
    have hnx := nextJ (n := P.length) (by omega) hlt
    have d0 := one_at (s := s) hlt
    have d3 := one_at3 (s := s) hlt
    have d4 := one_at4 (s := s) hlt
    have hcl := cOne_len (P := P) (s := s)
    have e : lastR P s i (j + 1) = if parA P j = (i : Int) ∧ s.st j = 2 ∧ (lastR P s i j < 0 ∨ s.wh (lastR P s i j).toNat < s.wh j) then (j : Int) else lastR P s i j := rfl
    have hls := last_spec (P := P) (s := s) (i := i) j
    generalize lastR P s i (j + 1) = a' at *
    generalize lastR P s i j = a at *
    cases c1 : (parA P j == (i : Int)) with
    | false =>
      rw [if_neg (by intro ⟨q, _⟩; simp [q] at c1)] at e
      repeat' (first | ((first | refine aops_nil ?_ | refine aqops_nil ?_); (try simp only [NB])) | ((repeat ((fail_if_success (refine hK _ ?_)); clear hK K)); refine hK _ ?_; clear hK K) | ((first | refine aops_k fun K1 hK1 => ?_ | refine aqops_k fun K1 hK1 => ?_ | refine awp_cond_k fun A B hA hB => ?_); simp only [S1, simprocAttr, TTScU, d0, d3, d4, jl, j0, hnx, c1, hR0, hS0, hR, hS, wPs, wRun, takeC_st, Int.toNat_natCast, Nat.mul_one, Nat.zero_add]; first | (refine hK1 _ ?_; clear hK1 K1) | ((first | refine hA ?_ | refine hB ?_); clear hA hB A B) | (refine join_x (v := ?_) (fun hg hk9 => ?_) ?_; rotate_left; (focus (try ((try simp only [BN] at hg); simp only [S1, simprocAttr, TTScU, d0, d3, d4, jl, j0, hnx, c1, hR0, hS0, hR, hS, wPs, wRun, takeC_st, Int.toNat_natCast, Nat.mul_one, Nat.zero_add, hg] at hk9 ⊢)); first | exact hk9); (refine hK1 _ ?_; clear hK1 K1)) | (((first | (refine ⟨fun hg => hA ?_, fun hg => hB ?_⟩ <;> clear hA hB A B) | refine ⟨fun hg => ?_, fun hg => ?_⟩) <;> (try simp only [BN2] at hg) <;> (try simp only [hg, cond_true, cond_false])) <;> (try (refine hK1 _ ?_; clear hK1 K1)) <;> (try simp only [BN3] at hg))) | (refine awp_seq_k fun K hK => ?_) | ((first | refine awp_region ?_ | refine awp_draw (by kernel_rfl) ?_ | refine awp_block ?_ | refine awp_exit ?_ | refine awp_skip ?_ | refine awp_ret ?_); (try simp only [NB, simprocAttr])))
      all_goals refine ⟨hlt, trivial, ?_⟩
      all_goals simp only [e]
      all_goals refine ⟨rfl, (by first | exact ⟨_, rfl⟩ | exact ⟨[], by simp⟩), ?_, trivial⟩
      all_goals simp only [keeps, avlt, avlts, blksLt, frL, upd_get, hlen, S1, simprocAttr, List.length_map, List.length_cons, List.length_nil, Int.natCast_zero, AV.p.injEq, PV.int.injEq, PV.bool.injEq, PV.sl.injEq] <;> (try and_intros) <;> (try assumption) <;> (try trivial) <;> (try omega)
    | true =>
    have n1 : parA P j = (i : Int) := by simpa using c1
    cases c2 : (s.st j == 2) with
    | false =>
      rw [if_neg (by intro ⟨_, q, _⟩; simp [q] at c2)] at e
      repeat' (first | ((first | refine aops_nil ?_ | refine aqops_nil ?_); (try simp only [NB])) | ((repeat ((fail_if_success (refine hK _ ?_)); clear hK K)); refine hK _ ?_; clear hK K) | ((first | refine aops_k fun K1 hK1 => ?_ | refine aqops_k fun K1 hK1 => ?_ | refine awp_cond_k fun A B hA hB => ?_); simp only [S1, simprocAttr, TTScU, d0, d3, d4, jl, j0, hnx, c1, c2, hR0, hS0, hR, hS, wPs, wRun, takeC_st, Int.toNat_natCast, Nat.mul_one, Nat.zero_add]; first | (refine hK1 _ ?_; clear hK1 K1) | ((first | refine hA ?_ | refine hB ?_); clear hA hB A B) | (refine join_x (v := ?_) (fun hg hk9 => ?_) ?_; rotate_left; (focus (try ((try simp only [BN] at hg); simp only [S1, simprocAttr, TTScU, d0, d3, d4, jl, j0, hnx, c1, c2, hR0, hS0, hR, hS, wPs, wRun, takeC_st, Int.toNat_natCast, Nat.mul_one, Nat.zero_add, hg] at hk9 ⊢)); first | exact hk9); (refine hK1 _ ?_; clear hK1 K1)) | (((first | (refine ⟨fun hg => hA ?_, fun hg => hB ?_⟩ <;> clear hA hB A B) | refine ⟨fun hg => ?_, fun hg => ?_⟩) <;> (try simp only [BN2] at hg) <;> (try simp only [hg, cond_true, cond_false])) <;> (try (refine hK1 _ ?_; clear hK1 K1)) <;> (try simp only [BN3] at hg))) | (refine awp_seq_k fun K hK => ?_) | ((first | refine awp_region ?_ | refine awp_draw (by kernel_rfl) ?_ | refine awp_block ?_ | refine awp_exit ?_ | refine awp_skip ?_ | refine awp_ret ?_); (try simp only [NB, simprocAttr])))
      all_goals refine ⟨hlt, trivial, ?_⟩
      all_goals simp only [e]
      all_goals refine ⟨rfl, (by first | exact ⟨_, rfl⟩ | exact ⟨[], by simp⟩), ?_, trivial⟩
      all_goals simp only [keeps, avlt, avlts, blksLt, frL, upd_get, hlen, S1, simprocAttr, List.length_map, List.length_cons, List.length_nil, Int.natCast_zero, AV.p.injEq, PV.int.injEq, PV.bool.injEq, PV.sl.injEq] <;> (try and_intros) <;> (try assumption) <;> (try trivial) <;> (try omega)
    | true =>
    have n2 : s.st j = 2 := by simpa using c2
    rcases hls with rfl | ⟨k, rfl, hk, -⟩
    · rw [if_pos ⟨n1, n2, .inl (by omega)⟩] at e
      have c3 : (-1 : Int) < 0 := by omega
      repeat' (first | ((first | refine aops_nil ?_ | refine aqops_nil ?_); (try simp only [NB])) | ((repeat ((fail_if_success (refine hK _ ?_)); clear hK K)); refine hK _ ?_; clear hK K) | ((first | refine aops_k fun K1 hK1 => ?_ | refine aqops_k fun K1 hK1 => ?_ | refine awp_cond_k fun A B hA hB => ?_); simp only [S1, simprocAttr, TTScU, d0, d3, d4, jl, j0, hnx, c1, c2, c3, hR0, hS0, hR, hS, wPs, wRun, takeC_st, Int.toNat_natCast, Nat.mul_one, Nat.zero_add]; first | (refine hK1 _ ?_; clear hK1 K1) | ((first | refine hA ?_ | refine hB ?_); clear hA hB A B) | (refine join_x (v := ?_) (fun hg hk9 => ?_) ?_; rotate_left; (focus (try ((try simp only [BN] at hg); simp only [S1, simprocAttr, TTScU, d0, d3, d4, jl, j0, hnx, c1, c2, c3, hR0, hS0, hR, hS, wPs, wRun, takeC_st, Int.toNat_natCast, Nat.mul_one, Nat.zero_add, hg] at hk9 ⊢)); first | exact hk9); (refine hK1 _ ?_; clear hK1 K1)) | (((first | (refine ⟨fun hg => hA ?_, fun hg => hB ?_⟩ <;> clear hA hB A B) | refine ⟨fun hg => ?_, fun hg => ?_⟩) <;> (try simp only [BN2] at hg) <;> (try simp only [hg, cond_true, cond_false])) <;> (try (refine hK1 _ ?_; clear hK1 K1)) <;> (try simp only [BN3] at hg))) | (refine awp_seq_k fun K hK => ?_) | ((first | refine awp_region ?_ | refine awp_draw (by kernel_rfl) ?_ | refine awp_block ?_ | refine awp_exit ?_ | refine awp_skip ?_ | refine awp_ret ?_); (try simp only [NB, simprocAttr])))
      all_goals refine ⟨hlt, trivial, ?_⟩
      all_goals simp only [e]
      all_goals refine ⟨rfl, (by first | exact ⟨_, rfl⟩ | exact ⟨[], by simp⟩), ?_, trivial⟩
      all_goals simp only [keeps, avlt, avlts, blksLt, frL, upd_get, hlen, S1, simprocAttr, List.length_map, List.length_cons, List.length_nil, Int.natCast_zero, AV.p.injEq, PV.int.injEq, PV.bool.injEq, PV.sl.injEq] <;> (try and_intros) <;> (try assumption) <;> (try trivial) <;> (try omega)
    · have c3 : ¬ (k : Int) < 0 := by omega
      have k0 : (0 : Int) ≤ (k : Int) := by omega
      have kl : (k : Int) < (P.length : Int) := by omega
      have dk := one_at4 (s := s) (show k < P.length by omega)
      rw [Int.toNat_natCast] at e
      by_cases c4 : s.wh k < s.wh j
      · rw [if_pos ⟨n1, n2, .inr c4⟩] at e
        repeat' (first | ((first | refine aops_nil ?_ | refine aqops_nil ?_); (try simp only [NB])) | ((repeat ((fail_if_success (refine hK _ ?_)); clear hK K)); refine hK _ ?_; clear hK K) | ((first | refine aops_k fun K1 hK1 => ?_ | refine aqops_k fun K1 hK1 => ?_ | refine awp_cond_k fun A B hA hB => ?_); simp only [S1, simprocAttr, TTScU, d0, d3, d4, dk, jl, j0, kl, k0, hnx, c1, c2, c3, c4, hR0, hS0, hR, hS, wPs, wRun, takeC_st, Int.toNat_natCast, Nat.mul_one, Nat.zero_add]; first | (refine hK1 _ ?_; clear hK1 K1) | ((first | refine hA ?_ | refine hB ?_); clear hA hB A B) | (refine join_x (v := ?_) (fun hg hk9 => ?_) ?_; rotate_left; (focus (try ((try simp only [BN] at hg); simp only [S1, simprocAttr, TTScU, d0, d3, d4, dk, jl, j0, kl, k0, hnx, c1, c2, c3, c4, hR0, hS0, hR, hS, wPs, wRun, takeC_st, Int.toNat_natCast, Nat.mul_one, Nat.zero_add, hg] at hk9 ⊢)); first | exact hk9); (refine hK1 _ ?_; clear hK1 K1)) | (((first | (refine ⟨fun hg => hA ?_, fun hg => hB ?_⟩ <;> clear hA hB A B) | refine ⟨fun hg => ?_, fun hg => ?_⟩) <;> (try simp only [BN2] at hg) <;> (try simp only [hg, cond_true, cond_false])) <;> (try (refine hK1 _ ?_; clear hK1 K1)) <;> (try simp only [BN3] at hg))) | (refine awp_seq_k fun K hK => ?_) | ((first | refine awp_region ?_ | refine awp_draw (by kernel_rfl) ?_ | refine awp_block ?_ | refine awp_exit ?_ | refine awp_skip ?_ | refine awp_ret ?_); (try simp only [NB, simprocAttr])))
        all_goals refine ⟨hlt, trivial, ?_⟩
        all_goals simp only [e]
        all_goals refine ⟨rfl, (by first | exact ⟨_, rfl⟩ | exact ⟨[], by simp⟩), ?_, trivial⟩
        all_goals simp only [keeps, avlt, avlts, blksLt, frL, upd_get, hlen, S1, simprocAttr, List.length_map, List.length_cons, List.length_nil, Int.natCast_zero, AV.p.injEq, PV.int.injEq, PV.bool.injEq, PV.sl.injEq] <;> (try and_intros) <;> (try assumption) <;> (try trivial) <;> (try omega)
      · rw [if_neg (by intro ⟨_, _, q⟩; omega)] at e
        repeat' (first | ((first | refine aops_nil ?_ | refine aqops_nil ?_); (try simp only [NB])) | ((repeat ((fail_if_success (refine hK _ ?_)); clear hK K)); refine hK _ ?_; clear hK K) | ((first | refine aops_k fun K1 hK1 => ?_ | refine aqops_k fun K1 hK1 => ?_ | refine awp_cond_k fun A B hA hB => ?_); simp only [S1, simprocAttr, TTScU, d0, d3, d4, dk, jl, j0, kl, k0, hnx, c1, c2, c3, c4, hR0, hS0, hR, hS, wPs, wRun, takeC_st, Int.toNat_natCast, Nat.mul_one, Nat.zero_add]; first | (refine hK1 _ ?_; clear hK1 K1) | ((first | refine hA ?_ | refine hB ?_); clear hA hB A B) | (refine join_x (v := ?_) (fun hg hk9 => ?_) ?_; rotate_left; (focus (try ((try simp only [BN] at hg); simp only [S1, simprocAttr, TTScU, d0, d3, d4, dk, jl, j0, kl, k0, hnx, c1, c2, c3, c4, hR0, hS0, hR, hS, wPs, wRun, takeC_st, Int.toNat_natCast, Nat.mul_one, Nat.zero_add, hg] at hk9 ⊢)); first | exact hk9); (refine hK1 _ ?_; clear hK1 K1)) | (((first | (refine ⟨fun hg => hA ?_, fun hg => hB ?_⟩ <;> clear hA hB A B) | refine ⟨fun hg => ?_, fun hg => ?_⟩) <;> (try simp only [BN2] at hg) <;> (try simp only [hg, cond_true, cond_false])) <;> (try (refine hK1 _ ?_; clear hK1 K1)) <;> (try simp only [BN3] at hg))) | (refine awp_seq_k fun K hK => ?_) | ((first | refine awp_region ?_ | refine awp_draw (by kernel_rfl) ?_ | refine awp_block ?_ | refine awp_exit ?_ | refine awp_skip ?_ | refine awp_ret ?_); (try simp only [NB, simprocAttr])))
        all_goals refine ⟨hlt, trivial, ?_⟩
        all_goals simp only [e]
        all_goals refine ⟨rfl, (by first | exact ⟨_, rfl⟩ | exact ⟨[], by simp⟩), ?_, trivial⟩
        all_goals simp only [keeps, avlt, avlts, blksLt, frL, upd_get, hlen, S1, simprocAttr, List.length_map, List.length_cons, List.length_nil, Int.natCast_zero, AV.p.injEq, PV.int.injEq, PV.bool.injEq, PV.sl.injEq] <;> (try and_intros) <;> (try assumption) <;> (try trivial) <;> (try omega)
  · obtain rfl : j = P.length := by omega
    repeat' (first | ((first | refine aops_nil ?_ | refine aqops_nil ?_); (try simp only [NB])) | ((repeat ((fail_if_success (refine hK _ ?_)); clear hK K)); refine hK _ ?_; clear hK K) | ((first | refine aops_k fun K1 hK1 => ?_ | refine aqops_k fun K1 hK1 => ?_ | refine awp_cond_k fun A B hA hB => ?_); simp only [S1, simprocAttr, TTScU, Int.lt_irrefl]; first | (refine hK1 _ ?_; clear hK1 K1) | ((first | refine hA ?_ | refine hB ?_); clear hA hB A B) | (refine join_x (v := ?_) (fun hg hk9 => ?_) ?_; rotate_left; (focus (try ((try simp only [BN] at hg); simp only [S1, simprocAttr, TTScU, Int.lt_irrefl, hg] at hk9 ⊢)); first | exact hk9); (refine hK1 _ ?_; clear hK1 K1)) | (((first | (refine ⟨fun hg => hA ?_, fun hg => hB ?_⟩ <;> clear hA hB A B) | refine ⟨fun hg => ?_, fun hg => ?_⟩) <;> (try simp only [BN2] at hg) <;> (try simp only [hg, cond_true, cond_false])) <;> (try (refine hK1 _ ?_; clear hK1 K1)) <;> (try simp only [BN3] at hg))) | (refine awp_seq_k fun K hK => ?_) | ((first | refine awp_region ?_ | refine awp_draw (by kernel_rfl) ?_ | refine awp_block ?_ | refine awp_exit ?_ | refine awp_skip ?_ | refine awp_ret ?_); (try simp only [NB, simprocAttr])))
    all_goals simp only [EndP, FinP, resA, resL, resA1, lastV, lastA, lastAs, pur, purs, take_app, List.take_length, S1, simprocAttr, TTScU, Nat.le_add_right, Nat.le_refl, hlen, ht]

theorem leaveR_calls (hn : P.length ≤ 32) (i : Int) : ACalls Try.prog G 20 [.ptr h.length 0 0, .i i] (rwH h P g s L) (fun r h' => r = .i (leaveR P s i).2 ∧ h' = rwH h P g (leaveR P s i).1 L) := by
  have hw := in_calls (G := G) (h := h) (P := P) (g := g) (s := s) (L := L) i
  unfold leaveR
  unfold isIn at hw
  by_cases c0 : i < 0 ∨ (P.length : Int) ≤ i
  · rw [if_pos c0] at hw ⊢
    refine acalls_pure (rl := []) mixed Try.func20 rfl (rs := [.tmp 4]) rfl Try.ntmps20 (by simp) ?_
    repeat' (first | ((first | refine aops_nil ?_ | refine aqops_nil ?_); (try simp only [NB])) | ((repeat ((fail_if_success (refine hK _ ?_)); clear hK K)); refine hK _ ?_; clear hK K) | ((first | refine aops_k fun K1 hK1 => ?_ | refine aqops_k fun K1 hK1 => ?_ | refine awp_cond_k fun A B hA hB => ?_); simp only [S1, simprocAttr, TTScU]; first | (refine hK1 _ ?_; clear hK1 K1) | ((first | refine hA ?_ | refine hB ?_); clear hA hB A B) | ((first | apply call_a E27 | apply call_q E27); exact hw; (refine hK1 _ ?_; clear hK1 K1)) | (refine join_x (v := ?_) (fun hg hk9 => ?_) ?_; rotate_left; (focus (try ((try simp only [BN] at hg); simp only [S1, simprocAttr, TTScU, hg] at hk9 ⊢)); first | exact hk9 | ((first | apply call_a E27 | apply call_q E27); exact hw; exact hk9)); (refine hK1 _ ?_; clear hK1 K1)) | (((first | (refine ⟨fun hg => hA ?_, fun hg => hB ?_⟩ <;> clear hA hB A B) | refine ⟨fun hg => ?_, fun hg => ?_⟩) <;> (try simp only [BN2] at hg) <;> (try simp only [hg, cond_true, cond_false])) <;> (try (refine hK1 _ ?_; clear hK1 K1)) <;> (try simp only [BN3] at hg))) | (refine awp_seq_k fun K hK => ?_) | ((first | refine awp_region ?_ | refine awp_draw (by kernel_rfl) ?_ | refine awp_block ?_ | refine awp_exit ?_ | refine awp_skip ?_ | refine awp_ret ?_); (try simp only [NB, simprocAttr])))
    all_goals simp only [EndP, FinP, resA, resL, resA1, lastV, lastA, lastAs, pur, purs, take_app, List.take_length, S1, simprocAttr, TTScU, Nat.le_add_right, Nat.le_refl, rw_len, rw_take]
  rw [if_neg c0] at hw ⊢
  obtain ⟨k, rfl⟩ : ∃ k : Nat, i = (k : Int) := ⟨i.toNat, by omega⟩
  have hk : k < P.length := by omega
  rw [Int.toNat_natCast]
  have k0 : (0 : Int) ≤ (k : Int) := by omega
  have kl : (k : Int) < (P.length : Int) := by omega
  have dk3 := one_at3 (s := s) hk
  cases b1 : (s.st k != 1) with
  | true =>
    rw [if_pos (.inl (by simpa using b1))]
    refine acalls_pure (rl := []) mixed Try.func20 rfl (rs := [.tmp 4]) rfl Try.ntmps20 (by simp) ?_
    repeat' (first | ((first | refine aops_nil ?_ | refine aqops_nil ?_); (try simp only [NB])) | ((repeat ((fail_if_success (refine hK _ ?_)); clear hK K)); refine hK _ ?_; clear hK K) | ((first | refine aops_k fun K1 hK1 => ?_ | refine aqops_k fun K1 hK1 => ?_ | refine awp_cond_k fun A B hA hB => ?_); simp only [S1, simprocAttr, TTScU, b1, k0, kl, dk3, rw_run, rw_ps, wRun, wPs, Int.toNat_natCast, Nat.mul_one, Nat.zero_add]; first | (refine hK1 _ ?_; clear hK1 K1) | ((first | refine hA ?_ | refine hB ?_); clear hA hB A B) | ((first | apply call_a E27 | apply call_q E27); exact hw; (refine hK1 _ ?_; clear hK1 K1)) | (refine join_x (v := ?_) (fun hg hk9 => ?_) ?_; rotate_left; (focus (try ((try simp only [BN] at hg); simp only [S1, simprocAttr, TTScU, b1, k0, kl, dk3, rw_run, rw_ps, wRun, wPs, Int.toNat_natCast, Nat.mul_one, Nat.zero_add, hg] at hk9 ⊢)); first | exact hk9 | ((first | apply call_a E27 | apply call_q E27); exact hw; exact hk9)); (refine hK1 _ ?_; clear hK1 K1)) | (((first | (refine ⟨fun hg => hA ?_, fun hg => hB ?_⟩ <;> clear hA hB A B) | refine ⟨fun hg => ?_, fun hg => ?_⟩) <;> (try simp only [BN2] at hg) <;> (try simp only [hg, cond_true, cond_false])) <;> (try (refine hK1 _ ?_; clear hK1 K1)) <;> (try simp only [BN3] at hg))) | (refine awp_seq_k fun K hK => ?_) | ((first | refine awp_region ?_ | refine awp_draw (by kernel_rfl) ?_ | refine awp_block ?_ | refine awp_exit ?_ | refine awp_skip ?_ | refine awp_ret ?_); (try simp only [NB, simprocAttr])))
    all_goals simp only [EndP, FinP, resA, resL, resA1, lastV, lastA, lastAs, pur, purs, take_app, List.take_length, S1, simprocAttr, TTScU, Nat.le_add_right, Nat.le_refl, rw_len, rw_take]
  | false =>
  have n1 : s.st k = 1 := by simpa using b1
  have hos := one_set (s := s) hk 2
  have hss := rw_sst (h := h) (P := P) (g := g) (s := s) (L := L) k 2
  have hcl := cOne_len (P := P) (s := s)
  have hcl2 := cOne_len (P := P) (s := ⟨upI s.st k 2, s.wh, s.clk, s.ac⟩)
  have hcl3 := cOne_len (P := P) (s := ⟨upI s.st k 2, s.wh, IntKind.i64.wrap (s.clk + 1), s.ac⟩)
  have kl1 : k * 5 + 3 + 1 ≤ P.length * 5 := by omega
  have kl2 : k * 5 + 3 < P.length * 5 := by omega
  have kl3 : k * 5 + 4 + 1 ≤ P.length * 5 := by omega
  have kl4 : k * 5 + 4 < P.length * 5 := by omega
  have hso := one_setw (P := P) (s := ⟨upI s.st k 2, s.wh, s.clk, s.ac⟩) hk (IntKind.i64.wrap (s.clk + 1))
  have hr1 : ∀ (s : Ro) (x : Option Blk), ((rwH h P g s L).set h.length x)[h.length]? = some x := fun s x => by rw [List.getElem?_set_self]; rw [rw_len]; omega
  have hr2 : ∀ (s : Ro) (x : Option Blk), ((rwH h P g s L).set h.length x)[h.length + 1]? = some (wPs P g s) := fun s x => by rw [List.getElem?_set_ne (by omega)]; exact rw_ps
  have hd : ((rwH h P g ⟨upI s.st k 2, s.wh, s.clk, s.ac⟩ L).set h.length (some ⟨0, [.ref (h.length + 1) g.gp 0 5 P.length, .i (IntKind.i64.wrap (s.clk + 1)), .ref (h.length + 2) g.gl 0 2 s.ac.length]⟩)).set (h.length + 1) (some ⟨g.gp, cOne P ⟨upI s.st k 2, upI s.wh k (IntKind.i64.wrap (s.clk + 1)), s.clk, s.ac⟩⟩) = rwH h P g ⟨upI s.st k 2, upI s.wh k (IntKind.i64.wrap (s.clk + 1)), IntKind.i64.wrap (s.clk + 1), s.ac⟩ L := by
    unfold rwH
    rw [set_app0, set_app]
    rfl
  have hrr : ∀ M, (rwH h P g s L ++ M)[h.length]? = some (wRun h.length P g s) := fun M => by rw [rw_app]; exact rw_run
  have hrp : ∀ M, (rwH h P g s L ++ M)[h.length + 1]? = some (wPs P g s) := fun M => by rw [rw_app]; exact rw_ps
  obtain ⟨t, ht⟩ : ∃ t, t = if s.st k ≠ 1 ∨ ∃ x, x < P.length ∧ parA P x = (k : Int) ∧ s.st x = 1 then (s, (7 : Int))
    else ((⟨upI s.st k 2, upI s.wh k (IntKind.i64.wrap (s.clk + 1)), IntKind.i64.wrap (s.clk + 1), s.ac⟩ : Ro), 0) := ⟨_, rfl⟩
  rw [← ht]
  refine acalls_heap (rl := []) mixed Try.func20 rfl (rs := [.tmp 4]) rfl Try.ntmps20 (by simp) ?_
  repeat' (first | ((first | refine aops_nil ?_ | refine aqops_nil ?_); (try simp only [NB])) | ((repeat ((fail_if_success (refine hK _ ?_)); clear hK K)); refine hK _ ?_; clear hK K) | ((first | refine aops_k fun K1 hK1 => ?_ | refine aqops_k fun K1 hK1 => ?_ | refine awp_cond_k fun A B hA hB => ?_); simp only [S1, simprocAttr, TTScU, b1, k0, kl, dk3, rw_run, rw_ps, wRun, wPs, Int.toNat_natCast, Nat.mul_one, Nat.zero_add]; first | (refine hK1 _ ?_; clear hK1 K1) | ((first | refine hA ?_ | refine hB ?_); clear hA hB A B) | ((first | apply call_a E27 | apply call_q E27); exact hw; (refine hK1 _ ?_; clear hK1 K1)) | (refine join_x (v := ?_) (fun hg hk9 => ?_) ?_; rotate_left; (focus (try ((try simp only [BN] at hg); simp only [S1, simprocAttr, TTScU, b1, k0, kl, dk3, rw_run, rw_ps, wRun, wPs, Int.toNat_natCast, Nat.mul_one, Nat.zero_add, hg] at hk9 ⊢)); first | exact hk9 | ((first | apply call_a E27 | apply call_q E27); exact hw; exact hk9)); (refine hK1 _ ?_; clear hK1 K1)) | (((first | (refine ⟨fun hg => hA ?_, fun hg => hB ?_⟩ <;> clear hA hB A B) | refine ⟨fun hg => ?_, fun hg => ?_⟩) <;> (try simp only [BN2] at hg) <;> (try simp only [hg, cond_true, cond_false])) <;> (try (refine hK1 _ ?_; clear hK1 K1)) <;> (try simp only [BN3] at hg))) | (refine awp_seq_k fun K hK => ?_) | ((first | refine awp_region ?_ | refine awp_draw (by kernel_rfl) ?_ | refine awp_block ?_ | refine awp_exit ?_ | refine awp_skip ?_ | refine awp_ret ?_); (try simp only [NB, simprocAttr])))
  refine awp_for P.length 71 (fun j => [(25, .i j), (24, .i P.length), (23, .ref (h.length + 1) g.gp 0 5 P.length), (1, .i k), (0, .ptr h.length 0 0)])
    (fun j => []) (fun j => ∀ x, x < j → ¬ (parA P x = (k : Int) ∧ s.st x = 1)) ?_ (fun x hx => by omega) fun j hj hp K hK => ?_
  · refine ⟨rfl, ⟨[], by simp⟩, ?_, trivial⟩
    simp only [keeps, avlt, avlts, blksLt, frL, upd_get, rw_len, S1, simprocAttr, List.length_map, List.length_cons, List.length_nil, Int.natCast_zero, AV.p.injEq, PV.int.injEq, PV.bool.injEq, PV.sl.injEq] <;> (try and_intros) <;> (try assumption) <;> (try trivial) <;> (try omega)
  rcases Nat.lt_or_ge j P.length with hlt | hge
  · have jl : (j : Int) < (P.length : Int) := by omega
    have j0 : (0 : Int) ≤ (j : Int) := by omega
    have hnx := nextJ (n := P.length) (by omega) hlt
    have d0 := one_at (s := s) hlt
    have d3 := one_at3 (s := s) hlt
    cases c1 : (parA P j == (k : Int)) with
    | false =>
      have n2 : parA P j ≠ (k : Int) := by simpa using c1
      repeat' (first | ((first | refine aops_nil ?_ | refine aqops_nil ?_); (try simp only [NB])) | ((repeat ((fail_if_success (refine hK _ ?_)); clear hK K)); refine hK _ ?_; clear hK K) | ((first | refine aops_k fun K1 hK1 => ?_ | refine aqops_k fun K1 hK1 => ?_ | refine awp_cond_k fun A B hA hB => ?_); simp only [S1, simprocAttr, TTScU, d0, d3, jl, j0, hnx, c1, rw_run, rw_ps, hrr, hrp, wPs, wRun, takeC_st, Int.toNat_natCast, Nat.mul_one, Nat.zero_add]; first | (refine hK1 _ ?_; clear hK1 K1) | ((first | refine hA ?_ | refine hB ?_); clear hA hB A B) | (refine join_x (v := ?_) (fun hg hk9 => ?_) ?_; rotate_left; (focus (try ((try simp only [BN] at hg); simp only [S1, simprocAttr, TTScU, d0, d3, jl, j0, hnx, c1, rw_run, rw_ps, hrr, hrp, wPs, wRun, takeC_st, Int.toNat_natCast, Nat.mul_one, Nat.zero_add, hg] at hk9 ⊢)); first | exact hk9); (refine hK1 _ ?_; clear hK1 K1)) | (((first | (refine ⟨fun hg => hA ?_, fun hg => hB ?_⟩ <;> clear hA hB A B) | refine ⟨fun hg => ?_, fun hg => ?_⟩) <;> (try simp only [BN2] at hg) <;> (try simp only [hg, cond_true, cond_false])) <;> (try (refine hK1 _ ?_; clear hK1 K1)) <;> (try simp only [BN3] at hg))) | (refine awp_seq_k fun K hK => ?_) | ((first | refine awp_region ?_ | refine awp_draw (by kernel_rfl) ?_ | refine awp_block ?_ | refine awp_exit ?_ | refine awp_skip ?_ | refine awp_ret ?_); (try simp only [NB, simprocAttr])))
      all_goals refine ⟨hlt, fun x hx => ?_, ?_⟩
      · intro ⟨q, q2⟩
        rcases Nat.lt_or_ge x j with hl | hl
        · exact hp x hl ⟨q, q2⟩
        · exact n2 ((show x = j by omega) ▸ q)
      all_goals refine ⟨rfl, (by first | exact ⟨_, rfl⟩ | exact ⟨[], by simp⟩), ?_, trivial⟩
      all_goals simp only [keeps, avlt, avlts, blksLt, frL, upd_get, rw_len, S1, simprocAttr, List.length_map, List.length_cons, List.length_nil, Int.natCast_zero, AV.p.injEq, PV.int.injEq, PV.bool.injEq, PV.sl.injEq] <;> (try and_intros) <;> (try assumption) <;> (try trivial) <;> (try omega)
    | true =>
    have n2 : parA P j = (k : Int) := by simpa using c1
    cases c2 : (s.st j == 1) with
    | false =>
      have n3 : s.st j ≠ 1 := by simpa using c2
      repeat' (first | ((first | refine aops_nil ?_ | refine aqops_nil ?_); (try simp only [NB])) | ((repeat ((fail_if_success (refine hK _ ?_)); clear hK K)); refine hK _ ?_; clear hK K) | ((first | refine aops_k fun K1 hK1 => ?_ | refine aqops_k fun K1 hK1 => ?_ | refine awp_cond_k fun A B hA hB => ?_); simp only [S1, simprocAttr, TTScU, d0, d3, jl, j0, hnx, c1, c2, rw_run, rw_ps, hrr, hrp, wPs, wRun, takeC_st, Int.toNat_natCast, Nat.mul_one, Nat.zero_add]; first | (refine hK1 _ ?_; clear hK1 K1) | ((first | refine hA ?_ | refine hB ?_); clear hA hB A B) | (refine join_x (v := ?_) (fun hg hk9 => ?_) ?_; rotate_left; (focus (try ((try simp only [BN] at hg); simp only [S1, simprocAttr, TTScU, d0, d3, jl, j0, hnx, c1, c2, rw_run, rw_ps, hrr, hrp, wPs, wRun, takeC_st, Int.toNat_natCast, Nat.mul_one, Nat.zero_add, hg] at hk9 ⊢)); first | exact hk9); (refine hK1 _ ?_; clear hK1 K1)) | (((first | (refine ⟨fun hg => hA ?_, fun hg => hB ?_⟩ <;> clear hA hB A B) | refine ⟨fun hg => ?_, fun hg => ?_⟩) <;> (try simp only [BN2] at hg) <;> (try simp only [hg, cond_true, cond_false])) <;> (try (refine hK1 _ ?_; clear hK1 K1)) <;> (try simp only [BN3] at hg))) | (refine awp_seq_k fun K hK => ?_) | ((first | refine awp_region ?_ | refine awp_draw (by kernel_rfl) ?_ | refine awp_block ?_ | refine awp_exit ?_ | refine awp_skip ?_ | refine awp_ret ?_); (try simp only [NB, simprocAttr])))
      all_goals refine ⟨hlt, fun x hx => ?_, ?_⟩
      · intro ⟨q, q2⟩
        rcases Nat.lt_or_ge x j with hl | hl
        · exact hp x hl ⟨q, q2⟩
        · exact n3 ((show x = j by omega) ▸ q2)
      all_goals refine ⟨rfl, (by first | exact ⟨_, rfl⟩ | exact ⟨[], by simp⟩), ?_, trivial⟩
      all_goals simp only [keeps, avlt, avlts, blksLt, frL, upd_get, rw_len, S1, simprocAttr, List.length_map, List.length_cons, List.length_nil, Int.natCast_zero, AV.p.injEq, PV.int.injEq, PV.bool.injEq, PV.sl.injEq] <;> (try and_intros) <;> (try assumption) <;> (try trivial) <;> (try omega)
    | true =>
      have n3 : s.st j = 1 := by simpa using c2
      rw [if_pos (.inr ⟨j, hlt, n2, n3⟩)] at ht
      repeat' (first | ((first | refine aops_nil ?_ | refine aqops_nil ?_); (try simp only [NB])) | ((repeat ((fail_if_success (refine hK _ ?_)); clear hK K)); refine hK _ ?_; clear hK K) | ((first | refine aops_k fun K1 hK1 => ?_ | refine aqops_k fun K1 hK1 => ?_ | refine awp_cond_k fun A B hA hB => ?_); simp only [S1, simprocAttr, TTScU, d0, d3, jl, j0, hnx, c1, c2, rw_run, rw_ps, hrr, hrp, wPs, wRun, takeC_st, Int.toNat_natCast, Nat.mul_one, Nat.zero_add]; first | (refine hK1 _ ?_; clear hK1 K1) | ((first | refine hA ?_ | refine hB ?_); clear hA hB A B) | (refine join_x (v := ?_) (fun hg hk9 => ?_) ?_; rotate_left; (focus (try ((try simp only [BN] at hg); simp only [S1, simprocAttr, TTScU, d0, d3, jl, j0, hnx, c1, c2, rw_run, rw_ps, hrr, hrp, wPs, wRun, takeC_st, Int.toNat_natCast, Nat.mul_one, Nat.zero_add, hg] at hk9 ⊢)); first | exact hk9); (refine hK1 _ ?_; clear hK1 K1)) | (((first | (refine ⟨fun hg => hA ?_, fun hg => hB ?_⟩ <;> clear hA hB A B) | refine ⟨fun hg => ?_, fun hg => ?_⟩) <;> (try simp only [BN2] at hg) <;> (try simp only [hg, cond_true, cond_false])) <;> (try (refine hK1 _ ?_; clear hK1 K1)) <;> (try simp only [BN3] at hg))) | (refine awp_seq_k fun K hK => ?_) | ((first | refine awp_region ?_ | refine awp_draw (by kernel_rfl) ?_ | refine awp_block ?_ | refine awp_exit ?_ | refine awp_skip ?_ | refine awp_ret ?_); (try simp only [NB, simprocAttr])))
      all_goals simp only [ht, EndH, FinH, resA, resL, resA1, lastV, lastA, lastAs, pur, purs, rw_app, rw_len, rw_take, rw_takeM, List.length_append, List.length_cons, List.length_nil, S1, simprocAttr, Nat.le_add_right, Nat.le_refl, List.append_nil]
      all_goals first | exact ⟨by omega, rw_keep⟩ | exact rw_keep | exact ⟨rw_keep, rfl⟩ | exact ⟨rw_keep, rfl, rfl⟩
  · obtain rfl : j = P.length := by omega
    rw [if_neg (by
      rintro (q | ⟨x, q1, q2⟩)
      · exact q n1
      · exact hp x q1 q2)] at ht
    repeat' (first | ((first | refine aops_nil ?_ | refine aqops_nil ?_ | refine arunN_nil ?_); (try simp only [NB])) | ((repeat ((fail_if_success (refine hK _ ?_)); clear hK K)); refine hK _ ?_; clear hK K) | ((first | refine aops_k fun K1 hK1 => ?_ | refine aqops_k fun K1 hK1 => ?_ | refine arunN_eff rfl rfl rfl fun K1 hK1 => ?_ | refine arunN_q rfl rfl rfl fun K1 hK1 => ?_ | refine awp_cond_k fun A B hA hB => ?_); simp only [S1, simprocAttr, TTScU, Int.lt_irrefl, b1, k0, kl, dk3, hos, hss, hcl, hcl2, hcl3, kl1, kl2, kl3, kl4, hso, hr1, hr2, hd, rw_run, rw_ps, wRun, wPs, Int.toNat_natCast, List.append_nil, Nat.mul_one, Nat.zero_add]; first | (refine hK1 _ ?_; clear hK1 K1) | ((first | refine hA ?_ | refine hB ?_); clear hA hB A B) | (refine join_x (v := ?_) (fun hg hk9 => ?_) ?_; rotate_left; (focus (try ((try simp only [BN] at hg); simp only [S1, simprocAttr, TTScU, Int.lt_irrefl, b1, k0, kl, dk3, hos, hss, hcl, hcl2, hcl3, kl1, kl2, kl3, kl4, hso, hr1, hr2, hd, rw_run, rw_ps, wRun, wPs, Int.toNat_natCast, List.append_nil, Nat.mul_one, Nat.zero_add, hg] at hk9 ⊢)); first | exact hk9); (refine hK1 _ ?_; clear hK1 K1)) | (((first | (refine ⟨fun hg => hA ?_, fun hg => hB ?_⟩ <;> clear hA hB A B) | refine ⟨fun hg => ?_, fun hg => ?_⟩) <;> (try simp only [BN2] at hg) <;> (try simp only [hg, cond_true, cond_false])) <;> (try (refine hK1 _ ?_; clear hK1 K1)) <;> (try simp only [BN3] at hg))) | (refine awp_seq_k fun K hK => ?_) | (refine awp_drawN (es := []) [0, 1, 2, 3, 4, 5, 6, 7, 8, 9, 10, 11] rfl (by kernel_rfl) ?_) | ((first | refine awp_region ?_ | refine awp_draw (by kernel_rfl) ?_ | refine awp_block ?_ | refine awp_exit ?_ | refine awp_skip ?_ | refine awp_ret ?_); (try simp only [NB, simprocAttr])))
    all_goals simp only [ht, EndH, FinH, resA, resL, resA1, lastV, lastA, lastAs, pur, purs, rw_len, rw_take, S1, simprocAttr, Nat.le_add_right, Nat.le_refl]
    all_goals first | exact rw_keep | exact ⟨rw_keep, rfl⟩ | exact ⟨rw_keep, rfl, rfl⟩
end
end Go.Proofs.Ytkmcecbglomemaa.AM
end

section
set_option linter.unusedVariables false
set_option linter.unusedSimpArgs false
set_option maxRecDepth 4000
set_option maxHeartbeats 4000000
namespace Go.Proofs.Ytkmcecbglomemaa.AM
open Go Go.Proofs
set_option linter.defProp false in
def TTScV := And.intro T2 (And.intro T3 (And.intro T4 (And.intro T29 (And.intro T45 (And.intro T56 (And.intro T57 (And.intro T59 (And.intro T61 T64))))))))
attribute [local irreducible] awp aops aqops aeops arun arunT arunN
variable {G : Nat → Option (List PV)}

def gR (g : Rw) (s t : Ro) : Rw := ⟨g.gp, g.gl + (t.ac.length - s.ac.length)⟩
theorem gR_trans {g : Rw} {s t u : Ro} (h1 : s.ac.length ≤ t.ac.length) (h2 : t.ac.length ≤ u.ac.length) : gR (gR g s t) t u = gR g s u := by
  unfold gR
  simp only [Rw.mk.injEq, true_and]
  omega
theorem gR_self (g : Rw) (s : Ro) : gR g s s = g := by unfold gR; rw [Nat.sub_self, Nat.add_zero]
theorem gR_act (g : Rw) (s t : Ro) (h : s.ac.length ≤ t.ac.length) (st wh : Nat → Int) (clk : Int) (a : Int × Nat) : (⟨(gR g s t).gp, (gR g s t).gl + 1⟩ : Rw) = gR g s ⟨st, wh, clk, t.ac ++ [a]⟩ := by
  unfold gR
  simp only [List.length_append, List.length_cons, List.length_nil, Rw.mk.injEq, true_and]
  omega

section
variable {h : Heap} {P : List Sc} {g : Rw} {s : Ro} {L : Heap}
theorem rw_act (w : Int) (k : Nat) : ((rwH h P g s L).set (h.length + 2) (some ⟨g.gl + 1, cAct s.ac ++ [.i w, .i (k : Int)]⟩)).set h.length (some ⟨0, [.ref (h.length + 1) g.gp 0 5 P.length, .i s.clk, .ref (h.length + 2) (g.gl + 1) 0 2 (s.ac.length + 1)]⟩) = rwH h P ⟨g.gp, g.gl + 1⟩ ⟨s.st, s.wh, s.clk, s.ac ++ [(w, k)]⟩ L := by
  unfold rwH
  rw [set_app, set_app0]
  unfold wRun wPs wAc
  rw [cAct_app, List.length_append]; rfl
theorem rw_r2 (x : Option Blk) : ((rwH h P g s L).set (h.length + 2) x)[h.length]? = some (wRun h.length P g s) := by rw [List.getElem?_set_ne (by omega)]; exact rw_run

theorem endsR_calls (hn : P.length ≤ 32) : ∀ (d i : Nat) (s : Ro), P.length ≤ d + i → pot P s ≤ 1000 → ∀ (g : Rw) (L : Heap), ACalls Try.prog G 28 [.ptr h.length 0 0, .i i] (rwH h P g s L) (fun r h' => r = .undef ∧ h' = rwH h P (gR g s (endsR P d i s)) (endsR P d i s) L) := by
  intro d
  induction d with
  | zero =>
    intro i s hd hp g L
    rw [show endsR P 0 i s = s from rfl, gR_self]
    have wr1 : IntKind.i64.wrap ((P.length : Int) - 1) = (P.length : Int) - 1 := IntWalk.i64_in _ (by omega)
    refine acalls_pure (rl := []) mixed Try.func28 rfl (rs := []) rfl Try.ntmps28 (by simp) ?_
    repeat' (first | ((first | refine aops_nil ?_ | refine aqops_nil ?_); (try simp only [NB])) | ((repeat ((fail_if_success (refine hK _ ?_)); clear hK K)); refine hK _ ?_; clear hK K) | ((first | refine aops_k fun K1 hK1 => ?_ | refine aqops_k fun K1 hK1 => ?_ | refine awp_cond_k fun A B hA hB => ?_); simp only [S1, simprocAttr, TTScV, wr1, rw_run, wRun]; first | (refine hK1 _ ?_; clear hK1 K1) | ((first | refine hA ?_ | refine hB ?_); clear hA hB A B) | (refine join_x (v := ?_) (fun hg hk9 => ?_) ?_; rotate_left; (focus (try ((try simp only [BN] at hg); simp only [S1, simprocAttr, TTScV, wr1, rw_run, wRun, hg] at hk9 ⊢)); first | exact hk9); (refine hK1 _ ?_; clear hK1 K1)) | (((first | (refine ⟨fun hg => hA ?_, fun hg => hB ?_⟩ <;> clear hA hB A B) | refine ⟨fun hg => ?_, fun hg => ?_⟩) <;> (try simp only [BN2] at hg) <;> (try simp only [hg, cond_true, cond_false])) <;> (try (refine hK1 _ ?_; clear hK1 K1)) <;> (try simp only [BN3] at hg))) | (refine awp_seq_k fun K hK => ?_) | ((first | refine awp_region ?_ | refine awp_draw (by kernel_rfl) ?_ | refine awp_block ?_ | refine awp_exit ?_ | refine awp_skip ?_ | refine awp_ret ?_); (try simp only [NB, simprocAttr])))
    refine awp_for 0 58 (fun j => [(4, .i ((P.length : Int) - 1)), (1, .i i), (0, .ptr h.length 0 0)]) (fun j => []) (fun j => True) ?_ trivial fun j hj hp K hK => ?_
    · refine ⟨rfl, ⟨[], by simp⟩, ?_, trivial⟩
      simp only [keeps, avlt, avlts, blksLt, frL, upd_get, rw_len, S1, simprocAttr, List.length_map, List.length_cons, List.length_nil, Int.natCast_zero, AV.p.injEq, PV.int.injEq, PV.bool.injEq, PV.sl.injEq] <;> (try and_intros) <;> (try assumption) <;> (try trivial) <;> (try omega)
    have c : ¬ (i : Int) < (P.length : Int) - 1 := by omega
    repeat' (first | ((first | refine aops_nil ?_ | refine aqops_nil ?_); (try simp only [NB])) | ((repeat ((fail_if_success (refine hK _ ?_)); clear hK K)); refine hK _ ?_; clear hK K) | ((first | refine aops_k fun K1 hK1 => ?_ | refine aqops_k fun K1 hK1 => ?_ | refine awp_cond_k fun A B hA hB => ?_); simp only [S1, simprocAttr, TTScV, c]; first | (refine hK1 _ ?_; clear hK1 K1) | ((first | refine hA ?_ | refine hB ?_); clear hA hB A B) | (refine join_x (v := ?_) (fun hg hk9 => ?_) ?_; rotate_left; (focus (try ((try simp only [BN] at hg); simp only [S1, simprocAttr, TTScV, c, hg] at hk9 ⊢)); first | exact hk9); (refine hK1 _ ?_; clear hK1 K1)) | (((first | (refine ⟨fun hg => hA ?_, fun hg => hB ?_⟩ <;> clear hA hB A B) | refine ⟨fun hg => ?_, fun hg => ?_⟩) <;> (try simp only [BN2] at hg) <;> (try simp only [hg, cond_true, cond_false])) <;> (try (refine hK1 _ ?_; clear hK1 K1)) <;> (try simp only [BN3] at hg))) | (refine awp_seq_k fun K hK => ?_) | ((first | refine awp_region ?_ | refine awp_draw (by kernel_rfl) ?_ | refine awp_block ?_ | refine awp_exit ?_ | refine awp_skip ?_ | refine awp_ret ?_); (try simp only [NB, simprocAttr])))
    all_goals simp only [EndP, FinP, resA, resL, resA1, lastV, lastA, lastAs, pur, purs, take_app, List.take_length, S1, simprocAttr, TTScV, Nat.le_add_right, Nat.le_refl, rw_len, rw_take]
  | succ d ih =>
    intro i s hd hp g L
    obtain ⟨E, hE⟩ : ∃ E : Nat → Ro, E = fun j => iterR (fun j s => stepE P (endsR P d) i (P.length - 1 - j) s) j s := ⟨_, rfl⟩
    have hres : endsR P (d + 1) i s = E (P.length - 1 - i) := by rw [hE]; rfl
    have h0 : E 0 = s := by rw [hE]; rfl
    have hsu : ∀ j, E (j + 1) = stepE P (endsR P d) i (P.length - 1 - j) (E j) := fun j => by rw [hE]; rfl
    have hto : ∀ j, j ≤ P.length - 1 - i → To P i s (E j) := fun j hj => by
      rw [hE]
      exact iter_to (m := P.length - 1 - i) (fun j hj s => stepE_to (ends_to d) (by omega) (by omega)) j hj
    have hst1 : ∀ j, j < P.length - 1 - i → To P i (E j) (E (j + 1)) := fun j hj => by
      rw [hsu]; exact stepE_to (ends_to d) (by omega) (by omega)
    rw [hres]
    clear hE hres
    have wr1 : IntKind.i64.wrap ((P.length : Int) - 1) = (P.length : Int) - 1 := IntWalk.i64_in _ (by omega)
    refine acalls_heap (rl := []) mixed Try.func28 rfl (rs := []) rfl Try.ntmps28 (by simp) ?_
    repeat' (first | ((first | refine aops_nil ?_ | refine aqops_nil ?_); (try simp only [NB])) | ((repeat ((fail_if_success (refine hK _ ?_)); clear hK K)); refine hK _ ?_; clear hK K) | ((first | refine aops_k fun K1 hK1 => ?_ | refine aqops_k fun K1 hK1 => ?_ | refine awp_cond_k fun A B hA hB => ?_); simp only [S1, simprocAttr, TTScV, wr1, rw_run, wRun]; first | (refine hK1 _ ?_; clear hK1 K1) | ((first | refine hA ?_ | refine hB ?_); clear hA hB A B) | (refine join_x (v := ?_) (fun hg hk9 => ?_) ?_; rotate_left; (focus (try ((try simp only [BN] at hg); simp only [S1, simprocAttr, TTScV, wr1, rw_run, wRun, hg] at hk9 ⊢)); first | exact hk9); (refine hK1 _ ?_; clear hK1 K1)) | (((first | (refine ⟨fun hg => hA ?_, fun hg => hB ?_⟩ <;> clear hA hB A B) | refine ⟨fun hg => ?_, fun hg => ?_⟩) <;> (try simp only [BN2] at hg) <;> (try simp only [hg, cond_true, cond_false])) <;> (try (refine hK1 _ ?_; clear hK1 K1)) <;> (try simp only [BN3] at hg))) | (refine awp_seq_k fun K hK => ?_) | ((first | refine awp_region ?_ | refine awp_draw (by kernel_rfl) ?_ | refine awp_block ?_ | refine awp_exit ?_ | refine awp_skip ?_ | refine awp_ret ?_); (try simp only [NB, simprocAttr])))
    refine awp_forH (P.length - 1 - i) 58 (fun j => rwH h P (gR g s (E j)) (E j) L) (fun j => [(4, .i ((P.length : Int) - 1 - j)), (1, .i i), (0, .ptr h.length 0 0)]) (fun j => []) (fun j => True)
      (fun j => ⟨by rw [rw_len, rw_len], fun i bk hi => by rw [rw_len]; exact rw_keepA i bk hi⟩) ?_ trivial fun j hj hp' K hK => ?_
    · simp only [h0, gR_self]
      refine ⟨rfl, ⟨[], by simp⟩, ?_, trivial⟩
      simp only [keeps, avlt, avlts, blksLt, frL, upd_get, rw_len, S1, simprocAttr, List.length_map, List.length_cons, List.length_nil, Int.natCast_zero, AV.p.injEq, PV.int.injEq, PV.bool.injEq, PV.sl.injEq] <;> (try and_intros) <;> (try assumption) <;> (try trivial) <;> (try omega)
    rw [List.append_nil]
    rcases Nat.lt_or_ge j (P.length - 1 - i) with hlt | hge
    · obtain ⟨k, hk⟩ : ∃ k, k = P.length - 1 - j := ⟨_, rfl⟩
      have ek : (P.length : Int) - 1 - (j : Int) = (k : Int) := by omega
      have ik : (i : Int) < (k : Int) := by omega
      have k0 : (0 : Int) ≤ (k : Int) := by omega
      have kl : (k : Int) < (P.length : Int) := by omega
      have hkn : k < P.length := by omega
      have hpv : IntKind.i64.wrap ((k : Int) - 1) = (P.length : Int) - 1 - ((j + 1 : Nat) : Int) := by rw [IntWalk.i64_in _ (by omega)]; omega
      have es := hsu j
      have h1 := hto j (by omega)
      have h2 := hst1 j hlt
      rw [← hk] at es
      rw [ek]
      generalize E (j + 1) = F at *
      generalize E j = e at *
      have d0 := one_at (s := e) hkn
      have d3 := one_at3 (s := e) hkn
      have hR : ∀ (g : Rw) (s : Ro), (rwH h P g s L)[h.length]? = some (wRun h.length P g s) := fun _ _ => rw_run
      have hPs : ∀ (g : Rw) (s : Ro), (rwH h P g s L)[h.length + 1]? = some (wPs P g s) := fun _ _ => rw_ps
      have hAc : ∀ (g : Rw) (s : Ro), (rwH h P g s L)[h.length + 2]? = some (wAc g s) := fun _ _ => rw_ac
      unfold stepE at es
      cases c1 : (parA P k == (i : Int)) with
      | false =>
        rw [if_neg (by intro ⟨q, _⟩; simp [q] at c1)] at es
        repeat' (first | ((first | refine aops_nil ?_ | refine aqops_nil ?_); (try simp only [NB])) | ((repeat ((fail_if_success (refine hK _ ?_)); clear hK K)); refine hK _ ?_; clear hK K) | ((first | refine aops_k fun K1 hK1 => ?_ | refine aqops_k fun K1 hK1 => ?_ | refine awp_cond_k fun A B hA hB => ?_); simp only [S1, simprocAttr, TTScV, d0, d3, ik, kl, k0, hpv, c1, hR, hPs, wPs, wRun, Int.toNat_natCast, Nat.mul_one, Nat.zero_add]; first | (refine hK1 _ ?_; clear hK1 K1) | ((first | refine hA ?_ | refine hB ?_); clear hA hB A B) | (refine join_x (v := ?_) (fun hg hk9 => ?_) ?_; rotate_left; (focus (try ((try simp only [BN] at hg); simp only [S1, simprocAttr, TTScV, d0, d3, ik, kl, k0, hpv, c1, hR, hPs, wPs, wRun, Int.toNat_natCast, Nat.mul_one, Nat.zero_add, hg] at hk9 ⊢)); first | exact hk9); (refine hK1 _ ?_; clear hK1 K1)) | (((first | (refine ⟨fun hg => hA ?_, fun hg => hB ?_⟩ <;> clear hA hB A B) | refine ⟨fun hg => ?_, fun hg => ?_⟩) <;> (try simp only [BN2] at hg) <;> (try simp only [hg, cond_true, cond_false])) <;> (try (refine hK1 _ ?_; clear hK1 K1)) <;> (try simp only [BN3] at hg))) | (refine awp_seq_k fun K hK => ?_) | ((first | refine awp_region ?_ | refine awp_draw (by kernel_rfl) ?_ | refine awp_block ?_ | refine awp_exit ?_ | refine awp_skip ?_ | refine awp_ret ?_); (try simp only [NB, simprocAttr])))
        all_goals refine ⟨hlt, trivial, ?_⟩
        all_goals simp only [es]
        all_goals refine ⟨rfl, ⟨[], by simp⟩, ?_, trivial⟩
        all_goals simp only [keeps, avlt, avlts, blksLt, frL, upd_get, rw_len, S1, simprocAttr, List.length_map, List.length_cons, List.length_nil, Int.natCast_zero, AV.p.injEq, PV.int.injEq, PV.bool.injEq, PV.sl.injEq] <;> (try and_intros) <;> (try assumption) <;> (try trivial) <;> (try omega)
      | true =>
      have n1 : parA P k = (i : Int) := by simpa using c1
      cases c2 : (e.st k == 1) with
      | false =>
        rw [if_neg (by intro ⟨_, q⟩; simp [q] at c2)] at es
        repeat' (first | ((first | refine aops_nil ?_ | refine aqops_nil ?_); (try simp only [NB])) | ((repeat ((fail_if_success (refine hK _ ?_)); clear hK K)); refine hK _ ?_; clear hK K) | ((first | refine aops_k fun K1 hK1 => ?_ | refine aqops_k fun K1 hK1 => ?_ | refine awp_cond_k fun A B hA hB => ?_); simp only [S1, simprocAttr, TTScV, d0, d3, ik, kl, k0, hpv, c1, c2, hR, hPs, wPs, wRun, Int.toNat_natCast, Nat.mul_one, Nat.zero_add]; first | (refine hK1 _ ?_; clear hK1 K1) | ((first | refine hA ?_ | refine hB ?_); clear hA hB A B) | (refine join_x (v := ?_) (fun hg hk9 => ?_) ?_; rotate_left; (focus (try ((try simp only [BN] at hg); simp only [S1, simprocAttr, TTScV, d0, d3, ik, kl, k0, hpv, c1, c2, hR, hPs, wPs, wRun, Int.toNat_natCast, Nat.mul_one, Nat.zero_add, hg] at hk9 ⊢)); first | exact hk9); (refine hK1 _ ?_; clear hK1 K1)) | (((first | (refine ⟨fun hg => hA ?_, fun hg => hB ?_⟩ <;> clear hA hB A B) | refine ⟨fun hg => ?_, fun hg => ?_⟩) <;> (try simp only [BN2] at hg) <;> (try simp only [hg, cond_true, cond_false])) <;> (try (refine hK1 _ ?_; clear hK1 K1)) <;> (try simp only [BN3] at hg))) | (refine awp_seq_k fun K hK => ?_) | ((first | refine awp_region ?_ | refine awp_draw (by kernel_rfl) ?_ | refine awp_block ?_ | refine awp_exit ?_ | refine awp_skip ?_ | refine awp_ret ?_); (try simp only [NB, simprocAttr])))
        all_goals refine ⟨hlt, trivial, ?_⟩
        all_goals simp only [es]
        all_goals refine ⟨rfl, ⟨[], by simp⟩, ?_, trivial⟩
        all_goals simp only [keeps, avlt, avlts, blksLt, frL, upd_get, rw_len, S1, simprocAttr, List.length_map, List.length_cons, List.length_nil, Int.natCast_zero, AV.p.injEq, PV.int.injEq, PV.bool.injEq, PV.sl.injEq] <;> (try and_intros) <;> (try assumption) <;> (try trivial) <;> (try omega)
      | true =>
      have n2 : e.st k = 1 := by simpa using c2
      rw [if_pos ⟨n1, n2⟩] at es
      have hpe : pot P e ≤ 1000 := Nat.le_trans h1.pot hp
      have hc := ih k e (by omega) hpe (gR g s e) L
      have ht := ends_to (P := P) d k e
      rw [gR_trans h1.le ht.le] at hc
      generalize endsR P d k e = t at *
      have hga := gR_act g s t (Nat.le_trans h1.le ht.le) (upI t.st k 3) t.wh t.clk (1, k)
      rw [← es] at hga
      have hta : t.ac.length ≤ 1000 := Nat.le_trans pot_le (Nat.le_trans ht.pot hpe)
      have hmax : t.ac.length + 1 ≤ maxCount := by unfold maxCount; omega
      have hcl := cAct_len t.ac
      have hos := one_set (s := t) hkn 3
      have hcn := cOne_len (P := P) (s := t)
      have kl1 : k * 5 + 3 + 1 ≤ P.length * 5 := by omega
      have kl2 : k * 5 + 3 < P.length * 5 := by omega
      have hss := rw_sst (h := h) (P := P) (g := gR g s t) (s := t) (L := L) k 3
      have hs2 := rw_act (h := h) (P := P) (g := gR g s t) (s := ⟨upI t.st k 3, t.wh, t.clk, t.ac⟩) (L := L) 1 k
      rw [hga, ← es] at hs2
      have hr2 := fun x => rw_r2 (h := h) (P := P) (g := gR g s t) (s := ⟨upI t.st k 3, t.wh, t.clk, t.ac⟩) (L := L) x
      repeat' (first | ((first | refine aops_nil ?_ | refine aqops_nil ?_); (try simp only [NB])) | ((repeat ((fail_if_success (refine hK _ ?_)); clear hK K)); refine hK _ ?_; clear hK K) | ((first | refine aops_k fun K1 hK1 => ?_ | refine aqops_k fun K1 hK1 => ?_ | refine awp_cond_k fun A B hA hB => ?_); simp only [S1, simprocAttr, TTScV, d0, d3, ik, kl, k0, hpv, c1, c2, hR, hPs, hAc, hmax, hcl, hos, hcn, kl1, kl2, hss, hs2, hr2, wPs, wRun, wAc, Int.toNat_natCast, List.drop_zero, Nat.mul_one, Nat.zero_add]; first | (refine hK1 _ ?_; clear hK1 K1) | ((first | refine hA ?_ | refine hB ?_); clear hA hB A B) | ((first | apply call_a E28 | apply call_q E28); exact hc; (refine hK1 _ ?_; clear hK1 K1)) | (refine join_x (v := ?_) (fun hg hk9 => ?_) ?_; rotate_left; (focus (try ((try simp only [BN] at hg); simp only [S1, simprocAttr, TTScV, d0, d3, ik, kl, k0, hpv, c1, c2, hR, hPs, hAc, hmax, hcl, hos, hcn, kl1, kl2, hss, hs2, hr2, wPs, wRun, wAc, Int.toNat_natCast, List.drop_zero, Nat.mul_one, Nat.zero_add, hg] at hk9 ⊢)); first | exact hk9 | ((first | apply call_a E28 | apply call_q E28); exact hc; exact hk9)); (refine hK1 _ ?_; clear hK1 K1)) | (((first | (refine ⟨fun hg => hA ?_, fun hg => hB ?_⟩ <;> clear hA hB A B) | refine ⟨fun hg => ?_, fun hg => ?_⟩) <;> (try simp only [BN2] at hg) <;> (try simp only [hg, cond_true, cond_false])) <;> (try (refine hK1 _ ?_; clear hK1 K1)) <;> (try simp only [BN3] at hg))) | (refine awp_seq_k fun K hK => ?_) | ((first | refine awp_region ?_ | refine awp_draw (by kernel_rfl) ?_ | refine awp_block ?_ | refine awp_exit ?_ | refine awp_skip ?_ | refine awp_ret ?_); (try simp only [NB, simprocAttr])))
      all_goals refine ⟨hlt, trivial, rfl, ⟨[], by simp⟩, ?_, trivial⟩
      all_goals simp only [keeps, avlt, avlts, blksLt, frL, upd_get, rw_len, S1, simprocAttr, List.length_map, List.length_cons, List.length_nil, Int.natCast_zero, AV.p.injEq, PV.int.injEq, PV.bool.injEq, PV.sl.injEq] <;> (try and_intros) <;> (try assumption) <;> (try trivial) <;> (try omega)
    · obtain rfl : j = P.length - 1 - i := by omega
      have c : ¬ (i : Int) < (P.length : Int) - 1 - ((P.length - 1 - i : Nat) : Int) := by omega
      repeat' (first | ((first | refine aops_nil ?_ | refine aqops_nil ?_); (try simp only [NB])) | ((repeat ((fail_if_success (refine hK _ ?_)); clear hK K)); refine hK _ ?_; clear hK K) | ((first | refine aops_k fun K1 hK1 => ?_ | refine aqops_k fun K1 hK1 => ?_ | refine awp_cond_k fun A B hA hB => ?_); simp only [S1, simprocAttr, TTScV, c]; first | (refine hK1 _ ?_; clear hK1 K1) | ((first | refine hA ?_ | refine hB ?_); clear hA hB A B) | (refine join_x (v := ?_) (fun hg hk9 => ?_) ?_; rotate_left; (focus (try ((try simp only [BN] at hg); simp only [S1, simprocAttr, TTScV, c, hg] at hk9 ⊢)); first | exact hk9); (refine hK1 _ ?_; clear hK1 K1)) | (((first | (refine ⟨fun hg => hA ?_, fun hg => hB ?_⟩ <;> clear hA hB A B) | refine ⟨fun hg => ?_, fun hg => ?_⟩) <;> (try simp only [BN2] at hg) <;> (try simp only [hg, cond_true, cond_false])) <;> (try (refine hK1 _ ?_; clear hK1 K1)) <;> (try simp only [BN3] at hg))) | (refine awp_seq_k fun K hK => ?_) | ((first | refine awp_region ?_ | refine awp_draw (by kernel_rfl) ?_ | refine awp_block ?_ | refine awp_exit ?_ | refine awp_skip ?_ | refine awp_ret ?_); (try simp only [NB, simprocAttr])))
      all_goals simp only [EndH, FinH, resA, resL, resA1, lastV, lastA, lastAs, pur, purs, rw_len, rw_take, S1, simprocAttr, Nat.le_add_right, Nat.le_refl]
      all_goals first | exact rw_keep | exact ⟨rw_keep, rfl⟩ | exact ⟨rw_keep, rfl, rfl⟩
end
end Go.Proofs.Ytkmcecbglomemaa.AM
end

section
set_option linter.unusedVariables false
set_option linter.unusedSimpArgs false
set_option maxRecDepth 4000
set_option maxHeartbeats 4000000
namespace Go.Proofs.Ytkmcecbglomemaa.AM
open Go Go.Proofs
set_option linter.defProp false in
def TTScW := And.intro T2 (And.intro T3 (And.intro T4 (And.intro T29 (And.intro T45 (And.intro T56 (And.intro T57 (And.intro T59 (And.intro T61 T64))))))))
attribute [local irreducible] awp aops aqops aeops arun arunT arunN
variable {G : Nat → Option (List PV)}

section
variable {h : Heap} {P : List Sc} {g : Rw} {s : Ro} {L : Heap}
theorem undoes_of (pl : PlOk P) {f : Nat → Ro → Ro} {i : Nat} (hf : ∀ k s, To P k s (f k s)) (hcall : ∀ k s, i < k → k < P.length → pot P s ≤ 1000 → ∀ (g : Rw) (L : Heap), ACalls Try.prog G 29 [.ptr h.length 0 0, .i k] (rwH h P g s L) (fun r h' => r = .undef ∧ h' = rwH h P (gR g s (f k s)) (f k s) L))
    (hp : pot P s ≤ 1000) (g : Rw) (L : Heap) : ACalls Try.prog G 29 [.ptr h.length 0 0, .i i] (rwH h P g s L) (fun r h' => r = .undef ∧ h' = rwH h P (gR g s (iterR (fun _ s => stepU P f i s) P.length s)) (iterR (fun _ s => stepU P f i s) P.length s) L) := by
  have hn := pl.n32
  obtain ⟨E, hE⟩ : ∃ E : Nat → Ro, E = fun j => iterR (fun _ s => stepU P f i s) j s := ⟨_, rfl⟩
  have hres : iterR (fun _ s => stepU P f i s) P.length s = E P.length := by rw [hE]
  have h0 : E 0 = s := by rw [hE]; rfl
  have hsu : ∀ j, E (j + 1) = stepU P f i (E j) := fun j => by rw [hE]; rfl
  have hto : ∀ j, To P i s (E j) := fun j => by
    rw [hE]
    exact iter_to (m := j) (fun j hj s => stepU_to pl hf) j (Nat.le_refl _)
  have hst1 : ∀ j, To P i (E j) (E (j + 1)) := fun j => by rw [hsu]; exact stepU_to pl hf
  have hfix : ∀ j, j ≤ P.length → stepU P f i (E j) = E j → E P.length = E j := fun j hj he => by
    rw [hE] at he ⊢
    exact iterR_fix he hj
  rw [hres]
  clear hE hres
  refine acalls_heap (rl := []) mixed Try.func29 rfl (rs := []) rfl Try.ntmps29 (by simp) ?_
  repeat' (first | ((first | refine aops_nil ?_ | refine aqops_nil ?_); (try simp only [NB])) | ((repeat ((fail_if_success (refine hK _ ?_)); clear hK K)); refine hK _ ?_; clear hK K) | ((first | refine aops_k fun K1 hK1 => ?_ | refine aqops_k fun K1 hK1 => ?_ | refine awp_cond_k fun A B hA hB => ?_); simp only [S1, simprocAttr, TTScW, rw_run, wRun]; first | (refine hK1 _ ?_; clear hK1 K1) | ((first | refine hA ?_ | refine hB ?_); clear hA hB A B) | (((first | (refine ⟨fun hg => hA ?_, fun hg => hB ?_⟩ <;> clear hA hB A B) | refine ⟨fun hg => ?_, fun hg => ?_⟩) <;> (try simp only [BN2] at hg) <;> (try simp only [hg, cond_true, cond_false])) <;> (try (refine hK1 _ ?_; clear hK1 K1)) <;> (try simp only [BN3] at hg))) | (refine awp_seq_k fun K hK => ?_) | ((first | refine awp_region ?_ | refine awp_draw (by kernel_rfl) ?_ | refine awp_block ?_ | refine awp_exit ?_ | refine awp_skip ?_ | refine awp_ret ?_); (try simp only [NB, simprocAttr])))
  refine awp_forH P.length 47 (fun j => rwH h P (gR g s (E j)) (E j) L) (fun j => [(10, .i j), (9, .i P.length), (1, .i i), (0, .ptr h.length 0 0)]) (fun j => []) (fun j => True)
    (fun j => ⟨by rw [rw_len, rw_len], fun i bk hi => by rw [rw_len]; exact rw_keepA i bk hi⟩) ?_ trivial fun j hj hp' K hK => ?_
  · simp only [h0, gR_self]
    refine ⟨rfl, ⟨[], by simp⟩, ?_, trivial⟩
    simp only [keeps, avlt, avlts, blksLt, frL, upd_get, rw_len, S1, simprocAttr, List.length_map, List.length_cons, List.length_nil, Int.natCast_zero, AV.p.injEq, PV.int.injEq, PV.bool.injEq, PV.sl.injEq] <;> (try and_intros) <;> (try assumption) <;> (try trivial) <;> (try omega)
  rw [List.append_nil]
  rcases Nat.lt_or_ge j P.length with hlt | hge
  · have jl : (j : Int) < (P.length : Int) := by omega
    have hnx := nextJ (n := P.length) (by omega) hlt
    have es := hsu j
    have h1 := hto j
    have h2 := hst1 j
    have hfx := hfix j hj
    rw [← es] at hfx
    generalize E (j + 1) = F at *
    generalize hEn : E P.length = T at *
    generalize E j = e at *
    have hla := last_calls (G := G) (h := h) (P := P) (g := gR g s e) (s := e) (L := L) hn i
    have hls := last_spec (P := P) (s := e) (i := i) P.length
    unfold stepU at es
    generalize lastR P e i P.length = a at *
    have hR : ∀ (g : Rw) (s : Ro), (rwH h P g s L)[h.length]? = some (wRun h.length P g s) := fun _ _ => rw_run
    have hPs : ∀ (g : Rw) (s : Ro), (rwH h P g s L)[h.length + 1]? = some (wPs P g s) := fun _ _ => rw_ps
    have hAc : ∀ (g : Rw) (s : Ro), (rwH h P g s L)[h.length + 2]? = some (wAc g s) := fun _ _ => rw_ac
    rcases hls with rfl | ⟨k, rfl, hkn, hpk, hsk⟩
    · rw [if_pos (by omega)] at es
      have hTe := hfx es
      have c : (-1 : Int) < 0 := by omega
      repeat' (first | ((first | refine aops_nil ?_ | refine aqops_nil ?_); (try simp only [NB])) | ((repeat ((fail_if_success (refine hK _ ?_)); clear hK K)); refine hK _ ?_; clear hK K) | ((first | refine aops_k fun K1 hK1 => ?_ | refine aqops_k fun K1 hK1 => ?_ | refine awp_cond_k fun A B hA hB => ?_); simp only [S1, simprocAttr, TTScW, jl, c]; first | (refine hK1 _ ?_; clear hK1 K1) | ((first | refine hA ?_ | refine hB ?_); clear hA hB A B) | ((first | apply call_a E33 | apply call_q E33); exact hla; (refine hK1 _ ?_; clear hK1 K1)) | (((first | (refine ⟨fun hg => hA ?_, fun hg => hB ?_⟩ <;> clear hA hB A B) | refine ⟨fun hg => ?_, fun hg => ?_⟩) <;> (try simp only [BN2] at hg) <;> (try simp only [hg, cond_true, cond_false])) <;> (try (refine hK1 _ ?_; clear hK1 K1)) <;> (try simp only [BN3] at hg))) | (refine awp_seq_k fun K hK => ?_) | ((first | refine awp_region ?_ | refine awp_draw (by kernel_rfl) ?_ | refine awp_block ?_ | refine awp_exit ?_ | refine awp_skip ?_ | refine awp_ret ?_); (try simp only [NB, simprocAttr])))
      all_goals simp only [hTe, EndH, FinH, resA, resL, resA1, lastV, lastA, lastAs, pur, purs, rw_len, rw_take, S1, simprocAttr, Nat.le_add_right, Nat.le_refl]
      all_goals first | exact rw_keep | exact ⟨rw_keep, rfl⟩ | exact ⟨rw_keep, rfl, rfl⟩
    · rw [if_neg (by omega), Int.toNat_natCast] at es
      have ik := (pl.lt hpk).1
      have c : ¬ (k : Int) < 0 := by omega
      have k0 : (0 : Int) ≤ (k : Int) := by omega
      have kl : (k : Int) < (P.length : Int) := by omega
      have d2 := one_at2 (s := e) hkn
      have hpe : pot P e ≤ 1000 := Nat.le_trans h1.pot hp
      have kl1 : k * 5 + 3 + 1 ≤ P.length * 5 := by omega
      have kl2 : k * 5 + 3 < P.length * 5 := by omega
      cases c1 : undA P k with
      | true =>
        rw [if_pos c1] at es
        rw [c1] at d2
        have hga := gR_act g s e h1.le (upI e.st k 4) e.wh e.clk (2, k)
        have hea : e.ac.length ≤ 1000 := Nat.le_trans pot_le hpe
        have hmax : e.ac.length + 1 ≤ maxCount := by unfold maxCount; omega
        have hcl := cAct_len e.ac
        have hs2 := rw_act (h := h) (P := P) (g := gR g s e) (s := e) (L := L) 2 k
        have hr2 := fun x => rw_r2 (h := h) (P := P) (g := gR g s e) (s := e) (L := L) x
        rw [hga] at hs2
        generalize hee : (⟨e.st, e.wh, e.clk, e.ac ++ [(2, k)]⟩ : Ro) = e2 at *
        have hos := one_set (s := e2) hkn 4
        have hcn := cOne_len (P := P) (s := e2)
        have hss := rw_sst (h := h) (P := P) (g := gR g s ⟨upI e.st k 4, e.wh, e.clk, e.ac ++ [(2, k)]⟩) (s := e2) (L := L) k 4
        have hF : (⟨upI e2.st k 4, e2.wh, e2.clk, e2.ac⟩ : Ro) = F := by rw [es, ← hee]
        rw [hF] at hos hss
        rw [← es] at hs2 hss
        repeat' (first | ((first | refine aops_nil ?_ | refine aqops_nil ?_); (try simp only [NB])) | ((repeat ((fail_if_success (refine hK _ ?_)); clear hK K)); refine hK _ ?_; clear hK K) | ((first | refine aops_k fun K1 hK1 => ?_ | refine aqops_k fun K1 hK1 => ?_ | refine awp_cond_k fun A B hA hB => ?_); simp only [S1, simprocAttr, TTScW, jl, c, d2, kl, k0, hnx, hR, hPs, hAc, hmax, hcl, hos, hcn, kl1, kl2, hss, hs2, hr2, wPs, wRun, wAc, Int.toNat_natCast, List.drop_zero, Nat.mul_one, Nat.zero_add]; first | (refine hK1 _ ?_; clear hK1 K1) | ((first | refine hA ?_ | refine hB ?_); clear hA hB A B) | ((first | apply call_a E33 | apply call_q E33); exact hla; (refine hK1 _ ?_; clear hK1 K1)) | (((first | (refine ⟨fun hg => hA ?_, fun hg => hB ?_⟩ <;> clear hA hB A B) | refine ⟨fun hg => ?_, fun hg => ?_⟩) <;> (try simp only [BN2] at hg) <;> (try simp only [hg, cond_true, cond_false])) <;> (try (refine hK1 _ ?_; clear hK1 K1)) <;> (try simp only [BN3] at hg))) | (refine awp_seq_k fun K hK => ?_) | ((first | refine awp_region ?_ | refine awp_draw (by kernel_rfl) ?_ | refine awp_block ?_ | refine awp_exit ?_ | refine awp_skip ?_ | refine awp_ret ?_); (try simp only [NB, simprocAttr])))
        all_goals refine ⟨hlt, trivial, rfl, ⟨[], by simp⟩, ?_, trivial⟩
        all_goals simp only [keeps, avlt, avlts, blksLt, frL, upd_get, rw_len, S1, simprocAttr, List.length_map, List.length_cons, List.length_nil, Int.natCast_zero, AV.p.injEq, PV.int.injEq, PV.bool.injEq, PV.sl.injEq] <;> (try and_intros) <;> (try assumption) <;> (try trivial) <;> (try omega)
      | false =>
        rw [if_neg (by rw [c1]; simp)] at es
        rw [c1] at d2
        have hc := hcall k e ik hkn hpe (gR g s e) L
        have ht := hf k e
        rw [gR_trans h1.le ht.le] at hc
        generalize f k e = t at *
        have hos := one_set (s := t) hkn 4
        have hcn := cOne_len (P := P) (s := t)
        have hss := rw_sst (h := h) (P := P) (g := gR g s t) (s := t) (L := L) k 4
        have hg : gR g s t = gR g s F := by rw [es]; rfl
        rw [← es] at hss hos
        rw [hg] at hss
        rw [hg] at hc
        repeat' (first | ((first | refine aops_nil ?_ | refine aqops_nil ?_); (try simp only [NB])) | ((repeat ((fail_if_success (refine hK _ ?_)); clear hK K)); refine hK _ ?_; clear hK K) | ((first | refine aops_k fun K1 hK1 => ?_ | refine aqops_k fun K1 hK1 => ?_ | refine awp_cond_k fun A B hA hB => ?_); simp only [S1, simprocAttr, TTScW, jl, c, d2, kl, k0, hnx, hR, hPs, hAc, hos, hcn, kl1, kl2, hss, wPs, wRun, wAc, Int.toNat_natCast, List.drop_zero, Nat.mul_one, Nat.zero_add]; first | (refine hK1 _ ?_; clear hK1 K1) | ((first | refine hA ?_ | refine hB ?_); clear hA hB A B) | ((first | apply call_a E33 | apply call_q E33); exact hla; (refine hK1 _ ?_; clear hK1 K1)) | ((first | apply call_a E29 | apply call_q E29); exact hc; (refine hK1 _ ?_; clear hK1 K1)) | (((first | (refine ⟨fun hg => hA ?_, fun hg => hB ?_⟩ <;> clear hA hB A B) | refine ⟨fun hg => ?_, fun hg => ?_⟩) <;> (try simp only [BN2] at hg) <;> (try simp only [hg, cond_true, cond_false])) <;> (try (refine hK1 _ ?_; clear hK1 K1)) <;> (try simp only [BN3] at hg))) | (refine awp_seq_k fun K hK => ?_) | ((first | refine awp_region ?_ | refine awp_draw (by kernel_rfl) ?_ | refine awp_block ?_ | refine awp_exit ?_ | refine awp_skip ?_ | refine awp_ret ?_); (try simp only [NB, simprocAttr])))
        all_goals refine ⟨hlt, trivial, rfl, ⟨[], by simp⟩, ?_, trivial⟩
        all_goals simp only [keeps, avlt, avlts, blksLt, frL, upd_get, rw_len, S1, simprocAttr, List.length_map, List.length_cons, List.length_nil, Int.natCast_zero, AV.p.injEq, PV.int.injEq, PV.bool.injEq, PV.sl.injEq] <;> (try and_intros) <;> (try assumption) <;> (try trivial) <;> (try omega)
  · obtain rfl : j = P.length := by omega
    repeat' (first | ((first | refine aops_nil ?_ | refine aqops_nil ?_); (try simp only [NB])) | ((repeat ((fail_if_success (refine hK _ ?_)); clear hK K)); refine hK _ ?_; clear hK K) | ((first | refine aops_k fun K1 hK1 => ?_ | refine aqops_k fun K1 hK1 => ?_ | refine awp_cond_k fun A B hA hB => ?_); simp only [S1, simprocAttr, TTScW, Int.lt_irrefl]; first | (refine hK1 _ ?_; clear hK1 K1) | ((first | refine hA ?_ | refine hB ?_); clear hA hB A B) | (((first | (refine ⟨fun hg => hA ?_, fun hg => hB ?_⟩ <;> clear hA hB A B) | refine ⟨fun hg => ?_, fun hg => ?_⟩) <;> (try simp only [BN2] at hg) <;> (try simp only [hg, cond_true, cond_false])) <;> (try (refine hK1 _ ?_; clear hK1 K1)) <;> (try simp only [BN3] at hg))) | (refine awp_seq_k fun K hK => ?_) | ((first | refine awp_region ?_ | refine awp_draw (by kernel_rfl) ?_ | refine awp_block ?_ | refine awp_exit ?_ | refine awp_skip ?_ | refine awp_ret ?_); (try simp only [NB, simprocAttr])))
    all_goals simp only [EndH, FinH, resA, resL, resA1, lastV, lastA, lastAs, pur, purs, rw_len, rw_take, S1, simprocAttr, Nat.le_add_right, Nat.le_refl]
    all_goals first | exact rw_keep | exact ⟨rw_keep, rfl⟩ | exact ⟨rw_keep, rfl, rfl⟩

theorem undosR_calls (pl : PlOk P) : ∀ (d i : Nat) (s : Ro), P.length ≤ d + i → pot P s ≤ 1000 → ∀ (g : Rw) (L : Heap), ACalls Try.prog G 29 [.ptr h.length 0 0, .i i] (rwH h P g s L) (fun r h' => r = .undef ∧ h' = rwH h P (gR g s (undosR P d i s)) (undosR P d i s) L)
  | 0, i, s, hd, hp, g, L => by
    have hlr : lastR P s i P.length < 0 := by
      rcases last_spec (P := P) (s := s) (i := i) P.length with e | ⟨k, e, h1, h2, h3⟩
      · rw [e]; omega
      · have := (pl.lt h2).1; omega
    have e : iterR (fun _ s => stepU P (fun _ s => s) i s) P.length s = s := by
      have hst : stepU P (fun _ s => s) i s = s := by unfold stepU; rw [if_pos hlr]
      exact iterR_fix (f := fun s => stepU P (fun _ s => s) i s) (j := 0) hst (Nat.zero_le _)
    have := undoes_of (G := G) (h := h) (i := i) (s := s) pl (f := fun _ s => s) (fun k s => To.refl) (fun k s h1 h2 => by omega) hp g L
    rw [e] at this
    exact this
  | d + 1, i, s, hd, hp, g, L => undoes_of pl (undos_to pl d) (fun k s h1 h2 hp g L => undosR_calls pl d k s (by omega) hp g L) hp g L
end
end Go.Proofs.Ytkmcecbglomemaa.AM
end

section
set_option linter.unusedVariables false
set_option linter.unusedSimpArgs false
set_option maxRecDepth 4000
set_option maxHeartbeats 4000000
namespace Go.Proofs.Ytkmcecbglomemaa.AM
open Go Go.Proofs
set_option linter.defProp false in
def TTScX := And.intro T2 (And.intro T3 (And.intro T4 (And.intro T29 (And.intro T45 (And.intro T56 (And.intro T57 (And.intro T59 (And.intro T61 T64))))))))
attribute [local irreducible] awp aops aqops aeops arun arunT arunN
variable {G : Nat → Option (List PV)}

section
variable {h : Heap} {P : List Sc} {g : Rw} {s : Ro} {L : Heap}
/-- The list of actions begins anew. -/
theorem rw_reset {fr : Nat → Option AV} {nt : Nat} {l : List (Nat × AV)} (hk : keeps (⟨fr, nt, []⟩ : St) (h.length + (L.length + 3)) l) :
    Ghost Try.prog G (rwH h P g s L) ⟨fr, nt, (rwH h P g s L).set h.length (some ⟨0, [.ref (h.length + 1) g.gp 0 5 P.length, .i s.clk, .p .nils]⟩)⟩ ⟨frL l, nt, rwH h P ⟨g.gp, g.gl + 1⟩ ⟨s.st, s.wh, s.clk, []⟩ L ++ []⟩ := by
  have e0 : (rwH h P g s L).set h.length (some ⟨0, [.ref (h.length + 1) g.gp 0 5 P.length, .i s.clk, .p .nils]⟩) = h ++ (some ⟨0, [.ref (h.length + 1) g.gp 0 5 P.length, .i s.clk, .p .nils]⟩ :: wPs P g s :: wAc g s :: L) := by
    unfold rwH; rw [set_app0]; rfl
  rw [e0]
  refine (Ghost.adoptCellG (b := h.length) (j := 2) (bk := ⟨0, [.ref (h.length + 1) g.gp 0 5 P.length, .i s.clk, .p .nils]⟩) 2 (by rw [get_app0]; rfl) rfl).trans ?_
  simp only [List.set_cons_succ, List.set_cons_zero]
  have e1 : (h ++ (some (⟨0, [.ref (h.length + 1) g.gp 0 5 P.length, .i s.clk, .p .nils]⟩ : Blk) :: wPs P g s :: wAc g s :: L)).length = h.length + (L.length + 3) := by simp
  rw [e1, List.append_assoc, set_app0]
  simp only [List.cons_append, List.set_cons_succ, List.set_cons_zero]
  refine (Ghost.move (b := h.length) (j := 2) (q := h.length + 2) (m := h.length + (L.length + 3)) (off := 0) (sz := 2) (n := 0) (bk := ⟨0, [.ref (h.length + 1) g.gp 0 5 P.length, .i s.clk, .ref (h.length + (L.length + 3)) 0 0 2 0]⟩) (bq := ⟨g.gl, cAct s.ac⟩) (bm := ⟨0, []⟩)
    (by rw [get_app0]; rfl) rfl (by rw [get_app]; rfl) (by rw [get_app, show L.length + 3 = L.length + 1 + 1 + 1 by omega]; simp [List.getElem?_append_right]) (by omega) (by omega) (by omega)).trans ?_
  simp only [List.set_cons_succ, List.set_cons_zero]
  rw [show L.length + 3 = L.length + 1 + 1 + 1 by omega, set_app]
  simp only [List.set_cons_succ]
  rw [List.set_append_right _ _ (Nat.le_refl _), Nat.sub_self, set_app, set_app0]
  simp only [List.set_cons_succ, List.set_cons_zero]
  refine Sub.ghostH (H := rwH h P ⟨g.gp, g.gl + 1⟩ ⟨s.st, s.wh, s.clk, []⟩ L) (L := []) (by rw [rw_len, rw_len]) (fun i bk hi => by rw [rw_len]; exact rw_keepA i bk hi) ⟨rfl, ⟨[none], by unfold rwH; simp [wRun, wPs, wAc, cAct, cOne]⟩, ?_, trivial⟩
  rw [rw_len]
  refine keeps_congr (s := ⟨fr, nt, []⟩) (m := h.length + (L.length + 3)) ?_ hk
  rfl

theorem FaultR_bad (i : Int) (e : Int) (he : (i < 0 ∨ (P.length : Int) ≤ i) ∧ e = 1 ∨ (0 ≤ i ∧ i < (P.length : Int) ∧ s.st i.toNat ≠ 1) ∧ e = 7) :
    ACalls Try.prog G 21 [.ptr h.length 0 0, .i i] (rwH h P g s L) (fun r h' => r = .tup [aAc [], .i e] ∧ h' = rwH h P g s L) := by
  have hw := in_calls (G := G) (h := h) (P := P) (g := g) (s := s) (L := L) i
  unfold isIn at hw
  rcases he with ⟨c0, rfl⟩ | ⟨⟨c1, c2, c3⟩, rfl⟩
  · rw [if_pos c0] at hw
    refine acalls_pure (rl := []) mixed Try.func21 rfl (rs := [.tmp 4, .tmp 5]) rfl Try.ntmps21 (by simp) ?_
    repeat' (first | ((first | refine aops_nil ?_ | refine aqops_nil ?_); (try simp only [NB])) | ((repeat ((fail_if_success (refine hK _ ?_)); clear hK K)); refine hK _ ?_; clear hK K) | ((first | refine aops_k fun K1 hK1 => ?_ | refine aqops_k fun K1 hK1 => ?_ | refine awp_cond_k fun A B hA hB => ?_); simp only [S1, simprocAttr, TTScX]; first | (refine hK1 _ ?_; clear hK1 K1) | ((first | refine hA ?_ | refine hB ?_); clear hA hB A B) | ((first | apply call_a E27 | apply call_q E27); exact hw; (refine hK1 _ ?_; clear hK1 K1)) | (((first | (refine ⟨fun hg => hA ?_, fun hg => hB ?_⟩ <;> clear hA hB A B) | refine ⟨fun hg => ?_, fun hg => ?_⟩) <;> (try simp only [BN2] at hg) <;> (try simp only [hg, cond_true, cond_false])) <;> (try (refine hK1 _ ?_; clear hK1 K1)) <;> (try simp only [BN3] at hg))) | (refine awp_seq_k fun K hK => ?_) | ((first | refine awp_region ?_ | refine awp_draw (by kernel_rfl) ?_ | refine awp_block ?_ | refine awp_exit ?_ | refine awp_skip ?_ | refine awp_ret ?_); (try simp only [NB, simprocAttr])))
    all_goals simp only [EndP, FinP, resA, resL, resA1, lastV, lastA, lastAs, pur, purs, take_app, List.take_length, S1, simprocAttr, TTScX, Nat.le_add_right, Nat.le_refl, rw_len, rw_take]
    all_goals rfl
  · rw [if_neg (by omega)] at hw
    obtain ⟨k, rfl⟩ : ∃ k : Nat, i = (k : Int) := ⟨i.toNat, by omega⟩
    rw [Int.toNat_natCast] at c3
    have b1 : (s.st k != 1) = true := by simpa using c3
    have dk := one_at3 (s := s) (show k < P.length by omega)
    refine acalls_pure (rl := []) mixed Try.func21 rfl (rs := [.tmp 4, .tmp 5]) rfl Try.ntmps21 (by simp) ?_
    repeat' (first | ((first | refine aops_nil ?_ | refine aqops_nil ?_); (try simp only [NB])) | ((repeat ((fail_if_success (refine hK _ ?_)); clear hK K)); refine hK _ ?_; clear hK K) | ((first | refine aops_k fun K1 hK1 => ?_ | refine aqops_k fun K1 hK1 => ?_ | refine awp_cond_k fun A B hA hB => ?_); simp only [S1, simprocAttr, TTScX, b1, c1, c2, dk, rw_run, rw_ps, wRun, wPs, Int.toNat_natCast, Nat.mul_one, Nat.zero_add]; first | (refine hK1 _ ?_; clear hK1 K1) | ((first | refine hA ?_ | refine hB ?_); clear hA hB A B) | ((first | apply call_a E27 | apply call_q E27); exact hw; (refine hK1 _ ?_; clear hK1 K1)) | (((first | (refine ⟨fun hg => hA ?_, fun hg => hB ?_⟩ <;> clear hA hB A B) | refine ⟨fun hg => ?_, fun hg => ?_⟩) <;> (try simp only [BN2] at hg) <;> (try simp only [hg, cond_true, cond_false])) <;> (try (refine hK1 _ ?_; clear hK1 K1)) <;> (try simp only [BN3] at hg))) | (refine awp_seq_k fun K hK => ?_) | ((first | refine awp_region ?_ | refine awp_draw (by kernel_rfl) ?_ | refine awp_block ?_ | refine awp_exit ?_ | refine awp_skip ?_ | refine awp_ret ?_); (try simp only [NB, simprocAttr])))
    all_goals simp only [EndP, FinP, resA, resL, resA1, lastV, lastA, lastAs, pur, purs, take_app, List.take_length, S1, simprocAttr, TTScX, Nat.le_add_right, Nat.le_refl, rw_len, rw_take]
    all_goals rfl

def gX (g : Rw) (t : Ro) : Rw := ⟨g.gp, g.gl + 1 + t.ac.length⟩
theorem FaultR_good (pl : PlOk P) (i : Nat) (hi : i < P.length) (h1 : s.st i = 1) :
    ACalls Try.prog G 21 [.ptr h.length 0 0, .i i] (rwH h P g s L) (fun r h' => r = .tup [.ref (h.length + 2) (gX g (faultRX P s i)).gl 0 2 (faultRX P s i).ac.length, .i 0] ∧ h' = rwH h P (gX g (faultRX P s i)) (faultRX P s i) L) := by
  have hw := in_calls (G := G) (h := h) (P := P) (g := g) (s := s) (L := L) i
  unfold isIn at hw
  rw [if_neg (by omega)] at hw
  have hn := pl.n32
  obtain ⟨s0, hs0⟩ : ∃ s0 : Ro, s0 = ⟨s.st, s.wh, s.clk, []⟩ := ⟨_, rfl⟩
  have hgX : ∀ t, gX g t = gR ⟨g.gp, g.gl + 1⟩ s0 t := fun t => by rw [hs0]; unfold gX gR; simp
  simp only [hgX]
  have hac0 : s0.ac.length = 0 := by rw [hs0]; rfl
  have hpot0 : pot P s0 ≤ P.length := by
    have := live_le P.length s0.st
    unfold AM.pot; omega
  have hT : faultRX P s i = faultR P P.length i s0 := by rw [hs0]; rfl
  rw [hT]
  obtain ⟨T, hTd⟩ : ∃ T, T = faultR P P.length i s0 := ⟨_, rfl⟩
  rw [← hTd]
  have b1 : (s.st i != 1) = false := by simp [h1]
  have i0 : (0 : Int) ≤ (i : Int) := by omega
  have il : (i : Int) < (P.length : Int) := by omega
  have di := one_at3 (s := s) hi
  refine Sim.evoKeepG (rl := []) mixed Try.func21 rfl (by rw [Try.ntmps21]; simp) ?_
  rw [Try.ntmps21]
  refine awp_seq_k fun K hK => ?_
  repeat' (first | ((first | refine aops_nil ?_ | refine aqops_nil ?_); (try simp only [NB]); ((repeat ((fail_if_success (refine hK _ ?_)); clear hK K)); refine hK _ ?_; clear hK K)) | ((first | refine aops_k fun K1 hK1 => ?_ | refine aqops_k fun K1 hK1 => ?_ | refine awp_cond_k fun A B hA hB => ?_); simp only [S1, simprocAttr, TTScX]; first | (refine hK1 _ ?_; clear hK1 K1) | ((first | refine hA ?_ | refine hB ?_); clear hA hB A B) | (refine join_x (v := ?_) (fun hg hk9 => ?_) ?_; rotate_left; (focus (try ((try simp only [BN] at hg); simp only [S1, simprocAttr, TTScX, hg] at hk9 ⊢)); first | exact hk9); (refine hK1 _ ?_; clear hK1 K1)) | (((first | (refine ⟨fun hg => hA ?_, fun hg => hB ?_⟩ <;> clear hA hB A B) | refine ⟨fun hg => ?_, fun hg => ?_⟩) <;> (try simp only [BN2] at hg) <;> (try simp only [hg, cond_true, cond_false])) <;> (try (refine hK1 _ ?_; clear hK1 K1)) <;> (try simp only [BN3] at hg))) | (fail) | ((first | refine awp_region ?_ | refine awp_draw (by kernel_rfl) ?_ | refine awp_block ?_ | refine awp_exit ?_ | refine awp_skip ?_ | refine awp_ret ?_); (try simp only [NB, simprocAttr]); (try ((repeat ((fail_if_success (refine hK _ ?_)); clear hK K)); refine hK _ ?_; clear hK K))))
  refine awp_seq_k fun K hK => ?_
  refine awp_seq_k fun K hK => ?_
  repeat' (first | ((first | refine aops_nil ?_ | refine aqops_nil ?_); (try simp only [NB]); ((repeat ((fail_if_success (refine hK _ ?_)); clear hK K)); refine hK _ ?_; clear hK K)) | ((first | refine aops_k fun K1 hK1 => ?_ | refine aqops_k fun K1 hK1 => ?_ | refine awp_cond_k fun A B hA hB => ?_); simp only [S1, simprocAttr, TTScX]; first | (refine hK1 _ ?_; clear hK1 K1) | ((first | refine hA ?_ | refine hB ?_); clear hA hB A B) | ((first | apply call_a E27 | apply call_q E27); exact hw; (refine hK1 _ ?_; clear hK1 K1)) | (refine join_x (v := ?_) (fun hg hk9 => ?_) ?_; rotate_left; (focus (try ((try simp only [BN] at hg); simp only [S1, simprocAttr, TTScX, hg] at hk9 ⊢)); first | exact hk9 | ((first | apply call_a E27 | apply call_q E27); exact hw; exact hk9)); (refine hK1 _ ?_; clear hK1 K1)) | (((first | (refine ⟨fun hg => hA ?_, fun hg => hB ?_⟩ <;> clear hA hB A B) | refine ⟨fun hg => ?_, fun hg => ?_⟩) <;> (try simp only [BN2] at hg) <;> (try simp only [hg, cond_true, cond_false])) <;> (try (refine hK1 _ ?_; clear hK1 K1)) <;> (try simp only [BN3] at hg))) | (fail) | ((first | refine awp_region ?_ | refine awp_draw (by kernel_rfl) ?_ | refine awp_block ?_ | refine awp_exit ?_ | refine awp_skip ?_ | refine awp_ret ?_); (try simp only [NB, simprocAttr]); (try ((repeat ((fail_if_success (refine hK _ ?_)); clear hK K)); refine hK _ ?_; clear hK K))))
  repeat' (first | ((first | refine aops_nil ?_ | refine aqops_nil ?_); (try simp only [NB]); ((repeat ((fail_if_success (refine hK _ ?_)); clear hK K)); refine hK _ ?_; clear hK K)) | ((first | refine aops_k fun K1 hK1 => ?_ | refine aqops_k fun K1 hK1 => ?_ | refine awp_cond_k fun A B hA hB => ?_); simp only [S1, simprocAttr, TTScX]; first | (refine hK1 _ ?_; clear hK1 K1) | ((first | refine hA ?_ | refine hB ?_); clear hA hB A B) | (refine join_x (v := ?_) (fun hg hk9 => ?_) ?_; rotate_left; (focus (try ((try simp only [BN] at hg); simp only [S1, simprocAttr, TTScX, hg] at hk9 ⊢)); first | exact hk9); (refine hK1 _ ?_; clear hK1 K1)) | (((first | (refine ⟨fun hg => hA ?_, fun hg => hB ?_⟩ <;> clear hA hB A B) | refine ⟨fun hg => ?_, fun hg => ?_⟩) <;> (try simp only [BN2] at hg) <;> (try simp only [hg, cond_true, cond_false])) <;> (try (refine hK1 _ ?_; clear hK1 K1)) <;> (try simp only [BN3] at hg))) | (fail) | ((first | refine awp_region ?_ | refine awp_draw (by kernel_rfl) ?_ | refine awp_block ?_ | refine awp_exit ?_ | refine awp_skip ?_ | refine awp_ret ?_); (try simp only [NB, simprocAttr]); (try ((repeat ((fail_if_success (refine hK _ ?_)); clear hK K)); refine hK _ ?_; clear hK K))))
  refine awp_seq_k fun K hK => ?_
  refine awp_seq_k fun K hK => ?_
  repeat' (first | ((first | refine aops_nil ?_ | refine aqops_nil ?_); (try simp only [NB]); ((repeat ((fail_if_success (refine hK _ ?_)); clear hK K)); refine hK _ ?_; clear hK K)) | ((first | refine aops_k fun K1 hK1 => ?_ | refine aqops_k fun K1 hK1 => ?_ | refine awp_cond_k fun A B hA hB => ?_); simp only [S1, simprocAttr, TTScX, b1, i0, il, di, rw_run, rw_ps, wRun, wPs, Int.toNat_natCast, Nat.mul_one, Nat.zero_add]; first | (refine hK1 _ ?_; clear hK1 K1) | ((first | refine hA ?_ | refine hB ?_); clear hA hB A B) | (refine join_x (v := ?_) (fun hg hk9 => ?_) ?_; rotate_left; (focus (try ((try simp only [BN] at hg); simp only [S1, simprocAttr, TTScX, b1, i0, il, di, rw_run, rw_ps, wRun, wPs, Int.toNat_natCast, Nat.mul_one, Nat.zero_add, hg] at hk9 ⊢)); first | exact hk9); (refine hK1 _ ?_; clear hK1 K1)) | (((first | (refine ⟨fun hg => hA ?_, fun hg => hB ?_⟩ <;> clear hA hB A B) | refine ⟨fun hg => ?_, fun hg => ?_⟩) <;> (try simp only [BN2] at hg) <;> (try simp only [hg, cond_true, cond_false])) <;> (try (refine hK1 _ ?_; clear hK1 K1)) <;> (try simp only [BN3] at hg))) | (fail) | ((first | refine awp_region ?_ | refine awp_draw (by kernel_rfl) ?_ | refine awp_block ?_ | refine awp_exit ?_ | refine awp_skip ?_ | refine awp_ret ?_); (try simp only [NB, simprocAttr]); (try ((repeat ((fail_if_success (refine hK _ ?_)); clear hK K)); refine hK _ ?_; clear hK K))))
  repeat' (first | ((first | refine aops_nil ?_ | refine aqops_nil ?_); (try simp only [NB]); ((repeat ((fail_if_success (refine hK _ ?_)); clear hK K)); refine hK _ ?_; clear hK K)) | ((first | refine aops_k fun K1 hK1 => ?_ | refine aqops_k fun K1 hK1 => ?_ | refine awp_cond_k fun A B hA hB => ?_); simp only [S1, simprocAttr, TTScX]; first | (refine hK1 _ ?_; clear hK1 K1) | ((first | refine hA ?_ | refine hB ?_); clear hA hB A B) | (refine join_x (v := ?_) (fun hg hk9 => ?_) ?_; rotate_left; (focus (try ((try simp only [BN] at hg); simp only [S1, simprocAttr, TTScX, hg] at hk9 ⊢)); first | exact hk9); (refine hK1 _ ?_; clear hK1 K1)) | (((first | (refine ⟨fun hg => hA ?_, fun hg => hB ?_⟩ <;> clear hA hB A B) | refine ⟨fun hg => ?_, fun hg => ?_⟩) <;> (try simp only [BN2] at hg) <;> (try simp only [hg, cond_true, cond_false])) <;> (try (refine hK1 _ ?_; clear hK1 K1)) <;> (try simp only [BN3] at hg))) | (fail) | ((first | refine awp_region ?_ | refine awp_draw (by kernel_rfl) ?_ | refine awp_block ?_ | refine awp_exit ?_ | refine awp_skip ?_ | refine awp_ret ?_); (try simp only [NB, simprocAttr]); (try ((repeat ((fail_if_success (refine hK _ ?_)); clear hK K)); refine hK _ ?_; clear hK K))))
  refine awp_tellG ⟨frL [(0, .ptr h.length 0 0), (1, .i i)], 92, rwH h P ⟨g.gp, g.gl + 1⟩ ⟨s.st, s.wh, s.clk, []⟩ L ++ []⟩ (fun K hK => ?_) ?_
  · repeat' (first | ((first | refine aops_nil ?_ | refine aqops_nil ?_); (try simp only [NB]); ((repeat ((fail_if_success (refine hK _ ?_)); clear hK K)); refine hK _ ?_; clear hK K)) | ((first | refine aops_k fun K1 hK1 => ?_ | refine aqops_k fun K1 hK1 => ?_ | refine awp_cond_k fun A B hA hB => ?_); simp only [S1, simprocAttr, TTScX, rw_run, wRun]; first | (refine hK1 _ ?_; clear hK1 K1) | ((first | refine hA ?_ | refine hB ?_); clear hA hB A B) | (refine join_x (v := ?_) (fun hg hk9 => ?_) ?_; rotate_left; (focus (try ((try simp only [BN] at hg); simp only [S1, simprocAttr, TTScX, rw_run, wRun, hg] at hk9 ⊢)); first | exact hk9); (refine hK1 _ ?_; clear hK1 K1)) | (((first | (refine ⟨fun hg => hA ?_, fun hg => hB ?_⟩ <;> clear hA hB A B) | refine ⟨fun hg => ?_, fun hg => ?_⟩) <;> (try simp only [BN2] at hg) <;> (try simp only [hg, cond_true, cond_false])) <;> (try (refine hK1 _ ?_; clear hK1 K1)) <;> (try simp only [BN3] at hg))) | (fail) | ((first | refine awp_region ?_ | refine awp_draw (by kernel_rfl) ?_ | refine awp_block ?_ | refine awp_exit ?_ | refine awp_skip ?_ | refine awp_ret ?_); (try simp only [NB, simprocAttr]); (try ((repeat ((fail_if_success (refine hK _ ?_)); clear hK K)); refine hK _ ?_; clear hK K))))
    all_goals refine rw_reset ?_
    all_goals simp only [keeps, avlt, avlts, blksLt, frL, upd_get, S1, simprocAttr, List.length_map, Int.natCast_zero, AV.p.injEq, PV.int.injEq, PV.bool.injEq, PV.sl.injEq] <;> (try and_intros) <;> (try assumption) <;> (try trivial) <;> (try omega)
  rw [List.append_nil, ← hs0]
  clear hs0 hw b1 di
  have hR : ∀ (g : Rw) (s : Ro), (rwH h P g s L)[h.length]? = some (wRun h.length P g s) := fun _ _ => rw_run
  have hPs : ∀ (g : Rw) (s : Ro), (rwH h P g s L)[h.length + 1]? = some (wPs P g s) := fun _ _ => rw_ps
  have hAc : ∀ (g : Rw) (s : Ro), (rwH h P g s L)[h.length + 2]? = some (wAc g s) := fun _ _ => rw_ac
  generalize (⟨g.gp, g.gl + 1⟩ : Rw) = g1 at *
  repeat' (first | ((first | refine aops_nil ?_ | refine aqops_nil ?_); (try simp only [NB]); ((repeat ((fail_if_success (refine hK _ ?_)); clear hK K)); refine hK _ ?_; clear hK K)) | ((first | refine aops_k fun K1 hK1 => ?_ | refine aqops_k fun K1 hK1 => ?_ | refine awp_cond_k fun A B hA hB => ?_); simp only [S1, simprocAttr, TTScX]; first | (refine hK1 _ ?_; clear hK1 K1) | ((first | refine hA ?_ | refine hB ?_); clear hA hB A B) | (refine join_x (v := ?_) (fun hg hk9 => ?_) ?_; rotate_left; (focus (try ((try simp only [BN] at hg); simp only [S1, simprocAttr, TTScX, hg] at hk9 ⊢)); first | exact hk9); (refine hK1 _ ?_; clear hK1 K1)) | (((first | (refine ⟨fun hg => hA ?_, fun hg => hB ?_⟩ <;> clear hA hB A B) | refine ⟨fun hg => ?_, fun hg => ?_⟩) <;> (try simp only [BN2] at hg) <;> (try simp only [hg, cond_true, cond_false])) <;> (try (refine hK1 _ ?_; clear hK1 K1)) <;> (try simp only [BN3] at hg))) | (fail) | ((first | refine awp_region ?_ | refine awp_draw (by kernel_rfl) ?_ | refine awp_block ?_ | refine awp_exit ?_ | refine awp_skip ?_ | refine awp_ret ?_); (try simp only [NB, simprocAttr]); (try ((repeat ((fail_if_success (refine hK _ ?_)); clear hK K)); refine hK _ ?_; clear hK K))))
  refine awp_seq_k fun K hK => ?_
  refine awp_seq_k fun K hK => ?_
  repeat' (first | ((first | refine aops_nil ?_ | refine aqops_nil ?_); (try simp only [NB]); ((repeat ((fail_if_success (refine hK _ ?_)); clear hK K)); refine hK _ ?_; clear hK K)) | ((first | refine aops_k fun K1 hK1 => ?_ | refine aqops_k fun K1 hK1 => ?_ | refine awp_cond_k fun A B hA hB => ?_); simp only [S1, simprocAttr, TTScX]; first | (refine hK1 _ ?_; clear hK1 K1) | ((first | refine hA ?_ | refine hB ?_); clear hA hB A B) | (refine join_x (v := ?_) (fun hg hk9 => ?_) ?_; rotate_left; (focus (try ((try simp only [BN] at hg); simp only [S1, simprocAttr, TTScX, hg] at hk9 ⊢)); first | exact hk9); (refine hK1 _ ?_; clear hK1 K1)) | (((first | (refine ⟨fun hg => hA ?_, fun hg => hB ?_⟩ <;> clear hA hB A B) | refine ⟨fun hg => ?_, fun hg => ?_⟩) <;> (try simp only [BN2] at hg) <;> (try simp only [hg, cond_true, cond_false])) <;> (try (refine hK1 _ ?_; clear hK1 K1)) <;> (try simp only [BN3] at hg))) | (fail) | ((first | refine awp_region ?_ | refine awp_draw (by kernel_rfl) ?_ | refine awp_block ?_ | refine awp_exit ?_ | refine awp_skip ?_ | refine awp_ret ?_); (try simp only [NB, simprocAttr]); (try ((repeat ((fail_if_success (refine hK _ ?_)); clear hK K)); refine hK _ ?_; clear hK K))))
  refine awp_whileH (fun x : Nat × Int × Ro => x.1) 92 (fun x => rwH h P (gR g1 s0 x.2.2) x.2.2 L) (fun x => [(6, .i x.2.1), (0, .ptr h.length 0 0)]) (fun _ => [])
    (fun x => -1 ≤ x.2.1 ∧ x.2.1 < x.1 ∧ x.2.1 < P.length ∧ faultR P x.1 x.2.1 x.2.2 = T ∧ pot P x.2.2 + x.1 ≤ 200) (P.length, (i : Int), s0)
    (fun x => ⟨by rw [rw_len, rw_len], fun i bk hi => by rw [rw_len]; exact rw_keepA i bk hi⟩) ?_ ⟨by simp only; omega, by simp only; omega, by simp only; omega, hTd.symm, by simp only; omega⟩ ?_
  · simp only [gR_self]
    refine ⟨rfl, ⟨[], by simp⟩, ?_, trivial⟩
    simp only [keeps, avlt, avlts, blksLt, frL, upd_get, rw_len, S1, simprocAttr, List.length_map, List.length_cons, List.length_nil, Int.natCast_zero, AV.p.injEq, PV.int.injEq, PV.bool.injEq, PV.sl.injEq] <;> (try and_intros) <;> (try assumption) <;> (try trivial) <;> (try omega)
  rintro ⟨d, k, e⟩ ⟨k1, kd, kn, hTe, hpt⟩ K hK
  simp only at k1 kd kn hTe hpt ⊢
  rw [List.append_nil]
  by_cases kz : k < 0
  · have eT : e = T := by
      cases d with
      | zero => exact hTe
      | succ d => unfold faultR at hTe; rw [if_pos kz] at hTe; exact hTe
    have c : ¬ 0 ≤ k := by omega
    rw [eT]
    repeat' (first | ((first | refine aops_nil ?_ | refine aqops_nil ?_); (try simp only [NB])) | ((repeat ((fail_if_success (refine hK _ ?_)); clear hK K)); refine hK _ ?_; clear hK K) | ((first | refine aops_k fun K1 hK1 => ?_ | refine aqops_k fun K1 hK1 => ?_ | refine awp_cond_k fun A B hA hB => ?_); simp only [S1, simprocAttr, TTScX, c, hR, wRun]; first | (refine hK1 _ ?_; clear hK1 K1) | ((first | refine hA ?_ | refine hB ?_); clear hA hB A B) | (refine join_x (v := ?_) (fun hg hk9 => ?_) ?_; rotate_left; (focus (try ((try simp only [BN] at hg); simp only [S1, simprocAttr, TTScX, c, hR, wRun, hg] at hk9 ⊢)); first | exact hk9); (refine hK1 _ ?_; clear hK1 K1)) | (((first | (refine ⟨fun hg => hA ?_, fun hg => hB ?_⟩ <;> clear hA hB A B) | refine ⟨fun hg => ?_, fun hg => ?_⟩) <;> (try simp only [BN2] at hg) <;> (try simp only [hg, cond_true, cond_false])) <;> (try (refine hK1 _ ?_; clear hK1 K1)) <;> (try simp only [BN3] at hg))) | (refine awp_seq_k fun K hK => ?_) | ((first | refine awp_region ?_ | refine awp_draw (by kernel_rfl) ?_ | refine awp_block ?_ | refine awp_exit ?_ | refine awp_skip ?_ | refine awp_ret ?_); (try simp only [NB, simprocAttr])))
    all_goals refine ⟨.inr trivial, _, Ghost.refl, ?_⟩
    all_goals exact ⟨by rw [rw_len]; exact Nat.le_of_eq rw_len.symm, rfl, rfl⟩
  · obtain ⟨q, rfl⟩ : ∃ q : Nat, k = (q : Int) := ⟨k.toNat, by omega⟩
    obtain ⟨d, rfl⟩ : ∃ d', d = d' + 1 := ⟨d - 1, by omega⟩
    have hqn : q < P.length := by omega
    have q0 : (0 : Int) ≤ (q : Int) := by omega
    have hc1 := endsR_calls (G := G) (h := h) hn P.length q e (by omega) (by omega) (gR g1 s0 e) L
    have ht1 := ends_to (P := P) P.length q e
    rw [gR_trans (by omega) ht1.le] at hc1
    have hp1 := ht1.pot
    have hc2 := undosR_calls (G := G) (h := h) pl P.length q (endsR P P.length q e) (by omega) (by omega) (gR g1 s0 (endsR P P.length q e)) L
    have ht2 := undos_to pl P.length q (endsR P P.length q e)
    rw [gR_trans (by omega) ht2.le] at hc2
    have hp2 := ht2.pot
    unfold faultR at hTe
    rw [if_neg kz] at hTe
    simp only [Int.toNat_natCast] at hTe
    generalize hb1 : endsR P P.length q e = b1 at *
    generalize hb : undosR P P.length q b1 = b at *
    clear hb hb1 ht1 ht2
    have hba : b.ac.length ≤ 1000 := Nat.le_trans (pot_le (P := P)) (by omega)
    have hmax : b.ac.length + 1 ≤ maxCount := by unfold maxCount; omega
    have hcl := cAct_len b.ac
    have hcn := cOne_len (P := P) (s := b)
    have kl1 : q * 5 + 3 + 1 ≤ P.length * 5 := by omega
    have kl2 : q * 5 + 3 < P.length * 5 := by omega
    have d1 := one_at1 (s := b) hqn
    cases c1 : catA P q with
    | true =>
      rw [c1] at hTe d1
      rw [if_pos rfl] at hTe
      have hos := one_set (s := b) hqn 5
      have hss := rw_sst (h := h) (P := P) (g := gR g1 s0 b) (s := b) (L := L) q 5
      have hs2 := rw_act (h := h) (P := P) (g := gR g1 s0 b) (s := ⟨upI b.st q 5, b.wh, b.clk, b.ac⟩) (L := L) 3 q
      have hga := gR_act g1 s0 b (by omega) (upI b.st q 5) b.wh b.clk (3, q)
      rw [hga, hTe] at hs2
      have hr2 := fun x => rw_r2 (h := h) (P := P) (g := gR g1 s0 b) (s := ⟨upI b.st q 5, b.wh, b.clk, b.ac⟩) (L := L) x
      repeat' (first | ((first | refine aops_nil ?_ | refine aqops_nil ?_); (try simp only [NB])) | ((repeat ((fail_if_success (refine hK _ ?_)); clear hK K)); refine hK _ ?_; clear hK K) | ((first | refine aops_k fun K1 hK1 => ?_ | refine aqops_k fun K1 hK1 => ?_ | refine awp_cond_k fun A B hA hB => ?_); simp only [S1, simprocAttr, TTScX, d1, q0, kn, hR, hPs, hAc, hmax, hcl, hos, hcn, kl1, kl2, hss, hs2, hr2, wPs, wRun, wAc, Int.toNat_natCast, List.drop_zero, Nat.mul_one, Nat.zero_add]; first | (refine hK1 _ ?_; clear hK1 K1) | ((first | refine hA ?_ | refine hB ?_); clear hA hB A B) | ((first | apply call_a E28 | apply call_q E28); exact hc1; (refine hK1 _ ?_; clear hK1 K1)) | ((first | apply call_a E29 | apply call_q E29); exact hc2; (refine hK1 _ ?_; clear hK1 K1)) | (refine join_x (v := ?_) (fun hg hk9 => ?_) ?_; rotate_left; (focus (try ((try simp only [BN] at hg); simp only [S1, simprocAttr, TTScX, d1, q0, kn, hR, hPs, hAc, hmax, hcl, hos, hcn, kl1, kl2, hss, hs2, hr2, wPs, wRun, wAc, Int.toNat_natCast, List.drop_zero, Nat.mul_one, Nat.zero_add, hg] at hk9 ⊢)); first | exact hk9 | ((first | apply call_a E28 | apply call_q E28); exact hc1; exact hk9) | ((first | apply call_a E29 | apply call_q E29); exact hc2; exact hk9)); (refine hK1 _ ?_; clear hK1 K1)) | (((first | (refine ⟨fun hg => hA ?_, fun hg => hB ?_⟩ <;> clear hA hB A B) | refine ⟨fun hg => ?_, fun hg => ?_⟩) <;> (try simp only [BN2] at hg) <;> (try simp only [hg, cond_true, cond_false])) <;> (try (refine hK1 _ ?_; clear hK1 K1)) <;> (try simp only [BN3] at hg))) | (refine awp_seq_k fun K hK => ?_) | ((first | refine awp_region ?_ | refine awp_draw (by kernel_rfl) ?_ | refine awp_block ?_ | refine awp_exit ?_ | refine awp_skip ?_ | refine awp_ret ?_); (try simp only [NB, simprocAttr])))
      all_goals refine ⟨.inr trivial, _, Ghost.refl, ?_⟩
      all_goals exact ⟨by rw [rw_len]; exact Nat.le_of_eq rw_len.symm, rfl, rfl⟩
    | false =>
      rw [c1] at hTe d1
      rw [if_neg (by simp)] at hTe
      have hos := one_set (s := b) hqn 6
      have hss := rw_sst (h := h) (P := P) (g := gR g1 s0 b) (s := b) (L := L) q 6
      have hs2 := rw_act (h := h) (P := P) (g := gR g1 s0 b) (s := ⟨upI b.st q 6, b.wh, b.clk, b.ac⟩) (L := L) 4 q
      have hga := gR_act g1 s0 b (by omega) (upI b.st q 6) b.wh b.clk (4, q)
      have hpe := pot_end (P := P) (s := b) (x := 6) (w := 4) hqn (by omega)
      rw [hga] at hs2
      have hr2 := fun x => rw_r2 (h := h) (P := P) (g := gR g1 s0 b) (s := ⟨upI b.st q 6, b.wh, b.clk, b.ac⟩) (L := L) x
      generalize (⟨upI b.st q 6, b.wh, b.clk, b.ac ++ [(4, q)]⟩ : Ro) = F at *
      have d0 := one_at (s := F) hqn
      repeat' (first | ((first | refine aops_nil ?_ | refine aqops_nil ?_); (try simp only [NB])) | ((repeat ((fail_if_success (refine hK _ ?_)); clear hK K)); refine hK _ ?_; clear hK K) | ((first | refine aops_k fun K1 hK1 => ?_ | refine aqops_k fun K1 hK1 => ?_ | refine awp_cond_k fun A B hA hB => ?_); simp only [S1, simprocAttr, TTScX, d1, d0, q0, kn, hR, hPs, hAc, hmax, hcl, hos, hcn, kl1, kl2, hss, hs2, hr2, wPs, wRun, wAc, Int.toNat_natCast, List.drop_zero, Nat.mul_one, Nat.zero_add]; first | (refine hK1 _ ?_; clear hK1 K1) | ((first | refine hA ?_ | refine hB ?_); clear hA hB A B) | ((first | apply call_a E28 | apply call_q E28); exact hc1; (refine hK1 _ ?_; clear hK1 K1)) | ((first | apply call_a E29 | apply call_q E29); exact hc2; (refine hK1 _ ?_; clear hK1 K1)) | (refine join_x (v := ?_) (fun hg hk9 => ?_) ?_; rotate_left; (focus (try ((try simp only [BN] at hg); simp only [S1, simprocAttr, TTScX, d1, d0, q0, kn, hR, hPs, hAc, hmax, hcl, hos, hcn, kl1, kl2, hss, hs2, hr2, wPs, wRun, wAc, Int.toNat_natCast, List.drop_zero, Nat.mul_one, Nat.zero_add, hg] at hk9 ⊢)); first | exact hk9 | ((first | apply call_a E28 | apply call_q E28); exact hc1; exact hk9) | ((first | apply call_a E29 | apply call_q E29); exact hc2; exact hk9)); (refine hK1 _ ?_; clear hK1 K1)) | (((first | (refine ⟨fun hg => hA ?_, fun hg => hB ?_⟩ <;> clear hA hB A B) | refine ⟨fun hg => ?_, fun hg => ?_⟩) <;> (try simp only [BN2] at hg) <;> (try simp only [hg, cond_true, cond_false])) <;> (try (refine hK1 _ ?_; clear hK1 K1)) <;> (try simp only [BN3] at hg))) | (refine awp_seq_k fun K hK => ?_) | ((first | refine awp_region ?_ | refine awp_draw (by kernel_rfl) ?_ | refine awp_block ?_ | refine awp_exit ?_ | refine awp_skip ?_ | refine awp_ret ?_); (try simp only [NB, simprocAttr])))
      all_goals refine ⟨(d, parA P q, F), Nat.lt_succ_self d, ⟨?_, ?_, ?_, hTe, ?_⟩, rfl, ⟨[], by simp⟩, ?_, trivial⟩
      · rcases Nat.eq_zero_or_pos q with rfl | hq
        · rw [pl.root]; simp
        · have := pl.par q hq hqn; simp only; omega
      · rcases Nat.eq_zero_or_pos q with rfl | hq
        · rw [pl.root]; simp only; omega
        · have := pl.par q hq hqn; simp only; omega
      · rcases Nat.eq_zero_or_pos q with rfl | hq
        · rw [pl.root]; simp only; omega
        · have := pl.par q hq hqn; simp only; omega
      · simp only; omega
      all_goals simp only [keeps, avlt, avlts, blksLt, frL, upd_get, rw_len, S1, simprocAttr, List.length_map, List.length_cons, List.length_nil, Int.natCast_zero, AV.p.injEq, PV.int.injEq, PV.bool.injEq, PV.sl.injEq] <;> (try and_intros) <;> (try assumption) <;> (try trivial) <;> (try omega)
end
end Go.Proofs.Ytkmcecbglomemaa.AM
end

section
set_option linter.unusedVariables false
set_option linter.unusedSimpArgs false
set_option maxRecDepth 4000
set_option maxHeartbeats 4000000
namespace Go.Proofs.Ytkmcecbglomemaa.AM
open Go Go.Proofs
set_option linter.defProp false in
def TTScY := And.intro T2 (And.intro T3 (And.intro T4 (And.intro T22 (And.intro T29 (And.intro T32 (And.intro T45 (And.intro T49 (And.intro T55 (And.intro T56 (And.intro T57 (And.intro T59 (And.intro T61 T64))))))))))))
attribute [local irreducible] awp aops aqops aeops arun arunT arunN
variable {G : Nat → Option (List PV)}

section
variable {P : List Sc}
def goodP (P : List Sc) (k : Nat) : Prop := (k = 0 → parA P k = -1) ∧ (0 < k → 0 ≤ parA P k ∧ parA P k < k)
theorem PlOk.of (h1 : 1 ≤ P.length) (h2 : P.length ≤ 32) (h : ∀ k, k < P.length → goodP P k) : PlOk P :=
  ⟨h1, h2, (h 0 (by omega)).1 rfl, fun k h0 hk => (h k hk).2 h0⟩
theorem parA_at {k : Nat} {s : Sc} (hx : P[k]? = some s) : parA P k = s.1 := by unfold parA; rw [hx]

theorem New_bad (hP : ¬ PlOk P) (h : Heap) : ACalls Try.prog G 8 [aSc P] h (fun r h' => r = .tup [.p .nilp, .i 1] ∧ h' = h) := by
  by_cases c1 : (P.length : Int) < 1
  · refine acalls_pure (rl := []) mixed Try.func8 rfl (rs := [.tmp 2, .tmp 3]) rfl Try.ntmps8 (by simp) ?_
    repeat' (first | ((first | refine aops_nil ?_ | refine aqops_nil ?_); (try simp only [NB])) | ((repeat ((fail_if_success (refine hK _ ?_)); clear hK K)); refine hK _ ?_; clear hK K) | ((first | refine aops_k fun K1 hK1 => ?_ | refine aqops_k fun K1 hK1 => ?_ | refine awp_cond_k fun A B hA hB => ?_); simp only [S1, simprocAttr, TTScY, c1, List.length_map]; first | (refine hK1 _ ?_; clear hK1 K1) | ((first | refine hA ?_ | refine hB ?_); clear hA hB A B) | (refine join_x (v := ?_) (fun hg hk9 => ?_) ?_; rotate_left; (focus (try ((try simp only [BN] at hg); simp only [S1, simprocAttr, TTScY, c1, List.length_map, hg] at hk9 ⊢)); first | exact hk9); (refine hK1 _ ?_; clear hK1 K1)) | (((first | (refine ⟨fun hg => hA ?_, fun hg => hB ?_⟩ <;> clear hA hB A B) | refine ⟨fun hg => ?_, fun hg => ?_⟩) <;> (try simp only [BN2] at hg) <;> (try simp only [hg, cond_true, cond_false])) <;> (try (refine hK1 _ ?_; clear hK1 K1)) <;> (try simp only [BN3] at hg))) | (refine awp_seq_k fun K hK => ?_) | ((first | refine awp_region ?_ | refine awp_draw (by kernel_rfl) ?_ | refine awp_block ?_ | refine awp_exit ?_ | refine awp_skip ?_ | refine awp_ret ?_); (try simp only [NB, simprocAttr])))
    all_goals simp only [EndP, FinP, resA, resL, resA1, lastV, lastA, lastAs, pur, purs, take_app, List.take_length, S1, simprocAttr, TTScY, Nat.le_add_right, Nat.le_refl]
  by_cases c2 : (32 : Int) < (P.length : Int)
  · refine acalls_pure (rl := []) mixed Try.func8 rfl (rs := [.tmp 2, .tmp 3]) rfl Try.ntmps8 (by simp) ?_
    repeat' (first | ((first | refine aops_nil ?_ | refine aqops_nil ?_); (try simp only [NB])) | ((repeat ((fail_if_success (refine hK _ ?_)); clear hK K)); refine hK _ ?_; clear hK K) | ((first | refine aops_k fun K1 hK1 => ?_ | refine aqops_k fun K1 hK1 => ?_ | refine awp_cond_k fun A B hA hB => ?_); simp only [S1, simprocAttr, TTScY, c1, c2, List.length_map]; first | (refine hK1 _ ?_; clear hK1 K1) | ((first | refine hA ?_ | refine hB ?_); clear hA hB A B) | (refine join_x (v := ?_) (fun hg hk9 => ?_) ?_; rotate_left; (focus (try ((try simp only [BN] at hg); simp only [S1, simprocAttr, TTScY, c1, c2, List.length_map, hg] at hk9 ⊢)); first | exact hk9); (refine hK1 _ ?_; clear hK1 K1)) | (((first | (refine ⟨fun hg => hA ?_, fun hg => hB ?_⟩ <;> clear hA hB A B) | refine ⟨fun hg => ?_, fun hg => ?_⟩) <;> (try simp only [BN2] at hg) <;> (try simp only [hg, cond_true, cond_false])) <;> (try (refine hK1 _ ?_; clear hK1 K1)) <;> (try simp only [BN3] at hg))) | (refine awp_seq_k fun K hK => ?_) | ((first | refine awp_region ?_ | refine awp_draw (by kernel_rfl) ?_ | refine awp_block ?_ | refine awp_exit ?_ | refine awp_skip ?_ | refine awp_ret ?_); (try simp only [NB, simprocAttr])))
    all_goals simp only [EndP, FinP, resA, resL, resA1, lastV, lastA, lastAs, pur, purs, take_app, List.take_length, S1, simprocAttr, TTScY, Nat.le_add_right, Nat.le_refl]
  refine acalls_pure (rl := []) mixed Try.func8 rfl (rs := [.tmp 2, .tmp 3]) rfl Try.ntmps8 (by simp) ?_
  repeat' (first | ((first | refine aops_nil ?_ | refine aqops_nil ?_); (try simp only [NB])) | ((repeat ((fail_if_success (refine hK _ ?_)); clear hK K)); refine hK _ ?_; clear hK K) | ((first | refine aops_k fun K1 hK1 => ?_ | refine aqops_k fun K1 hK1 => ?_ | refine awp_cond_k fun A B hA hB => ?_); simp only [S1, simprocAttr, TTScY, c1, c2, List.length_map]; first | (refine hK1 _ ?_; clear hK1 K1) | ((first | refine hA ?_ | refine hB ?_); clear hA hB A B) | (refine join_x (v := ?_) (fun hg hk9 => ?_) ?_; rotate_left; (focus (try ((try simp only [BN] at hg); simp only [S1, simprocAttr, TTScY, c1, c2, List.length_map, hg] at hk9 ⊢)); first | exact hk9); (refine hK1 _ ?_; clear hK1 K1)) | (((first | (refine ⟨fun hg => hA ?_, fun hg => hB ?_⟩ <;> clear hA hB A B) | refine ⟨fun hg => ?_, fun hg => ?_⟩) <;> (try simp only [BN2] at hg) <;> (try simp only [hg, cond_true, cond_false])) <;> (try (refine hK1 _ ?_; clear hK1 K1)) <;> (try simp only [BN3] at hg))) | (refine awp_seq_k fun K hK => ?_) | ((first | refine awp_region ?_ | refine awp_draw (by kernel_rfl) ?_ | refine awp_block ?_ | refine awp_exit ?_ | refine awp_skip ?_ | refine awp_ret ?_); (try simp only [NB, simprocAttr])))
  refine awp_for P.length 58 (fun j => [(17, .i j), (16, .i P.length), (15, aSc P), (0, aSc P)]) (fun j => []) (fun j => ∀ k, k < j → goodP P k) ?_ (fun k hk => by omega) fun j hj hp K hK => ?_
  · (refine ⟨rfl, (by first | exact ⟨_, rfl⟩ | exact ⟨[], by simp⟩), ?_, ?_⟩ <;> simp only [keeps, avlt, avlts, blksLt, frL, upd_get, S1, simprocAttr, List.length_map, Int.natCast_zero, AV.p.injEq, PV.int.injEq, PV.bool.injEq, PV.sl.injEq] <;> (try and_intros) <;> (try assumption) <;> (try trivial) <;> (try omega))
  rcases Nat.lt_or_ge j P.length with hlt | hge
  · obtain ⟨sc, hx⟩ : ∃ k, P[j]? = some k := ⟨_, List.getElem?_eq_getElem hlt⟩
    have jl : (j : Int) < (P.length : Int) := by omega
    have j0 : (0 : Int) ≤ (j : Int) := by omega
    have hnx := nextJ (n := P.length) (by omega) hlt
    have hpa := parA_at hx
    have hxr := rowSc hx
    by_cases c0 : j = 0
    · subst c0
      have z1 : (0 : Int) < (P.length : Int) := by omega
      by_cases d1 : (0 : Int) ≤ sc.1
      · repeat' (first | ((first | refine aops_nil ?_ | refine aqops_nil ?_); (try simp only [NB])) | ((repeat ((fail_if_success (refine hK _ ?_)); clear hK K)); refine hK _ ?_; clear hK K) | ((first | refine aops_k fun K1 hK1 => ?_ | refine aqops_k fun K1 hK1 => ?_ | refine awp_cond_k fun A B hA hB => ?_); simp only [S1, simprocAttr, TTScY, hxr, z1, jl, hnx, d1, takeC_st, Int.natCast_zero, List.length_map]; first | (refine hK1 _ ?_; clear hK1 K1) | ((first | refine hA ?_ | refine hB ?_); clear hA hB A B) | (refine join_x (v := ?_) (fun hg hk9 => ?_) ?_; rotate_left; (focus (try ((try simp only [BN] at hg); simp only [S1, simprocAttr, TTScY, hxr, z1, jl, hnx, d1, takeC_st, Int.natCast_zero, List.length_map, hg] at hk9 ⊢)); first | exact hk9); (refine hK1 _ ?_; clear hK1 K1)) | (((first | (refine ⟨fun hg => hA ?_, fun hg => hB ?_⟩ <;> clear hA hB A B) | refine ⟨fun hg => ?_, fun hg => ?_⟩) <;> (try simp only [BN2] at hg) <;> (try simp only [hg, cond_true, cond_false])) <;> (try (refine hK1 _ ?_; clear hK1 K1)) <;> (try simp only [BN3] at hg))) | (refine awp_seq_k fun K hK => ?_) | ((first | refine awp_region ?_ | refine awp_draw (by kernel_rfl) ?_ | refine awp_block ?_ | refine awp_exit ?_ | refine awp_skip ?_ | refine awp_ret ?_); (try simp only [NB, simprocAttr])))
        all_goals simp only [EndP, FinP, resA, resL, resA1, lastV, lastA, lastAs, pur, purs, take_app, List.take_length, S1, simprocAttr, TTScY, Nat.le_add_right, Nat.le_refl]
      have d2 : sc.1 < 0 := by omega
      cases d3 : (sc.1 != -1) with
      | true =>
        repeat' (first | ((first | refine aops_nil ?_ | refine aqops_nil ?_); (try simp only [NB])) | ((repeat ((fail_if_success (refine hK _ ?_)); clear hK K)); refine hK _ ?_; clear hK K) | ((first | refine aops_k fun K1 hK1 => ?_ | refine aqops_k fun K1 hK1 => ?_ | refine awp_cond_k fun A B hA hB => ?_); simp only [S1, simprocAttr, TTScY, hxr, z1, jl, hnx, d1, d2, d3, takeC_st, Int.natCast_zero, List.length_map]; first | (refine hK1 _ ?_; clear hK1 K1) | ((first | refine hA ?_ | refine hB ?_); clear hA hB A B) | (refine join_x (v := ?_) (fun hg hk9 => ?_) ?_; rotate_left; (focus (try ((try simp only [BN] at hg); simp only [S1, simprocAttr, TTScY, hxr, z1, jl, hnx, d1, d2, d3, takeC_st, Int.natCast_zero, List.length_map, hg] at hk9 ⊢)); first | exact hk9); (refine hK1 _ ?_; clear hK1 K1)) | (((first | (refine ⟨fun hg => hA ?_, fun hg => hB ?_⟩ <;> clear hA hB A B) | refine ⟨fun hg => ?_, fun hg => ?_⟩) <;> (try simp only [BN2] at hg) <;> (try simp only [hg, cond_true, cond_false])) <;> (try (refine hK1 _ ?_; clear hK1 K1)) <;> (try simp only [BN3] at hg))) | (refine awp_seq_k fun K hK => ?_) | ((first | refine awp_region ?_ | refine awp_draw (by kernel_rfl) ?_ | refine awp_block ?_ | refine awp_exit ?_ | refine awp_skip ?_ | refine awp_ret ?_); (try simp only [NB, simprocAttr])))
        all_goals simp only [EndP, FinP, resA, resL, resA1, lastV, lastA, lastAs, pur, purs, take_app, List.take_length, S1, simprocAttr, TTScY, Nat.le_add_right, Nat.le_refl]
      | false =>
        have e : sc.1 = -1 := by simpa using d3
        repeat' (first | ((first | refine aops_nil ?_ | refine aqops_nil ?_); (try simp only [NB])) | ((repeat ((fail_if_success (refine hK _ ?_)); clear hK K)); refine hK _ ?_; clear hK K) | ((first | refine aops_k fun K1 hK1 => ?_ | refine aqops_k fun K1 hK1 => ?_ | refine awp_cond_k fun A B hA hB => ?_); simp only [S1, simprocAttr, TTScY, hxr, z1, jl, hnx, d1, d2, d3, takeC_st, Int.natCast_zero, List.length_map]; first | (refine hK1 _ ?_; clear hK1 K1) | ((first | refine hA ?_ | refine hB ?_); clear hA hB A B) | (refine join_x (v := ?_) (fun hg hk9 => ?_) ?_; rotate_left; (focus (try ((try simp only [BN] at hg); simp only [S1, simprocAttr, TTScY, hxr, z1, jl, hnx, d1, d2, d3, takeC_st, Int.natCast_zero, List.length_map, hg] at hk9 ⊢)); first | exact hk9); (refine hK1 _ ?_; clear hK1 K1)) | (((first | (refine ⟨fun hg => hA ?_, fun hg => hB ?_⟩ <;> clear hA hB A B) | refine ⟨fun hg => ?_, fun hg => ?_⟩) <;> (try simp only [BN2] at hg) <;> (try simp only [hg, cond_true, cond_false])) <;> (try (refine hK1 _ ?_; clear hK1 K1)) <;> (try simp only [BN3] at hg))) | (refine awp_seq_k fun K hK => ?_) | ((first | refine awp_region ?_ | refine awp_draw (by kernel_rfl) ?_ | refine awp_block ?_ | refine awp_exit ?_ | refine awp_skip ?_ | refine awp_ret ?_); (try simp only [NB, simprocAttr])))
        all_goals exact ⟨hlt, fun k hk => ⟨fun _ => by rw [show k = 0 by omega, hpa, e], fun q => by omega⟩, by (refine ⟨rfl, (by first | exact ⟨_, rfl⟩ | exact ⟨[], by simp⟩), ?_, ?_⟩ <;> simp only [keeps, avlt, avlts, blksLt, frL, upd_get, S1, simprocAttr, List.length_map, Int.natCast_zero, AV.p.injEq, PV.int.injEq, PV.bool.injEq, PV.sl.injEq] <;> (try and_intros) <;> (try assumption) <;> (try trivial) <;> (try omega))⟩
    · have f3 : ((j : Int) == 0) = false := by simp; omega
      have f4 : (0 : Int) < (j : Int) := by omega
      by_cases d1 : (j : Int) ≤ sc.1
      · repeat' (first | ((first | refine aops_nil ?_ | refine aqops_nil ?_); (try simp only [NB])) | ((repeat ((fail_if_success (refine hK _ ?_)); clear hK K)); refine hK _ ?_; clear hK K) | ((first | refine aops_k fun K1 hK1 => ?_ | refine aqops_k fun K1 hK1 => ?_ | refine awp_cond_k fun A B hA hB => ?_); simp only [S1, simprocAttr, TTScY, hxr, jl, j0, hnx, d1, f3, f4, takeC_st, Int.toNat_natCast, List.length_map]; first | (refine hK1 _ ?_; clear hK1 K1) | ((first | refine hA ?_ | refine hB ?_); clear hA hB A B) | (refine join_x (v := ?_) (fun hg hk9 => ?_) ?_; rotate_left; (focus (try ((try simp only [BN] at hg); simp only [S1, simprocAttr, TTScY, hxr, jl, j0, hnx, d1, f3, f4, takeC_st, Int.toNat_natCast, List.length_map, hg] at hk9 ⊢)); first | exact hk9); (refine hK1 _ ?_; clear hK1 K1)) | (((first | (refine ⟨fun hg => hA ?_, fun hg => hB ?_⟩ <;> clear hA hB A B) | refine ⟨fun hg => ?_, fun hg => ?_⟩) <;> (try simp only [BN2] at hg) <;> (try simp only [hg, cond_true, cond_false])) <;> (try (refine hK1 _ ?_; clear hK1 K1)) <;> (try simp only [BN3] at hg))) | (refine awp_seq_k fun K hK => ?_) | ((first | refine awp_region ?_ | refine awp_draw (by kernel_rfl) ?_ | refine awp_block ?_ | refine awp_exit ?_ | refine awp_skip ?_ | refine awp_ret ?_); (try simp only [NB, simprocAttr])))
        all_goals simp only [EndP, FinP, resA, resL, resA1, lastV, lastA, lastAs, pur, purs, take_app, List.take_length, S1, simprocAttr, TTScY, Nat.le_add_right, Nat.le_refl]
      by_cases d2 : sc.1 < 0
      · repeat' (first | ((first | refine aops_nil ?_ | refine aqops_nil ?_); (try simp only [NB])) | ((repeat ((fail_if_success (refine hK _ ?_)); clear hK K)); refine hK _ ?_; clear hK K) | ((first | refine aops_k fun K1 hK1 => ?_ | refine aqops_k fun K1 hK1 => ?_ | refine awp_cond_k fun A B hA hB => ?_); simp only [S1, simprocAttr, TTScY, hxr, jl, j0, hnx, d1, d2, f3, f4, takeC_st, Int.toNat_natCast, List.length_map]; first | (refine hK1 _ ?_; clear hK1 K1) | ((first | refine hA ?_ | refine hB ?_); clear hA hB A B) | (refine join_x (v := ?_) (fun hg hk9 => ?_) ?_; rotate_left; (focus (try ((try simp only [BN] at hg); simp only [S1, simprocAttr, TTScY, hxr, jl, j0, hnx, d1, d2, f3, f4, takeC_st, Int.toNat_natCast, List.length_map, hg] at hk9 ⊢)); first | exact hk9); (refine hK1 _ ?_; clear hK1 K1)) | (((first | (refine ⟨fun hg => hA ?_, fun hg => hB ?_⟩ <;> clear hA hB A B) | refine ⟨fun hg => ?_, fun hg => ?_⟩) <;> (try simp only [BN2] at hg) <;> (try simp only [hg, cond_true, cond_false])) <;> (try (refine hK1 _ ?_; clear hK1 K1)) <;> (try simp only [BN3] at hg))) | (refine awp_seq_k fun K hK => ?_) | ((first | refine awp_region ?_ | refine awp_draw (by kernel_rfl) ?_ | refine awp_block ?_ | refine awp_exit ?_ | refine awp_skip ?_ | refine awp_ret ?_); (try simp only [NB, simprocAttr])))
        all_goals simp only [EndP, FinP, resA, resL, resA1, lastV, lastA, lastAs, pur, purs, take_app, List.take_length, S1, simprocAttr, TTScY, Nat.le_add_right, Nat.le_refl]
      repeat' (first | ((first | refine aops_nil ?_ | refine aqops_nil ?_); (try simp only [NB])) | ((repeat ((fail_if_success (refine hK _ ?_)); clear hK K)); refine hK _ ?_; clear hK K) | ((first | refine aops_k fun K1 hK1 => ?_ | refine aqops_k fun K1 hK1 => ?_ | refine awp_cond_k fun A B hA hB => ?_); simp only [S1, simprocAttr, TTScY, hxr, jl, j0, hnx, d1, d2, f3, f4, takeC_st, Int.toNat_natCast, List.length_map]; first | (refine hK1 _ ?_; clear hK1 K1) | ((first | refine hA ?_ | refine hB ?_); clear hA hB A B) | (refine join_x (v := ?_) (fun hg hk9 => ?_) ?_; rotate_left; (focus (try ((try simp only [BN] at hg); simp only [S1, simprocAttr, TTScY, hxr, jl, j0, hnx, d1, d2, f3, f4, takeC_st, Int.toNat_natCast, List.length_map, hg] at hk9 ⊢)); first | exact hk9); (refine hK1 _ ?_; clear hK1 K1)) | (((first | (refine ⟨fun hg => hA ?_, fun hg => hB ?_⟩ <;> clear hA hB A B) | refine ⟨fun hg => ?_, fun hg => ?_⟩) <;> (try simp only [BN2] at hg) <;> (try simp only [hg, cond_true, cond_false])) <;> (try (refine hK1 _ ?_; clear hK1 K1)) <;> (try simp only [BN3] at hg))) | (refine awp_seq_k fun K hK => ?_) | ((first | refine awp_region ?_ | refine awp_draw (by kernel_rfl) ?_ | refine awp_block ?_ | refine awp_exit ?_ | refine awp_skip ?_ | refine awp_ret ?_); (try simp only [NB, simprocAttr])))
      all_goals exact ⟨hlt, fun k hk => by
        rcases Nat.lt_or_ge k j with q | q
        · exact hp k q
        · obtain rfl : k = j := by omega
          exact ⟨fun e => absurd e c0, fun _ => by rw [hpa]; omega⟩, by (refine ⟨rfl, (by first | exact ⟨_, rfl⟩ | exact ⟨[], by simp⟩), ?_, ?_⟩ <;> simp only [keeps, avlt, avlts, blksLt, frL, upd_get, S1, simprocAttr, List.length_map, Int.natCast_zero, AV.p.injEq, PV.int.injEq, PV.bool.injEq, PV.sl.injEq] <;> (try and_intros) <;> (try assumption) <;> (try trivial) <;> (try omega))⟩
  · exact absurd (PlOk.of (by omega) (by omega) (fun k hk => hp k (by omega))) hP

theorem NewR_bad (hP : ¬ PlOk P) (h : Heap) : ACalls Try.prog G 9 [aSc P] h (fun r h' => r = .tup [.p .nilp, .i 1] ∧ h' = h) := by
  cases c1 : ((P.length : Int) == 0) with
  | true =>
    refine acalls_pure (rl := []) mixed Try.func9 rfl (rs := [.tmp 2, .tmp 3]) rfl Try.ntmps9 (by simp) ?_
    repeat' (first | ((first | refine aops_nil ?_ | refine aqops_nil ?_); (try simp only [NB])) | ((repeat ((fail_if_success (refine hK _ ?_)); clear hK K)); refine hK _ ?_; clear hK K) | ((first | refine aops_k fun K1 hK1 => ?_ | refine aqops_k fun K1 hK1 => ?_ | refine awp_cond_k fun A B hA hB => ?_); simp only [S1, simprocAttr, TTScY, c1, List.length_map]; first | (refine hK1 _ ?_; clear hK1 K1) | ((first | refine hA ?_ | refine hB ?_); clear hA hB A B) | (refine join_x (v := ?_) (fun hg hk9 => ?_) ?_; rotate_left; (focus (try ((try simp only [BN] at hg); simp only [S1, simprocAttr, TTScY, c1, List.length_map, hg] at hk9 ⊢)); first | exact hk9); (refine hK1 _ ?_; clear hK1 K1)) | (((first | (refine ⟨fun hg => hA ?_, fun hg => hB ?_⟩ <;> clear hA hB A B) | refine ⟨fun hg => ?_, fun hg => ?_⟩) <;> (try simp only [BN2] at hg) <;> (try simp only [hg, cond_true, cond_false])) <;> (try (refine hK1 _ ?_; clear hK1 K1)) <;> (try simp only [BN3] at hg))) | (refine awp_seq_k fun K hK => ?_) | ((first | refine awp_region ?_ | refine awp_draw (by kernel_rfl) ?_ | refine awp_block ?_ | refine awp_exit ?_ | refine awp_skip ?_ | refine awp_ret ?_); (try simp only [NB, simprocAttr])))
    all_goals simp only [EndP, FinP, resA, resL, resA1, lastV, lastA, lastAs, pur, purs, take_app, List.take_length, S1, simprocAttr, TTScY, Nat.le_add_right, Nat.le_refl]
  | false =>
  have n1 : P.length ≠ 0 := by intro e; simp [e] at c1
  by_cases c2 : (32 : Int) < (P.length : Int)
  · refine acalls_pure (rl := []) mixed Try.func9 rfl (rs := [.tmp 2, .tmp 3]) rfl Try.ntmps9 (by simp) ?_
    repeat' (first | ((first | refine aops_nil ?_ | refine aqops_nil ?_); (try simp only [NB])) | ((repeat ((fail_if_success (refine hK _ ?_)); clear hK K)); refine hK _ ?_; clear hK K) | ((first | refine aops_k fun K1 hK1 => ?_ | refine aqops_k fun K1 hK1 => ?_ | refine awp_cond_k fun A B hA hB => ?_); simp only [S1, simprocAttr, TTScY, c1, c2, List.length_map]; first | (refine hK1 _ ?_; clear hK1 K1) | ((first | refine hA ?_ | refine hB ?_); clear hA hB A B) | (refine join_x (v := ?_) (fun hg hk9 => ?_) ?_; rotate_left; (focus (try ((try simp only [BN] at hg); simp only [S1, simprocAttr, TTScY, c1, c2, List.length_map, hg] at hk9 ⊢)); first | exact hk9); (refine hK1 _ ?_; clear hK1 K1)) | (((first | (refine ⟨fun hg => hA ?_, fun hg => hB ?_⟩ <;> clear hA hB A B) | refine ⟨fun hg => ?_, fun hg => ?_⟩) <;> (try simp only [BN2] at hg) <;> (try simp only [hg, cond_true, cond_false])) <;> (try (refine hK1 _ ?_; clear hK1 K1)) <;> (try simp only [BN3] at hg))) | (refine awp_seq_k fun K hK => ?_) | ((first | refine awp_region ?_ | refine awp_draw (by kernel_rfl) ?_ | refine awp_block ?_ | refine awp_exit ?_ | refine awp_skip ?_ | refine awp_ret ?_); (try simp only [NB, simprocAttr])))
    all_goals simp only [EndP, FinP, resA, resL, resA1, lastV, lastA, lastAs, pur, purs, take_app, List.take_length, S1, simprocAttr, TTScY, Nat.le_add_right, Nat.le_refl]
  obtain ⟨s0, hx0⟩ : ∃ k, P[0]? = some k := ⟨_, List.getElem?_eq_getElem (by omega)⟩
  have hp0 := parA_at hx0
  have hxr0 := rowSc hx0
  have z1 : (0 : Int) < (P.length : Int) := by omega
  cases c3 : (s0.1 != -1) with
  | true =>
    refine acalls_pure (rl := []) mixed Try.func9 rfl (rs := [.tmp 2, .tmp 3]) rfl Try.ntmps9 (by simp) ?_
    repeat' (first | ((first | refine aops_nil ?_ | refine aqops_nil ?_); (try simp only [NB])) | ((repeat ((fail_if_success (refine hK _ ?_)); clear hK K)); refine hK _ ?_; clear hK K) | ((first | refine aops_k fun K1 hK1 => ?_ | refine aqops_k fun K1 hK1 => ?_ | refine awp_cond_k fun A B hA hB => ?_); simp only [S1, simprocAttr, TTScY, c1, c2, c3, z1, hxr0, takeC_st, List.length_map]; first | (refine hK1 _ ?_; clear hK1 K1) | ((first | refine hA ?_ | refine hB ?_); clear hA hB A B) | (refine join_x (v := ?_) (fun hg hk9 => ?_) ?_; rotate_left; (focus (try ((try simp only [BN] at hg); simp only [S1, simprocAttr, TTScY, c1, c2, c3, z1, hxr0, takeC_st, List.length_map, hg] at hk9 ⊢)); first | exact hk9); (refine hK1 _ ?_; clear hK1 K1)) | (((first | (refine ⟨fun hg => hA ?_, fun hg => hB ?_⟩ <;> clear hA hB A B) | refine ⟨fun hg => ?_, fun hg => ?_⟩) <;> (try simp only [BN2] at hg) <;> (try simp only [hg, cond_true, cond_false])) <;> (try (refine hK1 _ ?_; clear hK1 K1)) <;> (try simp only [BN3] at hg))) | (refine awp_seq_k fun K hK => ?_) | ((first | refine awp_region ?_ | refine awp_draw (by kernel_rfl) ?_ | refine awp_block ?_ | refine awp_exit ?_ | refine awp_skip ?_ | refine awp_ret ?_); (try simp only [NB, simprocAttr])))
    all_goals simp only [EndP, FinP, resA, resL, resA1, lastV, lastA, lastAs, pur, purs, take_app, List.take_length, S1, simprocAttr, TTScY, Nat.le_add_right, Nat.le_refl]
  | false =>
  have e0 : s0.1 = -1 := by simpa using c3
  refine acalls_pure (rl := []) mixed Try.func9 rfl (rs := [.tmp 2, .tmp 3]) rfl Try.ntmps9 (by simp) ?_
  repeat' (first | ((first | refine aops_nil ?_ | refine aqops_nil ?_); (try simp only [NB])) | ((repeat ((fail_if_success (refine hK _ ?_)); clear hK K)); refine hK _ ?_; clear hK K) | ((first | refine aops_k fun K1 hK1 => ?_ | refine aqops_k fun K1 hK1 => ?_ | refine awp_cond_k fun A B hA hB => ?_); simp only [S1, simprocAttr, TTScY, c1, c2, c3, z1, hxr0, takeC_st, List.length_map]; first | (refine hK1 _ ?_; clear hK1 K1) | ((first | refine hA ?_ | refine hB ?_); clear hA hB A B) | (refine join_x (v := ?_) (fun hg hk9 => ?_) ?_; rotate_left; (focus (try ((try simp only [BN] at hg); simp only [S1, simprocAttr, TTScY, c1, c2, c3, z1, hxr0, takeC_st, List.length_map, hg] at hk9 ⊢)); first | exact hk9); (refine hK1 _ ?_; clear hK1 K1)) | (((first | (refine ⟨fun hg => hA ?_, fun hg => hB ?_⟩ <;> clear hA hB A B) | refine ⟨fun hg => ?_, fun hg => ?_⟩) <;> (try simp only [BN2] at hg) <;> (try simp only [hg, cond_true, cond_false])) <;> (try (refine hK1 _ ?_; clear hK1 K1)) <;> (try simp only [BN3] at hg))) | (refine awp_seq_k fun K hK => ?_) | ((first | refine awp_region ?_ | refine awp_draw (by kernel_rfl) ?_ | refine awp_block ?_ | refine awp_exit ?_ | refine awp_skip ?_ | refine awp_ret ?_); (try simp only [NB, simprocAttr])))
  refine awp_for P.length 77 (fun j => [(26, .i j), (25, .i P.length), (24, aSc P), (0, aSc P)]) (fun j => []) (fun j => ∀ k, k < j → goodP P k) ?_ (fun k hk => by omega) fun j hj hp K hK => ?_
  · (refine ⟨rfl, (by first | exact ⟨_, rfl⟩ | exact ⟨[], by simp⟩), ?_, ?_⟩ <;> simp only [keeps, avlt, avlts, blksLt, frL, upd_get, S1, simprocAttr, List.length_map, Int.natCast_zero, AV.p.injEq, PV.int.injEq, PV.bool.injEq, PV.sl.injEq] <;> (try and_intros) <;> (try assumption) <;> (try trivial) <;> (try omega))
  rcases Nat.lt_or_ge j P.length with hlt | hge
  · obtain ⟨sc, hx⟩ : ∃ k, P[j]? = some k := ⟨_, List.getElem?_eq_getElem hlt⟩
    have jl : (j : Int) < (P.length : Int) := by omega
    have j0 : (0 : Int) ≤ (j : Int) := by omega
    have hnx := nextJ (n := P.length) (by omega) hlt
    have hpa := parA_at hx
    have hxr := rowSc hx
    by_cases c0 : j = 0
    · subst c0
      rw [hx0] at hx
      cases hx
      repeat' (first | ((first | refine aops_nil ?_ | refine aqops_nil ?_); (try simp only [NB])) | ((repeat ((fail_if_success (refine hK _ ?_)); clear hK K)); refine hK _ ?_; clear hK K) | ((first | refine aops_k fun K1 hK1 => ?_ | refine aqops_k fun K1 hK1 => ?_ | refine awp_cond_k fun A B hA hB => ?_); simp only [S1, simprocAttr, TTScY, hxr, z1, jl, hnx, takeC_st, Int.natCast_zero, Int.lt_irrefl, List.length_map]; first | (refine hK1 _ ?_; clear hK1 K1) | ((first | refine hA ?_ | refine hB ?_); clear hA hB A B) | (refine join_x (v := ?_) (fun hg hk9 => ?_) ?_; rotate_left; (focus (try ((try simp only [BN] at hg); simp only [S1, simprocAttr, TTScY, hxr, z1, jl, hnx, takeC_st, Int.natCast_zero, Int.lt_irrefl, List.length_map, hg] at hk9 ⊢)); first | exact hk9); (refine hK1 _ ?_; clear hK1 K1)) | (((first | (refine ⟨fun hg => hA ?_, fun hg => hB ?_⟩ <;> clear hA hB A B) | refine ⟨fun hg => ?_, fun hg => ?_⟩) <;> (try simp only [BN2] at hg) <;> (try simp only [hg, cond_true, cond_false])) <;> (try (refine hK1 _ ?_; clear hK1 K1)) <;> (try simp only [BN3] at hg))) | (refine awp_seq_k fun K hK => ?_) | ((first | refine awp_region ?_ | refine awp_draw (by kernel_rfl) ?_ | refine awp_block ?_ | refine awp_exit ?_ | refine awp_skip ?_ | refine awp_ret ?_); (try simp only [NB, simprocAttr])))
      all_goals exact ⟨hlt, fun k hk => ⟨fun _ => by rw [show k = 0 by omega, hp0, e0], fun q => by omega⟩, by (refine ⟨rfl, (by first | exact ⟨_, rfl⟩ | exact ⟨[], by simp⟩), ?_, ?_⟩ <;> simp only [keeps, avlt, avlts, blksLt, frL, upd_get, S1, simprocAttr, List.length_map, Int.natCast_zero, AV.p.injEq, PV.int.injEq, PV.bool.injEq, PV.sl.injEq] <;> (try and_intros) <;> (try assumption) <;> (try trivial) <;> (try omega))⟩
    · have f4 : (0 : Int) < (j : Int) := by omega
      by_cases d2 : sc.1 < 0
      · repeat' (first | ((first | refine aops_nil ?_ | refine aqops_nil ?_); (try simp only [NB])) | ((repeat ((fail_if_success (refine hK _ ?_)); clear hK K)); refine hK _ ?_; clear hK K) | ((first | refine aops_k fun K1 hK1 => ?_ | refine aqops_k fun K1 hK1 => ?_ | refine awp_cond_k fun A B hA hB => ?_); simp only [S1, simprocAttr, TTScY, hxr, jl, j0, hnx, d2, f4, takeC_st, Int.toNat_natCast, List.length_map]; first | (refine hK1 _ ?_; clear hK1 K1) | ((first | refine hA ?_ | refine hB ?_); clear hA hB A B) | (refine join_x (v := ?_) (fun hg hk9 => ?_) ?_; rotate_left; (focus (try ((try simp only [BN] at hg); simp only [S1, simprocAttr, TTScY, hxr, jl, j0, hnx, d2, f4, takeC_st, Int.toNat_natCast, List.length_map, hg] at hk9 ⊢)); first | exact hk9); (refine hK1 _ ?_; clear hK1 K1)) | (((first | (refine ⟨fun hg => hA ?_, fun hg => hB ?_⟩ <;> clear hA hB A B) | refine ⟨fun hg => ?_, fun hg => ?_⟩) <;> (try simp only [BN2] at hg) <;> (try simp only [hg, cond_true, cond_false])) <;> (try (refine hK1 _ ?_; clear hK1 K1)) <;> (try simp only [BN3] at hg))) | (refine awp_seq_k fun K hK => ?_) | ((first | refine awp_region ?_ | refine awp_draw (by kernel_rfl) ?_ | refine awp_block ?_ | refine awp_exit ?_ | refine awp_skip ?_ | refine awp_ret ?_); (try simp only [NB, simprocAttr])))
        all_goals simp only [EndP, FinP, resA, resL, resA1, lastV, lastA, lastAs, pur, purs, take_app, List.take_length, S1, simprocAttr, TTScY, Nat.le_add_right, Nat.le_refl]
      by_cases d1 : (j : Int) ≤ sc.1
      · repeat' (first | ((first | refine aops_nil ?_ | refine aqops_nil ?_); (try simp only [NB])) | ((repeat ((fail_if_success (refine hK _ ?_)); clear hK K)); refine hK _ ?_; clear hK K) | ((first | refine aops_k fun K1 hK1 => ?_ | refine aqops_k fun K1 hK1 => ?_ | refine awp_cond_k fun A B hA hB => ?_); simp only [S1, simprocAttr, TTScY, hxr, jl, j0, hnx, d1, d2, f4, takeC_st, Int.toNat_natCast, List.length_map]; first | (refine hK1 _ ?_; clear hK1 K1) | ((first | refine hA ?_ | refine hB ?_); clear hA hB A B) | (refine join_x (v := ?_) (fun hg hk9 => ?_) ?_; rotate_left; (focus (try ((try simp only [BN] at hg); simp only [S1, simprocAttr, TTScY, hxr, jl, j0, hnx, d1, d2, f4, takeC_st, Int.toNat_natCast, List.length_map, hg] at hk9 ⊢)); first | exact hk9); (refine hK1 _ ?_; clear hK1 K1)) | (((first | (refine ⟨fun hg => hA ?_, fun hg => hB ?_⟩ <;> clear hA hB A B) | refine ⟨fun hg => ?_, fun hg => ?_⟩) <;> (try simp only [BN2] at hg) <;> (try simp only [hg, cond_true, cond_false])) <;> (try (refine hK1 _ ?_; clear hK1 K1)) <;> (try simp only [BN3] at hg))) | (refine awp_seq_k fun K hK => ?_) | ((first | refine awp_region ?_ | refine awp_draw (by kernel_rfl) ?_ | refine awp_block ?_ | refine awp_exit ?_ | refine awp_skip ?_ | refine awp_ret ?_); (try simp only [NB, simprocAttr])))
        all_goals simp only [EndP, FinP, resA, resL, resA1, lastV, lastA, lastAs, pur, purs, take_app, List.take_length, S1, simprocAttr, TTScY, Nat.le_add_right, Nat.le_refl]
      repeat' (first | ((first | refine aops_nil ?_ | refine aqops_nil ?_); (try simp only [NB])) | ((repeat ((fail_if_success (refine hK _ ?_)); clear hK K)); refine hK _ ?_; clear hK K) | ((first | refine aops_k fun K1 hK1 => ?_ | refine aqops_k fun K1 hK1 => ?_ | refine awp_cond_k fun A B hA hB => ?_); simp only [S1, simprocAttr, TTScY, hxr, jl, j0, hnx, d1, d2, f4, takeC_st, Int.toNat_natCast, List.length_map]; first | (refine hK1 _ ?_; clear hK1 K1) | ((first | refine hA ?_ | refine hB ?_); clear hA hB A B) | (refine join_x (v := ?_) (fun hg hk9 => ?_) ?_; rotate_left; (focus (try ((try simp only [BN] at hg); simp only [S1, simprocAttr, TTScY, hxr, jl, j0, hnx, d1, d2, f4, takeC_st, Int.toNat_natCast, List.length_map, hg] at hk9 ⊢)); first | exact hk9); (refine hK1 _ ?_; clear hK1 K1)) | (((first | (refine ⟨fun hg => hA ?_, fun hg => hB ?_⟩ <;> clear hA hB A B) | refine ⟨fun hg => ?_, fun hg => ?_⟩) <;> (try simp only [BN2] at hg) <;> (try simp only [hg, cond_true, cond_false])) <;> (try (refine hK1 _ ?_; clear hK1 K1)) <;> (try simp only [BN3] at hg))) | (refine awp_seq_k fun K hK => ?_) | ((first | refine awp_region ?_ | refine awp_draw (by kernel_rfl) ?_ | refine awp_block ?_ | refine awp_exit ?_ | refine awp_skip ?_ | refine awp_ret ?_); (try simp only [NB, simprocAttr])))
      all_goals exact ⟨hlt, fun k hk => by
        rcases Nat.lt_or_ge k j with q | q
        · exact hp k q
        · obtain rfl : k = j := by omega
          exact ⟨fun e => absurd e c0, fun _ => by rw [hpa]; omega⟩, by (refine ⟨rfl, (by first | exact ⟨_, rfl⟩ | exact ⟨[], by simp⟩), ?_, ?_⟩ <;> simp only [keeps, avlt, avlts, blksLt, frL, upd_get, S1, simprocAttr, List.length_map, Int.natCast_zero, AV.p.injEq, PV.int.injEq, PV.bool.injEq, PV.sl.injEq] <;> (try and_intros) <;> (try assumption) <;> (try trivial) <;> (try omega))⟩
  · exact absurd (PlOk.of (by omega) (by omega) (fun k hk => hp k (by omega))) hP

theorem eSc_len (s : Sc) : (eSc s).length = 3 := rfl
theorem eSc_nz (s : Sc) : ∀ x ∈ eSc s, x ≠ .nils := by
  intro x hx
  simp only [eSc, List.mem_cons, List.not_mem_nil, or_false] at hx
  rcases hx with rfl | rfl | rfl <;> simp
theorem refs_calls (hn : P.length ≤ 100) (h : Heap) : ACalls Try.prog G 10 [aSc P] h (fun r h' => r = aSc P ∧ h' = h) := by
  refine acalls_pure (rl := []) mixed Try.func10 rfl (rs := [.tmp 2]) rfl Try.ntmps10 (by simp) ?_
  refine awp_seq_k fun K hK => ?_
  repeat' (first | ((first | refine aops_nil ?_ | refine aqops_nil ?_); (try simp only [NB]); ((repeat ((fail_if_success (refine hK _ ?_)); clear hK K)); refine hK _ ?_; clear hK K)) | ((first | refine aops_k fun K1 hK1 => ?_ | refine aqops_k fun K1 hK1 => ?_ | refine awp_cond_k fun A B hA hB => ?_); simp only [S1, simprocAttr, TTScY]; first | (refine hK1 _ ?_; clear hK1 K1) | ((first | refine hA ?_ | refine hB ?_); clear hA hB A B) | (((first | (refine ⟨fun hg => hA ?_, fun hg => hB ?_⟩ <;> clear hA hB A B) | refine ⟨fun hg => ?_, fun hg => ?_⟩) <;> (try simp only [BN2] at hg) <;> (try simp only [hg, cond_true, cond_false])) <;> (try (refine hK1 _ ?_; clear hK1 K1)) <;> (try simp only [BN3] at hg))) | (fail) | ((first | refine awp_region ?_ | refine awp_draw (by kernel_rfl) ?_ | refine awp_block ?_ | refine awp_exit ?_ | refine awp_skip ?_ | refine awp_ret ?_); (try simp only [NB, simprocAttr]); (try ((repeat ((fail_if_success (refine hK _ ?_)); clear hK K)); refine hK _ ?_; clear hK K))))
  refine awp_seq_k fun K hK => ?_
  repeat' (first | ((first | refine aops_nil ?_ | refine aqops_nil ?_); (try simp only [NB]); ((repeat ((fail_if_success (refine hK _ ?_)); clear hK K)); refine hK _ ?_; clear hK K)) | ((first | refine aops_k fun K1 hK1 => ?_ | refine aqops_k fun K1 hK1 => ?_ | refine awp_cond_k fun A B hA hB => ?_); simp only [S1, simprocAttr, TTScY]; first | (refine hK1 _ ?_; clear hK1 K1) | ((first | refine hA ?_ | refine hB ?_); clear hA hB A B) | (((first | (refine ⟨fun hg => hA ?_, fun hg => hB ?_⟩ <;> clear hA hB A B) | refine ⟨fun hg => ?_, fun hg => ?_⟩) <;> (try simp only [BN2] at hg) <;> (try simp only [hg, cond_true, cond_false])) <;> (try (refine hK1 _ ?_; clear hK1 K1)) <;> (try simp only [BN3] at hg))) | (fail) | ((first | refine awp_region ?_ | refine awp_draw (by kernel_rfl) ?_ | refine awp_block ?_ | refine awp_exit ?_ | refine awp_skip ?_ | refine awp_ret ?_); (try simp only [NB, simprocAttr]); (try ((repeat ((fail_if_success (refine hK _ ?_)); clear hK K)); refine hK _ ?_; clear hK K))))
  repeat' (first | ((first | refine aops_nil ?_ | refine aqops_nil ?_); (try simp only [NB])) | ((repeat ((fail_if_success (refine hK _ ?_)); clear hK K)); refine hK _ ?_; clear hK K) | ((first | refine aops_k fun K1 hK1 => ?_ | refine aqops_k fun K1 hK1 => ?_ | refine awp_cond_k fun A B hA hB => ?_); simp only [S1, simprocAttr, TTScY, List.length_map]; first | (refine hK1 _ ?_; clear hK1 K1) | ((first | refine hA ?_ | refine hB ?_); clear hA hB A B) | (((first | (refine ⟨fun hg => hA ?_, fun hg => hB ?_⟩ <;> clear hA hB A B) | refine ⟨fun hg => ?_, fun hg => ?_⟩) <;> (try simp only [BN2] at hg) <;> (try simp only [hg, cond_true, cond_false])) <;> (try (refine hK1 _ ?_; clear hK1 K1)) <;> (try simp only [BN3] at hg))) | (refine awp_seq_k fun K hK => ?_) | ((first | refine awp_region ?_ | refine awp_draw (by kernel_rfl) ?_ | refine awp_block ?_ | refine awp_exit ?_ | refine awp_skip ?_ | refine awp_ret ?_); (try simp only [NB, simprocAttr])))
  refine awp_forC P.length 24 (fun j => [(8, .i j), (7, .i P.length), (6, aSc P), (3, .ref h.length j 0 3 j)])
    (fun j => [some ⟨j, (flatE eSc (P.take j)).map AV.p⟩]) (fun j => True) ?_ trivial fun j hj hp K hK => ?_
  · refine (Ghost.adopt 3 3 rfl).trans (Sub.ghost ⟨rfl, ⟨[], by simp [flatE]⟩, ?_, trivial, trivial⟩)
    simp only [keeps, avlt, upd_get, frL, List.length_cons, List.length_nil]
    simp
  rcases Nat.lt_or_ge j P.length with hlt | hge
  · obtain ⟨sc, hx⟩ : ∃ k, P[j]? = some k := ⟨_, List.getElem?_eq_getElem hlt⟩
    have hxr := rowSc hx
    have jl : (j : Int) < (P.length : Int) := by omega
    have j0 : (0 : Int) ≤ (j : Int) := by omega
    have hnx := nextJ (n := P.length) (by omega) hlt
    have hfl : ((flatE eSc (P.take j)).map AV.p).length = j * 3 := by rw [List.length_map, flatE_len eSc_len, List.length_take]; rw [Nat.min_eq_left (by omega)]
    have hmax : j + 1 ≤ maxCount := by unfold maxCount; omega
    have es : (flatE eSc (P.take (j + 1))).map AV.p = (flatE eSc (P.take j)).map AV.p ++ [.i sc.1, .b sc.2.1, .b sc.2.2] := by
      rw [List.take_add_one, hx]
      unfold flatE
      rw [List.flatMap_append, List.map_append]; rfl
    repeat' (first | ((first | refine aops_nil ?_ | refine aqops_nil ?_); (try simp only [NB])) | ((repeat ((fail_if_success (refine hK _ ?_)); clear hK K)); refine hK _ ?_; clear hK K) | ((first | refine aops_k fun K1 hK1 => ?_ | refine aqops_k fun K1 hK1 => ?_ | refine awp_cond_k fun A B hA hB => ?_); simp only [S1, simprocAttr, TTScY, jl, j0, hnx, hxr, hfl, hmax, takeC_st, Int.toNat_natCast, List.length_map, List.drop_zero, Nat.mul_one, Nat.zero_add]; first | (refine hK1 _ ?_; clear hK1 K1) | ((first | refine hA ?_ | refine hB ?_); clear hA hB A B) | (((first | (refine ⟨fun hg => hA ?_, fun hg => hB ?_⟩ <;> clear hA hB A B) | refine ⟨fun hg => ?_, fun hg => ?_⟩) <;> (try simp only [BN2] at hg) <;> (try simp only [hg, cond_true, cond_false])) <;> (try (refine hK1 _ ?_; clear hK1 K1)) <;> (try simp only [BN3] at hg))) | (refine awp_seq_k fun K hK => ?_) | ((first | refine awp_region ?_ | refine awp_draw (by kernel_rfl) ?_ | refine awp_block ?_ | refine awp_exit ?_ | refine awp_skip ?_ | refine awp_ret ?_); (try simp only [NB, simprocAttr])))
    all_goals refine ⟨hlt, trivial, ?_⟩
    all_goals simp only [es]
    all_goals refine ⟨rfl, ⟨_, rfl⟩, ?_, avlts_cat (avlts_p _ _) ⟨trivial, trivial, trivial, trivial⟩, trivial⟩
    all_goals simp only [keeps, avlt, avlts, blksLt, frL, upd_get, S1, simprocAttr, List.length_map, Int.natCast_zero, AV.p.injEq, PV.int.injEq, PV.bool.injEq, PV.sl.injEq] <;> (try and_intros) <;> (try assumption) <;> (try trivial) <;> (try omega)
  · obtain rfl : j = P.length := by omega
    repeat' (first | ((first | refine aops_nil ?_ | refine aqops_nil ?_); (try simp only [NB])) | ((repeat ((fail_if_success (refine hK _ ?_)); clear hK K)); refine hK _ ?_; clear hK K) | ((first | refine aops_k fun K1 hK1 => ?_ | refine aqops_k fun K1 hK1 => ?_ | refine awp_cond_k fun A B hA hB => ?_); simp only [S1, simprocAttr, TTScY, Int.lt_irrefl]; first | (refine hK1 _ ?_; clear hK1 K1) | ((first | refine hA ?_ | refine hB ?_); clear hA hB A B) | (((first | (refine ⟨fun hg => hA ?_, fun hg => hB ?_⟩ <;> clear hA hB A B) | refine ⟨fun hg => ?_, fun hg => ?_⟩) <;> (try simp only [BN2] at hg) <;> (try simp only [hg, cond_true, cond_false])) <;> (try (refine hK1 _ ?_; clear hK1 K1)) <;> (try simp only [BN3] at hg))) | (refine awp_seq_k fun K hK => ?_) | ((first | refine awp_region ?_ | refine awp_draw (by kernel_rfl) ?_ | refine awp_block ?_ | refine awp_exit ?_ | refine awp_skip ?_ | refine awp_ret ?_); (try simp only [NB, simprocAttr])))
    all_goals exact EndP_rows (b := h.length) (g := P.length) eSc_len eSc_nz (.inr rfl) rfl rfl (by simp only [List.take_length, blkAt, get_app0, get_app, List.getElem?_cons_zero, if_true]) (by omega) (by simp) (by simp) rfl
end
end Go.Proofs.Ytkmcecbglomemaa.AM
end

section
set_option linter.unusedVariables false
set_option linter.unusedSimpArgs false
set_option maxRecDepth 4000
set_option maxHeartbeats 4000000
namespace Go.Proofs.Ytkmcecbglomemaa.AM
open Go Go.Proofs
set_option linter.defProp false in
def TTScZ := And.intro T2 (And.intro T3 (And.intro T4 (And.intro T22 (And.intro T29 (And.intro T32 (And.intro T45 (And.intro T49 (And.intro T55 (And.intro T56 (And.intro T57 (And.intro T59 (And.intro T61 T64))))))))))))
attribute [local irreducible] awp aops aqops aeops arun arunT arunN
variable {G : Nat → Option (List PV)}

def zR : Ro := ⟨fun _ => 0, fun _ => 0, 0, []⟩
def cOneN (P : List Sc) (j : Nat) : List AV := (List.range j).flatMap fun k => [.i (parA P k), .b (catA P k), .b (undA P k), .i 0, .i 0]
theorem cOneN_len (P : List Sc) (j : Nat) : (cOneN P j).length = j * 5 := flatC_len (f := fun k => [.i (parA P k), .b (catA P k), .b (undA P k), .i 0, .i 0]) (fun _ => rfl) _
theorem cOneN_succ (P : List Sc) (j : Nat) : cOneN P (j + 1) = cOneN P j ++ [.i (parA P j), .b (catA P j), .b (undA P j), .i 0, .i 0] := by
  unfold cOneN
  rw [List.range_succ, List.flatMap_append, List.flatMap_singleton]
theorem cOneN_avl (P : List Sc) (n j : Nat) : avlts n (cOneN P j) := by
  induction j with
  | zero => exact trivial
  | succ j ih => rw [cOneN_succ]; exact avlts_cat ih ⟨trivial, trivial, trivial, trivial, trivial, trivial⟩
theorem catA_at {P : List Sc} {k : Nat} {s : Sc} (hx : P[k]? = some s) : catA P k = s.2.1 := by unfold catA; rw [hx]
theorem undA_at {P : List Sc} {k : Nat} {s : Sc} (hx : P[k]? = some s) : undA P k = s.2.2 := by unfold undA; rw [hx]

theorem NewR_good {P : List Sc} (pl : PlOk P) (h : Heap) : ACalls Try.prog G 9 [aSc P] h (fun r h' => r = .tup [.ptr h.length 0 0, .i 0] ∧ h' = rwH h P ⟨P.length, 0⟩ newR []) := by
  have hn1 := pl.n1
  have hn2 := pl.n32
  have c1 : ((P.length : Int) == 0) = false := by rw [beq_eq_false_iff_ne]; omega
  have c2 : ¬ (32 : Int) < (P.length : Int) := by omega
  obtain ⟨s0, hx0⟩ : ∃ k, P[0]? = some k := ⟨_, List.getElem?_eq_getElem (by omega)⟩
  have hp0 := parA_at hx0
  rw [pl.root] at hp0
  have hxr0 := rowSc hx0
  have z1 : (0 : Int) < (P.length : Int) := by omega
  have c3 : (s0.1 != -1) = false := by rw [← hp0]; rfl
  refine Sim.evoKeepG (rl := []) mixed Try.func9 rfl (by rw [Try.ntmps9]; simp) ?_
  rw [Try.ntmps9]
  repeat' (first | ((first | refine aops_nil ?_ | refine aqops_nil ?_); (try simp only [NB])) | ((repeat ((fail_if_success (refine hK _ ?_)); clear hK K)); refine hK _ ?_; clear hK K) | ((first | refine aops_k fun K1 hK1 => ?_ | refine aqops_k fun K1 hK1 => ?_ | refine awp_cond_k fun A B hA hB => ?_); simp only [S1, simprocAttr, TTScZ, c1, c2, c3, z1, hxr0, takeC_st, List.length_map]; first | (refine hK1 _ ?_; clear hK1 K1) | ((first | refine hA ?_ | refine hB ?_); clear hA hB A B) | (refine join_x (v := ?_) (fun hg hk9 => ?_) ?_; rotate_left; (focus (try ((try simp only [BN] at hg); simp only [S1, simprocAttr, TTScZ, c1, c2, c3, z1, hxr0, takeC_st, List.length_map, hg] at hk9 ⊢)); first | exact hk9); (refine hK1 _ ?_; clear hK1 K1)) | (((first | (refine ⟨fun hg => hA ?_, fun hg => hB ?_⟩ <;> clear hA hB A B) | refine ⟨fun hg => ?_, fun hg => ?_⟩) <;> (try simp only [BN2] at hg) <;> (try simp only [hg, cond_true, cond_false])) <;> (try (refine hK1 _ ?_; clear hK1 K1)) <;> (try simp only [BN3] at hg))) | (refine awp_seq_k fun K hK => ?_) | ((first | refine awp_region ?_ | refine awp_draw (by kernel_rfl) ?_ | refine awp_block ?_ | refine awp_exit ?_ | refine awp_skip ?_ | refine awp_ret ?_); (try simp only [NB, simprocAttr])))
  refine awp_for P.length 77 (fun j => [(26, .i j), (25, .i P.length), (24, aSc P), (0, aSc P)]) (fun j => []) (fun j => True) ?_ trivial fun j hj hp K hK => ?_
  · (refine ⟨rfl, (by first | exact ⟨_, rfl⟩ | exact ⟨[], by simp⟩), ?_, ?_⟩ <;> simp only [keeps, avlt, avlts, blksLt, frL, upd_get, S1, simprocAttr, List.length_map, Int.natCast_zero, AV.p.injEq, PV.int.injEq, PV.bool.injEq, PV.sl.injEq] <;> (try and_intros) <;> (try assumption) <;> (try trivial) <;> (try omega))
  rcases Nat.lt_or_ge j P.length with hlt | hge
  · obtain ⟨sc, hx⟩ : ∃ k, P[j]? = some k := ⟨_, List.getElem?_eq_getElem hlt⟩
    have jl : (j : Int) < (P.length : Int) := by omega
    have j0 : (0 : Int) ≤ (j : Int) := by omega
    have hnx := nextJ (n := P.length) (by omega) hlt
    have hpa := parA_at hx
    have hxr := rowSc hx
    by_cases c0 : j = 0
    · subst c0
      repeat' (first | ((first | refine aops_nil ?_ | refine aqops_nil ?_); (try simp only [NB])) | ((repeat ((fail_if_success (refine hK _ ?_)); clear hK K)); refine hK _ ?_; clear hK K) | ((first | refine aops_k fun K1 hK1 => ?_ | refine aqops_k fun K1 hK1 => ?_ | refine awp_cond_k fun A B hA hB => ?_); simp only [S1, simprocAttr, TTScZ, hxr, z1, jl, hnx, takeC_st, Int.natCast_zero, Int.lt_irrefl, List.length_map]; first | (refine hK1 _ ?_; clear hK1 K1) | ((first | refine hA ?_ | refine hB ?_); clear hA hB A B) | (refine join_x (v := ?_) (fun hg hk9 => ?_) ?_; rotate_left; (focus (try ((try simp only [BN] at hg); simp only [S1, simprocAttr, TTScZ, hxr, z1, jl, hnx, takeC_st, Int.natCast_zero, Int.lt_irrefl, List.length_map, hg] at hk9 ⊢)); first | exact hk9); (refine hK1 _ ?_; clear hK1 K1)) | (((first | (refine ⟨fun hg => hA ?_, fun hg => hB ?_⟩ <;> clear hA hB A B) | refine ⟨fun hg => ?_, fun hg => ?_⟩) <;> (try simp only [BN2] at hg) <;> (try simp only [hg, cond_true, cond_false])) <;> (try (refine hK1 _ ?_; clear hK1 K1)) <;> (try simp only [BN3] at hg))) | (refine awp_seq_k fun K hK => ?_) | ((first | refine awp_region ?_ | refine awp_draw (by kernel_rfl) ?_ | refine awp_block ?_ | refine awp_exit ?_ | refine awp_skip ?_ | refine awp_ret ?_); (try simp only [NB, simprocAttr])))
      all_goals exact ⟨hlt, trivial, by (refine ⟨rfl, (by first | exact ⟨_, rfl⟩ | exact ⟨[], by simp⟩), ?_, ?_⟩ <;> simp only [keeps, avlt, avlts, blksLt, frL, upd_get, S1, simprocAttr, List.length_map, Int.natCast_zero, AV.p.injEq, PV.int.injEq, PV.bool.injEq, PV.sl.injEq] <;> (try and_intros) <;> (try assumption) <;> (try trivial) <;> (try omega))⟩
    · have f4 : (0 : Int) < (j : Int) := by omega
      obtain ⟨p0, p1⟩ := pl.par j (by omega) hlt
      rw [hpa] at p0 p1
      have d1 : ¬ (j : Int) ≤ sc.1 := by omega
      have d2 : ¬ sc.1 < 0 := by omega
      repeat' (first | ((first | refine aops_nil ?_ | refine aqops_nil ?_); (try simp only [NB])) | ((repeat ((fail_if_success (refine hK _ ?_)); clear hK K)); refine hK _ ?_; clear hK K) | ((first | refine aops_k fun K1 hK1 => ?_ | refine aqops_k fun K1 hK1 => ?_ | refine awp_cond_k fun A B hA hB => ?_); simp only [S1, simprocAttr, TTScZ, hxr, jl, j0, hnx, d1, d2, f4, takeC_st, Int.toNat_natCast, List.length_map]; first | (refine hK1 _ ?_; clear hK1 K1) | ((first | refine hA ?_ | refine hB ?_); clear hA hB A B) | (refine join_x (v := ?_) (fun hg hk9 => ?_) ?_; rotate_left; (focus (try ((try simp only [BN] at hg); simp only [S1, simprocAttr, TTScZ, hxr, jl, j0, hnx, d1, d2, f4, takeC_st, Int.toNat_natCast, List.length_map, hg] at hk9 ⊢)); first | exact hk9); (refine hK1 _ ?_; clear hK1 K1)) | (((first | (refine ⟨fun hg => hA ?_, fun hg => hB ?_⟩ <;> clear hA hB A B) | refine ⟨fun hg => ?_, fun hg => ?_⟩) <;> (try simp only [BN2] at hg) <;> (try simp only [hg, cond_true, cond_false])) <;> (try (refine hK1 _ ?_; clear hK1 K1)) <;> (try simp only [BN3] at hg))) | (refine awp_seq_k fun K hK => ?_) | ((first | refine awp_region ?_ | refine awp_draw (by kernel_rfl) ?_ | refine awp_block ?_ | refine awp_exit ?_ | refine awp_skip ?_ | refine awp_ret ?_); (try simp only [NB, simprocAttr])))
      all_goals exact ⟨hlt, trivial, by (refine ⟨rfl, (by first | exact ⟨_, rfl⟩ | exact ⟨[], by simp⟩), ?_, ?_⟩ <;> simp only [keeps, avlt, avlts, blksLt, frL, upd_get, S1, simprocAttr, List.length_map, Int.natCast_zero, AV.p.injEq, PV.int.injEq, PV.bool.injEq, PV.sl.injEq] <;> (try and_intros) <;> (try assumption) <;> (try trivial) <;> (try omega))⟩
  obtain rfl : j = P.length := by omega
  repeat' (first | ((first | refine aops_nil ?_ | refine aqops_nil ?_); (try simp only [NB])) | ((repeat ((fail_if_success (refine hK _ ?_)); clear hK K)); refine hK _ ?_; clear hK K) | ((first | refine aops_k fun K1 hK1 => ?_ | refine aqops_k fun K1 hK1 => ?_ | refine awp_cond_k fun A B hA hB => ?_); simp only [S1, simprocAttr, TTScZ, Int.lt_irrefl, List.length_map]; first | (refine hK1 _ ?_; clear hK1 K1) | ((first | refine hA ?_ | refine hB ?_); clear hA hB A B) | (refine join_x (v := ?_) (fun hg hk9 => ?_) ?_; rotate_left; (focus (try ((try simp only [BN] at hg); simp only [S1, simprocAttr, TTScZ, Int.lt_irrefl, List.length_map, hg] at hk9 ⊢)); first | exact hk9); (refine hK1 _ ?_; clear hK1 K1)) | (((first | (refine ⟨fun hg => hA ?_, fun hg => hB ?_⟩ <;> clear hA hB A B) | refine ⟨fun hg => ?_, fun hg => ?_⟩) <;> (try simp only [BN2] at hg) <;> (try simp only [hg, cond_true, cond_false])) <;> (try (refine hK1 _ ?_; clear hK1 K1)) <;> (try simp only [BN3] at hg))) | (refine awp_seq_k fun K hK => ?_) | ((first | refine awp_region ?_ | refine awp_draw (by kernel_rfl) ?_ | refine awp_block ?_ | refine awp_exit ?_ | refine awp_skip ?_ | refine awp_ret ?_); (try simp only [NB, simprocAttr])))
  refine awp_forC P.length 77 (fun j => [(49, .i j), (48, .i P.length), (47, aSc P), (6, .ptr h.length 0 0)])
    (fun j => [some ⟨0, [.ref (h.length + 1) j 0 5 j, .i 0, .ref (h.length + 2) 0 0 2 0]⟩, some ⟨j, cOneN P j⟩, some ⟨0, []⟩]) (fun j => True) ?_ trivial fun j hj hp K hK => ?_
  · refine (Ghost.adoptCellG (b := h.length) (j := 0) (bk := ⟨0, [.p .nils, .i 0, .p .nils]⟩) 5 (by rw [get_app0]; rfl) rfl).trans ?_
    simp only [List.set_cons_succ, List.set_cons_zero, List.length_append, List.length_cons, List.length_nil, List.append_assoc, set_app0, List.cons_append, List.nil_append, Nat.zero_add]
    refine (Ghost.adoptCellG (b := h.length) (j := 2) (bk := ⟨0, [.ref (h.length + 1) 0 0 5 0, .i 0, .p .nils]⟩) 2 (by rw [get_app0]; rfl) rfl).trans ?_
    simp only [List.set_cons_succ, List.set_cons_zero, List.length_append, List.length_cons, List.length_nil, List.append_assoc, set_app0, List.cons_append, List.nil_append, Nat.zero_add]
    refine Sub.ghost ⟨rfl, ⟨[], by simp [cOneN]⟩, ?_, ⟨by simp only [avlt, List.length_cons, List.length_nil]; omega, trivial, by simp only [avlt, List.length_cons, List.length_nil]; omega, trivial⟩, cOneN_avl _ _ _, trivial, trivial⟩
    simp only [keeps, avlt, avlts, blksLt, frL, upd_get, List.length_cons, List.length_nil, S1, simprocAttr, List.length_map, List.length_cons, List.length_nil, Int.natCast_zero, AV.p.injEq, PV.int.injEq, PV.bool.injEq, PV.sl.injEq] <;> (try and_intros) <;> (try assumption) <;> (try trivial) <;> (try omega)
  have hcl := cOneN_len P j
  rcases Nat.lt_or_ge j P.length with hlt | hge
  · obtain ⟨sc, hx⟩ : ∃ k, P[j]? = some k := ⟨_, List.getElem?_eq_getElem hlt⟩
    have hxr := rowSc hx
    have jl : (j : Int) < (P.length : Int) := by omega
    have j0 : (0 : Int) ≤ (j : Int) := by omega
    have hnx := nextJ (n := P.length) (by omega) hlt
    have hmax : j + 1 ≤ maxCount := by unfold maxCount; omega
    have es := cOneN_succ P j
    rw [parA_at hx, catA_at hx, undA_at hx] at es
    repeat' (first | ((first | refine aops_nil ?_ | refine aqops_nil ?_ | refine arunN_nil ?_); (try simp only [NB])) | ((repeat ((fail_if_success (refine hK _ ?_)); clear hK K)); refine hK _ ?_; clear hK K) | ((first | refine aops_k fun K1 hK1 => ?_ | refine aqops_k fun K1 hK1 => ?_ | refine arunN_eff rfl rfl rfl fun K1 hK1 => ?_ | refine arunN_q rfl rfl rfl fun K1 hK1 => ?_ | refine awp_cond_k fun A B hA hB => ?_); simp only [S1, simprocAttr, TTScZ, jl, j0, hnx, hxr, hcl, hmax, takeC_st, Int.toNat_natCast, List.length_map, List.drop_zero, Nat.mul_one, Nat.zero_add]; first | (refine hK1 _ ?_; clear hK1 K1) | ((first | refine hA ?_ | refine hB ?_); clear hA hB A B) | (refine join_x (v := ?_) (fun hg hk9 => ?_) ?_; rotate_left; (focus (try ((try simp only [BN] at hg); simp only [S1, simprocAttr, TTScZ, jl, j0, hnx, hxr, hcl, hmax, takeC_st, Int.toNat_natCast, List.length_map, List.drop_zero, Nat.mul_one, Nat.zero_add, hg] at hk9 ⊢)); first | exact hk9); (refine hK1 _ ?_; clear hK1 K1)) | (((first | (refine ⟨fun hg => hA ?_, fun hg => hB ?_⟩ <;> clear hA hB A B) | refine ⟨fun hg => ?_, fun hg => ?_⟩) <;> (try simp only [BN2] at hg) <;> (try simp only [hg, cond_true, cond_false])) <;> (try (refine hK1 _ ?_; clear hK1 K1)) <;> (try simp only [BN3] at hg))) | (refine awp_seq_k fun K hK => ?_) | (refine awp_drawN (es := []) [0, 1, 2, 3, 4, 5, 6, 7, 8, 9, 10, 11, 12, 13, 14, 15, 16] rfl (by kernel_rfl) ?_) | ((first | refine awp_region ?_ | refine awp_draw (by kernel_rfl) ?_ | refine awp_block ?_ | refine awp_exit ?_ | refine awp_skip ?_ | refine awp_ret ?_); (try simp only [NB, simprocAttr])))
    all_goals refine ⟨hlt, trivial, ?_⟩
    all_goals simp only [es]
    all_goals refine ⟨rfl, ⟨_, rfl⟩, ?_, ⟨by simp only [avlt, List.length_cons, List.length_nil]; omega, trivial, by simp only [avlt, List.length_cons, List.length_nil]; omega, trivial⟩, avlts_cat (cOneN_avl _ _ _) ⟨trivial, trivial, trivial, trivial, trivial, trivial⟩, trivial, trivial⟩
    all_goals simp only [keeps, avlt, avlts, blksLt, frL, upd_get, List.length_cons, List.length_nil, S1, simprocAttr, List.length_map, List.length_cons, List.length_nil, Int.natCast_zero, AV.p.injEq, PV.int.injEq, PV.bool.injEq, PV.sl.injEq] <;> (try and_intros) <;> (try assumption) <;> (try trivial) <;> (try omega)
  · obtain rfl : j = P.length := by omega
    have hos := one_set (P := P) (s := zR) (k := 0) (by omega) 1
    have hzn : cOneN P P.length = cOne P zR := rfl
    rw [Nat.zero_mul, Nat.zero_add, ← hzn] at hos
    have kl1 : 3 + 1 ≤ P.length * 5 := by omega
    have kl2 : 3 < P.length * 5 := by omega
    repeat' (first | ((first | refine aops_nil ?_ | refine aqops_nil ?_); (try simp only [NB])) | ((repeat ((fail_if_success (refine hK _ ?_)); clear hK K)); refine hK _ ?_; clear hK K) | ((first | refine aops_k fun K1 hK1 => ?_ | refine aqops_k fun K1 hK1 => ?_ | refine awp_cond_k fun A B hA hB => ?_); simp only [S1, simprocAttr, TTScZ, Int.lt_irrefl, z1, hos, hcl, kl1, kl2, Int.toNat_natCast, List.length_map, List.drop_zero, Nat.mul_one, Nat.zero_add]; first | (refine hK1 _ ?_; clear hK1 K1) | ((first | refine hA ?_ | refine hB ?_); clear hA hB A B) | (refine join_x (v := ?_) (fun hg hk9 => ?_) ?_; rotate_left; (focus (try ((try simp only [BN] at hg); simp only [S1, simprocAttr, TTScZ, Int.lt_irrefl, z1, hos, hcl, kl1, kl2, Int.toNat_natCast, List.length_map, List.drop_zero, Nat.mul_one, Nat.zero_add, hg] at hk9 ⊢)); first | exact hk9); (refine hK1 _ ?_; clear hK1 K1)) | (((first | (refine ⟨fun hg => hA ?_, fun hg => hB ?_⟩ <;> clear hA hB A B) | refine ⟨fun hg => ?_, fun hg => ?_⟩) <;> (try simp only [BN2] at hg) <;> (try simp only [hg, cond_true, cond_false])) <;> (try (refine hK1 _ ?_; clear hK1 K1)) <;> (try simp only [BN3] at hg))) | (refine awp_seq_k fun K hK => ?_) | ((first | refine awp_region ?_ | refine awp_draw (by kernel_rfl) ?_ | refine awp_block ?_ | refine awp_exit ?_ | refine awp_skip ?_ | refine awp_ret ?_); (try simp only [NB, simprocAttr])))
    all_goals exact ⟨.inr trivial, _, Ghost.refl, ⟨by simp, rfl, rfl⟩⟩
end Go.Proofs.Ytkmcecbglomemaa.AM
end
