/- Proved here, in parts, for one law: PLAIN: what is kept by Enter and Leave; contracts: a run is made; a fault is told. Contracts: a run is made; two that are undone; a nil run. What the law ScopeNil is given. Conditions: none. -/
import Derived.Test.YtkmcecbglomemaaZScopeNilC

section
set_option linter.unusedVariables false
set_option linter.unusedSimpArgs false
set_option maxRecDepth 4000
set_option maxHeartbeats 4000000
namespace Go.Proofs.Ytkmcecbglomemaa.AM
open Go Go.Proofs
set_option linter.defProp false in
def TTScP := And.intro T2 (And.intro T3 (And.intro T4 (And.intro T22 (And.intro T25 (And.intro T26 (And.intro T37 (And.intro T41 (And.intro T45 (And.intro T49 T54)))))))))
attribute [local irreducible] awp aops aqops aeops arun arunT arunN
variable {G : Nat → Option (List PV)}

section
variable {P : List Sc} {s : Rs}
def newSt (n : Nat) : List Int := (List.replicate n (0 : Int)).set 0 1
theorem newSt_at (n k : Nat) (hn : 1 ≤ n) : stA (newSt n) k = if k = 0 then 1 else 0 := by
  unfold newSt
  rw [stA_set (by rw [List.length_replicate]; exact hn)]
  split
  · rfl
  · unfold stA
    rw [List.getElem?_replicate]
    split <;> rfl
theorem RsOk.new (pl : PlOk P) : RsOk P ⟨newSt P.length, [], []⟩ := by
  have h := fun k => newSt_at P.length k pl.n1
  refine ⟨by simp [newSt], fun k => ?_, fun k j hp h1 => ?_, fun k => ?_, List.nodup_nil, by simp, by simp⟩
  · show 0 ≤ stA (newSt P.length) k ∧ _
    rw [h]; split <;> omega
  · change stA (newSt P.length) k = 1 at h1
    rw [h] at h1
    split at h1
    · rename_i e; subst e; rw [pl.root] at hp; omega
    · omega
  · show k ∈ [] ↔ stA (newSt P.length) k = 2
    rw [h]
    simp
    split <;> omega
theorem RsOk.enter (pl : PlOk P) (ok : RsOk P s) (i : Int) : RsOk P (enterF P s i).1 := by
  unfold enterF
  split
  · exact ok
  rename_i c0
  split
  · exact ok
  rename_i c1
  obtain ⟨k, rfl⟩ : ∃ k : Nat, i = (k : Int) := ⟨i.toNat, by omega⟩
  rw [Int.toNat_natCast] at c1 ⊢
  have hk : k < P.length := by omega
  have h0 : stA s.st k = 0 := by omega
  have hlt : k < s.st.length := by rw [ok.len]; exact hk
  have hs := fun j => stA_set (x := 1) hlt j
  obtain ⟨hp0, hpk⟩ := pl.par k (by omega) hk
  obtain ⟨q, hq⟩ : ∃ q : Nat, parA P k = (q : Int) := ⟨(parA P k).toNat, by omega⟩
  rw [hq, Int.toNat_natCast] at c1
  have hq1 : stA s.st q = 1 := by omega
  refine ⟨by simpa using ok.len, fun j => ?_, fun j m hp h1 => ?_, fun j => ?_, ok.ndp, ok.acn, fun a ha => ?_⟩
  · show 0 ≤ stA (s.st.set k 1) j ∧ _
    rw [hs]; split
    · omega
    · exact ok.rng j
  · change stA (s.st.set k 1) j = 1 at h1
    show stA (s.st.set k 1) m = 1
    rw [hs] at h1 ⊢
    split
    · rfl
    split at h1
    · rename_i e; subst e
      rw [hq] at hp
      have : q = m := by omega
      rw [← this]; exact hq1
    · exact ok.inp j m hp h1
  · show j ∈ s.dn ↔ stA (s.st.set k 1) j = 2
    rw [hs, ok.dnp]
    split
    · rename_i e; subst e; omega
    · exact Iff.rfl
  · show 3 ≤ stA (s.st.set k 1) a.2
    have := ok.ac3 a ha
    rw [hs, if_neg (by intro e; rw [e] at this; omega)]
    exact this
theorem RsOk.leave {g : Rg} (ok : RsOk P s) (i : Int) : RsOk P (leaveF P g s i).2.1 := by
  unfold leaveF
  split
  · exact ok
  rename_i c0
  split
  · exact ok
  rename_i c1
  obtain ⟨k, rfl⟩ : ∃ k : Nat, i = (k : Int) := ⟨i.toNat, by omega⟩
  rw [Int.toNat_natCast] at c1 ⊢
  have hk : k < P.length := by omega
  have h1 : stA s.st k = 1 := by omega
  have hlt : k < s.st.length := by rw [ok.len]; exact hk
  have hs := fun j => stA_set (x := 2) hlt j
  have hnone : ∀ j, parA P j = (k : Int) → stA s.st j ≠ 1 := fun j hj e => by
    have : j ∈ prts P s.st k 1 := mem_prts.mpr ⟨ok.lt (by omega), hj, e⟩
    have := List.length_pos_of_mem this
    omega
  refine ⟨by simpa using ok.len, fun j => ?_, fun j m hp h2 => ?_, fun j => ?_, ?_, ok.acn, fun a ha => ?_⟩
  · show 0 ≤ stA (s.st.set k 2) j ∧ _
    rw [hs]; split
    · omega
    · exact ok.rng j
  · change stA (s.st.set k 2) j = 1 at h2
    show stA (s.st.set k 2) m = 1
    rw [hs] at h2 ⊢
    split at h2
    · omega
    · split
      · rename_i e; subst e; exact absurd h2 (hnone j hp)
      · exact ok.inp j m hp h2
  · show j ∈ s.dn ++ [k] ↔ stA (s.st.set k 2) j = 2
    rw [hs, List.mem_append, ok.dnp, List.mem_singleton]
    split
    · rename_i e; simp [e]
    · rename_i e; simp [e]
  · rw [List.nodup_append]
    refine ⟨ok.ndp, by simp, fun a ha b hb e => ?_⟩
    rw [List.mem_singleton] at hb
    have := (ok.dnp a).mp ha
    rw [e, hb] at this; omega
  · show 3 ≤ stA (s.st.set k 2) a.2
    have := ok.ac3 a ha
    rw [hs, if_neg (by intro e; rw [e] at this; omega)]
    exact this
theorem RsOk.clear (ok : RsOk P s) : RsOk P ⟨s.st, s.dn, []⟩ := ⟨ok.len, ok.rng, ok.inp, ok.dnp, ok.ndp, by simp, by simp⟩
end

def eAct (a : Int × Nat) : List PV := [.int .i64 a.1, .int .i64 (a.2 : Int)]
abbrev aAc (l : List (Int × Nat)) : AV := .p (.sl (l.map eAct))
theorem cAct_rows (l : List (Int × Nat)) : ((l.map eAct).flatMap id).map AV.p = cAct l := by
  unfold cAct
  rw [List.flatMap_map, List.map_flatMap]; rfl
theorem eAct_all (l : List (Int × Nat)) : (l.map eAct).all (fun r => r.length == 2) = true := by simp [eAct]

theorem keeps_congr {s s' : St} {m : Nat} (e : s'.fr = s.fr) : ∀ {l : List (Nat × AV)}, keeps s m l → keeps s' m l
  | [], _ => trivial
  | (k, x) :: r, h => ⟨by rw [e]; exact h.1, h.2.1, keeps_congr e h.2.2⟩
section
variable {h : Heap} {P : List Sc} {g : Rg} {s : Rs} {L : Heap}
/-- The list of actions begins anew. -/
theorem rn_reset {fr : Nat → Option AV} {nt : Nat} {l : List (Nat × AV)} (hk : keeps (⟨fr, nt, []⟩ : St) (h.length + (L.length + 4)) l) :
    Ghost Try.prog G (rnH h P g s L) ⟨fr, nt, (rnH h P g s L).set (h.length + 1) (some ⟨0, [aSc P, .ref h.length 0 0 1 s.st.length, .ref (h.length + 2) g.gd 0 1 s.dn.length, .p .nils]⟩)⟩ ⟨frL l, nt, rnH h P ⟨g.gd, g.z, g.ga + 1⟩ ⟨s.st, s.dn, []⟩ L ++ []⟩ := by
  have e0 : (rnH h P g s L).set (h.length + 1) (some ⟨0, [aSc P, .ref h.length 0 0 1 s.st.length, .ref (h.length + 2) g.gd 0 1 s.dn.length, .p .nils]⟩) = h ++ (stB s :: some ⟨0, [aSc P, .ref h.length 0 0 1 s.st.length, .ref (h.length + 2) g.gd 0 1 s.dn.length, .p .nils]⟩ :: dnB g s :: acB g s :: L) := by
    unfold rnH; rw [set_app]; rfl
  rw [e0]
  refine (Ghost.adoptCellG (b := h.length + 1) (j := 3) (bk := ⟨0, [aSc P, .ref h.length 0 0 1 s.st.length, .ref (h.length + 2) g.gd 0 1 s.dn.length, .p .nils]⟩) 2 (by rw [get_app]; rfl) rfl).trans ?_
  simp only [List.set_cons_succ, List.set_cons_zero]
  have e1 : (h ++ (stB s :: some (⟨0, [aSc P, .ref h.length 0 0 1 s.st.length, .ref (h.length + 2) g.gd 0 1 s.dn.length, .p .nils]⟩ : Blk) :: dnB g s :: acB g s :: L)).length = h.length + (L.length + 4) := by simp
  rw [e1, List.append_assoc, set_app]
  simp only [List.cons_append, List.set_cons_succ, List.set_cons_zero]
  refine (Ghost.move (b := h.length + 1) (j := 3) (q := h.length + 3) (m := h.length + (L.length + 4)) (off := 0) (sz := 2) (n := 0) (bk := ⟨0, [aSc P, .ref h.length 0 0 1 s.st.length, .ref (h.length + 2) g.gd 0 1 s.dn.length, .ref (h.length + (L.length + 4)) 0 0 2 0]⟩) (bq := ⟨g.ga, cAct s.ac⟩) (bm := ⟨0, []⟩)
    (by rw [get_app]; rfl) rfl (by rw [get_app]; rfl) (by rw [get_app, show L.length + 4 = L.length + 1 + 1 + 1 + 1 by omega]; simp [List.getElem?_append_right]) (by omega) (by omega) (by omega)).trans ?_
  simp only [List.set_cons_succ, List.set_cons_zero]
  rw [show L.length + 4 = L.length + 1 + 1 + 1 + 1 by omega, set_app]
  simp only [List.set_cons_succ]
  rw [List.set_append_right _ _ (Nat.le_refl _), Nat.sub_self, set_app, set_app]
  simp only [List.set_cons_succ, List.set_cons_zero]
  refine Sub.ghostH (H := rnH h P ⟨g.gd, g.z, g.ga + 1⟩ ⟨s.st, s.dn, []⟩ L) (L := []) (by rw [rn_len, rn_len]) (fun i bk hi => by rw [rn_len]; exact rn_keepA i bk hi) ⟨rfl, ⟨[none], by unfold rnH; simp [stB, runB, dnB, acB, cAct]⟩, ?_, trivial⟩
  rw [rn_len]
  refine keeps_congr (s := ⟨fr, nt, []⟩) (m := h.length + (L.length + 4)) ?_ hk
  rfl

def faultX (P : List Sc) (s : Rs) (k : Nat) : Rs := faultF P (k + 1) k ⟨s.st, s.dn, []⟩
theorem Fault_good (pl : PlOk P) (ok : RsOk P s) (k : Nat) (hk : k < P.length) (h1 : stA s.st k = 1) :
    ACalls Try.prog G 12 [.ptr (h.length + 1) 0 0, .i k] (rnH h P g s L) (fun r h' => r = .tup [aAc (faultX P s k).ac, .i 0] ∧ h' = rnH h P (gU ⟨g.gd, g.z, g.ga + 1⟩ ⟨s.st, s.dn, []⟩ (faultX P s k)) (faultX P s k) L) := by
  have hw := wrong_calls (G := G) (h := h) (P := P) (g := g) (s := s) (L := L) k
  rw [if_neg (by omega)] at hw
  have hst := ok.len
  have hfs := fault_spec pl (k + 1) k ⟨s.st, s.dn, []⟩ (by omega) hk ok.clear h1
  have hfc := fault_calls (G := G) (h := h) pl (k + 1) k ⟨s.st, s.dn, []⟩ (by omega) hk ok.clear h1 ⟨g.gd, g.z, g.ga + 1⟩ L
  rw [show faultF P (k + 1) k ⟨s.st, s.dn, []⟩ = faultX P s k from rfl] at hfs hfc
  generalize faultX P s k = t at *
  generalize gU ⟨g.gd, g.z, g.ga + 1⟩ ⟨s.st, s.dn, []⟩ t = g1 at *
  have htne : t.ac ≠ [] := by
    obtain ⟨c, w, m, _, e, _⟩ := hfs.last
    rw [e]; simp
  have h32 := pl.n32
  have hacl := hfs.ok.acle
  have b1 : (stA s.st k != 1) = false := by simp [h1]
  have k0 : (0 : Int) ≤ (k : Int) := by omega
  have ks : (k : Int) < (s.st.length : Int) := by omega
  have dk := dropSt (stA_some (show k < s.st.length by omega))
  have hmc : (t.ac.map eAct) ≠ [] := by simpa using htne
  have hcl : ACalls Try.prog G 24 [.ref (h.length + 3) g1.ga 0 2 t.ac.length] (rnH h P g1 t L) (fun r h' => r = .ref (h.length + (L.length + 4)) 1 0 2 t.ac.length ∧ h' = rnH h P g1 t (L ++ [some ⟨1, cAct t.ac⟩])) := by
    have hb := cloneAc (G := G) (t.ac.map eAct) (eAct_all _) hmc (by rw [List.length_map]; omega) []
    simp only [List.length_map, cAct_rows, List.length_nil, List.nil_append] at hb
    have := ACalls.framed (h := rnH h P g1 t L) (args := [.ref (h.length + 3) g1.ga 0 2 t.ac.length]) (by intro e; have := congrArg List.length e; rw [cAct_len] at this; simp only [List.length_nil] at this; exact htne (List.eq_nil_of_length_eq_zero (by omega))) (fun x hx => by
        unfold cAct at hx
        obtain ⟨a, _, hx⟩ := List.mem_flatMap.mp hx
        simp only [List.mem_cons, List.not_mem_nil, or_false] at hx
        rcases hx with rfl | rfl
        · exact .inl ⟨_, rfl⟩
        · exact .inl ⟨_, rfl⟩) hb rfl (fun ι w hS i x x' v hx hx' hv => by
        match i, hx, hx' with
        | 0, hx, hx' =>
          simp only [List.getElem?_cons_zero, Option.some.injEq] at hx hx'
          subst hx hx'
          refine ref_lasting (rest := []) hS (rows := t.ac.map eAct) (sz := 2) (g := g1.ga) (b := h.length + 3) (by rw [rn_ac, cAct_rows, List.append_nil]; rfl) (fun r hr => by obtain ⟨a, _, rfl⟩ := List.mem_map.mp hr; rfl) (by omega) ?_
          rw [List.length_map]; exact hv)
    rw [rn_len, rn_app] at this
    exact this
  refine Sim.evoKeepG (rl := []) mixed Try.func12 rfl (by rw [Try.ntmps12]; simp) ?_
  rw [Try.ntmps12]
  refine awp_seq_k fun K hK => ?_
  repeat' (first | ((first | refine aops_nil ?_ | refine aqops_nil ?_); (try simp only [NB]); ((repeat ((fail_if_success (refine hK _ ?_)); clear hK K)); refine hK _ ?_; clear hK K)) | ((first | refine aops_k fun K1 hK1 => ?_ | refine aqops_k fun K1 hK1 => ?_ | refine awp_cond_k fun A B hA hB => ?_); simp only [S1, simprocAttr, TTScP]; first | (refine hK1 _ ?_; clear hK1 K1) | ((first | refine hA ?_ | refine hB ?_); clear hA hB A B) | (refine join_x (v := ?_) (fun hg hk9 => ?_) ?_; rotate_left; (focus (try ((try simp only [BN] at hg); simp only [S1, simprocAttr, TTScP, hg] at hk9 ⊢)); first | exact hk9); (refine hK1 _ ?_; clear hK1 K1)) | (((first | (refine ⟨fun hg => hA ?_, fun hg => hB ?_⟩ <;> clear hA hB A B) | refine ⟨fun hg => ?_, fun hg => ?_⟩) <;> (try simp only [BN2] at hg) <;> (try simp only [hg, cond_true, cond_false])) <;> (try (refine hK1 _ ?_; clear hK1 K1)) <;> (try simp only [BN3] at hg))) | (fail) | ((first | refine awp_region ?_ | refine awp_draw (by kernel_rfl) ?_ | refine awp_block ?_ | refine awp_exit ?_ | refine awp_skip ?_ | refine awp_ret ?_); (try simp only [NB, simprocAttr]); (try ((repeat ((fail_if_success (refine hK _ ?_)); clear hK K)); refine hK _ ?_; clear hK K))))
  refine awp_seq_k fun K hK => ?_
  refine awp_seq_k fun K hK => ?_
  repeat' (first | ((first | refine aops_nil ?_ | refine aqops_nil ?_); (try simp only [NB]); ((repeat ((fail_if_success (refine hK _ ?_)); clear hK K)); refine hK _ ?_; clear hK K)) | ((first | refine aops_k fun K1 hK1 => ?_ | refine aqops_k fun K1 hK1 => ?_ | refine awp_cond_k fun A B hA hB => ?_); simp only [S1, simprocAttr, TTScP]; first | (refine hK1 _ ?_; clear hK1 K1) | ((first | refine hA ?_ | refine hB ?_); clear hA hB A B) | ((first | apply call_a E22 | apply call_q E22); exact hw; (refine hK1 _ ?_; clear hK1 K1)) | (refine join_x (v := ?_) (fun hg hk9 => ?_) ?_; rotate_left; (focus (try ((try simp only [BN] at hg); simp only [S1, simprocAttr, TTScP, hg] at hk9 ⊢)); first | exact hk9 | ((first | apply call_a E22 | apply call_q E22); exact hw; exact hk9)); (refine hK1 _ ?_; clear hK1 K1)) | (((first | (refine ⟨fun hg => hA ?_, fun hg => hB ?_⟩ <;> clear hA hB A B) | refine ⟨fun hg => ?_, fun hg => ?_⟩) <;> (try simp only [BN2] at hg) <;> (try simp only [hg, cond_true, cond_false])) <;> (try (refine hK1 _ ?_; clear hK1 K1)) <;> (try simp only [BN3] at hg))) | (fail) | ((first | refine awp_region ?_ | refine awp_draw (by kernel_rfl) ?_ | refine awp_block ?_ | refine awp_exit ?_ | refine awp_skip ?_ | refine awp_ret ?_); (try simp only [NB, simprocAttr]); (try ((repeat ((fail_if_success (refine hK _ ?_)); clear hK K)); refine hK _ ?_; clear hK K))))
  refine awp_seq_k fun K hK => ?_
  repeat' (first | ((first | refine aops_nil ?_ | refine aqops_nil ?_); (try simp only [NB]); ((repeat ((fail_if_success (refine hK _ ?_)); clear hK K)); refine hK _ ?_; clear hK K)) | ((first | refine aops_k fun K1 hK1 => ?_ | refine aqops_k fun K1 hK1 => ?_ | refine awp_cond_k fun A B hA hB => ?_); simp only [S1, simprocAttr, TTScP]; first | (refine hK1 _ ?_; clear hK1 K1) | ((first | refine hA ?_ | refine hB ?_); clear hA hB A B) | (refine join_x (v := ?_) (fun hg hk9 => ?_) ?_; rotate_left; (focus (try ((try simp only [BN] at hg); simp only [S1, simprocAttr, TTScP, hg] at hk9 ⊢)); first | exact hk9); (refine hK1 _ ?_; clear hK1 K1)) | (((first | (refine ⟨fun hg => hA ?_, fun hg => hB ?_⟩ <;> clear hA hB A B) | refine ⟨fun hg => ?_, fun hg => ?_⟩) <;> (try simp only [BN2] at hg) <;> (try simp only [hg, cond_true, cond_false])) <;> (try (refine hK1 _ ?_; clear hK1 K1)) <;> (try simp only [BN3] at hg))) | (fail) | ((first | refine awp_region ?_ | refine awp_draw (by kernel_rfl) ?_ | refine awp_block ?_ | refine awp_exit ?_ | refine awp_skip ?_ | refine awp_ret ?_); (try simp only [NB, simprocAttr]); (try ((repeat ((fail_if_success (refine hK _ ?_)); clear hK K)); refine hK _ ?_; clear hK K))))
  repeat' (first | ((first | refine aops_nil ?_ | refine aqops_nil ?_); (try simp only [NB]); ((repeat ((fail_if_success (refine hK _ ?_)); clear hK K)); refine hK _ ?_; clear hK K)) | ((first | refine aops_k fun K1 hK1 => ?_ | refine aqops_k fun K1 hK1 => ?_ | refine awp_cond_k fun A B hA hB => ?_); simp only [S1, simprocAttr, TTScP]; first | (refine hK1 _ ?_; clear hK1 K1) | ((first | refine hA ?_ | refine hB ?_); clear hA hB A B) | (refine join_x (v := ?_) (fun hg hk9 => ?_) ?_; rotate_left; (focus (try ((try simp only [BN] at hg); simp only [S1, simprocAttr, TTScP, hg] at hk9 ⊢)); first | exact hk9); (refine hK1 _ ?_; clear hK1 K1)) | (((first | (refine ⟨fun hg => hA ?_, fun hg => hB ?_⟩ <;> clear hA hB A B) | refine ⟨fun hg => ?_, fun hg => ?_⟩) <;> (try simp only [BN2] at hg) <;> (try simp only [hg, cond_true, cond_false])) <;> (try (refine hK1 _ ?_; clear hK1 K1)) <;> (try simp only [BN3] at hg))) | (fail) | ((first | refine awp_region ?_ | refine awp_draw (by kernel_rfl) ?_ | refine awp_block ?_ | refine awp_exit ?_ | refine awp_skip ?_ | refine awp_ret ?_); (try simp only [NB, simprocAttr]); (try ((repeat ((fail_if_success (refine hK _ ?_)); clear hK K)); refine hK _ ?_; clear hK K))))
  refine awp_seq_k fun K hK => ?_
  refine awp_seq_k fun K hK => ?_
  repeat' (first | ((first | refine aops_nil ?_ | refine aqops_nil ?_); (try simp only [NB]); ((repeat ((fail_if_success (refine hK _ ?_)); clear hK K)); refine hK _ ?_; clear hK K)) | ((first | refine aops_k fun K1 hK1 => ?_ | refine aqops_k fun K1 hK1 => ?_ | refine awp_cond_k fun A B hA hB => ?_); simp only [S1, simprocAttr, TTScP, b1, k0, ks, dk, rn_run, rn_st, runB, stB, Int.toNat_natCast, List.length_map, Nat.mul_one, Nat.zero_add]; first | (refine hK1 _ ?_; clear hK1 K1) | ((first | refine hA ?_ | refine hB ?_); clear hA hB A B) | (refine join_x (v := ?_) (fun hg hk9 => ?_) ?_; rotate_left; (focus (try ((try simp only [BN] at hg); simp only [S1, simprocAttr, TTScP, b1, k0, ks, dk, rn_run, rn_st, runB, stB, Int.toNat_natCast, List.length_map, Nat.mul_one, Nat.zero_add, hg] at hk9 ⊢)); first | exact hk9); (refine hK1 _ ?_; clear hK1 K1)) | (((first | (refine ⟨fun hg => hA ?_, fun hg => hB ?_⟩ <;> clear hA hB A B) | refine ⟨fun hg => ?_, fun hg => ?_⟩) <;> (try simp only [BN2] at hg) <;> (try simp only [hg, cond_true, cond_false])) <;> (try (refine hK1 _ ?_; clear hK1 K1)) <;> (try simp only [BN3] at hg))) | (fail) | ((first | refine awp_region ?_ | refine awp_draw (by kernel_rfl) ?_ | refine awp_block ?_ | refine awp_exit ?_ | refine awp_skip ?_ | refine awp_ret ?_); (try simp only [NB, simprocAttr]); (try ((repeat ((fail_if_success (refine hK _ ?_)); clear hK K)); refine hK _ ?_; clear hK K))))
  repeat' (first | ((first | refine aops_nil ?_ | refine aqops_nil ?_); (try simp only [NB]); ((repeat ((fail_if_success (refine hK _ ?_)); clear hK K)); refine hK _ ?_; clear hK K)) | ((first | refine aops_k fun K1 hK1 => ?_ | refine aqops_k fun K1 hK1 => ?_ | refine awp_cond_k fun A B hA hB => ?_); simp only [S1, simprocAttr, TTScP]; first | (refine hK1 _ ?_; clear hK1 K1) | ((first | refine hA ?_ | refine hB ?_); clear hA hB A B) | (refine join_x (v := ?_) (fun hg hk9 => ?_) ?_; rotate_left; (focus (try ((try simp only [BN] at hg); simp only [S1, simprocAttr, TTScP, hg] at hk9 ⊢)); first | exact hk9); (refine hK1 _ ?_; clear hK1 K1)) | (((first | (refine ⟨fun hg => hA ?_, fun hg => hB ?_⟩ <;> clear hA hB A B) | refine ⟨fun hg => ?_, fun hg => ?_⟩) <;> (try simp only [BN2] at hg) <;> (try simp only [hg, cond_true, cond_false])) <;> (try (refine hK1 _ ?_; clear hK1 K1)) <;> (try simp only [BN3] at hg))) | (fail) | ((first | refine awp_region ?_ | refine awp_draw (by kernel_rfl) ?_ | refine awp_block ?_ | refine awp_exit ?_ | refine awp_skip ?_ | refine awp_ret ?_); (try simp only [NB, simprocAttr]); (try ((repeat ((fail_if_success (refine hK _ ?_)); clear hK K)); refine hK _ ?_; clear hK K))))
  refine awp_tellG ⟨frL [(0, .ptr (h.length + 1) 0 0), (1, .i k)], 32, rnH h P ⟨g.gd, g.z, g.ga + 1⟩ ⟨s.st, s.dn, []⟩ L ++ []⟩ (fun K hK => ?_) ?_
  · repeat' (first | ((first | refine aops_nil ?_ | refine aqops_nil ?_); (try simp only [NB]); ((repeat ((fail_if_success (refine hK _ ?_)); clear hK K)); refine hK _ ?_; clear hK K)) | ((first | refine aops_k fun K1 hK1 => ?_ | refine aqops_k fun K1 hK1 => ?_ | refine awp_cond_k fun A B hA hB => ?_); simp only [S1, simprocAttr, TTScP, rn_run, runB]; first | (refine hK1 _ ?_; clear hK1 K1) | ((first | refine hA ?_ | refine hB ?_); clear hA hB A B) | (refine join_x (v := ?_) (fun hg hk9 => ?_) ?_; rotate_left; (focus (try ((try simp only [BN] at hg); simp only [S1, simprocAttr, TTScP, rn_run, runB, hg] at hk9 ⊢)); first | exact hk9); (refine hK1 _ ?_; clear hK1 K1)) | (((first | (refine ⟨fun hg => hA ?_, fun hg => hB ?_⟩ <;> clear hA hB A B) | refine ⟨fun hg => ?_, fun hg => ?_⟩) <;> (try simp only [BN2] at hg) <;> (try simp only [hg, cond_true, cond_false])) <;> (try (refine hK1 _ ?_; clear hK1 K1)) <;> (try simp only [BN3] at hg))) | (fail) | ((first | refine awp_region ?_ | refine awp_draw (by kernel_rfl) ?_ | refine awp_block ?_ | refine awp_exit ?_ | refine awp_skip ?_ | refine awp_ret ?_); (try simp only [NB, simprocAttr]); (try ((repeat ((fail_if_success (refine hK _ ?_)); clear hK K)); refine hK _ ?_; clear hK K))))
    all_goals refine rn_reset ?_
    all_goals simp only [keeps, avlt, avlts, blksLt, frL, upd_get, S1, simprocAttr, List.length_map, Int.natCast_zero, AV.p.injEq, PV.int.injEq, PV.bool.injEq, PV.sl.injEq] <;> (try and_intros) <;> (try assumption) <;> (try trivial) <;> (try omega)
  rw [List.append_nil]
  have hrun : ∀ (g : Rg) (s : Rs) (L : Heap), (rnH h P g s L)[h.length + 1]? = some (runB h.length P g s) := fun _ _ _ => rn_run
  repeat' (first | ((first | refine aops_nil ?_ | refine aqops_nil ?_); (try simp only [NB])) | ((repeat ((fail_if_success (refine hK _ ?_)); clear hK K)); refine hK _ ?_; clear hK K) | ((first | refine aops_k fun K1 hK1 => ?_ | refine aqops_k fun K1 hK1 => ?_ | refine awp_cond_k fun A B hA hB => ?_); simp only [S1, simprocAttr, TTScP, hrun, runB]; first | (refine hK1 _ ?_; clear hK1 K1) | ((first | refine hA ?_ | refine hB ?_); clear hA hB A B) | ((first | apply call_a E23 | apply call_q E23); exact hfc; (refine hK1 _ ?_; clear hK1 K1)) | ((first | apply call_a E24 | apply call_q E24); exact hcl; (refine hK1 _ ?_; clear hK1 K1)) | (refine join_x (v := ?_) (fun hg hk9 => ?_) ?_; rotate_left; (focus (try ((try simp only [BN] at hg); simp only [S1, simprocAttr, TTScP, hrun, runB, hg] at hk9 ⊢)); first | exact hk9 | ((first | apply call_a E23 | apply call_q E23); exact hfc; exact hk9) | ((first | apply call_a E24 | apply call_q E24); exact hcl; exact hk9)); (refine hK1 _ ?_; clear hK1 K1)) | (((first | (refine ⟨fun hg => hA ?_, fun hg => hB ?_⟩ <;> clear hA hB A B) | refine ⟨fun hg => ?_, fun hg => ?_⟩) <;> (try simp only [BN2] at hg) <;> (try simp only [hg, cond_true, cond_false])) <;> (try (refine hK1 _ ?_; clear hK1 K1)) <;> (try simp only [BN3] at hg))) | (refine awp_seq_k fun K hK => ?_) | ((first | refine awp_region ?_ | refine awp_draw (by kernel_rfl) ?_ | refine awp_block ?_ | refine awp_exit ?_ | refine awp_skip ?_ | refine awp_ret ?_); (try simp only [NB, simprocAttr])))
  have hbk : (rnH h P g1 t (L ++ [some ⟨1, cAct t.ac⟩]))[h.length + (L.length + 4)]? = some (some ⟨1, cAct t.ac⟩) := by rw [show L.length + 4 = 4 + L.length by omega, rn_at, List.getElem?_append_right (Nat.le_refl _), Nat.sub_self]; rfl
  have hst : (rnH h P g1 t (L ++ [some ⟨1, cAct t.ac⟩])).set (h.length + (L.length + 4)) none = rnH h P g1 t L ++ ([] ++ [none]) := by rw [show L.length + 4 = 4 + L.length by omega, rn_set, List.set_append_right _ _ (Nat.le_refl _), Nat.sub_self, rn_app]; rfl
  all_goals refine ⟨.inr trivial, _, (Ghost.freeze (k := 4) (b := h.length + (L.length + 4)) (sz := 2) (n := t.ac.length) (rows := t.ac.map eAct) (bk := ⟨1, cAct t.ac⟩) (rest := []) rfl hbk (by rw [List.length_map]) (fun r hr => by obtain ⟨a, _, rfl⟩ := List.mem_map.mp hr; rfl) (by omega) (by rw [cAct_rows, List.append_nil])).trans
    (Sub.ghostH (H := rnH h P g1 t L) (l := [(4, aAc t.ac), (5, .i 0)]) (L := []) (by rw [rn_len, rn_len]) (fun i bk hi => by rw [rn_len]; exact rn_keepA i bk hi) ⟨rfl, ⟨[none], hst⟩, ⟨rfl, trivial, rfl, trivial, trivial⟩, trivial⟩), ?_⟩
  all_goals exact ⟨by rw [List.append_nil, rn_len, rn_len]; exact Nat.le_refl _, rfl, List.append_nil _⟩
end
end Go.Proofs.Ytkmcecbglomemaa.AM
end

section
set_option linter.unusedVariables false
set_option linter.unusedSimpArgs false
set_option maxRecDepth 4000
set_option maxHeartbeats 4000000
namespace Go.Proofs.Ytkmcecbglomemaa.AM
open Go Go.Proofs
set_option linter.defProp false in
def TTScQ := And.intro T2 (And.intro T3 (And.intro T4 (And.intro T22 (And.intro T25 (And.intro T26 (And.intro T37 (And.intro T41 (And.intro T45 (And.intro T49 T54)))))))))
attribute [local irreducible] awp aops aqops aeops arun arunT arunN
variable {G : Nat → Option (List PV)}

theorem eSc_all (l : List Sc) : (l.map eSc).all (fun r => r.length == 3) = true := by simp [eSc]
theorem new_set (n : Nat) : (List.replicate n (AV.i 0)).set 0 (.i 1) = (newSt n).map AV.i := by
  unfold newSt
  rw [List.map_set, List.map_replicate]

theorem New_calls {P : List Sc} (pl : PlOk P) (h : Heap) : ACalls Try.prog G 8 [aSc P] h (fun r h' => r = .tup [.ptr (h.length + 1) 0 0, .i 0] ∧ h' = rnH h P ⟨0, 0, 0⟩ ⟨newSt P.length, [], []⟩ []) := by
  have hn1 := pl.n1
  have hn2 := pl.n32
  have hne : P.map eSc ≠ [] := by intro e; have := congrArg List.length e; simp at this; rw [this] at hn1; simp at hn1
  have hcl := fun H : Heap => cloneScP (G := G) (P.map eSc) (eSc_all P) hne (by rw [List.length_map]; omega) H
  have b1 : ¬ (P.length : Int) < 1 := by omega
  have b2 : ¬ (32 : Int) < (P.length : Int) := by omega
  refine Sim.evoKeepG (rl := []) mixed Try.func8 rfl (by rw [Try.ntmps8]; simp) ?_
  rw [Try.ntmps8]
  repeat' (first | ((first | refine aops_nil ?_ | refine aqops_nil ?_); (try simp only [NB])) | ((repeat ((fail_if_success (refine hK _ ?_)); clear hK K)); refine hK _ ?_; clear hK K) | ((first | refine aops_k fun K1 hK1 => ?_ | refine aqops_k fun K1 hK1 => ?_ | refine awp_cond_k fun A B hA hB => ?_); simp only [S1, simprocAttr, TTScQ, b1, b2, List.length_map]; first | (refine hK1 _ ?_; clear hK1 K1) | ((first | refine hA ?_ | refine hB ?_); clear hA hB A B) | (refine join_x (v := ?_) (fun hg hk9 => ?_) ?_; rotate_left; (focus (try ((try simp only [BN] at hg); simp only [S1, simprocAttr, TTScQ, b1, b2, List.length_map, hg] at hk9 ⊢)); first | exact hk9); (refine hK1 _ ?_; clear hK1 K1)) | (((first | (refine ⟨fun hg => hA ?_, fun hg => hB ?_⟩ <;> clear hA hB A B) | refine ⟨fun hg => ?_, fun hg => ?_⟩) <;> (try simp only [BN2] at hg) <;> (try simp only [hg, cond_true, cond_false])) <;> (try (refine hK1 _ ?_; clear hK1 K1)) <;> (try simp only [BN3] at hg))) | (refine awp_seq_k fun K hK => ?_) | ((first | refine awp_region ?_ | refine awp_draw (by kernel_rfl) ?_ | refine awp_block ?_ | refine awp_exit ?_ | refine awp_skip ?_ | refine awp_ret ?_); (try simp only [NB, simprocAttr])))
  refine awp_for P.length 58 (fun j => [(17, .i j), (16, .i P.length), (15, aSc P), (0, aSc P)]) (fun j => []) (fun j => True) ?_ trivial fun j hj hp K hK => ?_
  · (refine ⟨rfl, (by first | exact ⟨_, rfl⟩ | exact ⟨[], by simp⟩), ?_, ?_⟩ <;> simp only [keeps, avlt, avlts, blksLt, frL, upd_get, S1, simprocAttr, List.length_map, Int.natCast_zero, AV.p.injEq, PV.int.injEq, PV.bool.injEq, PV.sl.injEq] <;> (try and_intros) <;> (try assumption) <;> (try trivial) <;> (try omega))
  rcases Nat.lt_or_ge j P.length with hlt | hge
  · obtain ⟨sc, hx⟩ : ∃ k, P[j]? = some k := ⟨_, List.getElem?_eq_getElem hlt⟩
    have jl : (j : Int) < (P.length : Int) := by omega
    have j0 : (0 : Int) ≤ (j : Int) := by omega
    have hnx := nextJ (n := P.length) (by omega) hlt
    have hpa : parA P j = sc.1 := by unfold parA; rw [hx]
    have hxr := rowSc hx
    by_cases c0 : j = 0
    · subst c0
      have e : sc.1 = -1 := by rw [← hpa]; exact pl.root
      rw [e] at hxr
      have z1 : (0 : Int) < (P.length : Int) := by omega
      repeat' (first | ((first | refine aops_nil ?_ | refine aqops_nil ?_); (try simp only [NB])) | ((repeat ((fail_if_success (refine hK _ ?_)); clear hK K)); refine hK _ ?_; clear hK K) | ((first | refine aops_k fun K1 hK1 => ?_ | refine aqops_k fun K1 hK1 => ?_ | refine awp_cond_k fun A B hA hB => ?_); simp only [S1, simprocAttr, TTScQ, hxr, z1, jl, hnx, takeC_st, Int.natCast_zero, List.length_map]; first | (refine hK1 _ ?_; clear hK1 K1) | ((first | refine hA ?_ | refine hB ?_); clear hA hB A B) | (refine join_x (v := ?_) (fun hg hk9 => ?_) ?_; rotate_left; (focus (try ((try simp only [BN] at hg); simp only [S1, simprocAttr, TTScQ, hxr, z1, jl, hnx, takeC_st, Int.natCast_zero, List.length_map, hg] at hk9 ⊢)); first | exact hk9); (refine hK1 _ ?_; clear hK1 K1)) | (((first | (refine ⟨fun hg => hA ?_, fun hg => hB ?_⟩ <;> clear hA hB A B) | refine ⟨fun hg => ?_, fun hg => ?_⟩) <;> (try simp only [BN2] at hg) <;> (try simp only [hg, cond_true, cond_false])) <;> (try (refine hK1 _ ?_; clear hK1 K1)) <;> (try simp only [BN3] at hg))) | (refine awp_seq_k fun K hK => ?_) | ((first | refine awp_region ?_ | refine awp_draw (by kernel_rfl) ?_ | refine awp_block ?_ | refine awp_exit ?_ | refine awp_skip ?_ | refine awp_ret ?_); (try simp only [NB, simprocAttr])))
      all_goals exact ⟨hlt, trivial, by (refine ⟨rfl, (by first | exact ⟨_, rfl⟩ | exact ⟨[], by simp⟩), ?_, ?_⟩ <;> simp only [keeps, avlt, avlts, blksLt, frL, upd_get, S1, simprocAttr, List.length_map, Int.natCast_zero, AV.p.injEq, PV.int.injEq, PV.bool.injEq, PV.sl.injEq] <;> (try and_intros) <;> (try assumption) <;> (try trivial) <;> (try omega))⟩
    · obtain ⟨p0, p1⟩ := pl.par j (by omega) hlt
      rw [hpa] at p0 p1
      have f1 : ¬ (j : Int) ≤ sc.1 := by omega
      have f2 : ¬ sc.1 < 0 := by omega
      have f3 : ((j : Int) == 0) = false := by simp; omega
      repeat' (first | ((first | refine aops_nil ?_ | refine aqops_nil ?_); (try simp only [NB])) | ((repeat ((fail_if_success (refine hK _ ?_)); clear hK K)); refine hK _ ?_; clear hK K) | ((first | refine aops_k fun K1 hK1 => ?_ | refine aqops_k fun K1 hK1 => ?_ | refine awp_cond_k fun A B hA hB => ?_); simp only [S1, simprocAttr, TTScQ, hxr, jl, j0, hnx, f1, f2, f3, takeC_st, Int.toNat_natCast, List.length_map]; first | (refine hK1 _ ?_; clear hK1 K1) | ((first | refine hA ?_ | refine hB ?_); clear hA hB A B) | (refine join_x (v := ?_) (fun hg hk9 => ?_) ?_; rotate_left; (focus (try ((try simp only [BN] at hg); simp only [S1, simprocAttr, TTScQ, hxr, jl, j0, hnx, f1, f2, f3, takeC_st, Int.toNat_natCast, List.length_map, hg] at hk9 ⊢)); first | exact hk9); (refine hK1 _ ?_; clear hK1 K1)) | (((first | (refine ⟨fun hg => hA ?_, fun hg => hB ?_⟩ <;> clear hA hB A B) | refine ⟨fun hg => ?_, fun hg => ?_⟩) <;> (try simp only [BN2] at hg) <;> (try simp only [hg, cond_true, cond_false])) <;> (try (refine hK1 _ ?_; clear hK1 K1)) <;> (try simp only [BN3] at hg))) | (refine awp_seq_k fun K hK => ?_) | ((first | refine awp_region ?_ | refine awp_draw (by kernel_rfl) ?_ | refine awp_block ?_ | refine awp_exit ?_ | refine awp_skip ?_ | refine awp_ret ?_); (try simp only [NB, simprocAttr])))
      all_goals exact ⟨hlt, trivial, by (refine ⟨rfl, (by first | exact ⟨_, rfl⟩ | exact ⟨[], by simp⟩), ?_, ?_⟩ <;> simp only [keeps, avlt, avlts, blksLt, frL, upd_get, S1, simprocAttr, List.length_map, Int.natCast_zero, AV.p.injEq, PV.int.injEq, PV.bool.injEq, PV.sl.injEq] <;> (try and_intros) <;> (try assumption) <;> (try trivial) <;> (try omega))⟩
  · obtain rfl : j = P.length := by omega
    have z1 : (0 : Int) ≤ (P.length : Int) := by omega
    have z2 : (0 : Int) < (P.length : Int) := by omega
    have z3 : (P.length : Int) ≤ 16777216 := by omega
    have z6 : ¬ (P.length : Int) = 0 := by omega
    have z4 : 0 < P.length := by omega
    have z5 : ¬ P.length = 0 := by omega
    have hrp := rep_flat P.length (AV.i 0)
    have hst := new_set P.length
    repeat' (first | ((first | refine aops_nil ?_ | refine aqops_nil ?_ | refine arun_nil ?_ | refine arunT_nil ?_); (try simp only [NB])) | ((repeat ((fail_if_success (refine hK _ ?_)); clear hK K)); refine hK _ ?_; clear hK K) | ((first | refine aops_k fun K1 hK1 => ?_ | refine aqops_k fun K1 hK1 => ?_ | refine arun_eff rfl rfl rfl fun K1 hK1 => ?_ | refine awp_cond_k fun A B hA hB => ?_); simp only [S1, simprocAttr, TTScQ, Int.lt_irrefl, z1, z2, z3, z4, z5, z6, hn1, List.replicate_zero, List.append_nil, hrp, hst, Int.toNat_natCast, List.length_map, List.length_replicate, Nat.mul_one, Nat.zero_add]; first | (refine hK1 _ ?_; clear hK1 K1) | ((first | refine hA ?_ | refine hB ?_); clear hA hB A B) | ((first | apply call_a E18 | apply call_q E18); exact (hcl _); (refine hK1 _ ?_; clear hK1 K1)) | (refine join_x (v := ?_) (fun hg hk9 => ?_) ?_; rotate_left; (focus (try ((try simp only [BN] at hg); simp only [S1, simprocAttr, TTScQ, Int.lt_irrefl, z1, z2, z3, z4, z5, z6, hn1, List.replicate_zero, List.append_nil, hrp, hst, Int.toNat_natCast, List.length_map, List.length_replicate, Nat.mul_one, Nat.zero_add, hg] at hk9 ⊢)); first | exact hk9 | ((first | apply call_a E18 | apply call_q E18); exact (hcl _); exact hk9)); (refine hK1 _ ?_; clear hK1 K1)) | (((first | (refine ⟨fun hg => hA ?_, fun hg => hB ?_⟩ <;> clear hA hB A B) | refine ⟨fun hg => ?_, fun hg => ?_⟩) <;> (try simp only [BN2] at hg) <;> (try simp only [hg, cond_true, cond_false])) <;> (try (refine hK1 _ ?_; clear hK1 K1)) <;> (try simp only [BN3] at hg))) | ((first | refine arun_q (v := ?_) rfl rfl rfl rfl (by decide) (fun R1 K1 hK1 => ?_) ?_ | refine arun_f (v := ?_) rfl rfl rfl (by decide) (fun K1 hK1 => ?_) ?_ | refine arunT_f (v := ?_) rfl rfl rfl (by decide) (fun K1 hK1 => ?_) ?_ | refine arun_w (v := ?_) rfl rfl rfl rfl (by decide) (fun H1 K1 hK1 => ?_) ?_); rotate_left; (focus (simp only [S1, simprocAttr, TTScQ, Int.lt_irrefl, z1, z2, z3, z4, z5, z6, hn1, List.replicate_zero, List.append_nil, hrp, hst, Int.toNat_natCast, List.length_map, List.length_replicate, Nat.mul_one, Nat.zero_add]; first | (exact hK1 _ _ _) | ((first | apply call_a E18 | apply call_q E18); exact (hcl _); exact hK1 _ _ _)))) | (refine arun_tail rfl rfl rfl ?_) | ((first | refine arun_allocj (z := ?_) 0 rfl rfl rfl rfl (by decide) rfl ?_ ?_ | refine arun_allocj (z := ?_) 1 rfl rfl rfl rfl (by decide) rfl ?_ ?_ | refine arun_allocj (z := ?_) 2 rfl rfl rfl rfl (by decide) rfl ?_ ?_); rotate_left; (focus (simp only [S1, simprocAttr, TTScQ, Int.lt_irrefl, z1, z2, z3, z4, z5, z6, hn1, List.replicate_zero, List.append_nil, hrp, hst, Int.toNat_natCast, List.length_map, List.length_replicate, Nat.mul_one, Nat.zero_add, zeroB]; rfl))) | (refine awp_seq_k fun K hK => ?_) | (refine awp_drawR (es := [4, 5]) [0, 1, 2, 3, 4, 5, 6, 7] 0 (fs := [1, 3]) rfl (by kernel_rfl) (by kernel_rfl) ?_) | ((first | refine awp_region ?_ | refine awp_draw (by kernel_rfl) ?_ | refine awp_block ?_ | refine awp_exit ?_ | refine awp_skip ?_ | refine awp_ret ?_); (try simp only [NB, simprocAttr])))
    all_goals refine ⟨.inr trivial, ⟨frL [(2, .ptr (h.length + 1) 0 0), (3, .i 0)], 58, h ++ [stB ⟨newSt P.length, [], []⟩, runB h.length P ⟨0, 0, 0⟩ ⟨newSt P.length, [], []⟩, dnB ⟨0, 0, 0⟩ ⟨newSt P.length, [], []⟩, acB ⟨0, 0, 0⟩ ⟨newSt P.length, [], []⟩]⟩, (Ghost.adoptCellG (b := h.length + 1) (j := 2) (bk := ⟨0, [aSc P, .ref h.length 0 0 1 P.length, .p .nils, .p .nils]⟩) 1 (by rw [get_app]; rfl) rfl).trans ?_, ⟨by simp, rfl, rfl⟩⟩
    have e1 : ∀ A B : Option Blk, (h ++ [A, B] : Heap).length = h.length + 2 := fun A B => by simp
    have e2 : ∀ A B C : Option Blk, (h ++ [A, B, C] : Heap).length = h.length + 3 := fun A B C => by simp
    simp only [List.set_cons_succ, List.set_cons_zero, e1, List.append_assoc, set_app, List.cons_append, List.nil_append]
    refine (Ghost.adoptCellG (b := h.length + 1) (j := 3) (bk := ⟨0, [aSc P, .ref h.length 0 0 1 P.length, .ref (h.length + 2) 0 0 1 0, .p .nils]⟩) 2 (by rw [get_app]; rfl) rfl).trans ?_
    simp only [List.set_cons_succ, List.set_cons_zero, e2, List.append_assoc, set_app, List.cons_append, List.nil_append]
    have hl : (newSt P.length).length = P.length := by simp [newSt]
    refine Sub.ghost ⟨rfl, ⟨[], by simp [stB, runB, dnB, acB, cDn, cAct, hl]⟩, ?_, ⟨avlts_i _ _, ⟨trivial, by simp only [avlt, List.length_cons, List.length_nil]; omega, by simp only [avlt, List.length_cons, List.length_nil]; omega, by simp only [avlt, List.length_cons, List.length_nil]; omega, trivial⟩, cDn_avl _ _ _, cAct_avl _ _, trivial⟩⟩
    simp only [keeps, avlt, avlts, blksLt, frL, upd_get, List.length_cons, List.length_nil, S1, simprocAttr, List.length_map, List.length_cons, List.length_nil, Int.natCast_zero, AV.p.injEq, PV.int.injEq, PV.bool.injEq, PV.sl.injEq] <;> (try and_intros) <;> (try assumption) <;> (try trivial) <;> (try omega)

theorem rn_takeh {h : Heap} {P : List Sc} {g : Rg} {s : Rs} {L : Heap} : (rnH h P g s L).take h.length = h := by unfold rnH; exact List.take_left' rfl
def P3 : List Sc := [(-1, true, false), (0, false, true), (0, false, true)]
theorem P3_ok : PlOk P3 := ⟨by decide, by decide, rfl, fun k h0 hk => by
  match k, h0, hk with
  | 1, _, _ => exact ⟨by decide, by decide⟩
  | 2, _, _ => exact ⟨by decide, by decide⟩
  | k + 3, _, hk => simp [P3] at hk; omega⟩

theorem undone_calls (h : Heap) : ACalls Try.prog G 7 [] h (fun r h' => r = .b true ∧ h' = h) := by
  have pl := P3_ok
  have hN := New_calls (G := G) pl h
  have e0 : (⟨newSt P3.length, [], []⟩ : Rs) = ⟨[1, 0, 0], [], []⟩ := rfl
  rw [e0] at hN
  have k0 : RsOk P3 ⟨[1, 0, 0], [], []⟩ := RsOk.new pl
  have c1 : ACalls Try.prog G 16 [.ptr (h.length + 1) 0 0, .i 1] (rnH h P3 ⟨0, 0, 0⟩ ⟨[1, 0, 0], [], []⟩ []) (fun r h' => r = .i 0 ∧ h' = rnH h P3 ⟨0, 0, 0⟩ ⟨[1, 1, 0], [], []⟩ []) := enter_calls pl rfl 1
  have k1 : RsOk P3 ⟨[1, 1, 0], [], []⟩ := RsOk.enter pl k0 1
  have c2 : ACalls Try.prog G 17 [.ptr (h.length + 1) 0 0, .i 1] (rnH h P3 ⟨0, 0, 0⟩ ⟨[1, 1, 0], [], []⟩ []) (fun r h' => r = .i 0 ∧ h' = rnH h P3 ⟨1, 0, 0⟩ ⟨[1, 2, 0], [1], []⟩ []) := leave_calls pl.n32 rfl (by simp) 1
  have k2 : RsOk P3 ⟨[1, 2, 0], [1], []⟩ := RsOk.leave (g := ⟨0, 0, 0⟩) k1 1
  have c3 : ACalls Try.prog G 16 [.ptr (h.length + 1) 0 0, .i 2] (rnH h P3 ⟨1, 0, 0⟩ ⟨[1, 2, 0], [1], []⟩ []) (fun r h' => r = .i 0 ∧ h' = rnH h P3 ⟨1, 0, 0⟩ ⟨[1, 2, 1], [1], []⟩ []) := enter_calls pl rfl 2
  have k3 : RsOk P3 ⟨[1, 2, 1], [1], []⟩ := RsOk.enter pl k2 2
  have c4 : ACalls Try.prog G 17 [.ptr (h.length + 1) 0 0, .i 2] (rnH h P3 ⟨1, 0, 0⟩ ⟨[1, 2, 1], [1], []⟩ []) (fun r h' => r = .i 0 ∧ h' = rnH h P3 ⟨2, 0, 0⟩ ⟨[1, 2, 2], [1, 2], []⟩ []) := leave_calls pl.n32 rfl (by simp) 2
  have k4 : RsOk P3 ⟨[1, 2, 2], [1, 2], []⟩ := RsOk.leave (g := ⟨1, 0, 0⟩) k3 2
  have c5 : ACalls Try.prog G 12 [.ptr (h.length + 1) 0 0, .i 0] (rnH h P3 ⟨2, 0, 0⟩ ⟨[1, 2, 2], [1, 2], []⟩ []) (fun r h' => r = .tup [aAc [(2, 2), (2, 1), (3, 0)], .i 0] ∧ h' = rnH h P3 ⟨2, 2, 4⟩ ⟨[5, 4, 4], [], [(2, 2), (2, 1), (3, 0)]⟩ []) := Fault_good pl k4 0 (by decide) rfl
  have c6 : ACalls Try.prog G 14 [.ptr (h.length + 1) 0 0, .i 1] (rnH h P3 ⟨2, 2, 4⟩ ⟨[5, 4, 4], [], [(2, 2), (2, 1), (3, 0)]⟩ []) (fun r h' => r = .i 4 ∧ h' = rnH h P3 ⟨2, 2, 4⟩ ⟨[5, 4, 4], [], [(2, 2), (2, 1), (3, 0)]⟩ []) := state_calls rfl 1
  have hac : (aAc [(2, 2), (2, 1), (3, 0)] : AV) = .p (.sl [[.int .i64 2, .int .i64 2], [.int .i64 2, .int .i64 1], [.int .i64 3, .int .i64 0]]) := rfl
  have hsc : (aSc P3 : AV) = .p (.sl [[.int .i64 (-1), .bool true, .bool false], [.int .i64 0, .bool false, .bool true], [.int .i64 0, .bool false, .bool true]]) := rfl
  rw [hac] at c5
  rw [hsc] at hN
  refine acalls_pure (rl := []) mixed Try.func7 rfl (rs := [.tmp 0]) rfl Try.ntmps7 (by simp) ?_
  repeat' (first | ((first | refine aops_nil ?_ | refine aqops_nil ?_); (try simp only [NB])) | ((repeat ((fail_if_success (refine hK _ ?_)); clear hK K)); refine hK _ ?_; clear hK K) | ((first | refine aops_k fun K1 hK1 => ?_ | refine aqops_k fun K1 hK1 => ?_ | refine awp_cond_k fun A B hA hB => ?_); simp only [S1, simprocAttr, TTScQ, eqA, W41, and_self, takeC_st]; first | (refine hK1 _ ?_; clear hK1 K1) | ((first | refine hA ?_ | refine hB ?_); clear hA hB A B) | ((first | apply call_a E8 | apply call_q E8); exact hN; (refine hK1 _ ?_; clear hK1 K1)) | ((first | apply call_a E16 | apply call_q E16); exact c1; (refine hK1 _ ?_; clear hK1 K1)) | ((first | apply call_a E16 | apply call_q E16); exact c3; (refine hK1 _ ?_; clear hK1 K1)) | ((first | apply call_a E17 | apply call_q E17); exact c2; (refine hK1 _ ?_; clear hK1 K1)) | ((first | apply call_a E17 | apply call_q E17); exact c4; (refine hK1 _ ?_; clear hK1 K1)) | ((first | apply call_a E12 | apply call_q E12); exact c5; (refine hK1 _ ?_; clear hK1 K1)) | ((first | apply call_a E14 | apply call_q E14); exact c6; (refine hK1 _ ?_; clear hK1 K1)) | (refine join_x (v := ?_) (fun hg hk9 => ?_) ?_; rotate_left; (focus (try ((try simp only [BN] at hg); simp only [S1, simprocAttr, TTScQ, eqA, W41, and_self, takeC_st, hg] at hk9 ⊢)); first | exact hk9 | ((first | apply call_a E8 | apply call_q E8); exact hN; exact hk9) | ((first | apply call_a E16 | apply call_q E16); exact c1; exact hk9) | ((first | apply call_a E16 | apply call_q E16); exact c3; exact hk9) | ((first | apply call_a E17 | apply call_q E17); exact c2; exact hk9) | ((first | apply call_a E17 | apply call_q E17); exact c4; exact hk9) | ((first | apply call_a E12 | apply call_q E12); exact c5; exact hk9) | ((first | apply call_a E14 | apply call_q E14); exact c6; exact hk9)); (refine hK1 _ ?_; clear hK1 K1)) | (((first | (refine ⟨fun hg => hA ?_, fun hg => hB ?_⟩ <;> clear hA hB A B) | refine ⟨fun hg => ?_, fun hg => ?_⟩) <;> (try simp only [BN2] at hg) <;> (try simp only [hg, cond_true, cond_false])) <;> (try (refine hK1 _ ?_; clear hK1 K1)) <;> (try simp only [BN3] at hg))) | (refine awp_seq_k fun K hK => ?_) | ((first | refine awp_region ?_ | refine awp_draw (by kernel_rfl) ?_ | refine awp_block ?_ | refine awp_exit ?_ | refine awp_skip ?_ | refine awp_ret ?_); (try simp only [NB, simprocAttr])))
  all_goals simp only [EndP, FinP, resA, resL, resA1, lastV, lastA, lastAs, pur, purs, take_app, List.take_length, S1, simprocAttr, TTScQ, Nat.le_add_right, Nat.le_refl, rn_len, rn_takeh]
  all_goals simp

/-! A nil run. -/
theorem nwrong_calls (i : Int) (h : Heap) : ACalls Try.prog G 22 [.p .nilp, .i i] h (fun r h' => r = .i 7 ∧ h' = h) := by
  refine acalls_pure (rl := []) mixed Try.func22 rfl (rs := [.tmp 4]) rfl Try.ntmps22 (by simp) ?_
  repeat' (first | ((first | refine aops_nil ?_ | refine aqops_nil ?_); (try simp only [NB])) | ((repeat ((fail_if_success (refine hK _ ?_)); clear hK K)); refine hK _ ?_; clear hK K) | ((first | refine aops_k fun K1 hK1 => ?_ | refine aqops_k fun K1 hK1 => ?_ | refine awp_cond_k fun A B hA hB => ?_); simp only [S1, simprocAttr, TTScQ]; first | (refine hK1 _ ?_; clear hK1 K1) | ((first | refine hA ?_ | refine hB ?_); clear hA hB A B) | (refine join_x (v := ?_) (fun hg hk9 => ?_) ?_; rotate_left; (focus (try ((try simp only [BN] at hg); simp only [S1, simprocAttr, TTScQ, hg] at hk9 ⊢)); first | exact hk9); (refine hK1 _ ?_; clear hK1 K1)) | (((first | (refine ⟨fun hg => hA ?_, fun hg => hB ?_⟩ <;> clear hA hB A B) | refine ⟨fun hg => ?_, fun hg => ?_⟩) <;> (try simp only [BN2] at hg) <;> (try simp only [hg, cond_true, cond_false])) <;> (try (refine hK1 _ ?_; clear hK1 K1)) <;> (try simp only [BN3] at hg))) | (refine awp_seq_k fun K hK => ?_) | ((first | refine awp_region ?_ | refine awp_draw (by kernel_rfl) ?_ | refine awp_block ?_ | refine awp_exit ?_ | refine awp_skip ?_ | refine awp_ret ?_); (try simp only [NB, simprocAttr])))
  all_goals simp only [EndP, FinP, resA, resL, resA1, lastV, lastA, lastAs, pur, purs, take_app, List.take_length, S1, simprocAttr, TTScQ, Nat.le_add_right, Nat.le_refl]
theorem nFault_calls (i : Int) (h : Heap) : ACalls Try.prog G 12 [.p .nilp, .i i] h (fun r h' => r = .tup [aAc [], .i 7] ∧ h' = h) := by
  refine acalls_pure (rl := []) mixed Try.func12 rfl (rs := [.tmp 4, .tmp 5]) rfl Try.ntmps12 (by simp) ?_
  repeat' (first | ((first | refine aops_nil ?_ | refine aqops_nil ?_); (try simp only [NB])) | ((repeat ((fail_if_success (refine hK _ ?_)); clear hK K)); refine hK _ ?_; clear hK K) | ((first | refine aops_k fun K1 hK1 => ?_ | refine aqops_k fun K1 hK1 => ?_ | refine awp_cond_k fun A B hA hB => ?_); simp only [S1, simprocAttr, TTScQ]; first | (refine hK1 _ ?_; clear hK1 K1) | ((first | refine hA ?_ | refine hB ?_); clear hA hB A B) | ((first | apply call_a E22 | apply call_q E22); exact (nwrong_calls _ _); (refine hK1 _ ?_; clear hK1 K1)) | (((first | (refine ⟨fun hg => hA ?_, fun hg => hB ?_⟩ <;> clear hA hB A B) | refine ⟨fun hg => ?_, fun hg => ?_⟩) <;> (try simp only [BN2] at hg) <;> (try simp only [hg, cond_true, cond_false])) <;> (try (refine hK1 _ ?_; clear hK1 K1)) <;> (try simp only [BN3] at hg))) | (refine awp_seq_k fun K hK => ?_) | ((first | refine awp_region ?_ | refine awp_draw (by kernel_rfl) ?_ | refine awp_block ?_ | refine awp_exit ?_ | refine awp_skip ?_ | refine awp_ret ?_); (try simp only [NB, simprocAttr])))
  all_goals simp only [EndP, FinP, resA, resL, resA1, lastV, lastA, lastAs, pur, purs, take_app, List.take_length, S1, simprocAttr, TTScQ, Nat.le_add_right, Nat.le_refl]
  all_goals rfl
theorem nEnter_calls (i : Int) (h : Heap) : ACalls Try.prog G 16 [.p .nilp, .i i] h (fun r h' => r = .i 7 ∧ h' = h) := by
  refine acalls_pure (rl := []) mixed Try.func16 rfl (rs := [.tmp 4]) rfl Try.ntmps16 (by simp) ?_
  repeat' (first | ((first | refine aops_nil ?_ | refine aqops_nil ?_); (try simp only [NB])) | ((repeat ((fail_if_success (refine hK _ ?_)); clear hK K)); refine hK _ ?_; clear hK K) | ((first | refine aops_k fun K1 hK1 => ?_ | refine aqops_k fun K1 hK1 => ?_ | refine awp_cond_k fun A B hA hB => ?_); simp only [S1, simprocAttr, TTScQ]; first | (refine hK1 _ ?_; clear hK1 K1) | ((first | refine hA ?_ | refine hB ?_); clear hA hB A B) | ((first | apply call_a E22 | apply call_q E22); exact (nwrong_calls _ _); (refine hK1 _ ?_; clear hK1 K1)) | (refine join_x (v := ?_) (fun hg hk9 => ?_) ?_; rotate_left; (focus (try ((try simp only [BN] at hg); simp only [S1, simprocAttr, TTScQ, hg] at hk9 ⊢)); first | exact hk9 | ((first | apply call_a E22 | apply call_q E22); exact (nwrong_calls _ _); exact hk9)); (refine hK1 _ ?_; clear hK1 K1)) | (((first | (refine ⟨fun hg => hA ?_, fun hg => hB ?_⟩ <;> clear hA hB A B) | refine ⟨fun hg => ?_, fun hg => ?_⟩) <;> (try simp only [BN2] at hg) <;> (try simp only [hg, cond_true, cond_false])) <;> (try (refine hK1 _ ?_; clear hK1 K1)) <;> (try simp only [BN3] at hg))) | (refine awp_seq_k fun K hK => ?_) | ((first | refine awp_region ?_ | refine awp_draw (by kernel_rfl) ?_ | refine awp_block ?_ | refine awp_exit ?_ | refine awp_skip ?_ | refine awp_ret ?_); (try simp only [NB, simprocAttr])))
  all_goals simp only [EndP, FinP, resA, resL, resA1, lastV, lastA, lastAs, pur, purs, take_app, List.take_length, S1, simprocAttr, TTScQ, Nat.le_add_right, Nat.le_refl]
theorem nLeave_calls (i : Int) (h : Heap) : ACalls Try.prog G 17 [.p .nilp, .i i] h (fun r h' => r = .i 7 ∧ h' = h) := by
  refine acalls_pure (rl := []) mixed Try.func17 rfl (rs := [.tmp 4]) rfl Try.ntmps17 (by simp) ?_
  repeat' (first | ((first | refine aops_nil ?_ | refine aqops_nil ?_); (try simp only [NB])) | ((repeat ((fail_if_success (refine hK _ ?_)); clear hK K)); refine hK _ ?_; clear hK K) | ((first | refine aops_k fun K1 hK1 => ?_ | refine aqops_k fun K1 hK1 => ?_ | refine awp_cond_k fun A B hA hB => ?_); simp only [S1, simprocAttr, TTScQ]; first | (refine hK1 _ ?_; clear hK1 K1) | ((first | refine hA ?_ | refine hB ?_); clear hA hB A B) | ((first | apply call_a E22 | apply call_q E22); exact (nwrong_calls _ _); (refine hK1 _ ?_; clear hK1 K1)) | (refine join_x (v := ?_) (fun hg hk9 => ?_) ?_; rotate_left; (focus (try ((try simp only [BN] at hg); simp only [S1, simprocAttr, TTScQ, hg] at hk9 ⊢)); first | exact hk9 | ((first | apply call_a E22 | apply call_q E22); exact (nwrong_calls _ _); exact hk9)); (refine hK1 _ ?_; clear hK1 K1)) | (((first | (refine ⟨fun hg => hA ?_, fun hg => hB ?_⟩ <;> clear hA hB A B) | refine ⟨fun hg => ?_, fun hg => ?_⟩) <;> (try simp only [BN2] at hg) <;> (try simp only [hg, cond_true, cond_false])) <;> (try (refine hK1 _ ?_; clear hK1 K1)) <;> (try simp only [BN3] at hg))) | (refine awp_seq_k fun K hK => ?_) | ((first | refine awp_region ?_ | refine awp_draw (by kernel_rfl) ?_ | refine awp_block ?_ | refine awp_exit ?_ | refine awp_skip ?_ | refine awp_ret ?_); (try simp only [NB, simprocAttr])))
  all_goals simp only [EndP, FinP, resA, resL, resA1, lastV, lastA, lastAs, pur, purs, take_app, List.take_length, S1, simprocAttr, TTScQ, Nat.le_add_right, Nat.le_refl]
theorem nState_calls (i : Int) (h : Heap) : ACalls Try.prog G 14 [.p .nilp, .i i] h (fun r h' => r = .i 0 ∧ h' = h) := by
  refine acalls_pure (rl := []) mixed Try.func14 rfl (rs := [.tmp 4]) rfl Try.ntmps14 (by simp) ?_
  repeat' (first | ((first | refine aops_nil ?_ | refine aqops_nil ?_); (try simp only [NB])) | ((repeat ((fail_if_success (refine hK _ ?_)); clear hK K)); refine hK _ ?_; clear hK K) | ((first | refine aops_k fun K1 hK1 => ?_ | refine aqops_k fun K1 hK1 => ?_ | refine awp_cond_k fun A B hA hB => ?_); simp only [S1, simprocAttr, TTScQ]; first | (refine hK1 _ ?_; clear hK1 K1) | ((first | refine hA ?_ | refine hB ?_); clear hA hB A B) | ((first | apply call_a E22 | apply call_q E22); exact (nwrong_calls _ _); (refine hK1 _ ?_; clear hK1 K1)) | (((first | (refine ⟨fun hg => hA ?_, fun hg => hB ?_⟩ <;> clear hA hB A B) | refine ⟨fun hg => ?_, fun hg => ?_⟩) <;> (try simp only [BN2] at hg) <;> (try simp only [hg, cond_true, cond_false])) <;> (try (refine hK1 _ ?_; clear hK1 K1)) <;> (try simp only [BN3] at hg))) | (refine awp_seq_k fun K hK => ?_) | ((first | refine awp_region ?_ | refine awp_draw (by kernel_rfl) ?_ | refine awp_block ?_ | refine awp_exit ?_ | refine awp_skip ?_ | refine awp_ret ?_); (try simp only [NB, simprocAttr])))
  all_goals simp only [EndP, FinP, resA, resL, resA1, lastV, lastA, lastAs, pur, purs, take_app, List.take_length, S1, simprocAttr, TTScQ, Nat.le_add_right, Nat.le_refl]
theorem nOrder_calls (h : Heap) : ACalls Try.prog G 15 [.p .nilp] h (fun r h' => r = aJ [] ∧ h' = h) := by
  refine acalls_pure (rl := []) mixed Try.func15 rfl (rs := [.tmp 2]) rfl Try.ntmps15 (by simp) ?_
  repeat' (first | ((first | refine aops_nil ?_ | refine aqops_nil ?_); (try simp only [NB])) | ((repeat ((fail_if_success (refine hK _ ?_)); clear hK K)); refine hK _ ?_; clear hK K) | ((first | refine aops_k fun K1 hK1 => ?_ | refine aqops_k fun K1 hK1 => ?_ | refine awp_cond_k fun A B hA hB => ?_); simp only [S1, simprocAttr, TTScQ]; first | (refine hK1 _ ?_; clear hK1 K1) | ((first | refine hA ?_ | refine hB ?_); clear hA hB A B) | (((first | (refine ⟨fun hg => hA ?_, fun hg => hB ?_⟩ <;> clear hA hB A B) | refine ⟨fun hg => ?_, fun hg => ?_⟩) <;> (try simp only [BN2] at hg) <;> (try simp only [hg, cond_true, cond_false])) <;> (try (refine hK1 _ ?_; clear hK1 K1)) <;> (try simp only [BN3] at hg))) | (refine awp_seq_k fun K hK => ?_) | ((first | refine awp_region ?_ | refine awp_draw (by kernel_rfl) ?_ | refine awp_block ?_ | refine awp_exit ?_ | refine awp_skip ?_ | refine awp_ret ?_); (try simp only [NB, simprocAttr])))
  all_goals simp only [EndP, FinP, resA, resL, resA1, lastV, lastA, lastAs, pur, purs, take_app, List.take_length, S1, simprocAttr, TTScQ, Nat.le_add_right, Nat.le_refl]
  all_goals rfl
theorem nil_calls (i : Int) (h : Heap) : ACalls Try.prog G 6 [.i i] h (fun r h' => r = .b true ∧ h' = h) := by
  have hu := fun h => undone_calls (G := G) h
  refine acalls_pure (rl := []) mixed Try.func6 rfl (rs := [.tmp 2]) rfl Try.ntmps6 (by simp) ?_
  repeat' (first | ((first | refine aops_nil ?_ | refine aqops_nil ?_); (try simp only [NB])) | ((repeat ((fail_if_success (refine hK _ ?_)); clear hK K)); refine hK _ ?_; clear hK K) | ((first | refine aops_k fun K1 hK1 => ?_ | refine aqops_k fun K1 hK1 => ?_ | refine awp_cond_k fun A B hA hB => ?_); simp only [S1, simprocAttr, TTScQ, List.map_nil, List.length_nil]; first | (refine hK1 _ ?_; clear hK1 K1) | ((first | refine hA ?_ | refine hB ?_); clear hA hB A B) | ((first | apply call_a E12 | apply call_q E12); exact (nFault_calls _ _); (refine hK1 _ ?_; clear hK1 K1)) | ((first | apply call_a E16 | apply call_q E16); exact (nEnter_calls _ _); (refine hK1 _ ?_; clear hK1 K1)) | ((first | apply call_a E17 | apply call_q E17); exact (nLeave_calls _ _); (refine hK1 _ ?_; clear hK1 K1)) | ((first | apply call_a E14 | apply call_q E14); exact (nState_calls _ _); (refine hK1 _ ?_; clear hK1 K1)) | ((first | apply call_a E15 | apply call_q E15); exact (nOrder_calls _); (refine hK1 _ ?_; clear hK1 K1)) | ((first | apply call_a E7 | apply call_q E7); exact (hu _); (refine hK1 _ ?_; clear hK1 K1)) | (refine join_x (v := ?_) (fun hg hk9 => ?_) ?_; rotate_left; (focus (try ((try simp only [BN] at hg); simp only [S1, simprocAttr, TTScQ, List.map_nil, List.length_nil, hg] at hk9 ⊢)); first | exact hk9 | ((first | apply call_a E12 | apply call_q E12); exact (nFault_calls _ _); exact hk9) | ((first | apply call_a E16 | apply call_q E16); exact (nEnter_calls _ _); exact hk9) | ((first | apply call_a E17 | apply call_q E17); exact (nLeave_calls _ _); exact hk9) | ((first | apply call_a E14 | apply call_q E14); exact (nState_calls _ _); exact hk9) | ((first | apply call_a E15 | apply call_q E15); exact (nOrder_calls _); exact hk9) | ((first | apply call_a E7 | apply call_q E7); exact (hu _); exact hk9)); (refine hK1 _ ?_; clear hK1 K1)) | (((first | (refine ⟨fun hg => hA ?_, fun hg => hB ?_⟩ <;> clear hA hB A B) | refine ⟨fun hg => ?_, fun hg => ?_⟩) <;> (try simp only [BN2] at hg) <;> (try simp only [hg, cond_true, cond_false])) <;> (try (refine hK1 _ ?_; clear hK1 K1)) <;> (try simp only [BN3] at hg))) | (refine awp_seq_k fun K hK => ?_) | ((first | refine awp_region ?_ | refine awp_draw (by kernel_rfl) ?_ | refine awp_block ?_ | refine awp_exit ?_ | refine awp_skip ?_ | refine awp_ret ?_); (try simp only [NB, simprocAttr])))
  all_goals simp only [EndP, FinP, resA, resL, resA1, lastV, lastA, lastAs, pur, purs, take_app, List.take_length, S1, simprocAttr, TTScQ, Nat.le_add_right, Nat.le_refl]
end Go.Proofs.Ytkmcecbglomemaa.AM
end

section
set_option linter.unusedVariables false
set_option linter.unusedSimpArgs false
set_option maxRecDepth 4000
set_option maxHeartbeats 4000000
namespace Go.Proofs.Ytkmcecbglomemaa.AM
open Go Go.Proofs
set_option linter.defProp false in
def gK : Nat → Option (List PV) := fun _ => none
theorem gK_pin {W : World} : ∀ g cells, gK g = some cells → PinRel W (fun _ => False) cells g 0 := fun g cells h => by cases h
theorem argk_num {fuel : Nat} {xs : List PV} (h : Ty Try.prog fuel 3 xs) : ∃ n : Int, n ≤ 9223372036854775807 ∧ argA Try.prog 3 xs = .i n := by
  obtain ⟨n, hn, rfl⟩ := ty_int T3 h
  exact ⟨n, hn.2, by rw [argA_at T3]; simp [TI.isAgg]⟩
theorem nil_given (xss : List (List PV)) (hl : xss.length = [3].length) (ht : ∀ (j : Nat) t xs, [3][j]? = some t → xss[j]? = some xs → ∃ fuel, Ty Try.prog fuel t xs) :
    ACalls Try.prog gK 6 (List.zipWith (argA Try.prog) [3] xss) [] fun r h' => r = .b true ∧ h' = [] := by
  match xss, hl, ht with
  | [x0], _, ht =>
    obtain ⟨_, h0⟩ := ht 0 3 x0 rfl rfl
    obtain ⟨n, _, e0⟩ := argk_num h0
    simp only [List.zipWith_cons_cons, List.zipWith_nil_left, e0]
    exact nil_calls n []
end Go.Proofs.Ytkmcecbglomemaa.AM
end
