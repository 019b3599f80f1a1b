/- The abstract machine, part C: how heaps may change, and what stays. -/
import Derived.Test.YtlophgkgmhcagaaDoorAmB
set_option linter.unusedVariables false
namespace Go.Proofs.YtlophgkgmhcagaaDoor.AM
open Go

section
variable {P : Program} {G : Nat → Option (List PV)} {ι ι' : Nat → Nat × Nat} {h h' : Heap} {w w' : World}

/-- Garbage and draws change nothing. -/
theorem SimH.garbage (hS : SimH P G ι h w) (hs : w.heap.size ≤ w'.heap.size) (hk : ∀ k, k < w.heap.size → w'.heap[k]? = w.heap[k]?) (ho : w'.os = w.os) (hu : w'.output = w.output) (ht : w'.tape = w.tape) :
    SimH P G ι h w' ∧ Evo h.length ι h w ι h w' := by
  have he : Evo h.length ι h w ι h w' := ⟨hs, fun k hk' hn => ⟨hk k hk', hn⟩, Nat.le_refl _, fun b bk' _ hb => ⟨bk', hb, Nat.le_refl _, fun _ => ⟨rfl, id, fun cs ty fr hc => by
      have hlt : (ι b).1 < w.heap.size := by
        rcases Nat.lt_or_ge (ι b).1 w.heap.size with h | h
        · exact h
        · simp [Array.getElem?_eq_none h] at hc
      exact ⟨cs, ty, fr, by rw [hk _ hlt]; exact hc, rfl⟩⟩⟩, ho, hu, ht⟩
  refine ⟨⟨⟨fun b bk hb hne => ?_, hS.hr.inj⟩, fun g cells hg => (hS.gr g cells hg).mono he.size he.keep⟩, he⟩
  obtain ⟨c, ty, hc, hl, hv⟩ := hS.hr.blk b bk hb hne
  have hlt : (ι b).1 < w.heap.size := by
    rcases Nat.lt_or_ge (ι b).1 w.heap.size with h | h
    · exact h
    · simp [Array.getElem?_eq_none h] at hc
  refine ⟨c, ty, by rw [hk _ hlt]; exact hc, hl, fun j x hx => ?_⟩
  obtain ⟨v, hv1, hv2⟩ := hv j x hx
  exact ⟨v, hv1, hv2.evo he⟩

theorem lt_of_heap {k : Nat} {o : Obj} (hc : w.heap[k]? = some o) : k < w.heap.size := by
  rcases Nat.lt_or_ge k w.heap.size with h | h
  · exact h
  · simp [Array.getElem?_eq_none h] at hc

/-- One abstract block is new, or changes; one block of the world is new, or changes. -/
theorem SimH.upd (hS : SimH P G ι h w) (b : Nat) (bk' : Blk) (k0 β : Nat) (c : Array Value) (ty : TypeId)
    (hb : (h' = h ++ [some bk'] ∧ b = h.length) ∨ (b < h.length ∧ (∃ bk : Blk, h[b]? = some (some bk) ∧ bk.g ≤ bk'.g) ∧ h' = h.set b (some bk')))
    (hι : ∀ i, ι' i = if i = b then (k0, β) else ι i)
    (hk0 : w.heap.size ≤ k0 ∨ ∃ bk : Blk, h[b]? = some (some bk) ∧ bk.cells ≠ [] ∧ (ι b).1 = k0 ∧ ∀ cs ty fr, w.heap[k0]? = some (.cells cs ty fr) → c.size = cs.size)
    (hne : bk'.cells ≠ [])
    (hc : w'.heap[k0]? = some (.cells c ty (0, 0))) (hl : β + bk'.cells.length ≤ c.size)
    (hv : ∀ (j : Nat) x, bk'.cells[j]? = some x → ∃ v, c[β + j]? = some v ∧ VRel ι h w x v)
    (hsz : w.heap.size ≤ w'.heap.size) (hk : ∀ k, k < w.heap.size → k ≠ k0 → w'.heap[k]? = w.heap[k]?)
    (hsame : ∀ bk : Blk, h[b]? = some (some bk) → bk.g = bk'.g → ι b = (k0, β))
    (ho : w'.os = w.os) (hu : w'.output = w.output) (ht : w'.tape = w.tape) :
    SimH P G ι' h' w' ∧ Evo h.length ι h w ι' h' w' := by
  have hb' : h'[b]? = some (some bk') := by
    rcases hb with ⟨rfl, rfl⟩ | ⟨hlt, _, rfl⟩
    · simp
    · simp [hlt]
  have hoth : ∀ i, i ≠ b → i < h.length ∨ True → h'[i]? = h[i]? := by
    intro i hi _
    rcases hb with ⟨rfl, rfl⟩ | ⟨hlt, _, rfl⟩
    · rcases Nat.lt_or_ge i h.length with hl | hl
      · simp [List.getElem?_append_left hl]
      · rw [List.getElem?_eq_none (by simp; omega), List.getElem?_eq_none hl]
    · simp [List.getElem?_set_ne (Ne.symm hi)]
  have hlen : h.length ≤ h'.length := by
    rcases hb with ⟨rfl, rfl⟩ | ⟨hlt, _, rfl⟩ <;> simp
  have hown : ∀ k, k < w.heap.size → ¬ own ι h k → k ≠ k0 := by
    intro k hk hn e
    rcases hk0 with h1 | ⟨bk, q1, q2, q3, _⟩
    · omega
    · exact hn ⟨b, bk, q1, q2, by rw [q3, e]⟩
  have hown' : ∀ k, k < w.heap.size → ¬ own ι h k → ¬ own ι' h' k := by
    intro k hk hn ⟨b2, bk2, q1, q2, q3⟩
    by_cases hbb : b2 = b
    · subst hbb; rw [hι] at q3; simp at q3; exact hown k hk hn q3.symm
    · rw [hoth b2 hbb (.inr trivial)] at q1; rw [hι, if_neg hbb] at q3; exact hn ⟨b2, bk2, q1, q2, q3⟩
  have hcsz : ∀ cs ty fr, w.heap[k0]? = some (.cells cs ty fr) → c.size = cs.size := by
    intro cs ty fr hq
    rcases hk0 with h1 | ⟨bk, q1, q2, q3, q4⟩
    · have := lt_of_heap hq; omega
    · exact q4 cs ty fr hq
  have he : Evo h.length ι h w ι' h' w' := by
    refine ⟨hsz, fun k hlt hn => ⟨hk k hlt (hown k hlt hn), hown' k hlt hn⟩, hlen, fun b2 bk2 hlt hq => ?_, ho, hu, ht⟩
    have hcs : ∀ cs ty fr, w.heap[(ι b2).1]? = some (.cells cs ty fr) → ∃ cs' ty' fr', w'.heap[(ι b2).1]? = some (.cells cs' ty' fr') ∧ cs'.size = cs.size := by
      intro cs ty2 fr hq2
      by_cases hkk : (ι b2).1 = k0
      · rw [hkk] at hq2 ⊢
        exact ⟨c, ty, (0, 0), hc, hcsz cs ty2 fr hq2⟩
      · exact ⟨cs, ty2, fr, by rw [hk _ (lt_of_heap hq2) hkk]; exact hq2, rfl⟩
    by_cases hbb : b2 = b
    · subst hbb
      rcases hb with ⟨rfl, hx⟩ | ⟨hlt2, ⟨bk, q1, q2⟩, rfl⟩
      · omega
      · rw [hb'] at hq
        have : bk2 = bk' := (Option.some.inj (Option.some.inj hq)).symm
        subst this
        exact ⟨bk, q1, q2, fun hg => ⟨by rw [hι, if_pos rfl]; exact (hsame bk q1 hg).symm, fun _ => hne, hcs⟩⟩
    · rw [hoth b2 hbb (.inr trivial)] at hq
      exact ⟨bk2, hq, Nat.le_refl _, fun _ => ⟨by rw [hι, if_neg hbb], id, hcs⟩⟩
  refine ⟨⟨⟨fun b2 bk2 hq hne2 => ?_, fun b2 b3 bk2 bk3 q2 q3 n2 n3 hii => ?_⟩, fun g cells hg => (hS.gr g cells hg).mono he.size he.keep⟩, he⟩
  · by_cases hbb : b2 = b
    · subst hbb
      rw [hb'] at hq
      have : bk2 = bk' := (Option.some.inj (Option.some.inj hq)).symm
      subst this
      rw [hι, if_pos rfl]
      refine ⟨c, ty, hc, hl, fun j x hx => ?_⟩
      obtain ⟨v, hv1, hv2⟩ := hv j x hx
      exact ⟨v, hv1, hv2.evo he⟩
    · rw [hoth b2 hbb (.inr trivial)] at hq
      obtain ⟨c2, ty2, hc2, hl2, hv2⟩ := hS.hr.blk b2 bk2 hq hne2
      have hkk : (ι b2).1 ≠ k0 := by
        intro e
        rcases hk0 with h1 | ⟨bk, q1, q2, q3, _⟩
        · have := lt_of_heap hc2; omega
        · exact hbb (hS.hr.inj b2 b bk2 bk hq q1 hne2 q2 (by rw [e, q3]))
      rw [hι, if_neg hbb]
      refine ⟨c2, ty2, by rw [hk _ (lt_of_heap hc2) hkk]; exact hc2, hl2, fun j x hx => ?_⟩
      obtain ⟨v, hv3, hv4⟩ := hv2 j x hx
      exact ⟨v, hv3, hv4.evo he⟩
  · have key : ∀ b2 (bk2 : Blk), h'[b2]? = some (some bk2) → bk2.cells ≠ [] → b2 ≠ b → (ι b2).1 ≠ k0 := by
      intro b2 bk2 q2 n2 hbb e
      rw [hoth b2 hbb (.inr trivial)] at q2
      obtain ⟨c2, ty2, hc2, _, _⟩ := hS.hr.blk b2 bk2 q2 n2
      rcases hk0 with h1 | ⟨bk, p1, p2, p3, _⟩
      · have := lt_of_heap hc2; omega
      · exact hbb (hS.hr.inj b2 b bk2 bk q2 p1 n2 p2 (by rw [e, p3]))
    by_cases e2 : b2 = b <;> by_cases e3 : b3 = b
    · rw [e2, e3]
    · rw [hι b2, if_pos e2, hι b3, if_neg e3] at hii
      exact absurd hii.symm (key b3 bk3 q3 n3 e3)
    · rw [hι b2, if_neg e2, hι b3, if_pos e3] at hii
      exact absurd hii (key b2 bk2 q2 n2 e2)
    · rw [hι b2, if_neg e2, hι b3, if_neg e3] at hii
      rw [hoth b2 e2 (.inr trivial)] at q2
      rw [hoth b3 e3 (.inr trivial)] at q3
      exact hS.hr.inj b2 b3 bk2 bk3 q2 q3 n2 n3 hii

theorem constPV_rel {o : Nat → Prop} {v : Value} {x : PV} (hx : constPV v = some x) : PRel w o x v ∧ v.oneCell' = true := by
  unfold constPV at hx
  split at hx
  · rename_i k n
    split at hx
    · rename_i hr
      cases hx
      simp only [inR, Bool.and_eq_true, decide_eq_true_eq] at hr
      exact ⟨.int _ _ hr, rfl⟩
    · cases hx
  · cases hx; exact ⟨.bool _, rfl⟩
  · split at hx
    · rename_i hs
      cases hx; exact ⟨.str _ (by omega), rfl⟩
    · cases hx
  · cases hx; exact ⟨.nils, rfl⟩
  · cases hx; exact ⟨.nilp, rfl⟩
  · cases hx; exact ⟨.nilf, rfl⟩
  · cases hx

theorem constPVs_rel {o : Nat → Prop} : ∀ {vs : List Value} {xs : List PV}, constPVs vs = some xs → xs.length = vs.length ∧ (∀ v ∈ vs, v.oneCell' = true) ∧ ∀ (i : Nat) x v, xs[i]? = some x → vs[i]? = some v → PRel w o x v
  | [], xs, hx => by cases hx; simp
  | v :: r, xs, hx => by
    simp only [constPVs] at hx
    split at hx
    · rename_i x xs' h1 h2
      cases hx
      obtain ⟨l1, l2, l3⟩ := constPVs_rel (o := o) h2
      obtain ⟨p1, p2⟩ := constPV_rel (w := w) (o := o) h1
      refine ⟨by simp [l1], by simpa [p2] using l2, fun i y u hy hu => ?_⟩
      cases i with
      | zero => simp at hy hu; rw [← hy, ← hu]; exact p1
      | succ i => simp at hy hu; exact l3 i y u hy hu
    · cases hx

theorem VRel.oneCell {x : AV} {v : Value} (hx : VRel ι h w x v) (hs : x.scalar = true) : v.oneCell' = true := by
  cases hx with
  | p x v hx => cases hx <;> rfl
  | agg => simp [AV.scalar] at hs
  | tup => simp [AV.scalar] at hs
  | fn => rfl
  | ref => rfl
  | ptr => rfl
  | pin => rfl

theorem VRel.cells1 {x : AV} {v : Value} (hx : VRel ι h w x v) (hs : x.scalar = true) : v.cells = #[v] := by
  have := hx.oneCell hs
  cases v <;> simp [Value.oneCell'] at this <;> rfl

theorem cellsA_rel {x : AV} {v : Value} {cs : List AV} (hx : VRel ι h w x v) (hc : cellsA x = some cs) :
    cs.length = v.cells.size ∧ (∀ y ∈ cs, y.scalar = true) ∧ ∀ (i : Nat) y u, cs[i]? = some y → v.cells[i]? = some u → VRel ι h w y u := by
  unfold cellsA at hc
  split at hc
  · split at hc
    · rename_i cs' hall
      cases hc
      cases hx with
      | agg _ vs hl hv => exact ⟨by simpa [Value.cells] using hl, by simpa using hall, fun i y u hy hu => hv i y u hy (by simpa [Value.cells] using hu)⟩
    · cases hc
  · cases hc
  · rename_i h1 h2
    cases hc
    have hs : x.scalar = true := by cases x <;> first | rfl | exact absurd rfl (h1 _) | exact absurd rfl (h2 _)
    rw [hx.cells1 hs]
    refine ⟨rfl, by simpa using hs, fun i y u hy hu => ?_⟩
    cases i with
    | zero => simp at hy hu; rw [← hy, ← hu]; exact hx
    | succ i => simp at hy

theorem constA_rel {x : AV} {v : Value} (hx : constA v = some x) : VRel ι h w x v := by
  unfold constA at hx
  split at hx
  · rename_i cs
    cases hq : constPVs cs.toList with
    | none => simp [hq] at hx
    | some l =>
      simp [hq] at hx
      subst hx
      obtain ⟨l1, l2, l3⟩ := constPVs_rel (w := w) (o := own ι h) hq
      refine .agg _ _ (by simpa using l1) fun i x v hx hv => ?_
      simp only [List.getElem?_map, Option.map_eq_some_iff] at hx
      obtain ⟨y, hy, rfl⟩ := hx
      exact .p _ _ (l3 i y v hy (by simpa using hv))
  · split at hx
    · rename_i vs hz
      cases hx
      exact .tup _ _ (by simpa using hz.symm) fun i x v hx hv => by simp at hx
    · cases hx
  · cases hq : constPV v with
    | none => simp [hq] at hx
    | some y => simp [hq] at hx; subst hx; exact .p _ _ (constPV_rel hq).1

end
end Go.Proofs.YtlophgkgmhcagaaDoor.AM
