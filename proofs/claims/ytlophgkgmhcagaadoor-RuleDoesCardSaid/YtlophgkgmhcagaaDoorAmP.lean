/- The abstract machine, part P: loops, and states that are told as lists. -/
import Derived.Test.YtlophgkgmhcagaaDoorAmM
set_option linter.unusedVariables false
set_option linter.unusedSimpArgs false
namespace Go.Proofs.YtlophgkgmhcagaaDoor.AM
open Go

mutual
def avlt (m : Nat) : AV → Prop
  | .p _ => True
  | .agg l => avlts m l
  | .tup l => avlts m l
  | .fn _ l => avlts m l
  | .ref b _ _ _ _ => b < m
  | .ptr b _ _ => b < m
  | .pin _ => True
def avlts (m : Nat) : List AV → Prop
  | [] => True
  | x :: r => avlt m x ∧ avlts m r
end

mutual
theorem avlt_lt {m : Nat} : ∀ (x : AV), avlt m x → AVlt m x
  | .p _, _ => .p _
  | .agg l, h => .agg l (avlts_lt l (by simpa [avlt] using h))
  | .tup l, h => .tup l (avlts_lt l (by simpa [avlt] using h))
  | .fn f l, h => .fn f l (avlts_lt l (by simpa [avlt] using h))
  | .ref b g o s l, h => .ref b g o s l (by simpa [avlt] using h)
  | .ptr b g o, h => .ptr b g o (by simpa [avlt] using h)
  | .pin c, _ => .pin c
theorem avlts_lt {m : Nat} : ∀ (l : List AV), avlts m l → ∀ x ∈ l, AVlt m x
  | [], _ => fun x hx => by simp at hx
  | y :: r, h => fun x hx => by
    simp only [avlts] at h
    rcases List.mem_cons.mp hx with e | e
    · rw [e]; exact avlt_lt y h.1
    · exact avlts_lt r h.2 x e
end

/-- A frame, told as a list. -/
def frL : List (Nat × AV) → Nat → Option AV
  | [], _ => none
  | (d, v) :: r, k => if k = d then some v else frL r k

def keeps (s : St) (m : Nat) : List (Nat × AV) → Prop
  | [] => True
  | (k, x) :: r => s.fr k = some x ∧ avlt m x ∧ keeps s m r

def blksLt (m : Nat) : List (Option Blk) → Prop
  | [] => True
  | none :: r => blksLt m r
  | some bk :: r => avlts m bk.cells ∧ blksLt m r

theorem keeps_get {s : St} {m : Nat} : ∀ {l : List (Nat × AV)}, keeps s m l → ∀ k x, frL l k = some x → s.fr k = some x ∧ AVlt m x
  | [], _, k, x, h => by simp [frL] at h
  | (d, v) :: r, hk, k, x, h => by
    simp only [keeps] at hk
    simp only [frL] at h
    split at h
    · rename_i e
      cases h
      rw [e]
      exact ⟨hk.1, avlt_lt _ hk.2.1⟩
    · exact keeps_get hk.2.2 k x h

theorem blksLt_get {m : Nat} : ∀ {l : List (Option Blk)}, blksLt m l → ∀ (i : Nat) bk, l[i]? = some (some bk) → ∀ x ∈ bk.cells, AVlt m x
  | [], _, i, bk, h => by simp at h
  | none :: r, hk, i, bk, h => by
    simp only [blksLt] at hk
    cases i with
    | zero => simp at h
    | succ i => exact blksLt_get hk i bk (by simpa using h)
  | some b :: r, hk, i, bk, h => by
    simp only [blksLt] at hk
    cases i with
    | zero => simp at h; subst h; exact avlts_lt _ hk.1
    | succ i => exact blksLt_get hk.2 i bk (by simpa using h)

section
variable {P : Program} {G : Nat → Option (List PV)} {rl : List String} {h : Heap}

/-- A state knows at least so much: these slots, these blocks behind the first ones. -/
def Sub (h : Heap) (s : St) (l : List (Nat × AV)) (L : List (Option Blk)) (nt : Nat) : Prop :=
  s.nt = nt ∧ (∃ L', s.heap = h ++ (L ++ L')) ∧ keeps s (h.length + L.length) l ∧ blksLt (h.length + L.length) L

theorem Sub.ghost {s : St} {l : List (Nat × AV)} {L : List (Option Blk)} {nt : Nat} (hs : Sub h s l L nt) : Ghost P G h s ⟨frL l, nt, h ++ L⟩ := by
  obtain ⟨h1, ⟨L', h2⟩, h3, h4⟩ := hs
  have ht : s.heap.take (h.length + L.length) = h ++ L := by rw [h2, ← List.append_assoc, List.take_left' (by simp)]
  refine Ghost.le h1.symm (h.length + L.length) (by omega) (by rw [h2]; simp only [List.length_append]; omega) ht.symm (fun k x hx => keeps_get h3 k x hx) fun b bk hb => ?_
  rw [ht] at hb
  by_cases hlt : b < h.length
  · left; rwa [List.getElem?_append_left hlt] at hb
  · right
    rw [List.getElem?_append_right (by omega)] at hb
    exact blksLt_get h4 _ bk hb

/-- A loop whose state is told by how often it was gone through. -/
theorem awp_for {c : Code} {Q : Exit → St → Prop} {s : St} (N nt : Nat) (l : Nat → List (Nat × AV)) (L : Nat → List (Option Blk)) (p : Nat → Prop) (hi : Sub h s (l 0) (L 0) nt) (hp : p 0)
    (hb : ∀ i, i ≤ N → p i → ∀ K : St → Prop, (∀ s', (i < N ∧ p (i + 1) ∧ Sub h s' (l (i + 1)) (L (i + 1)) nt) → K s') → awp P G rl h c (thenA K Q) ⟨frL (l i), nt, h ++ L i⟩) : awp P G rl h (.loop c) Q s := by
  refine awp_loop (fun n s => ∃ i, i ≤ N ∧ p i ∧ n = N - i ∧ s = ⟨frL (l i), nt, h ++ L i⟩) N _ hi.ghost ⟨0, Nat.zero_le _, hp, rfl, rfl⟩ fun n s hI => ?_
  obtain ⟨i, h1, h2, rfl, rfl⟩ := hI
  exact hb i h1 h2 _ fun s' hs => ⟨N - (i + 1), _, by omega, hs.2.2.ghost, i + 1, by omega, hs.2.1, rfl, rfl⟩

theorem Sub.ghostH {H : Heap} {s : St} {l : List (Nat × AV)} {L : List (Option Blk)} {nt : Nat} (hl : H.length = h.length)
    (hc : ∀ (b : Nat) (bk : Blk), H[b]? = some (some bk) → h[b]? = some (some bk) ∨ avlts h.length bk.cells) (hs : Sub H s l L nt) : Ghost P G h s ⟨frL l, nt, H ++ L⟩ := by
  obtain ⟨h1, ⟨L', h2⟩, h3, h4⟩ := hs
  have ht : s.heap.take (H.length + L.length) = H ++ L := by rw [h2, ← List.append_assoc, List.take_left' (by simp)]
  refine Ghost.le h1.symm (H.length + L.length) (by omega) (by rw [h2]; simp only [List.length_append]; omega) ht.symm (fun k x hx => keeps_get h3 k x hx) fun b bk hb => ?_
  rw [ht] at hb
  by_cases hlt : b < H.length
  · rw [List.getElem?_append_left hlt] at hb
    rcases hc b bk hb with hb | hb
    · exact .inl hb
    · exact .inr fun x hx => (avlts_lt _ hb x hx).mono (by omega)
  · right
    rw [List.getElem?_append_right (by omega)] at hb
    exact blksLt_get h4 _ bk hb

/-- A loop whose state is told by how often it was gone through, and that may change blocks that were there. -/
theorem awp_forH {c : Code} {Q : Exit → St → Prop} {s : St} (N nt : Nat) (H : Nat → Heap) (l : Nat → List (Nat × AV)) (L : Nat → List (Option Blk)) (p : Nat → Prop)
    (hH : ∀ i, (H i).length = h.length ∧ ∀ (b : Nat) (bk : Blk), (H i)[b]? = some (some bk) → h[b]? = some (some bk) ∨ avlts h.length bk.cells) (hi : Sub (H 0) s (l 0) (L 0) nt) (hp : p 0)
    (hb : ∀ i, i ≤ N → p i → ∀ K : St → Prop, (∀ s', (i < N ∧ p (i + 1) ∧ Sub (H (i + 1)) s' (l (i + 1)) (L (i + 1)) nt) → K s') → awp P G rl h c (thenA K Q) ⟨frL (l i), nt, H i ++ L i⟩) : awp P G rl h (.loop c) Q s := by
  refine awp_loop (fun n s => ∃ i, i ≤ N ∧ p i ∧ n = N - i ∧ s = ⟨frL (l i), nt, H i ++ L i⟩) N _ (hi.ghostH (hH 0).1 (hH 0).2) ⟨0, Nat.zero_le _, hp, rfl, rfl⟩ fun n s hI => ?_
  obtain ⟨i, h1, h2, rfl, rfl⟩ := hI
  exact hb i h1 h2 _ fun s' hs => ⟨N - (i + 1), _, by omega, hs.2.2.ghostH (hH (i + 1)).1 (hH (i + 1)).2, i + 1, by omega, hs.2.1, rfl, rfl⟩

/-- A cut at which the state is told anew. -/
theorem awp_tell {x y : Code} {Q : Exit → St → Prop} {s : St} (nt : Nat) (l : List (Nat × AV)) (L : List (Option Blk)) (p : Prop) (h1 : ∀ K : St → Prop, (∀ s', (p ∧ Sub h s' l L nt) → K s') → awp P G rl h x (thenA K Q) s)
    (h2 : p → awp P G rl h y Q ⟨frL l, nt, h ++ L⟩) : awp P G rl h (.seq x y) Q s :=
  awp_cut (fun s1 => p ∧ s1 = ⟨frL l, nt, h ++ L⟩) (h1 _ fun s' hs => ⟨_, hs.2.ghost, hs.1, rfl⟩) fun s1 e => by obtain ⟨hp, rfl⟩ := e; exact h2 hp
end
end Go.Proofs.YtlophgkgmhcagaaDoor.AM
