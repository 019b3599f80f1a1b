/- The abstract machine, part A: abstract values, heaps, and how they read in a world of the model. Generic: no program in sight. -/
import Derived.WalkKit
import Derived.Orders
import Derived.Still
set_option linter.unusedVariables false
namespace Go.Proofs.YtlophgkgmhcagaaDoor.AM
open Go

/-- Values that nobody changes any more. -/
inductive PV where
  | int (k : IntKind) (n : Int)
  | bool (b : Bool)
  | str (s : ByteArray)
  | nils
  | sl (rows : List (List PV))
  | nilp
  | nilf
  deriving Inhabited

inductive AV where
  | p (x : PV)
  | agg (cells : List AV)
  | ref (b g off sz len : Nat)
  | ptr (b g off : Nat)
  | pin (cells : List PV)
  | fn (f : FuncId) (caps : List AV)
  | tup (vs : List AV)
  deriving Inhabited

abbrev AV.i (n : Int) : AV := .p (.int .i64 n)
abbrev AV.b (x : Bool) : AV := .p (.bool x)
abbrev AV.undef : AV := .tup []

structure Blk where
  g : Nat
  cells : List AV

abbrev Heap := List (Option Blk)

def InRange (k : IntKind) (n : Int) : Prop := k.min ≤ n ∧ n ≤ k.max

def get2 {α : Type} (rows : List (List α)) (i j : Nat) : Option α := (rows[i]?).bind (·[j]?)

/-- How a lasting value reads, in a world of which some blocks ('own') may still be written. -/
inductive PRel (w : World) (own : Nat → Prop) : PV → Value → Prop where
  | int (k : IntKind) (n : Int) (h : InRange k n) : PRel w own (.int k n) (.int k n)
  | bool (b : Bool) : PRel w own (.bool b) (.bool b)
  | str (s : ByteArray) (h : s.size ≤ 9223372036854775807) : PRel w own (.str s) (.string s)
  | nils : PRel w own .nils (.slice none 0 0)
  | nilp : PRel w own .nilp (.pointer none)
  | nilf : PRel w own .nilf .nilFunc
  | slz (A : Option Addr) (c : Nat) : PRel w own (.sl []) (.slice A 0 c)
  | sl (rows : List (List PV)) (blk off c sz : Nat) (f : Nat → Nat → Value) (hc : rows.length ≤ c) (hn : rows.length ≤ 9223372036854775807) (ho : ¬ own blk) (hb : blk < w.heap.size)
      (hsz : ∀ row ∈ rows, row.length = sz)
      (hcell : ∀ i j x, get2 rows i j = some x → w.cell? ⟨blk, off + (i * sz + j), none⟩ = some (f i j))
      (hrec : ∀ i j x, get2 rows i j = some x → PRel w own x (f i j)) : PRel w own (.sl rows) (.slice (some ⟨blk, off, none⟩) rows.length c)

/-- A place of lasting cells. -/
def PinRel (w : World) (own : Nat → Prop) (cells : List PV) (blk off : Nat) : Prop :=
  ¬ own blk ∧ blk < w.heap.size ∧ ∀ j x, cells[j]? = some x → ∃ v, w.cell? ⟨blk, off + j, none⟩ = some v ∧ PRel w own x v

def liveAt (h : Heap) (b g : Nat) : Prop := ∃ blk, h[b]? = some (some blk) ∧ blk.g = g

def own (ι : Nat → Nat × Nat) (h : Heap) (n : Nat) : Prop := ∃ b blk, h[b]? = some (some blk) ∧ blk.cells ≠ [] ∧ (ι b).1 = n

inductive VRel (ι : Nat → Nat × Nat) (h : Heap) (w : World) : AV → Value → Prop where
  | p (x : PV) (v : Value) (hx : PRel w (own ι h) x v) : VRel ι h w (.p x) v
  | agg (cells : List AV) (vs : Array Value) (hl : cells.length = vs.size) (hv : ∀ (i : Nat) x v, cells[i]? = some x → vs[i]? = some v → VRel ι h w x v) :
      VRel ι h w (.agg cells) (.agg vs)
  | tup (cells : List AV) (vs : Array Value) (hl : cells.length = vs.size) (hv : ∀ (i : Nat) x v, cells[i]? = some x → vs[i]? = some v → VRel ι h w x v) :
      VRel ι h w (.tup cells) (.tuple vs)
  | fn (f : FuncId) (cells : List AV) (vs : Array Value) (hl : cells.length = vs.size) (hv : ∀ (i : Nat) x v, cells[i]? = some x → vs[i]? = some v → VRel ι h w x v) :
      VRel ι h w (.fn f cells) (.func (.func f) #[] vs)
  | ref (b g off sz len : Nat) (A : Option Addr) (c : Nat) (hn : len ≤ 9223372036854775807) (hb : b < h.length) (hg : ∀ bk : Blk, h[b]? = some (some bk) → g ≤ bk.g)
      (hv : liveAt h b g → (len = 0 ∧ c = 0) ∨ (A = some ⟨(ι b).1, (ι b).2 + off, none⟩ ∧ len ≤ c ∧ (∃ bk : Blk, h[b]? = some (some bk) ∧ bk.cells ≠ []) ∧ ∃ cs ty fr, w.heap[(ι b).1]? = some (.cells cs ty fr) ∧ (ι b).2 + off + c * sz ≤ cs.size)) :
      VRel ι h w (.ref b g off sz len) (.slice A len c)
  | ptr (b g off : Nat) (A : Option Addr) (hb : b < h.length) (hg : ∀ bk : Blk, h[b]? = some (some bk) → g ≤ bk.g) (hv : liveAt h b g → A = some ⟨(ι b).1, (ι b).2 + off, none⟩) : VRel ι h w (.ptr b g off) (.pointer A)
  | pin (cells : List PV) (blk off : Nat) (hv : PinRel w (own ι h) cells blk off) : VRel ι h w (.pin cells) (.pointer (some ⟨blk, off, none⟩))

structure HRel (ι : Nat → Nat × Nat) (h : Heap) (w : World) : Prop where
  blk : ∀ (b : Nat) (bk : Blk), h[b]? = some (some bk) → bk.cells ≠ [] → ∃ c ty, w.heap[(ι b).1]? = some (.cells c ty (0, 0)) ∧ (ι b).2 + bk.cells.length ≤ c.size ∧
    ∀ (j : Nat) x, bk.cells[j]? = some x → ∃ v, c[(ι b).2 + j]? = some v ∧ VRel ι h w x v
  inj : ∀ (b b' : Nat) (bk bk' : Blk), h[b]? = some (some bk) → h[b']? = some (some bk') → bk.cells ≠ [] → bk'.cells ≠ [] → (ι b).1 = (ι b').1 → b = b'

/-- What may have become of heap and world, as seen by whoever knows the first n blocks. -/
structure Evo (n : Nat) (ι : Nat → Nat × Nat) (h : Heap) (w : World) (ι' : Nat → Nat × Nat) (h' : Heap) (w' : World) : Prop where
  size : w.heap.size ≤ w'.heap.size
  keep : ∀ k, k < w.heap.size → ¬ own ι h k → w'.heap[k]? = w.heap[k]? ∧ ¬ own ι' h' k
  len : n ≤ h'.length
  gens : ∀ (b : Nat) (bk' : Blk), b < n → h'[b]? = some (some bk') → ∃ bk : Blk, h[b]? = some (some bk) ∧ bk.g ≤ bk'.g ∧ (bk.g = bk'.g → ι' b = ι b ∧ (bk.cells ≠ [] → bk'.cells ≠ [])
    ∧ ∀ cs ty fr, w.heap[(ι b).1]? = some (.cells cs ty fr) → ∃ cs' ty' fr', w'.heap[(ι b).1]? = some (.cells cs' ty' fr') ∧ cs'.size = cs.size)
  os : w'.os = w.os
  output : w'.output = w.output
  tape : w'.tape = w.tape

theorem cell?_same {w w' : World} {k : Nat} (h : w'.heap[k]? = w.heap[k]?) (off : Nat) : w'.cell? ⟨k, off, none⟩ = w.cell? ⟨k, off, none⟩ := by
  unfold World.cell?; simp only [h]

theorem PRel.mono {w w' : World} {o o' : Nat → Prop} (hs : w.heap.size ≤ w'.heap.size) (hk : ∀ k, k < w.heap.size → ¬ o k → w'.heap[k]? = w.heap[k]? ∧ ¬ o' k)
    {x : PV} {v : Value} (h : PRel w o x v) : PRel w' o' x v := by
  induction h with
  | int k n h => exact .int k n h
  | bool b => exact .bool b
  | str s h => exact .str s h
  | nils => exact .nils
  | nilp => exact .nilp
  | nilf => exact .nilf
  | slz A c => exact .slz A c
  | sl rows blk off c sz f hc hn ho hb hsz hcell hrec ih =>
    exact .sl rows blk off c sz f hc hn (hk blk hb ho).2 (by omega) hsz (fun i j x hx => by rw [cell?_same (hk blk hb ho).1]; exact hcell i j x hx) ih

theorem PinRel.mono {w w' : World} {o o' : Nat → Prop} (hs : w.heap.size ≤ w'.heap.size) (hk : ∀ k, k < w.heap.size → ¬ o k → w'.heap[k]? = w.heap[k]? ∧ ¬ o' k)
    {cells : List PV} {blk off : Nat} (h : PinRel w o cells blk off) : PinRel w' o' cells blk off := by
  obtain ⟨h1, h2, h3⟩ := h
  refine ⟨(hk blk h2 h1).2, by omega, fun j x hx => ?_⟩
  obtain ⟨v, hv, hr⟩ := h3 j x hx
  exact ⟨v, by rw [cell?_same (hk blk h2 h1).1]; exact hv, hr.mono hs hk⟩

section
variable {ι ι' ι'' : Nat → Nat × Nat} {h h' h'' : Heap} {w w' w'' : World} {n m : Nat}

theorem Evo.refl (hn : n ≤ h.length) : Evo n ι h w ι h w where
  size := Nat.le_refl _
  keep := fun k _ ho => ⟨rfl, ho⟩
  len := hn
  gens := fun b bk' _ hb => ⟨bk', hb, Nat.le_refl _, fun _ => ⟨rfl, id, fun cs ty fr hc => ⟨cs, ty, fr, hc, rfl⟩⟩⟩
  os := rfl
  output := rfl
  tape := rfl

theorem Evo.trans (h1 : Evo n ι h w ι' h' w') (h2 : Evo m ι' h' w' ι'' h'' w'') (hnm : n ≤ m) : Evo n ι h w ι'' h'' w'' where
  size := Nat.le_trans h1.size h2.size
  keep := fun k hk ho => by
    obtain ⟨a1, a2⟩ := h1.keep k hk ho
    obtain ⟨b1, b2⟩ := h2.keep k (Nat.lt_of_lt_of_le hk h1.size) a2
    exact ⟨b1.trans a1, b2⟩
  len := Nat.le_trans hnm h2.len
  gens := fun b bk'' hb hq => by
    obtain ⟨bk', hq', hg', hr'⟩ := h2.gens b bk'' (by omega) hq
    obtain ⟨bk, hq0, hg, hr⟩ := h1.gens b bk' hb hq'
    refine ⟨bk, hq0, Nat.le_trans hg hg', fun he => ?_⟩
    have e1 : bk.g = bk'.g := by omega
    have e2 : bk'.g = bk''.g := by omega
    obtain ⟨i1, c1, s1⟩ := hr e1
    obtain ⟨i2, c2, s2⟩ := hr' e2
    refine ⟨i2.trans i1, fun hc => c2 (c1 hc), fun cs ty fr hc => ?_⟩
    obtain ⟨cs', ty', fr', hc', e'⟩ := s1 cs ty fr hc
    obtain ⟨cs'', ty'', fr'', hc'', e''⟩ := s2 cs' ty' fr' (by rw [i1]; exact hc')
    exact ⟨cs'', ty'', fr'', by rw [← i1]; exact hc'', e''.trans e'⟩
  os := h2.os.trans h1.os
  output := h2.output.trans h1.output
  tape := h2.tape.trans h1.tape

theorem Evo.le (h1 : Evo n ι h w ι' h' w') (hm : m ≤ n) : Evo m ι h w ι' h' w' where
  size := h1.size
  keep := h1.keep
  len := Nat.le_trans hm h1.len
  gens := fun b bk' hb hq => h1.gens b bk' (by omega) hq
  os := h1.os
  output := h1.output
  tape := h1.tape

theorem VRel.evo (he : Evo h.length ι h w ι' h' w') {x : AV} {v : Value} (hx : VRel ι h w x v) : VRel ι' h' w' x v := by
  have lv : ∀ b g, b < h.length → (∀ bk : Blk, h[b]? = some (some bk) → g ≤ bk.g) → liveAt h' b g → ∃ bk bk' : Blk, h[b]? = some (some bk) ∧ h'[b]? = some (some bk') ∧ bk.g = g ∧ bk'.g = g := by
    intro b g hb hg ⟨bk', hq, e⟩
    obtain ⟨bk, hq0, hle, _⟩ := he.gens b bk' hb hq
    have := hg bk hq0
    exact ⟨bk, bk', hq0, hq, by omega, e⟩
  have gg : ∀ b g, b < h.length → (∀ bk : Blk, h[b]? = some (some bk) → g ≤ bk.g) → ∀ bk : Blk, h'[b]? = some (some bk) → g ≤ bk.g := by
    intro b g hb hg bk' hq
    obtain ⟨bk, hq0, hle, _⟩ := he.gens b bk' hb hq
    have := hg bk hq0
    omega
  induction hx with
  | p x v hx => exact .p x v (hx.mono he.size he.keep)
  | agg cells vs hl hv ih => exact .agg cells vs hl ih
  | tup cells vs hl hv ih => exact .tup cells vs hl ih
  | fn f cells vs hl hv ih => exact .fn f cells vs hl ih
  | ref b g off sz len A c hn hb hg hv =>
    refine .ref b g off sz len A c hn (Nat.lt_of_lt_of_le hb he.len) (gg b g hb hg) fun hl => ?_
    obtain ⟨bk, bk', q1, q2, e1, e2⟩ := lv b g hb hg hl
    rcases hv ⟨bk, q1, e1⟩ with hz | ⟨hA, hle, ⟨bk0, q0, hne⟩, cs, ty, fr, hc, hs⟩
    · exact .inl hz
    · obtain ⟨bk1, q3, _, hr⟩ := he.gens b bk' hb q2
      have : bk1 = bk := by rw [q1] at q3; exact (Option.some.inj (Option.some.inj q3)).symm
      subst this
      have : bk0 = bk1 := by rw [q1] at q0; exact (Option.some.inj (Option.some.inj q0)).symm
      subst this
      obtain ⟨i1, hne', s1⟩ := hr (by omega)
      obtain ⟨cs', ty', fr', hc', es⟩ := s1 cs ty fr hc
      exact .inr ⟨by rw [i1]; exact hA, hle, ⟨bk', q2, hne' hne⟩, cs', ty', fr', by rw [i1]; exact hc', by rw [i1]; omega⟩
  | ptr b g off A hb hg hv =>
    refine .ptr b g off A (Nat.lt_of_lt_of_le hb he.len) (gg b g hb hg) fun hl => ?_
    obtain ⟨bk, bk', q1, q2, e1, e2⟩ := lv b g hb hg hl
    obtain ⟨bk1, q3, _, hr⟩ := he.gens b bk' hb q2
    have : bk1 = bk := by rw [q1] at q3; exact (Option.some.inj (Option.some.inj q3)).symm
    subst this
    rw [(hr (by omega)).1]
    exact hv ⟨_, q1, e1⟩
  | pin cells blk off hv => exact .pin cells blk off (hv.mono he.size he.keep)

end
end Go.Proofs.YtlophgkgmhcagaaDoor.AM
