/- Proved here, in parts, for one law: The abstract machine, part A: abstract values, heaps, and how they read in a world of the model. Generic: no program in sight. The abstract machine, part B: what operations and code do to abstract states. Definitions alone. The abstract machine, part C: how heaps may change, and what stays. The abstract machine, part D: operations are sound, the first half. The abstract machine, part E: operations are sound, the second half. The abstract machine, part F: each operation is sound. The abstract machine, part G: the other operations, and all of them. The abstract machine, part H: append; and all operations that are no calls. The abstract machine, part Z: maps from lists of numbers to truths: what the model does with them, and that the machine's rules tell it. The abstract machine, part I: every operation that is no call of a function. The abstract machine, part J: regions, in the order of the text and in any order; code; calls. Conditions: none. -/
import Derived.WalkKit
import Derived.Orders
import Derived.Still
import Derived.DeepKeys3
import Derived.ChangeKeysEq
import Derived.MapKept

section
set_option linter.unusedVariables false
namespace Go.Proofs.Ytkmcecbglomemaa.AM
open Go

/-- Values that nobody changes any more. -/
inductive PV where
  | int (k : IntKind) (n : Int)
  | bool (b : Bool)
  | str (s : ByteArray)
  | nils
  | sl (rows : List (List PV))
  | nilp
  | nilf
  | nilm
  deriving Inhabited

inductive AV where
  | p (x : PV)
  | agg (cells : List AV)
  | ref (b g off sz len : Nat)
  | ptr (b g off : Nat)
  | pin (cells : List PV)
  | fn (f : FuncId) (caps : List AV)
  | tup (vs : List AV)
  | mref (b g : Nat)
  | mp (es : List (List Int × Bool))
  deriving Inhabited

abbrev AV.i (n : Int) : AV := .p (.int .i64 n)
abbrev AV.b (x : Bool) : AV := .p (.bool x)
abbrev AV.undef : AV := .tup []

structure Blk where
  g : Nat
  cells : List AV

abbrev Heap := List (Option Blk)

def InRange (k : IntKind) (n : Int) : Prop := k.min ≤ n ∧ n ≤ k.max

def get2 {α : Type} (rows : List (List α)) (i j : Nat) : Option α := (rows[i]?).bind (·[j]?)

/-- How a lasting value reads, in a world of which some blocks ('own') may still be written. -/
inductive PRel (w : World) (own : Nat → Prop) : PV → Value → Prop where
  | int (k : IntKind) (n : Int) (h : InRange k n) : PRel w own (.int k n) (.int k n)
  | bool (b : Bool) : PRel w own (.bool b) (.bool b)
  | str (s : ByteArray) (h : s.size ≤ 9223372036854775807) : PRel w own (.str s) (.string s)
  | nils : PRel w own .nils (.slice none 0 0)
  | nilp : PRel w own .nilp (.pointer none)
  | nilf : PRel w own .nilf .nilFunc
  | nilm : PRel w own .nilm (.map none)
  | slz (A : Option Addr) (c : Nat) : PRel w own (.sl []) (.slice A 0 c)
  | sl (rows : List (List PV)) (blk off c sz : Nat) (f : Nat → Nat → Value) (hc : rows.length ≤ c) (hn : rows.length ≤ 9223372036854775807) (ho : ¬ own blk) (hb : blk < w.heap.size)
      (hsz : ∀ row ∈ rows, row.length = sz)
      (hcell : ∀ i j x, get2 rows i j = some x → w.cell? ⟨blk, off + (i * sz + j), none⟩ = some (f i j))
      (hrec : ∀ i j x, get2 rows i j = some x → PRel w own x (f i j)) : PRel w own (.sl rows) (.slice (some ⟨blk, off, none⟩) rows.length c)

/-- A place of lasting cells. -/
def PinRel (w : World) (own : Nat → Prop) (cells : List PV) (blk off : Nat) : Prop :=
  ¬ own blk ∧ blk < w.heap.size ∧ ∀ j x, cells[j]? = some x → ∃ v, w.cell? ⟨blk, off + j, none⟩ = some v ∧ PRel w own x v

def liveAt (h : Heap) (b g : Nat) : Prop := ∃ blk, h[b]? = some (some blk) ∧ blk.g = g

def own (ι : Nat → Nat × Nat) (h : Heap) (n : Nat) : Prop := ∃ b blk, h[b]? = some (some blk) ∧ blk.cells ≠ [] ∧ (ι b).1 = n

inductive VRel (ι : Nat → Nat × Nat) (h : Heap) (w : World) : AV → Value → Prop where
  | p (x : PV) (v : Value) (hx : PRel w (own ι h) x v) : VRel ι h w (.p x) v
  | agg (cells : List AV) (vs : Array Value) (hl : cells.length = vs.size) (hv : ∀ (i : Nat) x v, cells[i]? = some x → vs[i]? = some v → VRel ι h w x v) :
      VRel ι h w (.agg cells) (.agg vs)
  | tup (cells : List AV) (vs : Array Value) (hl : cells.length = vs.size) (hv : ∀ (i : Nat) x v, cells[i]? = some x → vs[i]? = some v → VRel ι h w x v) :
      VRel ι h w (.tup cells) (.tuple vs)
  | fn (f : FuncId) (cells : List AV) (vs : Array Value) (hl : cells.length = vs.size) (hv : ∀ (i : Nat) x v, cells[i]? = some x → vs[i]? = some v → VRel ι h w x v) :
      VRel ι h w (.fn f cells) (.func (.func f) #[] vs)
  | ref (b g off sz len : Nat) (A : Option Addr) (c : Nat) (hn : len ≤ 9223372036854775807) (hb : b < h.length) (hg : ∀ bk : Blk, h[b]? = some (some bk) → g ≤ bk.g)
      (hv : liveAt h b g → (len = 0 ∧ c = 0) ∨ (A = some ⟨(ι b).1, (ι b).2 + off, none⟩ ∧ len ≤ c ∧ (∃ bk : Blk, h[b]? = some (some bk) ∧ bk.cells ≠ []) ∧ ∃ cs ty fr, w.heap[(ι b).1]? = some (.cells cs ty fr) ∧ (ι b).2 + off + c * sz ≤ cs.size)) :
      VRel ι h w (.ref b g off sz len) (.slice A len c)
  | ptr (b g off : Nat) (A : Addr) (hb : b < h.length) (hg : ∀ bk : Blk, h[b]? = some (some bk) → g ≤ bk.g) (hv : liveAt h b g → A = ⟨(ι b).1, (ι b).2 + off, none⟩ ∧ ∃ cs ty fr, w.heap[(ι b).1]? = some (.cells cs ty fr)) : VRel ι h w (.ptr b g off) (.pointer (some A))
  | pin (cells : List PV) (blk off : Nat) (hv : PinRel w (own ι h) cells blk off) : VRel ι h w (.pin cells) (.pointer (some ⟨blk, off, none⟩))
  | mref (b g r : Nat) (hb : b < h.length) (hg : ∀ bk : Blk, h[b]? = some (some bk) → g ≤ bk.g) (hv : liveAt h b g → r = (ι b).1) : VRel ι h w (.mref b g) (.map (some r))

/-- A key of whole numbers, and the entries of a map from such to truths. -/
def keyV (k : List Int) : Value := .agg (k.map (Value.int .i64)).toArray
def ensOf (es : List (List Int × Bool)) : Array MapEntry := (es.mapIdx fun i e => { key := keyV e.1, val := .bool e.2, born := i }).toArray

/-- What stands in a block of ours: cells, or the entries of a map. -/
def BRel (ι : Nat → Nat × Nat) (h : Heap) (w : World) (b : Nat) (bk : Blk) : Prop :=
  (∃ c ty, w.heap[(ι b).1]? = some (.cells c ty (0, 0)) ∧ (ι b).2 + bk.cells.length ≤ c.size ∧ ∀ (j : Nat) x, bk.cells[j]? = some x → ∃ v, c[(ι b).2 + j]? = some v ∧ VRel ι h w x v) ∨
  ∃ es, bk.cells = [.mp es] ∧ w.heap[(ι b).1]? = some (.map (ensOf es) es.length) ∧ (es.map (·.1)).Nodup ∧ ∀ e ∈ es, ∀ n ∈ e.1, InRange .i64 n

structure HRel (ι : Nat → Nat × Nat) (h : Heap) (w : World) : Prop where
  blk : ∀ (b : Nat) (bk : Blk), h[b]? = some (some bk) → bk.cells ≠ [] → BRel ι h w b bk
  inj : ∀ (b b' : Nat) (bk bk' : Blk), h[b]? = some (some bk) → h[b']? = some (some bk') → bk.cells ≠ [] → bk'.cells ≠ [] → (ι b).1 = (ι b').1 → b = b'

/-- What may have become of heap and world, as seen by whoever knows the first n blocks. -/
structure Evo (n : Nat) (ι : Nat → Nat × Nat) (h : Heap) (w : World) (ι' : Nat → Nat × Nat) (h' : Heap) (w' : World) : Prop where
  size : w.heap.size ≤ w'.heap.size
  keep : ∀ k, k < w.heap.size → ¬ own ι h k → w'.heap[k]? = w.heap[k]? ∧ ¬ own ι' h' k
  len : n ≤ h'.length
  gens : ∀ (b : Nat) (bk' : Blk), b < n → h'[b]? = some (some bk') → ∃ bk : Blk, h[b]? = some (some bk) ∧ bk.g ≤ bk'.g ∧ (bk.g = bk'.g → ι' b = ι b ∧ (bk.cells ≠ [] → bk'.cells ≠ [])
    ∧ ∀ cs ty fr, w.heap[(ι b).1]? = some (.cells cs ty fr) → ∃ cs' ty' fr', w'.heap[(ι b).1]? = some (.cells cs' ty' fr') ∧ cs'.size = cs.size)
  os : w'.os = w.os
  output : w'.output = w.output
  tape : w'.tape = w.tape
  drawn : w.drawn ≤ w'.drawn

theorem cell?_same {w w' : World} {k : Nat} (h : w'.heap[k]? = w.heap[k]?) (off : Nat) : w'.cell? ⟨k, off, none⟩ = w.cell? ⟨k, off, none⟩ := by
  unfold World.cell?; simp only [h]

theorem PRel.mono {w w' : World} {o o' : Nat → Prop} (hs : w.heap.size ≤ w'.heap.size) (hk : ∀ k, k < w.heap.size → ¬ o k → w'.heap[k]? = w.heap[k]? ∧ ¬ o' k)
    {x : PV} {v : Value} (h : PRel w o x v) : PRel w' o' x v := by
  induction h with
  | int k n h => exact .int k n h
  | bool b => exact .bool b
  | str s h => exact .str s h
  | nils => exact .nils
  | nilp => exact .nilp
  | nilf => exact .nilf
  | nilm => exact .nilm
  | slz A c => exact .slz A c
  | sl rows blk off c sz f hc hn ho hb hsz hcell hrec ih =>
    exact .sl rows blk off c sz f hc hn (hk blk hb ho).2 (by omega) hsz (fun i j x hx => by rw [cell?_same (hk blk hb ho).1]; exact hcell i j x hx) ih

theorem PinRel.mono {w w' : World} {o o' : Nat → Prop} (hs : w.heap.size ≤ w'.heap.size) (hk : ∀ k, k < w.heap.size → ¬ o k → w'.heap[k]? = w.heap[k]? ∧ ¬ o' k)
    {cells : List PV} {blk off : Nat} (h : PinRel w o cells blk off) : PinRel w' o' cells blk off := by
  obtain ⟨h1, h2, h3⟩ := h
  refine ⟨(hk blk h2 h1).2, by omega, fun j x hx => ?_⟩
  obtain ⟨v, hv, hr⟩ := h3 j x hx
  exact ⟨v, by rw [cell?_same (hk blk h2 h1).1]; exact hv, hr.mono hs hk⟩

section
variable {ι ι' ι'' : Nat → Nat × Nat} {h h' h'' : Heap} {w w' w'' : World} {n m : Nat}

theorem Evo.refl (hn : n ≤ h.length) : Evo n ι h w ι h w where
  size := Nat.le_refl _
  keep := fun k _ ho => ⟨rfl, ho⟩
  len := hn
  gens := fun b bk' _ hb => ⟨bk', hb, Nat.le_refl _, fun _ => ⟨rfl, id, fun cs ty fr hc => ⟨cs, ty, fr, hc, rfl⟩⟩⟩
  os := rfl
  output := rfl
  tape := rfl
  drawn := Nat.le_refl _

theorem Evo.trans (h1 : Evo n ι h w ι' h' w') (h2 : Evo m ι' h' w' ι'' h'' w'') (hnm : n ≤ m) : Evo n ι h w ι'' h'' w'' where
  size := Nat.le_trans h1.size h2.size
  keep := fun k hk ho => by
    obtain ⟨a1, a2⟩ := h1.keep k hk ho
    obtain ⟨b1, b2⟩ := h2.keep k (Nat.lt_of_lt_of_le hk h1.size) a2
    exact ⟨b1.trans a1, b2⟩
  len := Nat.le_trans hnm h2.len
  gens := fun b bk'' hb hq => by
    obtain ⟨bk', hq', hg', hr'⟩ := h2.gens b bk'' (by omega) hq
    obtain ⟨bk, hq0, hg, hr⟩ := h1.gens b bk' hb hq'
    refine ⟨bk, hq0, Nat.le_trans hg hg', fun he => ?_⟩
    have e1 : bk.g = bk'.g := by omega
    have e2 : bk'.g = bk''.g := by omega
    obtain ⟨i1, c1, s1⟩ := hr e1
    obtain ⟨i2, c2, s2⟩ := hr' e2
    refine ⟨i2.trans i1, fun hc => c2 (c1 hc), fun cs ty fr hc => ?_⟩
    obtain ⟨cs', ty', fr', hc', e'⟩ := s1 cs ty fr hc
    obtain ⟨cs'', ty'', fr'', hc'', e''⟩ := s2 cs' ty' fr' (by rw [i1]; exact hc')
    exact ⟨cs'', ty'', fr'', by rw [← i1]; exact hc'', e''.trans e'⟩
  os := h2.os.trans h1.os
  output := h2.output.trans h1.output
  tape := h2.tape.trans h1.tape
  drawn := Nat.le_trans h1.drawn h2.drawn

theorem Evo.le (h1 : Evo n ι h w ι' h' w') (hm : m ≤ n) : Evo m ι h w ι' h' w' where
  size := h1.size
  keep := h1.keep
  len := Nat.le_trans hm h1.len
  gens := fun b bk' hb hq => h1.gens b bk' (by omega) hq
  os := h1.os
  output := h1.output
  tape := h1.tape
  drawn := h1.drawn

theorem VRel.evo (he : Evo h.length ι h w ι' h' w') {x : AV} {v : Value} (hx : VRel ι h w x v) : VRel ι' h' w' x v := by
  have lv : ∀ b g, b < h.length → (∀ bk : Blk, h[b]? = some (some bk) → g ≤ bk.g) → liveAt h' b g → ∃ bk bk' : Blk, h[b]? = some (some bk) ∧ h'[b]? = some (some bk') ∧ bk.g = g ∧ bk'.g = g := by
    intro b g hb hg ⟨bk', hq, e⟩
    obtain ⟨bk, hq0, hle, _⟩ := he.gens b bk' hb hq
    have := hg bk hq0
    exact ⟨bk, bk', hq0, hq, by omega, e⟩
  have gg : ∀ b g, b < h.length → (∀ bk : Blk, h[b]? = some (some bk) → g ≤ bk.g) → ∀ bk : Blk, h'[b]? = some (some bk) → g ≤ bk.g := by
    intro b g hb hg bk' hq
    obtain ⟨bk, hq0, hle, _⟩ := he.gens b bk' hb hq
    have := hg bk hq0
    omega
  induction hx with
  | p x v hx => exact .p x v (hx.mono he.size he.keep)
  | agg cells vs hl hv ih => exact .agg cells vs hl ih
  | tup cells vs hl hv ih => exact .tup cells vs hl ih
  | fn f cells vs hl hv ih => exact .fn f cells vs hl ih
  | ref b g off sz len A c hn hb hg hv =>
    refine .ref b g off sz len A c hn (Nat.lt_of_lt_of_le hb he.len) (gg b g hb hg) fun hl => ?_
    obtain ⟨bk, bk', q1, q2, e1, e2⟩ := lv b g hb hg hl
    rcases hv ⟨bk, q1, e1⟩ with hz | ⟨hA, hle, ⟨bk0, q0, hne⟩, cs, ty, fr, hc, hs⟩
    · exact .inl hz
    · obtain ⟨bk1, q3, _, hr⟩ := he.gens b bk' hb q2
      have : bk1 = bk := by rw [q1] at q3; exact (Option.some.inj (Option.some.inj q3)).symm
      subst this
      have : bk0 = bk1 := by rw [q1] at q0; exact (Option.some.inj (Option.some.inj q0)).symm
      subst this
      obtain ⟨i1, hne', s1⟩ := hr (by omega)
      obtain ⟨cs', ty', fr', hc', es⟩ := s1 cs ty fr hc
      exact .inr ⟨by rw [i1]; exact hA, hle, ⟨bk', q2, hne' hne⟩, cs', ty', fr', by rw [i1]; exact hc', by rw [i1]; omega⟩
  | ptr b g off A hb hg hv =>
    refine .ptr b g off A (Nat.lt_of_lt_of_le hb he.len) (gg b g hb hg) fun hl => ?_
    obtain ⟨bk, bk', q1, q2, e1, e2⟩ := lv b g hb hg hl
    obtain ⟨bk1, q3, _, hr⟩ := he.gens b bk' hb q2
    have : bk1 = bk := by rw [q1] at q3; exact (Option.some.inj (Option.some.inj q3)).symm
    subst this
    obtain ⟨i1, _, s1⟩ := hr (by omega)
    obtain ⟨hA, cs, ty, fr, hc⟩ := hv ⟨_, q1, e1⟩
    obtain ⟨cs', ty', fr', hc', _⟩ := s1 cs ty fr hc
    exact ⟨by rw [i1]; exact hA, cs', ty', fr', by rw [i1]; exact hc'⟩
  | pin cells blk off hv => exact .pin cells blk off (hv.mono he.size he.keep)
  | mref b g r hb hg hv =>
    refine .mref b g r (Nat.lt_of_lt_of_le hb he.len) (gg b g hb hg) fun hl => ?_
    obtain ⟨bk, bk', q1, q2, e1, e2⟩ := lv b g hb hg hl
    obtain ⟨bk1, q3, _, hr⟩ := he.gens b bk' hb q2
    have : bk1 = bk := by rw [q1] at q3; exact (Option.some.inj (Option.some.inj q3)).symm
    subst this
    rw [(hr (by omega)).1]
    exact hv ⟨_, q1, e1⟩

theorem lt_heap {k : Nat} {o : Obj} (hc : w.heap[k]? = some o) : k < w.heap.size := by
  rcases Nat.lt_or_ge k w.heap.size with h | h
  · exact h
  · simp [Array.getElem?_eq_none h] at hc

/-- Whoever knows the block: it stands in the world. -/
theorem BRel.some {b : Nat} {bk : Blk} (h : BRel ι h w b bk) : ∃ o, w.heap[(ι b).1]? = .some o := by
  rcases h with ⟨c, ty, h, _⟩ | ⟨es, _, h, _⟩
  · exact ⟨_, h⟩
  · exact ⟨_, h⟩

/-- A block that is as it was. -/
theorem BRel.keep {b b' : Nat} {bk : Blk} (hb : BRel ι h w b bk) (hi : ι' b' = ι b) (hh : w'.heap[(ι b).1]? = w.heap[(ι b).1]?) (hv : ∀ x ∈ bk.cells, ∀ v, VRel ι h w x v → VRel ι' h' w' x v)
    (hs : w.heap.size ≤ w'.heap.size) (hk : ∀ k, k < w.heap.size → ¬ own ι h k → w'.heap[k]? = w.heap[k]? ∧ ¬ own ι' h' k) : BRel ι' h' w' b' bk := by
  rcases hb with ⟨c, ty, h1, h2, h3⟩ | ⟨es, h1, h2, h3, h4⟩
  · refine .inl ⟨c, ty, by rw [hi, hh]; exact h1, by rw [hi]; exact h2, fun j x hx => ?_⟩
    obtain ⟨v, p1, p2⟩ := h3 j x hx
    exact ⟨v, by rw [hi]; exact p1, hv _ (List.mem_of_getElem? hx) _ p2⟩
  · exact .inr ⟨es, h1, by rw [hi, hh]; exact h2, h3, h4⟩

/-- Where cells stand in the world, cells stand in the block. -/
theorem BRel.cells {b : Nat} {bk : Blk} (hb : BRel ι h w b bk) {cs : Array Value} {ty : TypeId} {fr : Nat × Nat} (hc : w.heap[(ι b).1]? = .some (.cells cs ty fr)) :
    ∃ c ty, w.heap[(ι b).1]? = .some (.cells c ty (0, 0)) ∧ (ι b).2 + bk.cells.length ≤ c.size ∧ ∀ (j : Nat) x, bk.cells[j]? = .some x → ∃ v, c[(ι b).2 + j]? = .some v ∧ VRel ι h w x v := by
  rcases hb with h | ⟨es, _, h2, _⟩
  · exact h
  · rw [hc] at h2; cases h2
end
end Go.Proofs.Ytkmcecbglomemaa.AM
end

section
set_option linter.unusedVariables false
namespace Go.Proofs.Ytkmcecbglomemaa.AM
open Go

inductive TK where
  | int (k : IntKind)
  | bool
  | str
  | slice (e : Nat)
  | array (n e : Nat)
  | struct (fs : List (Nat × Nat × Nat))
  | ptr
  | func
  | other
  deriving Inhabited

structure TI where
  k : TK
  size : Nat
  bytes : Nat
  zero : Option (List PV)

def inR (k : IntKind) (n : Int) : Bool := decide (k.min ≤ n) && decide (n ≤ k.max)

/-- A constant of one cell. -/
def constPV : Value → Option PV
  | .int k n => if inR k n then some (.int k n) else none
  | .bool b => some (.bool b)
  | .string s => if s.size ≤ 1000000 then some (.str s) else none
  | .slice none 0 0 => some .nils
  | .pointer none => some .nilp
  | .nilFunc => some .nilf
  | .map none => some .nilm
  | _ => none

def constPVs : List Value → Option (List PV)
  | [] => some []
  | v :: r => match constPV v, constPVs r with
    | some x, some xs => some (x :: xs)
    | _, _ => none

def constA : Value → Option AV
  | .agg cs => (constPVs cs.toList).map fun l => .agg (l.map .p)
  | .tuple vs => if vs.size = 0 then some .undef else none
  | v => (constPV v).map .p

def kindOf (P : Program) : TypeDesc → TK
  | .int k => .int k
  | .bool => .bool
  | .string => .str
  | .slice e => .slice e
  | .array n e => .array n e
  | .struct fs => .struct (fs.toList.map fun f => (f.offset, P.cellsOf f.type, f.type))
  | .pointer _ => .ptr
  | .func .. => .func
  | _ => .other

def tinfo (P : Program) (t : Nat) : Option TI :=
  match P.info? t, P.underlying t with
  | some i, some d => some ⟨kindOf P d, i.size, i.bytes, i.zero.bind fun v => constPVs v.cells.toList⟩
  | _, _ => none

def TI.isAgg (i : TI) : Bool := match i.k with | .struct _ | .array _ _ => true | _ => false

/-- A frame with one slot more. -/
def upd (fr : Nat → Option AV) (d : Nat) (v : AV) : Nat → Option AV := fun k => if k = d then some v else fr k

structure St where
  fr : Nat → Option AV
  nt : Nat
  heap : Heap

def St.put (s : St) (dst : Option Nat) (v : AV) : St :=
  match dst with
  | some d => if d < s.nt then { s with fr := upd s.fr d v } else s
  | none => s

def evalA (G : Nat → Option (List PV)) (s : St) : Operand → Option AV
  | .tmp t => s.fr t
  | .const v => constA v
  | .global g => (G g).map .pin
  | .func f => some (.fn f [])

def AV.scalar : AV → Bool
  | .agg _ | .tup _ => false
  | _ => true

def cellsA : AV → Option (List AV)
  | .agg cs => if cs.all AV.scalar then some cs else none
  | .tup _ => none
  | x => some [x]

def pvs : List AV → Option (List PV)
  | [] => some []
  | .p x :: r => (pvs r).map (x :: ·)
  | _ :: _ => none

def chunk {α : Type} (sz : Nat) : Nat → List α → List (List α)
  | 0, _ => []
  | n + 1, l => l.take sz :: chunk sz n (l.drop sz)

def selA (t : Bool) (x y : AV) : AV :=
  match x, y with
  | .p (.bool a), .p (.bool c) => .p (.bool (bif t then a else c))
  | _, _ => bif t then x else y

/-- Cells laid over cells, from a place on. -/
def over {α : Type} : List α → Nat → List α → List α
  | c, _, [] => c
  | c, k, v :: r => over (c.set k v) (k + 1) r

def fillA (place : Nat → Option (Nat × Nat)) : List AV → List (Nat × Option AV) → Option (List AV)
  | cells, [] => some cells
  | cells, (i, x) :: rest =>
    match place i, x.bind cellsA with
    | some (off, size), some cs => if cs.length = size ∧ off + cs.length ≤ cells.length then fillA place (over cells off cs) rest else none
    | _, _ => none

def cmpInt (op : BinOp) (a b : Int) : Option Bool :=
  match op with
  | .eql => some (a == b)
  | .neq => some (a != b)
  | .lss => some (decide (a < b))
  | .leq => some (decide (a ≤ b))
  | .gtr => some (decide (b < a))
  | .geq => some (decide (b ≤ a))
  | _ => none

def opBin (op : BinOp) (x y : AV) : Option AV :=
  match x, y with
  | .p (.int k a), .p (.int k' b) =>
    if k = k' then
      match op with
      | .add => some (.p (.int k (k.wrap (a + b))))
      | .sub => some (.p (.int k (k.wrap (a - b))))
      | .mul => some (.p (.int k (k.wrap (a * b))))
      | .quo => if b = 0 then none else some (.p (.int k (k.wrap (a.tdiv b))))
      | .rem => if b = 0 then none else if inR k (a.tmod b) then some (.p (.int k (a.tmod b))) else none
      | _ => (cmpInt op a b).map AV.b
    else none
  | _, _ => none

/-- Equality of the cells of arrays of numbers (true) or truths (false). -/
def eqCells : Bool → List AV → List AV → Option Bool
  | _, [], [] => some true
  | true, .p (.int k a) :: r, .p (.int k' b) :: r' => if k = k' then (eqCells true r r').map (fun c => (a == b) && c) else none
  | false, .p (.bool a) :: r, .p (.bool b) :: r' => (eqCells false r r').map (fun c => (a == b) && c)
  | _, _, _ => none

/-- Types of nothing but numbers, one behind the other, and how many cells they have. -/
def flatF (P : Program) (rec : Nat → Option Nat) : List Field → Nat → Option Nat
  | [], o => some o
  | f :: r, o => match rec f.type with
    | some m => if (f.name != "_") = true ∧ f.offset = o ∧ P.cellsOf f.type = m then flatF P rec r (o + m) else none
    | none => none
def flatI (P : Program) : Nat → Nat → Option Nat
  | 0, _ => none
  | d + 1, t => match P.underlying t with
    | some (.int _) => some 1
    | some (.array n e) => match flatI P d e with
      | some m => if P.cellsOf e = m then some (n * m) else none
      | none => none
    | some (.struct fs) => if P.stoodInHeld t = true then none else flatF P (flatI P d) fs.toList 0
    | _ => none
def intsB (P : Program) (t n : Nat) : Bool := flatI P 20 t == some n && !P.eqGuardType P.depth t

/-- Equality and its contrary, where the type says what is compared. -/
def eqA (P : Program) (t : Nat) (x y : AV) : Option Bool :=
  match x, y with
  | .p (.bool a), .p (.bool b) => match tinfo P t with
    | some ⟨.bool, _, _, _⟩ => some (a == b)
    | _ => none
  | .p .nilp, .p .nilp => match tinfo P t with | some ⟨.ptr, _, _, _⟩ => some true | _ => none
  | .ptr _ _ _, .p .nilp => match tinfo P t with | some ⟨.ptr, _, _, _⟩ => some false | _ => none
  | .p .nilf, .p .nilf => match tinfo P t with | some ⟨.func, _, _, _⟩ => some true | _ => none
  | .fn _ _, .p .nilf => match tinfo P t with | some ⟨.func, _, _, _⟩ => some false | _ => none
  | .agg xs, .agg ys =>
    match tinfo P t with
    | some ⟨.array n e, _, _, _⟩ =>
      if n = xs.length ∧ P.eqGuardType P.depth t = false then
        match tinfo P e with
        | some ⟨.int _, 1, _, _⟩ => eqCells true xs ys
        | some ⟨.bool, 1, _, _⟩ => eqCells false xs ys
        | _ => none
      else none
    | some ⟨.struct _, n, _, _⟩ => if n = xs.length ∧ intsB P t n = true then eqCells true xs ys else none
    | _ => none
  | .p .nils, .p .nils => match tinfo P t with | some ⟨.slice _, _, _, _⟩ => some true | _ => none
  | .p (.sl rows), .p .nils => if rows.isEmpty = true then none else match tinfo P t with | some ⟨.slice _, _, _, _⟩ => some false | _ => none
  | _, _ => none

def binA (P : Program) (op : BinOp) (t : Nat) (x y : AV) : Option AV :=
  match opBin op x y with
  | some r => some r
  | none =>
    match op with
    | .eql => (eqA P t x y).map AV.b
    | .neq => (eqA P t x y).map fun b => AV.b (!b)
    | _ => none

def unA (op : UnOp) (x : AV) : Option AV :=
  match op, x with
  | .neg, .p (.int k n) => some (.p (.int k (k.wrap (0 - n))))
  | .not, .p (.bool b) => some (.b (!b))
  | _, _ => none

def blkAt (h : Heap) (b g : Nat) : Option (List AV) :=
  match h[b]? with
  | some (some bk) => if bk.g = g then some bk.cells else none
  | _ => none

/-- A variable of so many cells out of cells. -/
def takeA (i : TI) (cells : List AV) : Option AV :=
  if i.isAgg then if i.size ≤ cells.length then some (.agg (cells.take i.size)) else none
  else match cells with
    | x :: _ => some x
    | [] => none

def loadA (P : Program) (h : Heap) (t : Nat) (x : AV) : Option AV :=
  match tinfo P t, x with
  | some i, .ptr b g off => (blkAt h b g).bind fun cells => takeA i (cells.drop off)
  | some i, .pin cells => takeA i (cells.map .p)
  | _, _ => none

def storeA (P : Program) (h : Heap) (t : Nat) (a x : AV) : Option Heap :=
  match tinfo P t, a, cellsA x with
  | some i, .ptr b g off, some cs =>
    (blkAt h b g).bind fun cells => if cs.length = i.size ∧ off + cs.length ≤ cells.length then some (h.set b (some ⟨g, over cells off cs⟩)) else none
  | _, _, _ => none

def fieldAddrA (P : Program) (h : Heap) (t : Nat) (x : AV) (f : Nat) : Option AV :=
  match tinfo P t with
  | some ⟨.struct fs, _, _, _⟩ =>
    match fs[f]? with
    | some (o, s, _) =>
      if s = 0 then none else
      match x with
      | .ptr b g off => some (.ptr b g (off + o))
      | .pin cells => some (.pin (cells.drop o))
      | _ => none
    | none => none
  | _ => none

def sizeA (P : Program) (t : Nat) : Nat := match tinfo P t with | some i => i.size | none => 0

def indexAddrA (P : Program) (h : Heap) (t : Nat) (x ix : AV) : Option AV :=
  match tinfo P t, ix with
  | some ⟨.array n e, _, _, _⟩, .p (.int _ i) =>
    if 0 ≤ i ∧ i < n ∧ sizeA P e ≠ 0 then
      match x with
      | .ptr b g off => some (.ptr b g (off + i.toNat * sizeA P e))
      | .pin cells => some (.pin (cells.drop (i.toNat * sizeA P e)))
      | _ => none
    else none
  | some ⟨.slice e, _, _, _⟩, .p (.int _ i) =>
    match x with
    | .p (.sl rows) => if 0 ≤ i then match rows[i.toNat]? with
        | some row => if row.length = sizeA P e ∧ sizeA P e ≠ 0 then some (.pin row) else none
        | none => none
      else none
    | .ref b g off sz len => if 0 ≤ i ∧ i < len ∧ sz = sizeA P e ∧ sz ≠ 0 ∧ (blkAt h b g).isSome then some (.ptr b g (off + i.toNat * sz)) else none
    | _ => none
  | _, _ => none

def indexA (P : Program) (t : Nat) (x ix : AV) : Option AV :=
  match tinfo P t, x, ix with
  | some ⟨.array n e, _, _, _⟩, .agg cells, .p (.int _ i) =>
    if 0 ≤ i ∧ i < n then (tinfo P e).bind fun ie => takeA ie (cells.drop (i.toNat * ie.size)) else none
  | _, _, _ => none

def fieldA (P : Program) (t : Nat) (x : AV) (f : Nat) : Option AV :=
  match tinfo P t, x with
  | some ⟨.struct fs, _, _, _⟩, .agg cells => match fs[f]? with
    | some (o, _, ft) => (tinfo P ft).bind fun i => takeA i (cells.drop o)
    | none => none
  | _, _ => none

def boundA (x : Option (Option AV)) (dflt : Nat) : Option Nat :=
  match x with
  | none => some dflt
  | some (some (.p (.int _ i))) => if 0 ≤ i then some i.toNat else none
  | _ => none

def sliceA (P : Program) (h : Heap) (t : Nat) (x : AV) (lo hi : Option (Option AV)) : Option AV :=
  match tinfo P t with
  | some ⟨.array n e, _, _, _⟩ =>
    match x, boundA lo 0, boundA hi n with
    | .ptr b g off, some l, some m => (blkAt h b g).bind fun cells => if l ≤ m ∧ m ≤ n ∧ l < n ∧ n ≤ 16777216 ∧ sizeA P e ≠ 0 ∧ off + n * sizeA P e ≤ cells.length then some (.ref b g (off + l * sizeA P e) (sizeA P e) (m - l)) else none
    | _, _, _ => none
  | some ⟨.slice e, _, _, _⟩ =>
    match x with
    | .p (.sl rows) => match boundA lo 0, boundA hi rows.length with
      | some l, some m => if l ≤ m ∧ m ≤ rows.length ∧ sizeA P e ≠ 0 ∧ rows.all (fun r => r.length == sizeA P e) then some (.p (.sl ((rows.drop l).take (m - l)))) else none
      | _, _ => none
    | .p .nils => match boundA lo 0, boundA hi 0 with
      | some l, some m => if l = 0 ∧ m = 0 ∧ sizeA P e ≠ 0 then some (.p .nils) else none
      | _, _ => none
    | .ref b g off sz len => match boundA lo 0, boundA hi len with
      | some l, some m => if l ≤ m ∧ m ≤ len ∧ sz = sizeA P e ∧ sz ≠ 0 ∧ (blkAt h b g).isSome then some (.ref b g (off + l * sz) sz (m - l)) else none
      | _, _ => none
    | _ => none
  | _ => none

def lenA : AV → Option Nat
  | .p (.sl rows) => some rows.length
  | .p .nils => some 0
  | .p (.str s) => some s.size
  | .ref _ _ _ _ len => some len
  | _ => none

/-- The cells of what is appended. -/
def srcCells (h : Heap) (sz : Nat) : AV → Option (List AV)
  | .p (.sl rows) => if rows.all (fun r => r.length == sz) then some ((rows.flatMap id).map .p) else none
  | .p .nils => some []
  | .ref b g off sz' len => if sz' = sz then (blkAt h b g).bind fun cells => if off + len * sz ≤ cells.length ∧ ((cells.drop off).take (len * sz)).all AV.scalar then some ((cells.drop off).take (len * sz)) else none else none
  | _ => none

def maxCount : Nat := 16777216

def appendA (P : Program) (h : Heap) (t : Nat) (x y : AV) : Option (AV × Heap) :=
  match tinfo P t with
  | some ⟨.slice e, _, _, _⟩ =>
    match tinfo P e, lenA y with
    | some ie, some k =>
      if ie.size = 0 ∨ ie.bytes > 1048576 ∨ (ie.zero.map List.length) ≠ some ie.size then none else
      match srcCells h ie.size y with
      | none => none
      | some cs =>
        match x with
        | .p .nils => if k = 0 then some (.p .nils, h) else if k ≤ maxCount then some (.ref h.length 0 0 ie.size k, h ++ [some ⟨0, cs⟩]) else none
        | .ref b g off sz len =>
          (blkAt h b g).bind fun cells =>
            if k = 0 then (if sz = ie.size then some (.ref b g off sz len, h) else none) else
            if sz = ie.size ∧ cells.length = off + len * sz ∧ len + k ≤ maxCount ∧ k ≠ 0 then some (.ref b (g + 1) 0 sz (len + k), h.set b (some ⟨g + 1, cells.drop off ++ cs⟩))
            else if sz = ie.size ∧ off + len * sz ≤ cells.length ∧ len + k ≤ maxCount ∧ k ≠ 0 then some (.ref b (g + 1) 0 sz (len + k), h.set b (some ⟨g + 1, (cells.drop off).take (len * sz) ++ cs⟩)) else none
        | _ => none
    | _, _ => none
  | _ => none

def builtinA (P : Program) (b : Builtin) (argTypes : List Nat) (args : List AV) (h : Heap) : Option (AV × Heap) :=
  match b, argTypes, args with
  | .len, [t], [x] => match tinfo P t with
    | some ⟨.slice _, _, _, _⟩ => (match x with | .p (.str _) => (none : Option Nat) | y => lenA y).map fun n : Nat => (.i n, h)
    | some ⟨.str, _, _, _⟩ => match x with | .p (.str s) => some (.i s.size, h) | _ => none
    | some ⟨.array n _, _, _, _⟩ => if n ≤ 1000000 then some (.i n, h) else none
    | _ => none
  | .append, [t, u], [x, y] => if t = u then appendA P h t x y else none
  | .max, _, [.p (.int k a), .p (.int k' c)] => if k = k' then some (.p (.int k (if a < c then c else a)), h) else none
  | .min, _, [.p (.int k a), .p (.int k' c)] => if k = k' then some (.p (.int k (if c < a then c else a)), h) else none
  | .clear, [t], [.ref b g off sz len] => match tinfo P t with
    | some ⟨.slice e, _, _, _⟩ => match tinfo P e with
      | some ⟨_, size, _, some z⟩ => (blkAt h b g).bind fun cells => if len ≠ 0 ∧ sz = size ∧ size ≠ 0 ∧ z.length = size ∧ off + len * size ≤ cells.length then some (.undef, h.set b (some ⟨g, cells.take off ++ ((List.replicate len (z.map .p)).flatMap id ++ cells.drop (off + len * size))⟩)) else none
      | _ => none
    | _ => none
  | _, _, _ => none

/-! Maps from lists of numbers to truths. -/
def mapT (P : Program) (t : Nat) : Option (Nat × Nat) := match P.underlying t with | some (.map k e) => some (k, e) | _ => none
def intsOf : List AV → Option (List Int)
  | [] => some []
  | .p (.int .i64 n) :: r => (intsOf r).map (n :: ·)
  | _ => none
def mget (es : List (List Int × Bool)) (k : List Int) : Option Bool := (es.find? fun e => e.1 == k).map (·.2)
def keyI (P : Program) : Nat → Nat → Bool
  | 0, _ => false
  | d + 1, t => match P.underlying t with
    | some (.int .i64) => P.cellsOf t == 1
    | some (.array n e) => P.cellsOf t == n * P.cellsOf e && keyI P d e
    | some (.struct fs) => fs.toList.all fun f => f.name != "_" && decide (f.offset + P.cellsOf f.type ≤ P.cellsOf t) && keyI P d f.type
    | _ => false
def wideB (P : Program) (k : Nat) : Bool := match P.underlying k with | some (.array _ _) | some (.struct _) => true | _ => false
def keyB (P : Program) (k n : Nat) : Bool := keyI P 20 k && P.keyType k && P.keyTypeAt 20 k && P.tiled 20 k && wideB P k && P.cellsOf k == n && decide (20 ≤ P.types.size + 1)
def boolZ (P : Program) (t : Nat) : Bool := match P.info? t with
  | some i => match i.zero with | some (.bool false) => true | _ => false
  | none => false
def lookupA (P : Program) (h : Heap) (t : Nat) (x ix : AV) : Option AV :=
  match mapT P t, x, ix with
  | some (kt, et), .mref b g, .agg ks =>
    match intsOf ks, blkAt h b g with
    | some kl, some [.mp es] => if keyB P kt ks.length = true ∧ (es.all fun e => e.1.length == ks.length) = true ∧ boolZ P et = true then some (.b ((mget es kl).getD false)) else none
    | _, _ => none
  | _, _, _ => none
def mapUpdateA (P : Program) (h : Heap) (t : Nat) (x ix v : AV) : Option Heap :=
  match mapT P t, x, ix, v with
  | some (kt, _), .mref b g, .agg ks, .p (.bool y) =>
    match intsOf ks, blkAt h b g with
    | some kl, some [.mp es] => if keyB P kt ks.length = true ∧ (es.all fun e => e.1.length == ks.length) = true ∧ mget es kl = none then some (h.set b (some ⟨g, [.mp (es ++ [(kl, y)])]⟩)) else none
    | _, _ => none
  | _, _, _, _ => none

def evals (ρ : Operand → Option AV) : List Operand → Option (List AV)
  | [] => some []
  | x :: r => match ρ x, evals ρ r with
    | some v, some vs => some (v :: vs)
    | _, _ => none

/-- An operation that is no call of a function. 'rl': slice literals that are written later (by their place in the text). -/
def opA (P : Program) (rl : List String) (o : Oper) (ρ : Operand → Option AV) (h : Heap) : Option (AV × Heap) :=
  match o.op with
  | .move x | .assign x => (ρ x).map (·, h)
  | .pick c a b => match ρ c, ρ a, ρ b with
    | some (.p (.bool t)), some x, some y => some (selA t x y, h)
    | _, _, _ => none
  | .alloc t => match tinfo P t with
    | some ⟨_, _, _, some z⟩ => if z = [] then none else some (.ptr h.length 0 0, h ++ [some ⟨0, z.map .p⟩])
    | _ => none
  | .box t x => match (ρ x).bind cellsA with
    | some cs => if cs.isEmpty then none else some (.ptr h.length 0 0, h ++ [some ⟨0, cs⟩])
    | none => none
  | .build t parts => match tinfo P t with
    | some ⟨.struct fs, _, _, some z⟩ => if fs.all (fun f => f.2.1 != 0) then (fillA (fun i => (fs[i]?).map fun f => (f.1, f.2.1)) (z.map .p) (parts.toList.map fun q => (q.1, ρ q.2))).map fun cs => (.agg cs, h) else none
    | some ⟨.array _ e, _, _, some z⟩ => if sizeA P e ≠ 0 then (fillA (fun i => some (i * sizeA P e, sizeA P e)) (z.map .p) (parts.toList.map fun q => (q.1, ρ q.2))).map fun cs => (.agg cs, h) else none
    | _ => none
  | .buildSlice t len parts => match tinfo P t with
    | some ⟨.slice e, _, _, _⟩ => match tinfo P e with
      | some ⟨_, size, _, some z⟩ =>
        if len * size ≤ 10000 ∧ z.length = size ∧ size ≠ 0 then
          match fillA (fun i => some (i * size, size)) ((List.replicate len (z.map .p)).flatMap id) (parts.toList.map fun q => (q.1, ρ q.2)) with
          | some cs =>
            if len = 0 then (if rl.contains o.pos then some (.ref h.length 0 0 size 0, h ++ [some ⟨0, []⟩]) else some (.p (.sl []), h))
            else if rl.contains o.pos then some (.ref h.length 0 0 size len, h ++ [some ⟨0, cs⟩])
            else (pvs cs).map fun l => (.p (.sl (chunk size len l)), h)
          | none => none
        else none
      | _ => none
    | _ => none
  | .makeSlice t l c => match tinfo P t, ρ l, ρ c with
    | some ⟨.slice e, _, _, _⟩, some (.p (.int _ n)), some (.p (.int _ m)) =>
      match tinfo P e with
      | some ⟨_, size, bytes, some z⟩ =>
        if 0 ≤ n ∧ n = m ∧ n ≤ 16777216 ∧ bytes ≤ 1048576 ∧ z.length = size ∧ size ≠ 0 then
          if n = 0 then some (.p (.sl []), h) else some (.ref h.length 0 0 size n.toNat, h ++ [some ⟨0, (List.replicate n.toNat (z.map .p)).flatMap id⟩])
        else none
      | _ => none
    | _, _, _ => none
  | .load t a => (ρ a).bind fun x => (loadA P h t x).map (·, h)
  | .store t a x => match ρ a, ρ x with
    | some a, some x => (storeA P h t a x).map (AV.undef, ·)
    | _, _ => none
  | .nilCheck x => match ρ x with
    | some (.ptr b g off) => some (.ptr b g off, h)
    | some (.pin cells) => some (.pin cells, h)
    | _ => none
  | .binOp op t x y _ => match ρ x, ρ y with
    | some x, some y => (binA P op t x y).map (·, h)
    | _, _ => none
  | .unOp op _ x => (ρ x).bind fun x => (unA op x).map (·, h)
  | .convert src dst x => match tinfo P src, tinfo P dst, ρ x with
    | some ⟨.int k, _, _, _⟩, some ⟨.int k', _, _, _⟩, some (.p (.int k'' n)) => if k = k' ∧ k'' = k then some (.p (.int k n), h) else some (.p (.int k' (k'.wrap n)), h)
    | _, _, _ => none
  | .makeFunc (.func f) first captured => if first.size = 0 then (evals ρ captured.toList).map fun vs => (.fn f vs, h) else none
  | .slice t x lo hi mx => match mx, ρ x with
    | none, some x => (sliceA P h t x (lo.map ρ) (hi.map ρ)).map (·, h)
    | _, _ => none
  | .fieldAddr t x f => (ρ x).bind fun x => (fieldAddrA P h t x f).map (·, h)
  | .field t x f => (ρ x).bind fun x => (fieldA P t x f).map (·, h)
  | .indexAddr t x ix => match ρ x, ρ ix with
    | some x, some ix => (indexAddrA P h t x ix).map (·, h)
    | _, _ => none
  | .index t x ix => match ρ x, ρ ix with
    | some x, some ix => (indexA P t x ix).map (·, h)
    | _, _ => none
  | .extract t i => match ρ t with
    | some (.tup vs) => (vs[i]?).map (·, h)
    | _ => none
  | .call c => match c.callee with
    | .builtin b => (evals ρ c.args.toList).bind fun xs => builtinA P b c.argTypes.toList xs h
    | _ => none
  | .makeMap _ none => some (.mref h.length 0, h ++ [some ⟨0, [.mp []]⟩])
  | .lookup t x ix false => match ρ x, ρ ix with
    | some x, some ix => (lookupA P h t x ix).map (·, h)
    | _, _ => none
  | .mapUpdate t x ix v => match ρ x, ρ ix, ρ v with
    | some x, some ix, some v => (mapUpdateA P h t x ix v).map (AV.undef, ·)
    | _, _, _ => none
  | _ => none

structure SimH (P : Program) (G : Nat → Option (List PV)) (ι : Nat → Nat × Nat) (h : Heap) (w : World) : Prop where
  hr : HRel ι h w
  gr : ∀ g cells, G g = some cells → PinRel w (own ι h) cells g 0

def VRels (ι : Nat → Nat × Nat) (h : Heap) (w : World) (xs : List AV) (vs : Array Value) : Prop :=
  xs.length = vs.size ∧ ∀ (i : Nat) x v, xs[i]? = some x → vs[i]? = some v → VRel ι h w x v

/-- A call, as seen by whoever knows abstract heaps. -/
def ACalls (P : Program) (G : Nat → Option (List PV)) (f : FuncId) (args : List AV) (h : Heap) (K : AV → Heap → Prop) : Prop :=
  ∀ ι w vs, SimH P G ι h w → VRels ι h w args vs → Calls P f vs w fun e w' => ∃ v r h' ι', e = .returned v ∧ K r h' ∧ SimH P G ι' h' w' ∧ VRel ι' h' w' r v ∧ Evo h.length ι h w ι' h' w'

/-- The functions that can be entered. -/
def Enters (P : Program) (f : FuncId) : Prop := ∃ fn c, P.funcs[f]? = some fn ∧ fn.body = some c ∧ (fn.name == "runtime.NumGoroutine") = false

/-- The function and the arguments of a call of a function. -/
def callOf (o : Oper) : Option (Operand × Array Operand) :=
  match o.op with
  | .call ⟨.value f, args, _⟩ => some (f, args)
  | _ => none

section
variable (P : Program) (G : Nat → Option (List PV)) (rl : List String)

def aexec (o : Oper) (K : St → Prop) (s : St) : Prop :=
  match callOf o with
  | some (f, args) =>
    match evalA G s f, evals (evalA G s) args.toList with
    | some (.fn g caps), some xs => Enters P g ∧ ACalls P G g (xs ++ caps) s.heap fun r h' => K ({ s with heap := h' }.put o.dst r)
    | _, _ => False
  | none =>
    match opA P rl o (evalA G s) s.heap with
    | some (r, h') => K ({ s with heap := h' }.put o.dst r)
    | none => False

def guardA (ops : Array Oper) (s : St) (j : Nat) : Option AV := ((ops[j]?).bind (·.dst)).bind s.fr

/-- Is it carried out? -/
def wantA (ops : Array Oper) (o : Oper) (s : St) : Option Bool :=
  match o.guard with
  | none => some true
  | some (j, want) =>
    match guardA ops s j with
    | some (.p (.bool g)) => some (g == want)
    | some (.tup []) => some false
    | _ => none

def aop (ops : Array Oper) (o : Oper) (K : St → Prop) (s : St) : Prop :=
  match wantA ops o s with
  | some b => (b = true → aexec P G rl o K s) ∧ (b = false → K (s.put o.dst .undef))
  | none => False

def aops (ops : Array Oper) (K : St → Prop) : List Oper → St → Prop
  | [], s => K s
  | o :: rest, s => aop P G rl ops o (aops ops K rest) s

/-- An operation that leaves the abstract heap alone, and has one answer. -/
def aquiet (o : Oper) (K : St → Prop) (s : St) : Prop :=
  match callOf o with
  | some (f, args) =>
    match evalA G s f, evals (evalA G s) args.toList with
    | some (.fn g caps), some xs => Enters P g ∧ ∃ r, ACalls P G g (xs ++ caps) s.heap (fun r' h' => r' = r ∧ h' = s.heap) ∧ K (s.put o.dst r)
    | _, _ => False
  | none =>
    match opA P rl o (evalA G s) s.heap with
    | some (r, h') => h' = s.heap ∧ K (s.put o.dst r)
    | none => False

def aqop (ops : Array Oper) (o : Oper) (K : St → Prop) (s : St) : Prop :=
  match wantA ops o s with
  | some b => (b = true → aquiet P G rl o K s) ∧ (b = false → K (s.put o.dst .undef))
  | none => False

def aqops (ops : Array Oper) (K : St → Prop) : List Oper → St → Prop
  | [], s => K s
  | o :: rest, s => aqop P G rl ops o (aqops ops K rest) s

end
end Go.Proofs.Ytkmcecbglomemaa.AM
end

section
set_option linter.unusedVariables false
namespace Go.Proofs.Ytkmcecbglomemaa.AM
open Go

section
variable {P : Program} {G : Nat → Option (List PV)} {ι ι' : Nat → Nat × Nat} {h h' : Heap} {w w' : World}

/-- Garbage and draws change nothing. -/
theorem SimH.garbage (hS : SimH P G ι h w) (hs : w.heap.size ≤ w'.heap.size) (hk : ∀ k, k < w.heap.size → w'.heap[k]? = w.heap[k]?) (ho : w'.os = w.os) (hu : w'.output = w.output) (ht : w'.tape = w.tape) (hdr : w.drawn ≤ w'.drawn := by first | exact Nat.le_refl _ | exact Nat.le_succ _) :
    SimH P G ι h w' ∧ Evo h.length ι h w ι h w' := by
  have he : Evo h.length ι h w ι h w' := ⟨hs, fun k hk' hn => ⟨hk k hk', hn⟩, Nat.le_refl _, fun b bk' _ hb => ⟨bk', hb, Nat.le_refl _, fun _ => ⟨rfl, id, fun cs ty fr hc => by
      have hlt : (ι b).1 < w.heap.size := by
        rcases Nat.lt_or_ge (ι b).1 w.heap.size with h | h
        · exact h
        · simp [Array.getElem?_eq_none h] at hc
      exact ⟨cs, ty, fr, by rw [hk _ hlt]; exact hc, rfl⟩⟩⟩, ho, hu, ht, hdr⟩
  refine ⟨⟨⟨fun b bk hb hne => ?_, hS.hr.inj⟩, fun g cells hg => (hS.gr g cells hg).mono he.size he.keep⟩, he⟩
  have hB := hS.hr.blk b bk hb hne
  obtain ⟨o, hoo⟩ := hB.some
  exact hB.keep rfl (hk _ (lt_heap hoo)) (fun x _ v hx => hx.evo he) he.size he.keep

theorem lt_of_heap {k : Nat} {o : Obj} (hc : w.heap[k]? = some o) : k < w.heap.size := by
  rcases Nat.lt_or_ge k w.heap.size with h | h
  · exact h
  · simp [Array.getElem?_eq_none h] at hc

/-- One abstract block is new, or changes; one block of the world is new, or changes. -/
theorem SimH.updG (hS : SimH P G ι h w) (b : Nat) (bk' : Blk) (k0 β : Nat)
    (hb : (h' = h ++ [some bk'] ∧ b = h.length) ∨ (b < h.length ∧ (∃ bk : Blk, h[b]? = some (some bk) ∧ bk.g ≤ bk'.g) ∧ h' = h.set b (some bk')))
    (hι : ∀ i, ι' i = if i = b then (k0, β) else ι i)
    (hk0 : w.heap.size ≤ k0 ∨ ∃ bk : Blk, h[b]? = some (some bk) ∧ bk.cells ≠ [] ∧ (ι b).1 = k0 ∧ ∀ cs ty fr, w.heap[k0]? = some (.cells cs ty fr) → ∃ c ty' fr', w'.heap[k0]? = some (.cells c ty' fr') ∧ c.size = cs.size)
    (hne : bk'.cells ≠ [])
    (hB : Evo h.length ι h w ι' h' w' → BRel ι' h' w' b bk')
    (hsz : w.heap.size ≤ w'.heap.size) (hk : ∀ k, k < w.heap.size → k ≠ k0 → w'.heap[k]? = w.heap[k]?)
    (hsame : ∀ bk : Blk, h[b]? = some (some bk) → bk.g = bk'.g → ι b = (k0, β))
    (ho : w'.os = w.os) (hu : w'.output = w.output) (ht : w'.tape = w.tape) (hdr : w.drawn ≤ w'.drawn := by first | exact Nat.le_refl _ | exact Nat.le_succ _) :
    SimH P G ι' h' w' ∧ Evo h.length ι h w ι' h' w' := by
  have hb' : h'[b]? = some (some bk') := by
    rcases hb with ⟨rfl, rfl⟩ | ⟨hlt, _, rfl⟩
    · simp
    · simp [hlt]
  have hoth : ∀ i, i ≠ b → i < h.length ∨ True → h'[i]? = h[i]? := by
    intro i hi _
    rcases hb with ⟨rfl, rfl⟩ | ⟨hlt, _, rfl⟩
    · rcases Nat.lt_or_ge i h.length with hl | hl
      · simp [List.getElem?_append_left hl]
      · rw [List.getElem?_eq_none (by simp; omega), List.getElem?_eq_none hl]
    · simp [List.getElem?_set_ne (Ne.symm hi)]
  have hlen : h.length ≤ h'.length := by
    rcases hb with ⟨rfl, rfl⟩ | ⟨hlt, _, rfl⟩ <;> simp
  have hown : ∀ k, k < w.heap.size → ¬ own ι h k → k ≠ k0 := by
    intro k hk hn e
    rcases hk0 with h1 | ⟨bk, q1, q2, q3, _⟩
    · omega
    · exact hn ⟨b, bk, q1, q2, by rw [q3, e]⟩
  have hown' : ∀ k, k < w.heap.size → ¬ own ι h k → ¬ own ι' h' k := by
    intro k hk hn ⟨b2, bk2, q1, q2, q3⟩
    by_cases hbb : b2 = b
    · subst hbb; rw [hι] at q3; simp at q3; exact hown k hk hn q3.symm
    · rw [hoth b2 hbb (.inr trivial)] at q1; rw [hι, if_neg hbb] at q3; exact hn ⟨b2, bk2, q1, q2, q3⟩
  have hcsz : ∀ cs ty fr, w.heap[k0]? = some (.cells cs ty fr) → ∃ c ty' fr', w'.heap[k0]? = some (.cells c ty' fr') ∧ c.size = cs.size := by
    intro cs ty fr hq
    rcases hk0 with h1 | ⟨bk, q1, q2, q3, q4⟩
    · have := lt_of_heap hq; omega
    · exact q4 cs ty fr hq
  have he : Evo h.length ι h w ι' h' w' := by
    refine ⟨hsz, fun k hlt hn => ⟨hk k hlt (hown k hlt hn), hown' k hlt hn⟩, hlen, fun b2 bk2 hlt hq => ?_, ho, hu, ht, hdr⟩
    have hcs : ∀ cs ty fr, w.heap[(ι b2).1]? = some (.cells cs ty fr) → ∃ cs' ty' fr', w'.heap[(ι b2).1]? = some (.cells cs' ty' fr') ∧ cs'.size = cs.size := by
      intro cs ty2 fr hq2
      by_cases hkk : (ι b2).1 = k0
      · rw [hkk] at hq2 ⊢
        exact hcsz cs ty2 fr hq2
      · exact ⟨cs, ty2, fr, by rw [hk _ (lt_of_heap hq2) hkk]; exact hq2, rfl⟩
    by_cases hbb : b2 = b
    · subst hbb
      rcases hb with ⟨rfl, hx⟩ | ⟨hlt2, ⟨bk, q1, q2⟩, rfl⟩
      · omega
      · rw [hb'] at hq
        have : bk2 = bk' := (Option.some.inj (Option.some.inj hq)).symm
        subst this
        exact ⟨bk, q1, q2, fun hg => ⟨by rw [hι, if_pos rfl]; exact (hsame bk q1 hg).symm, fun _ => hne, hcs⟩⟩
    · rw [hoth b2 hbb (.inr trivial)] at hq
      exact ⟨bk2, hq, Nat.le_refl _, fun _ => ⟨by rw [hι, if_neg hbb], id, hcs⟩⟩
  refine ⟨⟨⟨fun b2 bk2 hq hne2 => ?_, fun b2 b3 bk2 bk3 q2 q3 n2 n3 hii => ?_⟩, fun g cells hg => (hS.gr g cells hg).mono he.size he.keep⟩, he⟩
  · by_cases hbb : b2 = b
    · subst hbb
      rw [hb'] at hq
      have : bk2 = bk' := (Option.some.inj (Option.some.inj hq)).symm
      subst this
      exact hB he
    · rw [hoth b2 hbb (.inr trivial)] at hq
      have hB2 := hS.hr.blk b2 bk2 hq hne2
      obtain ⟨o2, hc2⟩ := hB2.some
      have hkk : (ι b2).1 ≠ k0 := by
        intro e
        rcases hk0 with h1 | ⟨bk, q1, q2, q3, _⟩
        · have := lt_of_heap hc2; omega
        · exact hbb (hS.hr.inj b2 b bk2 bk hq q1 hne2 q2 (by rw [e, q3]))
      exact hB2.keep (by rw [hι, if_neg hbb]) (hk _ (lt_of_heap hc2) hkk) (fun x _ v hx => hx.evo he) he.size he.keep
  · have key : ∀ b2 (bk2 : Blk), h'[b2]? = some (some bk2) → bk2.cells ≠ [] → b2 ≠ b → (ι b2).1 ≠ k0 := by
      intro b2 bk2 q2 n2 hbb e
      rw [hoth b2 hbb (.inr trivial)] at q2
      obtain ⟨o2, hc2⟩ := (hS.hr.blk b2 bk2 q2 n2).some
      rcases hk0 with h1 | ⟨bk, p1, p2, p3, _⟩
      · have := lt_of_heap hc2; omega
      · exact hbb (hS.hr.inj b2 b bk2 bk q2 p1 n2 p2 (by rw [e, p3]))
    by_cases e2 : b2 = b <;> by_cases e3 : b3 = b
    · rw [e2, e3]
    · rw [hι b2, if_pos e2, hι b3, if_neg e3] at hii
      exact absurd hii.symm (key b3 bk3 q3 n3 e3)
    · rw [hι b2, if_neg e2, hι b3, if_pos e3] at hii
      exact absurd hii (key b2 bk2 q2 n2 e2)
    · rw [hι b2, if_neg e2, hι b3, if_neg e3] at hii
      rw [hoth b2 e2 (.inr trivial)] at q2
      rw [hoth b3 e3 (.inr trivial)] at q3
      exact hS.hr.inj b2 b3 bk2 bk3 q2 q3 n2 n3 hii

/-- One abstract block is new, or changes; one block of the world is new, or changes. -/
theorem SimH.upd (hS : SimH P G ι h w) (b : Nat) (bk' : Blk) (k0 β : Nat) (c : Array Value) (ty : TypeId)
    (hb : (h' = h ++ [some bk'] ∧ b = h.length) ∨ (b < h.length ∧ (∃ bk : Blk, h[b]? = some (some bk) ∧ bk.g ≤ bk'.g) ∧ h' = h.set b (some bk')))
    (hι : ∀ i, ι' i = if i = b then (k0, β) else ι i)
    (hk0 : w.heap.size ≤ k0 ∨ ∃ bk : Blk, h[b]? = some (some bk) ∧ bk.cells ≠ [] ∧ (ι b).1 = k0 ∧ ∀ cs ty fr, w.heap[k0]? = some (.cells cs ty fr) → c.size = cs.size)
    (hne : bk'.cells ≠ [])
    (hc : w'.heap[k0]? = some (.cells c ty (0, 0))) (hl : β + bk'.cells.length ≤ c.size)
    (hv : ∀ (j : Nat) x, bk'.cells[j]? = some x → ∃ v, c[β + j]? = some v ∧ VRel ι h w x v)
    (hsz : w.heap.size ≤ w'.heap.size) (hk : ∀ k, k < w.heap.size → k ≠ k0 → w'.heap[k]? = w.heap[k]?)
    (hsame : ∀ bk : Blk, h[b]? = some (some bk) → bk.g = bk'.g → ι b = (k0, β))
    (ho : w'.os = w.os) (hu : w'.output = w.output) (ht : w'.tape = w.tape) (hdr : w.drawn ≤ w'.drawn := by first | exact Nat.le_refl _ | exact Nat.le_succ _) :
    SimH P G ι' h' w' ∧ Evo h.length ι h w ι' h' w' := by
  refine hS.updG b bk' k0 β hb hι ?_ hne (fun he => .inl ⟨c, ty, by rw [hι, if_pos rfl]; exact hc, by rw [hι, if_pos rfl]; exact hl, fun j x hx => ?_⟩) hsz hk hsame ho hu ht hdr
  · exact hk0.imp id fun ⟨bk, q1, q2, q3, q4⟩ => ⟨bk, q1, q2, q3, fun cs ty2 fr hq => ⟨c, ty, (0, 0), hc, q4 cs ty2 fr hq⟩⟩
  · obtain ⟨v, hv1, hv2⟩ := hv j x hx
    exact ⟨v, by rw [hι, if_pos rfl]; exact hv1, hv2.evo he⟩

theorem constPV_rel {o : Nat → Prop} {v : Value} {x : PV} (hx : constPV v = some x) : PRel w o x v ∧ v.oneCell' = true := by
  unfold constPV at hx
  split at hx
  · rename_i k n
    split at hx
    · rename_i hr
      cases hx
      simp only [inR, Bool.and_eq_true, decide_eq_true_eq] at hr
      exact ⟨.int _ _ hr, rfl⟩
    · cases hx
  · cases hx; exact ⟨.bool _, rfl⟩
  · split at hx
    · rename_i hs
      cases hx; exact ⟨.str _ (by omega), rfl⟩
    · cases hx
  · cases hx; exact ⟨.nils, rfl⟩
  · cases hx; exact ⟨.nilp, rfl⟩
  · cases hx; exact ⟨.nilf, rfl⟩
  · cases hx; exact ⟨.nilm, rfl⟩
  · cases hx

theorem constPVs_rel {o : Nat → Prop} : ∀ {vs : List Value} {xs : List PV}, constPVs vs = some xs → xs.length = vs.length ∧ (∀ v ∈ vs, v.oneCell' = true) ∧ ∀ (i : Nat) x v, xs[i]? = some x → vs[i]? = some v → PRel w o x v
  | [], xs, hx => by cases hx; simp
  | v :: r, xs, hx => by
    simp only [constPVs] at hx
    split at hx
    · rename_i x xs' h1 h2
      cases hx
      obtain ⟨l1, l2, l3⟩ := constPVs_rel (o := o) h2
      obtain ⟨p1, p2⟩ := constPV_rel (w := w) (o := o) h1
      refine ⟨by simp [l1], by simpa [p2] using l2, fun i y u hy hu => ?_⟩
      cases i with
      | zero => simp at hy hu; rw [← hy, ← hu]; exact p1
      | succ i => simp at hy hu; exact l3 i y u hy hu
    · cases hx

theorem VRel.oneCell {x : AV} {v : Value} (hx : VRel ι h w x v) (hs : x.scalar = true) : v.oneCell' = true := by
  cases hx with
  | p x v hx => cases hx <;> rfl
  | agg => simp [AV.scalar] at hs
  | tup => simp [AV.scalar] at hs
  | fn => rfl
  | ref => rfl
  | ptr => rfl
  | pin => rfl
  | mref => rfl

theorem VRel.cells1 {x : AV} {v : Value} (hx : VRel ι h w x v) (hs : x.scalar = true) : v.cells = #[v] := by
  have := hx.oneCell hs
  cases v <;> simp [Value.oneCell'] at this <;> rfl

theorem cellsA_rel {x : AV} {v : Value} {cs : List AV} (hx : VRel ι h w x v) (hc : cellsA x = some cs) :
    cs.length = v.cells.size ∧ (∀ y ∈ cs, y.scalar = true) ∧ ∀ (i : Nat) y u, cs[i]? = some y → v.cells[i]? = some u → VRel ι h w y u := by
  unfold cellsA at hc
  split at hc
  · split at hc
    · rename_i cs' hall
      cases hc
      cases hx with
      | agg _ vs hl hv => exact ⟨by simpa [Value.cells] using hl, by simpa using hall, fun i y u hy hu => hv i y u hy (by simpa [Value.cells] using hu)⟩
    · cases hc
  · cases hc
  · rename_i h1 h2
    cases hc
    have hs : x.scalar = true := by cases x <;> first | rfl | exact absurd rfl (h1 _) | exact absurd rfl (h2 _)
    rw [hx.cells1 hs]
    refine ⟨rfl, by simpa using hs, fun i y u hy hu => ?_⟩
    cases i with
    | zero => simp at hy hu; rw [← hy, ← hu]; exact hx
    | succ i => simp at hy

theorem constA_rel {x : AV} {v : Value} (hx : constA v = some x) : VRel ι h w x v := by
  unfold constA at hx
  split at hx
  · rename_i cs
    cases hq : constPVs cs.toList with
    | none => simp [hq] at hx
    | some l =>
      simp [hq] at hx
      subst hx
      obtain ⟨l1, l2, l3⟩ := constPVs_rel (w := w) (o := own ι h) hq
      refine .agg _ _ (by simpa using l1) fun i x v hx hv => ?_
      simp only [List.getElem?_map, Option.map_eq_some_iff] at hx
      obtain ⟨y, hy, rfl⟩ := hx
      exact .p _ _ (l3 i y v hy (by simpa using hv))
  · split at hx
    · rename_i vs hz
      cases hx
      exact .tup _ _ (by simpa using hz.symm) fun i x v hx hv => by simp at hx
    · cases hx
  · cases hq : constPV v with
    | none => simp [hq] at hx
    | some y => simp [hq] at hx; subst hx; exact .p _ _ (constPV_rel hq).1

end
end Go.Proofs.Ytkmcecbglomemaa.AM
end

section
set_option linter.unusedVariables false
namespace Go.Proofs.Ytkmcecbglomemaa.AM
open Go

theorem tinfo_some {P : Program} {t : Nat} {i : TI} (ht : tinfo P t = some i) :
    ∃ inf d, P.info? t = some inf ∧ P.underlying t = some d ∧ kindOf P d = i.k ∧ inf.size = i.size ∧ inf.bytes = i.bytes ∧ i.zero = inf.zero.bind fun v => constPVs v.cells.toList := by
  unfold tinfo at ht
  split at ht
  · rename_i inf d h1 h2
    cases ht
    exact ⟨inf, d, h1, h2, rfl, rfl, rfl, rfl⟩
  · cases ht

theorem kind_slice {P : Program} {d : TypeDesc} {e : Nat} (hk : kindOf P d = .slice e) : d = .slice e := by cases d <;> simp [kindOf] at hk; rw [hk]
theorem kind_array {P : Program} {d : TypeDesc} {n e : Nat} (hk : kindOf P d = .array n e) : d = .array n e := by cases d <;> simp [kindOf] at hk; rw [hk.1, hk.2]
theorem kind_int {P : Program} {d : TypeDesc} {k : IntKind} (hk : kindOf P d = .int k) : d = .int k := by cases d <;> simp [kindOf] at hk; rw [hk]
theorem kind_bool {P : Program} {d : TypeDesc} (hk : kindOf P d = .bool) : d = .bool := by cases d <;> simp [kindOf] at hk; rfl
theorem kind_str {P : Program} {d : TypeDesc} (hk : kindOf P d = .str) : d = .string := by cases d <;> simp [kindOf] at hk; rfl
theorem kind_ptr {P : Program} {d : TypeDesc} (hk : kindOf P d = .ptr) : ∃ e, d = .pointer e := by cases d <;> simp [kindOf] at hk; exact ⟨_, rfl⟩
theorem kind_func {P : Program} {d : TypeDesc} (hk : kindOf P d = .func) : ∃ a b c, d = .func a b c := by cases d <;> simp [kindOf] at hk; exact ⟨_, _, _, rfl⟩
theorem kind_struct {P : Program} {d : TypeDesc} {fs} (hk : kindOf P d = .struct fs) : ∃ F : Array Field, d = .struct F ∧ fs = F.toList.map fun f => (f.offset, P.cellsOf f.type, f.type) := by
  cases d <;> simp [kindOf] at hk; exact ⟨_, rfl, hk.symm⟩

theorem run_isAgg {P : Program} {t : Nat} {i : TI} (ht : tinfo P t = some i) (w : World) : (isAgg t).run P w = .ok i.isAgg w := by
  obtain ⟨inf, d, h1, h2, h3, _⟩ := tinfo_some ht
  unfold isAgg
  rw [Sem.run_bind, run_underlying h2 w]
  unfold TI.isAgg
  rw [← h3]
  cases d <;> simp [kindOf]

theorem run_sizeOf' {P : Program} {t : Nat} {i : TI} (ht : tinfo P t = some i) (w : World) : (sizeOf t).run P w = .ok i.size w := by
  obtain ⟨inf, d, h1, h2, h3, h4, _⟩ := tinfo_some ht
  simp [sizeOf, typeInfo, h1, h4]

section
variable {P : Program} {G : Nat → Option (List PV)} {ι ι' : Nat → Nat × Nat} {h h' : Heap} {w w' : World}

def Place (ι : Nat → Nat × Nat) (h : Heap) (w : World) (cells : List AV) (blk off : Nat) : Prop :=
  ∀ (j : Nat) x, cells[j]? = some x → ∃ v, w.cell? ⟨blk, off + j, none⟩ = some v ∧ VRel ι h w x v

theorem Place.drop {cells : List AV} {blk off : Nat} (hp : Place ι h w cells blk off) (k : Nat) : Place ι h w (cells.drop k) blk (off + k) := by
  intro j x hx
  rw [List.getElem?_drop] at hx
  obtain ⟨v, h1, h2⟩ := hp _ _ hx
  exact ⟨v, by rw [show off + k + j = off + (k + j) by omega]; exact h1, h2⟩

theorem blkAt_some {b g : Nat} {cells : List AV} (hb : blkAt h b g = some cells) : h[b]? = some (some ⟨g, cells⟩) := by
  unfold blkAt at hb
  split at hb
  · rename_i bk hq
    split at hb
    · rename_i hg
      cases hb
      rw [hq, ← hg]
    · cases hb
  · cases hb

theorem blkAt_live {b g : Nat} {cells : List AV} (hb : blkAt h b g = some cells) : liveAt h b g := ⟨_, blkAt_some hb, rfl⟩
theorem blkAt_isSome {b g : Nat} (hb : (blkAt h b g).isSome = true) : liveAt h b g := by
  cases hq : blkAt h b g with
  | none => simp [hq] at hb
  | some c => exact blkAt_live hq

theorem place_of_blk (hS : SimH P G ι h w) {b g : Nat} {cells : List AV} (hb : blkAt h b g = some cells) (hcl : cells ≠ [] → ∃ cs ty fr, w.heap[(ι b).1]? = some (.cells cs ty fr)) : Place ι h w cells (ι b).1 (ι b).2 := by
  intro j x hx
  have hne : cells ≠ [] := by intro e; subst e; simp at hx
  obtain ⟨_, _, _, hcs⟩ := hcl hne
  obtain ⟨c, ty, hc, hl, hv⟩ := (hS.hr.blk b _ (blkAt_some hb) hne).cells hcs
  obtain ⟨v, h1, h2⟩ := hv j x hx
  exact ⟨v, by simp [World.cell?, hc, h1], h2⟩

theorem place_of_pin {cells : List PV} {blk off : Nat} (hp : PinRel w (own ι h) cells blk off) : Place ι h w (cells.map .p) blk off := by
  intro j x hx
  simp only [List.getElem?_map, Option.map_eq_some_iff] at hx
  obtain ⟨y, hy, rfl⟩ := hx
  obtain ⟨v, h1, h2⟩ := hp.2.2 j y hy
  exact ⟨v, h1, .p _ _ h2⟩

theorem loadVar_place {t : Nat} {i : TI} (ht : tinfo P t = some i) {cells : List AV} {blk off : Nat} (hp : Place ι h w cells blk off) {r : AV} (hr : takeA i cells = some r) :
    ∃ v, (loadVar t ⟨blk, off, none⟩).run P w = .ok v w ∧ VRel ι h w r v := by
  unfold takeA at hr
  unfold loadVar
  simp only [Sem.run_bind, run_isAgg ht, Result.andThen_ok]
  split at hr
  · rename_i hagg
    split at hr
    · rename_i hle
      cases hr
      have hf : ∀ j, ∃ v, j < i.size → w.cell? ⟨blk, off + j, none⟩ = some v ∧ ∀ x, cells[j]? = some x → VRel ι h w x v := by
        intro j
        by_cases hj : j < i.size
        · have hjl : j < cells.length := by omega
          obtain ⟨v, h1, h2⟩ := hp j cells[j] (List.getElem?_eq_getElem hjl)
          exact ⟨v, fun _ => ⟨h1, fun x hx => by rw [List.getElem?_eq_getElem hjl] at hx; rw [← Option.some.inj hx]; exact h2⟩⟩
        · exact ⟨undef, fun h => absurd h hj⟩
      obtain ⟨f, hf⟩ := Classical.axiomOfChoice hf
      have hl := run_loadCells (P := P) w ⟨blk, off, none⟩ i.size f (fun j hj => by rw [Addr.add_lit]; exact (hf j hj).1)
      refine ⟨.agg ((List.range i.size).map f).toArray, ?_, .agg _ _ (by simp; omega) fun j x v hx hv => ?_⟩
      · simp [hagg, Sem.run_bind, run_sizeOf' ht, hl]
      · simp only [List.getElem?_toArray, List.getElem?_map, Option.map_eq_some_iff] at hv
        obtain ⟨k, hk, rfl⟩ := hv
        have hj : j < i.size := by
          rcases Nat.lt_or_ge j i.size with h | h
          · exact h
          · rw [List.getElem?_eq_none (by simpa using h)] at hk; cases hk
        have hkj : k = j := by rw [List.getElem?_range hj] at hk; exact (Option.some.inj hk).symm
        subst hkj
        rw [List.getElem?_take, if_pos hj] at hx
        exact (hf k hj).2 x hx
    · cases hr
  · rename_i hagg
    split at hr
    · rename_i x rest
      cases hr
      obtain ⟨v, h1, h2⟩ := hp 0 r rfl
      refine ⟨v, ?_, h2⟩
      simp only [Nat.add_zero] at h1
      simp [hagg, h1]
    · cases hr

theorem over_get {α : Type} : ∀ (l c : List α) (k j : Nat), k + l.length ≤ c.length → (over c k l)[j]? = if j < k then c[j]? else if j < k + l.length then l[j - k]? else c[j]?
  | [], c, k, j, hl => by simp only [over, List.length_nil, Nat.add_zero]; split <;> simp_all
  | v :: r, c, k, j, hl => by
    simp only [over]
    rw [over_get r (c.set k v) (k + 1) j (by simp at hl ⊢; omega)]
    simp only [List.length_cons] at hl ⊢
    by_cases h1 : j < k
    · have : k ≠ j := by omega
      simp [h1, show j < k + 1 by omega, List.getElem?_set_ne this]
    · by_cases h2 : j = k
      · subst h2
        simp [show j < c.length by omega]
      · have : k ≠ j := by omega
        simp only [h1, if_false, show ¬ j < k + 1 by omega, show k + 1 + r.length = k + (r.length + 1) by omega]
        split
        · rw [show j - k = (j - (k + 1)) + 1 by omega]; rfl
        · exact List.getElem?_set_ne this

theorem over_length {α : Type} : ∀ (l c : List α) (k : Nat), (over c k l).length = c.length
  | [], c, k => rfl
  | v :: r, c, k => by simp only [over]; rw [over_length r]; simp

theorem splice_get {α : Type} (c vs : List α) (k j : Nat) (hl : k + vs.length ≤ c.length) :
    (c.take k ++ vs ++ c.drop (k + vs.length))[j]? = if j < k then c[j]? else if j < k + vs.length then vs[j - k]? else c[j]? := by
  by_cases h1 : j < k
  · rw [List.append_assoc, List.getElem?_append_left (by simp; omega)]
    simp [h1]
  · by_cases h2 : j < k + vs.length
    · rw [List.append_assoc, List.getElem?_append_right (by simp; omega), List.getElem?_append_left (by simp; omega)]
      simp [h1, h2, show min k c.length = k by omega]
    · rw [List.getElem?_append_right (by simp; omega)]
      simp only [h1, h2, if_false, List.length_append, List.length_take, List.getElem?_drop]
      congr 1
      omega

/-- Storing cells into a block of ours. -/
theorem store_sound (hS : SimH P G ι h w) {b g off : Nat} {cells cs : List AV} (hb : blkAt h b g = some cells) (hle : off + cs.length ≤ cells.length) (hne : cells ≠ []) (hcl : ∃ cs ty fr, w.heap[(ι b).1]? = some (.cells cs ty fr))
    {vs : List Value} (hl : cs.length = vs.length) (h1 : ∀ v ∈ vs, v.oneCell' = true) (hv : ∀ (i : Nat) x v, cs[i]? = some x → vs[i]? = some v → VRel ι h w x v) :
    ∃ w', (storeCells ⟨(ι b).1, (ι b).2 + off, none⟩ vs).run P w = .ok () w' ∧ SimH P G ι (h.set b (some ⟨g, over cells off cs⟩)) w' ∧ Evo h.length ι h w ι (h.set b (some ⟨g, over cells off cs⟩)) w' := by
  have hq := blkAt_some hb
  obtain ⟨_, _, _, hcs⟩ := hcl
  obtain ⟨c, ty, hc, hlc, hcv⟩ := (hS.hr.blk b _ hq hne).cells hcs
  have hblt : b < h.length := by
    rcases Nat.lt_or_ge b h.length with h | h
    · exact h
    · simp [List.getElem?_eq_none h] at hq
  have hlc' : (ι b).2 + cells.length ≤ c.size := hlc
  have hrun := run_storeCells_at P (ι b).1 ((ι b).2 + off) ty vs 0 c w hc (by omega) h1
  simp only [Nat.add_zero] at hrun
  refine ⟨_, hrun, ?_⟩
  have hnew : (w.setRow (ι b).1 (c.toList.take ((ι b).2 + off) ++ vs ++ c.toList.drop ((ι b).2 + off + vs.length)).toArray).heap[(ι b).1]? = some (.cells _ ty (0, 0)) := setRow_heap w _ c _ ty _ hc
  refine hS.upd (h' := h.set b (some ⟨g, over cells off cs⟩)) b ⟨g, over cells off cs⟩ (ι b).1 (ι b).2 _ ty (.inr ⟨hblt, ⟨_, hq, Nat.le_refl _⟩, rfl⟩) (fun i => by split <;> simp_all)
    (.inr ⟨_, hq, hne, rfl, fun cs2 ty2 fr2 hx => ?_⟩) ?_ hnew ?_ ?_ (by simp) (fun k hk hkk => setRow_other w _ k _ hkk) (fun bk _ _ => rfl) rfl rfl rfl
  · rw [hc] at hx
    injection hx with hx
    injection hx with hx _ _
    subst hx
    simp
    omega
  · intro e
    have := congrArg List.length e
    rw [over_length] at this
    exact hne (List.eq_nil_of_length_eq_zero (by simpa using this))
  · simp only [over_length, List.size_toArray, List.length_append, List.length_take, List.length_drop, Array.length_toList]
    omega
  · intro j x hx
    simp only [over_get cs cells off j hle] at hx
    simp only [List.getElem?_toArray]
    rw [splice_get c.toList vs ((ι b).2 + off) _ (by simp; omega)]
    by_cases j1 : j < off
    · simp only [j1, if_true] at hx
      simp only [show (ι b).2 + j < (ι b).2 + off by omega, if_true]
      obtain ⟨v, p1, p2⟩ := hcv j x hx
      exact ⟨v, by simpa using p1, p2⟩
    · by_cases j2 : j < off + cs.length
      · simp only [j1, if_false, j2, if_true] at hx
        simp only [show ¬ (ι b).2 + j < (ι b).2 + off by omega, if_false, show (ι b).2 + j < (ι b).2 + off + vs.length by omega, if_true, show (ι b).2 + j - ((ι b).2 + off) = j - off by omega]
        have : j - off < vs.length := by omega
        exact ⟨vs[j - off], by simp, hv _ x _ hx (by simp)⟩
      · simp only [j1, if_false, j2] at hx
        simp only [show ¬ (ι b).2 + j < (ι b).2 + off by omega, if_false, show ¬ (ι b).2 + j < (ι b).2 + off + vs.length by omega]
        obtain ⟨v, p1, p2⟩ := hcv j x hx
        exact ⟨v, by simpa using p1, p2⟩

/-- A new block. -/
theorem alloc_sound (hS : SimH P G ι h w) (cs : List AV) (hne : cs ≠ []) (c : Array Value) (ty : TypeId) (hl : cs.length ≤ c.size)
    (hv : ∀ (i : Nat) x v, cs[i]? = some x → c[i]? = some v → VRel ι h w x v) :
    let ι' := fun i => if i = h.length then (w.heap.size, 0) else ι i
    SimH P G ι' (h ++ [some ⟨0, cs⟩]) (w.alloc (.cells c ty)) ∧ Evo h.length ι h w ι' (h ++ [some ⟨0, cs⟩]) (w.alloc (.cells c ty)) := by
  refine hS.upd h.length ⟨0, cs⟩ w.heap.size 0 c ty (.inl ⟨rfl, rfl⟩) (fun i => rfl) (.inl (Nat.le_refl _)) hne (heap_alloc_new w _) (by simpa using hl) (fun j x hx => ?_) (by simp) (fun k hk _ => by first | exact heap_alloc_old _ _ hk | exact heap_alloc_old _ _ _ hk) (fun bk hq _ => by simp at hq) rfl rfl rfl
  have hj : j < cs.length := by
    rcases Nat.lt_or_ge j cs.length with h | h
    · exact h
    · simp [List.getElem?_eq_none h] at hx
  have hj' : j < c.size := by omega
  exact ⟨c[j], by simp [hj'], hv j x _ hx (by simp [hj'])⟩

end
end Go.Proofs.Ytkmcecbglomemaa.AM
end

section
set_option linter.unusedVariables false
set_option linter.unusedSimpArgs false
namespace Go.Proofs.Ytkmcecbglomemaa.AM
open Go

theorem getElem?_lt {α : Type} {l : List α} {i : Nat} {x : α} (h : l[i]? = some x) : i < l.length := by
  rcases Nat.lt_or_ge i l.length with h' | h'
  · exact h'
  · rw [List.getElem?_eq_none h'] at h; cases h

theorem flat_get {α : Type} {sz : Nat} : ∀ (rows : List (List α)), (∀ row ∈ rows, row.length = sz) → ∀ i j, j < sz → (rows.flatMap id)[i * sz + j]? = get2 rows i j
  | [], _, i, j, _ => by simp [get2]
  | row :: rest, hr, i, j, hj => by
    have h0 : row.length = sz := hr row (by simp)
    simp only [List.flatMap_cons, id]
    cases i with
    | zero => rw [List.getElem?_append_left (by simp; omega)]; simp [get2]
    | succ i =>
      rw [List.getElem?_append_right (by rw [h0, Nat.succ_mul]; omega), h0, show (i + 1) * sz + j - sz = i * sz + j by rw [Nat.succ_mul]; omega]
      rw [flat_get rest (fun r hr' => hr r (by simp [hr'])) i j hj]
      simp [get2]

theorem flat_length {α : Type} {sz : Nat} : ∀ (rows : List (List α)), (∀ row ∈ rows, row.length = sz) → (rows.flatMap id).length = rows.length * sz
  | [], _ => by simp
  | row :: rest, hr => by
    have h0 : row.length = sz := hr row (by simp)
    simp only [List.flatMap_cons, id, List.length_append, List.length_cons]
    rw [flat_length rest (fun r hr' => hr r (by simp [hr'])), h0, Nat.succ_mul]; omega

theorem chunk_length {α : Type} (sz : Nat) : ∀ (n : Nat) (l : List α), (chunk sz n l).length = n
  | 0, l => rfl
  | n + 1, l => by simp [chunk, chunk_length sz n]

theorem chunk_rows {α : Type} (sz : Nat) : ∀ (n : Nat) (l : List α), l.length = n * sz → ∀ row ∈ chunk sz n l, row.length = sz
  | 0, l, _ => by simp [chunk]
  | n + 1, l, h => by
    intro row hr
    rw [Nat.succ_mul] at h
    simp only [chunk, List.mem_cons] at hr
    rcases hr with rfl | hr
    · rw [List.length_take]; omega
    · exact chunk_rows sz n (l.drop sz) (by simp; omega) row hr

theorem chunk_get {α : Type} (sz : Nat) : ∀ (n : Nat) (l : List α) (i j : Nat) (x : α), get2 (chunk sz n l) i j = some x → j < sz ∧ i < n ∧ l[i * sz + j]? = some x
  | 0, l, i, j, x, h => by simp [chunk, get2] at h
  | n + 1, l, i, j, x, h => by
    cases i with
    | zero =>
      simp only [chunk, get2, List.getElem?_cons_zero, Option.bind_some] at h
      rw [List.getElem?_take] at h
      split at h
      · rename_i hj; exact ⟨hj, by omega, by simpa using h⟩
      · cases h
    | succ i =>
      simp only [chunk, get2, List.getElem?_cons_succ] at h
      obtain ⟨h1, h2, h3⟩ := chunk_get sz n (l.drop sz) i j x h
      rw [List.getElem?_drop] at h3
      exact ⟨h1, by omega, by rw [Nat.succ_mul, show i * sz + sz + j = sz + (i * sz + j) by omega]; exact h3⟩

section
variable {P : Program} {G : Nat → Option (List PV)} {ι ι' : Nat → Nat × Nat} {h h' : Heap} {w w' : World}

theorem own_lt (hS : SimH P G ι h w) {k : Nat} (hk : own ι h k) : k < w.heap.size := by
  obtain ⟨b, bk, h1, h2, h3⟩ := hk
  obtain ⟨o, hc⟩ := (hS.hr.blk b bk h1 h2).some
  rw [← h3]; exact lt_of_heap hc

/-- Cells that nobody owns read as a slice. -/
theorem prel_chunk {o : Nat → Prop} (l : List PV) (sz n c blk off : Nat) (hl : l.length = n * sz) (hc : n ≤ c) (hn : n ≤ 9223372036854775807) (ho : ¬ o blk) (hb : blk < w.heap.size)
    (hv : ∀ (j : Nat) x, l[j]? = some x → ∃ v, w.cell? ⟨blk, off + j, none⟩ = some v ∧ PRel w o x v) :
    PRel w o (.sl (chunk sz n l)) (.slice (some ⟨blk, off, none⟩) n c) := by
  have hf : ∀ q : Nat × Nat, ∃ v, ∀ x, get2 (chunk sz n l) q.1 q.2 = some x → w.cell? ⟨blk, off + (q.1 * sz + q.2), none⟩ = some v ∧ PRel w o x v := by
    intro q
    cases hq : get2 (chunk sz n l) q.1 q.2 with
    | none => exact ⟨undef, fun x hx => by cases hx⟩
    | some x =>
      obtain ⟨_, _, h3⟩ := chunk_get sz n l q.1 q.2 x hq
      obtain ⟨v, hv1, hv2⟩ := hv _ x h3
      exact ⟨v, fun y hy => by cases hy; exact ⟨hv1, hv2⟩⟩
  obtain ⟨f, hf⟩ := Classical.axiomOfChoice hf
  have := PRel.sl (w := w) (own := o) (chunk sz n l) blk off c sz (fun i j => f (i, j)) (by rw [chunk_length]; exact hc) (by rw [chunk_length]; exact hn) ho hb (chunk_rows sz n l hl) (fun i j x hx => (hf (i, j) x hx).1) (fun i j x hx => (hf (i, j) x hx).2)
  rwa [chunk_length] at this

theorem pvs_map : ∀ {cs : List AV} {l : List PV}, pvs cs = some l → cs = l.map .p
  | [], l, h => by cases h; rfl
  | .p x :: r, l, h => by
    simp only [pvs, Option.map_eq_some_iff] at h
    obtain ⟨l', h1, rfl⟩ := h
    simp [pvs_map h1]
  | .agg _ :: _, l, h => by cases h
  | .ref .. :: _, l, h => by cases h
  | .ptr .. :: _, l, h => by cases h
  | .pin _ :: _, l, h => by cases h
  | .fn .. :: _, l, h => by cases h
  | .tup _ :: _, l, h => by cases h
  | .mref .. :: _, l, h => by cases h
  | .mp _ :: _, l, h => by cases h

theorem VRel.pv {x : PV} {v : Value} (hx : VRel ι h w (.p x) v) : PRel w (own ι h) x v := by cases hx; assumption

theorem fold_over : ∀ (l : List Value) (off k : Nat) (cells : Array Value), ((l.zipIdx k).foldl (fun cs (q : Value × Nat) => cs.setIfInBounds (off + q.2) q.1) cells).toList = over cells.toList (off + k) l
  | [], off, k, cells => rfl
  | v :: r, off, k, cells => by
    simp only [List.zipIdx_cons, List.foldl_cons, over]
    rw [fold_over r off (k + 1)]
    simp [Nat.add_assoc]

theorem over_rel {R : AV → Value → Prop} {c cs : List AV} {d vs : List Value} {off : Nat} (hl : c.length = d.length) (hl2 : cs.length = vs.length) (hle : off + cs.length ≤ c.length)
    (h1 : ∀ (i : Nat) x v, c[i]? = some x → d[i]? = some v → R x v) (h2 : ∀ (i : Nat) x v, cs[i]? = some x → vs[i]? = some v → R x v) :
    ∀ (i : Nat) x v, (over c off cs)[i]? = some x → (over d off vs)[i]? = some v → R x v := by
  intro i x v hx hv
  rw [over_get cs c off i hle] at hx
  rw [over_get vs d off i (by omega)] at hv
  rw [hl2] at hx
  split at hx
  · rename_i hq; simp only [hq, if_true] at hv; exact h1 i x v hx hv
  · rename_i hq
    simp only [hq, if_false] at hv
    split at hx
    · rename_i hq2; simp only [hq2, if_true] at hv; exact h2 _ x v hx hv
    · rename_i hq2; simp only [hq2, if_false] at hv; exact h1 i x v hx hv

theorem fill_sound {ρ : Operand → Value} {ρA : Operand → Option AV} (hρ : ∀ x a, ρA x = some a → VRel ι h w a (ρ x)) (pl : Nat → Option (Nat × Nat)) :
    ∀ (parts : List (Nat × Operand)) (c r : List AV) (d : Array Value), c.length = d.size → (∀ (i : Nat) x v, c[i]? = some x → d[i]? = some v → VRel ι h w x v) →
      fillA pl c (parts.map fun q => (q.1, ρA q.2)) = some r →
      ∃ d', Instr.fill pl d (parts.map fun q => (q.1, ρ q.2)) = some d' ∧ r.length = d'.size ∧ r.length = c.length ∧ ∀ (i : Nat) x v, r[i]? = some x → d'[i]? = some v → VRel ι h w x v
  | [], c, r, d, hl, hr, hf => by
    simp [fillA] at hf
    subst hf
    exact ⟨d, rfl, hl, rfl, hr⟩
  | (i, x) :: rest, c, r, d, hl, hr, hf => by
    simp only [List.map_cons, fillA] at hf
    split at hf
    · rename_i off size cs h1 h2
      split at hf
      · rename_i hcond
        obtain ⟨a, ha, hca⟩ := Option.bind_eq_some_iff.mp h2
        obtain ⟨q1, q2, q3⟩ := cellsA_rel (hρ x a ha) hca
        have hlen : (over c off cs).length = ((ρ x).cells.zipIdx.foldl (fun cs (q : Value × Nat) => cs.setIfInBounds (off + q.2) q.1) d).size := by
          have := congrArg List.length (fold_over (ρ x).cells.toList off 0 d)
          simp only [over_length] at this
          rw [over_length, hl, ← Array.foldl_toList, Array.toList_zipIdx]
          simpa using this.symm
        have hgl : ∀ j : Nat, ((ρ x).cells.zipIdx.foldl (fun cs (q : Value × Nat) => cs.setIfInBounds (off + q.2) q.1) d)[j]? = (over d.toList off (ρ x).cells.toList)[j]? := by
          intro j
          have := fold_over (ρ x).cells.toList off 0 d
          rw [Nat.add_zero] at this
          rw [← this, ← Array.foldl_toList, Array.toList_zipIdx]
          simp
        obtain ⟨d', e1, e2, e3, e4⟩ := fill_sound hρ pl rest (over c off cs) r _ hlen (fun j y u hy hu => by
          rw [hgl] at hu
          exact over_rel (R := VRel ι h w) (by simpa using hl) (by simpa using q1) hcond.2 (fun i x v hx hv => hr i x v hx (by simpa using hv)) (fun i x v hx hv => q3 i x v hx (by simpa using hv)) j y u hy hu) hf
        refine ⟨d', ?_, e2, by rw [e3, over_length], e4⟩
        simp only [List.map_cons, Instr.fill, h1]
        rw [if_neg]
        · exact e1
        · simp only [Bool.or_eq_true, decide_eq_true_eq, not_or]
          exact ⟨by simp; omega, by omega⟩
      · cases hf
    · cases hf

end
end Go.Proofs.Ytkmcecbglomemaa.AM
end

section
set_option linter.unusedVariables false
set_option linter.unusedSimpArgs false
namespace Go.Proofs.Ytkmcecbglomemaa.AM
open Go

section
variable {P : Program} {G : Nat → Option (List PV)} {ι ι' : Nat → Nat × Nat} {h h' : Heap} {w w' : World}

def Sound (P : Program) (G : Nat → Option (List PV)) (ι : Nat → Nat × Nat) (h : Heap) (w : World) (m : Sem Next) (r : AV) (h' : Heap) : Prop :=
  ∃ v w' ι', (m.run P w = .ok (.value v) w' ∨ (m.run P w = .ok .skip w' ∧ v = undef)) ∧ SimH P G ι' h' w' ∧ VRel ι' h' w' r v ∧ Evo h.length ι h w ι' h' w'

theorem Sound.pure (hS : SimH P G ι h w) {m : Sem Next} {r : AV} {v : Value} (hm : m.run P w = .ok (.value v) w) (hr : VRel ι h w r v) : Sound P G ι h w m r h :=
  ⟨v, w, ι, .inl hm, hS, hr, .refl (Nat.le_refl _)⟩

theorem undef_rel : VRel ι h w .undef undef := .tup _ _ rfl fun i x v hx _ => by simp at hx

theorem ints_range {k : IntKind} (n : Int) : InRange k (k.wrap n) := by
  unfold InRange IntKind.wrap IntKind.min IntKind.max IntKind.signed IntKind.bits
  cases k <;> simp <;> (try split) <;> omega

theorem VRel.int_inv {k : IntKind} {n : Int} {v : Value} (hx : VRel ι h w (.p (.int k n)) v) : v = .int k n ∧ InRange k n := by
  cases hx with
  | p _ _ hx => cases hx; exact ⟨rfl, by assumption⟩

theorem VRel.bool_inv {b : Bool} {v : Value} (hx : VRel ι h w (.p (.bool b)) v) : v = .bool b := by
  cases hx with
  | p _ _ hx => cases hx; rfl

theorem VRel.nilp_inv {v : Value} (hx : VRel ι h w (.p .nilp) v) : v = .pointer none := by
  cases hx with
  | p _ _ hx => cases hx; rfl

theorem VRel.nilf_inv {v : Value} (hx : VRel ι h w (.p .nilf) v) : v = .nilFunc := by
  cases hx with
  | p _ _ hx => cases hx; rfl

theorem VRel.nils_inv {v : Value} (hx : VRel ι h w (.p .nils) v) : v = .slice none 0 0 := by
  cases hx with
  | p _ _ hx => cases hx; rfl

theorem VRel.b {b : Bool} : VRel ι h w (.b b) (.bool b) := .p _ _ (.bool b)
theorem VRel.int (k : IntKind) (n : Int) (hn : InRange k n) : VRel ι h w (.p (.int k n)) (.int k n) := .p _ _ (.int k n hn)

theorem VRel.ptr_inv {b g off : Nat} {v : Value} (hx : VRel ι h w (.ptr b g off) v) (hl : liveAt h b g) : v = .pointer (some ⟨(ι b).1, (ι b).2 + off, none⟩) ∧ b < h.length ∧ ∃ cs ty fr, w.heap[(ι b).1]? = some (.cells cs ty fr) := by
  cases hx with
  | ptr _ _ _ A hb hg hv => rw [(hv hl).1]; exact ⟨rfl, hb, (hv hl).2⟩

theorem VRel.ptr_any {b g off : Nat} {v : Value} (hx : VRel ι h w (.ptr b g off) v) : ∃ A : Addr, v = .pointer (some A) ∧ b < h.length ∧ (∀ bk : Blk, h[b]? = some (some bk) → g ≤ bk.g) ∧ (liveAt h b g → A = ⟨(ι b).1, (ι b).2 + off, none⟩ ∧ ∃ cs ty fr, w.heap[(ι b).1]? = some (.cells cs ty fr)) := by
  cases hx with
  | ptr _ _ _ A hb hg hv => exact ⟨A, rfl, hb, hg, hv⟩

theorem VRel.pin_inv {cells : List PV} {v : Value} (hx : VRel ι h w (.pin cells) v) : ∃ blk off, v = .pointer (some ⟨blk, off, none⟩) ∧ PinRel w (own ι h) cells blk off := by
  cases hx with
  | pin _ blk off hv => exact ⟨blk, off, rfl, hv⟩

theorem live_g {b g : Nat} (hl : liveAt h b g) : b < h.length ∧ ∀ bk : Blk, h[b]? = some (some bk) → g ≤ bk.g := by
  obtain ⟨bk, hq, e⟩ := hl
  refine ⟨getElem?_lt hq, fun bk2 hq2 => ?_⟩
  rw [hq] at hq2
  cases hq2
  omega

theorem ptr_rel {b g : Nat} (hl : liveAt h b g) (hc : ∃ cs ty fr, w.heap[(ι b).1]? = some (.cells cs ty fr)) (off : Nat) : VRel ι h w (.ptr b g off) (.pointer (some ⟨(ι b).1, (ι b).2 + off, none⟩)) :=
  .ptr b g off _ (live_g hl).1 (live_g hl).2 fun _ => ⟨rfl, hc⟩

/-! ### What a variable is loaded from, and stored to -/

theorem load_sound (hS : SimH P G ι h w) {t : Nat} {x r : AV} {v : Value} (hx : VRel ι h w x v) (hr : loadA P h t x = some r) : ∃ u, (Instr.loadAt t v).run P w = .ok u w ∧ VRel ι h w r u := by
  unfold loadA at hr
  split at hr
  · rename_i i b g off ht
    obtain ⟨cells, hb, hr⟩ := Option.bind_eq_some_iff.mp hr
    obtain ⟨rfl, _, hcl⟩ := hx.ptr_inv (blkAt_live hb)
    obtain ⟨u, h1, h2⟩ := loadVar_place (P := P) ht ((place_of_blk hS hb fun _ => hcl).drop off) hr
    exact ⟨u, by simpa [Instr.loadAt, Instr.sureAddr] using h1, h2⟩
  · rename_i i cells ht
    obtain ⟨blk, off, rfl, hp⟩ := hx.pin_inv
    obtain ⟨u, h1, h2⟩ := loadVar_place (P := P) ht (place_of_pin hp) hr
    exact ⟨u, by simpa [Instr.loadAt, Instr.sureAddr] using h1, h2⟩
  · cases hr

theorem arr_list {vs : Array Value} {cs : List AV} (hv : ∀ (i : Nat) y u, cs[i]? = some y → vs[i]? = some u → VRel ι h w y u) : ∀ (i : Nat) y u, cs[i]? = some y → vs.toList[i]? = some u → VRel ι h w y u :=
  fun i y u hy hu => hv i y u hy (by simpa using hu)

theorem oneCells {cs : List AV} {vs : List Value} (hl : cs.length = vs.length) (hs : ∀ y ∈ cs, y.scalar = true) (hv : ∀ (i : Nat) y u, cs[i]? = some y → vs[i]? = some u → VRel ι h w y u) : ∀ v ∈ vs, v.oneCell' = true := by
  intro v hm
  obtain ⟨i, hi, rfl⟩ := List.getElem_of_mem hm
  have hi' : i < cs.length := by omega
  exact (hv i cs[i] vs[i] (by simp) (by simp)).oneCell (hs _ (List.getElem_mem hi'))

theorem store_op_sound (hS : SimH P G ι h w) {t : Nat} {a x : AV} {va vx : Value} (ha : VRel ι h w a va) (hx : VRel ι h w x vx) (hr : storeA P h t a x = some h') :
    ∃ w', (Instr.storeAt t va vx).run P w = .ok () w' ∧ SimH P G ι h' w' ∧ Evo h.length ι h w ι h' w' := by
  unfold storeA at hr
  split at hr
  · rename_i i b g off cs ht hcs
    obtain ⟨cells, hb, hr⟩ := Option.bind_eq_some_iff.mp hr
    split at hr
    · rename_i hcond
      cases hr
      obtain ⟨rfl, _, hcl⟩ := ha.ptr_inv (blkAt_live hb)
      obtain ⟨q1, q2, q3⟩ := cellsA_rel hx hcs
      have hsz : vx.cells.size = i.size := by omega
      by_cases hne : cells = []
      · subst hne
        have hz : cs = [] := by cases cs with | nil => rfl | cons => simp at hcond
        subst hz
        simp at q1
        have hvs : vx.cells.toList = [] := by rw [Array.eq_empty_of_size_eq_zero q1.symm]
        refine ⟨w, ?_, ?_, ?_⟩
        · simp [Instr.storeAt, Instr.sureAddr, storeVar, Sem.run_bind, run_sizeOf' ht, hsz, hvs, storeCells]
        · simp only [over]
          have : h.set b (some ⟨g, []⟩) = h := by
            apply List.ext_getElem?
            intro k
            by_cases hk : b = k
            · subst hk; rw [blkAt_some hb]; simp [(live_g (blkAt_live hb)).1]
            · rw [List.getElem?_set_ne hk]
          rw [this]; exact hS
        · simp only [over]
          have : h.set b (some ⟨g, []⟩) = h := by
            apply List.ext_getElem?
            intro k
            by_cases hk : b = k
            · subst hk; rw [blkAt_some hb]; simp [(live_g (blkAt_live hb)).1]
            · rw [List.getElem?_set_ne hk]
          rw [this]; exact .refl (Nat.le_refl _)
      · obtain ⟨w', e1, e2, e3⟩ := store_sound hS hb hcond.2 hne hcl (vs := vx.cells.toList) (by simpa using q1) (oneCells (by simpa using q1) q2 (arr_list q3)) (arr_list q3)
        refine ⟨w', ?_, e2, e3⟩
        simp [Instr.storeAt, Instr.sureAddr, storeVar, Sem.run_bind, run_sizeOf' ht, hsz, e1]
    · cases hr
  · cases hr

theorem fieldAddr_sound {t f : Nat} {x r : AV} {v : Value} (hS : SimH P G ι h w) (hx : VRel ι h w x v) (hr : fieldAddrA P h t x f = some r) :
    ∃ u, (Instr.fieldAt t v f).run P w = .ok u w ∧ VRel ι h w r u := by
  unfold fieldAddrA at hr
  split at hr
  · rename_i fs _ _ _ ht
    obtain ⟨inf, d, h1, h2, h3, h4, h5, h6⟩ := tinfo_some ht
    obtain ⟨F, rfl, rfl⟩ := kind_struct h3
    split at hr
    · rename_i o s ft hf
      split at hr
      · cases hr
      · rename_i hs0
        simp only [List.getElem?_map, Option.map_eq_some_iff] at hf
        obtain ⟨fd, hfd, he⟩ := hf
        simp only [Prod.mk.injEq] at he
        obtain ⟨rfl, rfl, rfl⟩ := he
        have hfd' : F[f]? = some fd := by simpa using hfd
        have hsz : (sizeOf fd.type).run P w = .ok (P.cellsOf fd.type) w := by
          have hs0' := hs0
          unfold Program.cellsOf at hs0' ⊢
          cases hq : P.info? fd.type with
          | none => rw [hq] at hs0'; simp at hs0'
          | some i => simp [sizeOf, typeInfo, hq]
        split at hr
        · rename_i b g off
          cases hr
          obtain ⟨A, rfl, hb, hg, hv⟩ := hx.ptr_any
          refine ⟨.pointer (some (A.add fd.offset)), ?_, .ptr _ _ _ _ hb hg fun hl => ?_⟩
          · simp [Instr.fieldAt, Sem.run_bind, run_underlying h2, hfd', Instr.sureAddr, fieldPlace, hsz, hs0]
          · refine ⟨?_, (hv hl).2⟩; rw [(hv hl).1]; simp [Addr.add_lit, Nat.add_assoc]
        · rename_i cells
          cases hr
          obtain ⟨blk, off, rfl, hp⟩ := hx.pin_inv
          refine ⟨.pointer (some ⟨blk, off + fd.offset, none⟩), ?_, .pin _ _ _ ⟨hp.1, hp.2.1, fun j x hx => ?_⟩⟩
          · simp [Instr.fieldAt, Sem.run_bind, run_underlying h2, hfd', Instr.sureAddr, fieldPlace, hsz, hs0, Addr.add_lit]
          · rw [List.getElem?_drop] at hx
            rw [Nat.add_assoc]
            exact hp.2.2 _ x hx
        · cases hr
    · cases hr
  · cases hr

theorem run_sizeA {P : Program} {e : Nat} (h0 : sizeA P e ≠ 0) (w : World) : (sizeOf e).run P w = .ok (sizeA P e) w := by
  unfold sizeA at h0 ⊢
  cases hq : tinfo P e with
  | none => rw [hq] at h0; simp at h0
  | some i => exact run_sizeOf' hq w

theorem VRel.sl_inv {rows : List (List PV)} {v : Value} (hx : VRel ι h w (.p (.sl rows)) v) : ∃ A c, v = .slice A rows.length c ∧ rows.length ≤ 9223372036854775807 ∧
    (rows = [] ∨ ∃ blk off sz, rows.length ≤ c ∧ A = some ⟨blk, off, none⟩ ∧ ¬ own ι h blk ∧ blk < w.heap.size ∧ (∀ row ∈ rows, row.length = sz) ∧
      ∀ i j x, get2 rows i j = some x → ∃ u, w.cell? ⟨blk, off + (i * sz + j), none⟩ = some u ∧ PRel w (own ι h) x u) := by
  cases hx with
  | p _ _ hx =>
    cases hx with
    | slz A c => exact ⟨A, c, rfl, by simp, .inl rfl⟩
    | sl _ blk off c sz f hc hn ho hb hsz hcell hrec =>
      exact ⟨_, c, rfl, hn, .inr ⟨blk, off, sz, hc, rfl, ho, hb, hsz, fun i j x hx => ⟨_, hcell i j x hx, hrec i j x hx⟩⟩⟩

theorem VRel.ref_inv {b g off sz len : Nat} {v : Value} (hx : VRel ι h w (.ref b g off sz len) v) (hl : liveAt h b g) : ∃ A c, v = .slice A len c ∧ len ≤ 9223372036854775807 ∧
    ((len = 0 ∧ c = 0) ∨ (A = some ⟨(ι b).1, (ι b).2 + off, none⟩ ∧ len ≤ c ∧ (∃ bk : Blk, h[b]? = some (some bk) ∧ bk.cells ≠ []) ∧
      ∃ cs ty fr, w.heap[(ι b).1]? = some (.cells cs ty fr) ∧ (ι b).2 + off + c * sz ≤ cs.size)) := by
  cases hx with
  | ref _ _ _ _ _ A c hn hb hg hv => exact ⟨A, c, rfl, hn, hv hl⟩

theorem indexAddr_sound (hS : SimH P G ι h w) {t : Nat} {x ix r : AV} {v vi : Value} (hx : VRel ι h w x v) (hi : VRel ι h w ix vi) (hr : indexAddrA P h t x ix = some r) :
    ∃ u, (Instr.indexAt t v vi).run P w = .ok u w ∧ VRel ι h w r u := by
  unfold indexAddrA at hr
  split at hr
  · rename_i n e _ _ _ k i ht
    obtain ⟨rfl, _⟩ := hi.int_inv
    obtain ⟨inf, d, h1, h2, h3, h4, h5, h6⟩ := tinfo_some ht
    have hd := kind_array h3
    subst hd
    split at hr
    case isFalse => cases hr
    rename_i hin
    split at hr
    · rename_i b g off
      cases hr
      obtain ⟨A, rfl, hb, hg, hv⟩ := hx.ptr_any
      refine ⟨.pointer (some (A.add (i.toNat * sizeA P e))), ?_, .ptr _ _ _ _ hb hg fun hl => ?_⟩
      · simp [Instr.indexAt, asIntOf, Sem.run_bind, run_underlying h2, Instr.sureAddr, hin.1, hin.2.1, run_sizeA hin.2.2]
      · refine ⟨?_, (hv hl).2⟩; rw [(hv hl).1]; simp [Addr.add_lit, Nat.add_assoc]
    · rename_i cells
      cases hr
      obtain ⟨blk, off, rfl, hp⟩ := hx.pin_inv
      refine ⟨.pointer (some ⟨blk, off + i.toNat * sizeA P e, none⟩), ?_, .pin _ _ _ ⟨hp.1, hp.2.1, fun j x hx => ?_⟩⟩
      · simp [Instr.indexAt, asIntOf, Sem.run_bind, run_underlying h2, Instr.sureAddr, hin.1, hin.2.1, run_sizeA hin.2.2, Addr.add_lit, Nat.add_assoc]
      · rw [List.getElem?_drop] at hx
        rw [Nat.add_assoc]
        exact hp.2.2 _ x hx
    · cases hr
  · rename_i e _ _ _ k i ht
    obtain ⟨rfl, _⟩ := hi.int_inv
    obtain ⟨inf, d, h1, h2, h3, h4, h5, h6⟩ := tinfo_some ht
    have hd := kind_slice h3
    subst hd
    split at hr
    · rename_i rows
      split at hr
      case isFalse => cases hr
      rename_i hi0
      split at hr
      · rename_i row hrow
        split at hr
        case isFalse => cases hr
        rename_i hsz
        cases hr
        obtain ⟨A, c, rfl, _, hcase⟩ := hx.sl_inv
        rcases hcase with rfl | ⟨blk, off, sz, hc, rfl, ho, hb, hs, hcell⟩
        · simp at hrow
        · have hlt := getElem?_lt hrow
          have hrsz : sz = sizeA P e := by rw [← hsz.1]; exact (hs row (List.mem_of_getElem? hrow)).symm
          subst hrsz
          refine ⟨.pointer (some ⟨blk, off + i.toNat * sizeA P e, none⟩), ?_, .pin _ _ _ ⟨ho, hb, fun j x hx => ?_⟩⟩
          · have hi1 : i < (rows.length : Int) := by omega
            simp [Instr.indexAt, asIntOf, Sem.run_bind, run_underlying h2, Instr.sureAddr, hi0, hi1, run_sizeA hsz.2, Addr.add_lit, Nat.add_assoc]
          · obtain ⟨u, hu1, hu2⟩ := hcell i.toNat j x (by simp [get2, hrow, hx])
            exact ⟨u, by rw [Nat.add_assoc]; exact hu1, hu2⟩
      · cases hr
    · rename_i b g off sz len
      split at hr
      case isFalse => cases hr
      rename_i hc
      obtain ⟨c1, c2, c3, c4, c5⟩ := hc
      cases hr
      obtain ⟨A, c, rfl, _, hcase⟩ := hx.ref_inv (blkAt_isSome c5)
      rcases hcase with ⟨hz, _⟩ | ⟨rfl, _, _, cs, ty, fr, hcc, _⟩
      · omega
      · refine ⟨_, ?_, ptr_rel (blkAt_isSome c5) ⟨cs, ty, fr, hcc⟩ _⟩
        have hi1 : i < (len : Int) := by omega
        subst c3
        simp [Instr.indexAt, asIntOf, Sem.run_bind, run_underlying h2, Instr.sureAddr, c1, hi1, run_sizeA c4, Addr.add_lit, Nat.add_assoc]
    · cases hr
  · cases hr

/-- A part of a value. -/
theorem part_sound {t : Nat} {i : TI} (ht : tinfo P t = some i) {cells : List AV} {vs : Array Value} (hl : cells.length = vs.size)
    (hv : ∀ (j : Nat) x v, cells[j]? = some x → vs[j]? = some v → VRel ι h w x v) {o : Nat} {r : AV} (hr : takeA i (cells.drop o) = some r) :
    ∃ v, (part t vs o).run P w = .ok v w ∧ VRel ι h w r v := by
  unfold takeA at hr
  unfold part
  simp only [Sem.run_bind, run_isAgg ht, Result.andThen_ok]
  split at hr
  · rename_i hagg
    split at hr
    · rename_i hle
      cases hr
      refine ⟨_, by simp [hagg, Sem.run_bind, run_sizeOf' ht]; rfl, .agg _ _ ?_ fun j x v hx hv' => ?_⟩
      · simp at hle ⊢; omega
      · rw [List.getElem?_take] at hx
        split at hx
        · rename_i hj
          rw [List.getElem?_drop] at hx
          refine hv _ x v hx ?_
          rw [Array.getElem?_extract] at hv'
          split at hv'
          · exact hv'
          · cases hv'
        · cases hx
    · cases hr
  · rename_i hagg
    split at hr
    · rename_i x rest hd
      cases hr
      have hx : cells[o]? = some r := by
        have := congrArg (·[0]?) hd
        simpa [List.getElem?_drop] using this
      have ho : o < vs.size := by have := getElem?_lt hx; omega
      refine ⟨vs[o], by simp [hagg, ho], hv o r _ hx (by simp [ho])⟩
    · cases hr

theorem VRel.agg_inv {cells : List AV} {v : Value} (hx : VRel ι h w (.agg cells) v) : ∃ vs, v = .agg vs ∧ cells.length = vs.size ∧ ∀ (i : Nat) x v, cells[i]? = some x → vs[i]? = some v → VRel ι h w x v := by
  cases hx with
  | agg _ vs hl hv => exact ⟨vs, rfl, hl, hv⟩

theorem index_sound {t : Nat} {x ix r : AV} {v vi : Value} (hx : VRel ι h w x v) (hi : VRel ι h w ix vi) (hr : indexA P t x ix = some r) :
    ∃ u, (Instr.index t v vi).run P w = .ok u w ∧ VRel ι h w r u := by
  unfold indexA at hr
  split at hr
  · rename_i n e _ _ _ cells k i ht
    obtain ⟨rfl, _⟩ := hi.int_inv
    obtain ⟨inf, d, h1, h2, h3, h4, h5, h6⟩ := tinfo_some ht
    have hd := kind_array h3
    subst hd
    split at hr
    case isFalse => cases hr
    rename_i hin
    obtain ⟨ie, he, hr⟩ := Option.bind_eq_some_iff.mp hr
    obtain ⟨vs, rfl, hl, hv⟩ := hx.agg_inv
    obtain ⟨u, p1, p2⟩ := part_sound (P := P) he hl hv hr
    exact ⟨u, by simp [Instr.index, asIntOf, Sem.run_bind, run_underlying h2, hin, run_sizeOf' he, p1], p2⟩
  · cases hr

theorem field_sound {t f : Nat} {x r : AV} {v : Value} (hx : VRel ι h w x v) (hr : fieldA P t x f = some r) :
    ∃ u, (Instr.field t v f).run P w = .ok u w ∧ VRel ι h w r u := by
  unfold fieldA at hr
  split at hr
  · rename_i fs _ _ _ cells ht
    obtain ⟨inf, d, h1, h2, h3, h4, h5, h6⟩ := tinfo_some ht
    obtain ⟨F, rfl, rfl⟩ := kind_struct h3
    split at hr
    · rename_i o s ft hf
      simp only [List.getElem?_map, Option.map_eq_some_iff] at hf
      obtain ⟨fd, hfd, he⟩ := hf
      simp only [Prod.mk.injEq] at he
      obtain ⟨rfl, rfl, rfl⟩ := he
      have hfd' : F[f]? = some fd := by simpa using hfd
      obtain ⟨ie, he, hr⟩ := Option.bind_eq_some_iff.mp hr
      obtain ⟨vs, rfl, hl, hv⟩ := hx.agg_inv
      obtain ⟨u, p1, p2⟩ := part_sound (P := P) he hl hv hr
      exact ⟨u, by simp [Instr.field, Sem.run_bind, run_underlying h2, hfd', asAgg, p1], p2⟩
    · cases hr
  · cases hr

theorem eqIn_bool {t : Nat} (h2 : P.underlying t = some .bool) (a b : Bool) (w : World) : (Op.equal t (.bool a) (.bool b)).run P w = .ok (a == b) w :=
  run_equalIn_bool' w 9999 t a b h2

theorem eqIn_ptr1 (d : Nat) {t e : Nat} (h2 : P.underlying t = some (.pointer e)) (w : World) : (Op.equalIn (d + 1) t (.pointer none) (.pointer none)).run P w = .ok true w := by
  simp [Op.equalIn, Sem.run_bind, run_underlying h2]
theorem eqIn_ptr {t e : Nat} (h2 : P.underlying t = some (.pointer e)) (w : World) : (Op.equal t (.pointer none) (.pointer none)).run P w = .ok true w := eqIn_ptr1 9999 h2 w

theorem eqIn_ptrn1 (d : Nat) {t e : Nat} (h2 : P.underlying t = some (.pointer e)) (A : Addr) (w : World) : (Op.equalIn (d + 1) t (.pointer (some A)) (.pointer none)).run P w = .ok false w := by
  simp [Op.equalIn, Sem.run_bind, run_underlying h2]
theorem eqIn_ptrn {t e : Nat} (h2 : P.underlying t = some (.pointer e)) (A : Addr) (w : World) : (Op.equal t (.pointer (some A)) (.pointer none)).run P w = .ok false w := eqIn_ptrn1 9999 h2 A w

theorem eqIn_slice1 (d : Nat) {t e : Nat} (h2 : P.underlying t = some (.slice e)) (A : Option Addr) (n c : Nat) (w : World) : (Op.equalIn (d + 1) t (.slice A n c) (.slice none 0 0)).run P w = .ok A.isNone w := by
  cases A <;> simp [Op.equalIn, Sem.run_bind, run_underlying h2]
theorem eqIn_slice {t e : Nat} (h2 : P.underlying t = some (.slice e)) (A : Option Addr) (n c : Nat) (w : World) : (Op.equal t (.slice A n c) (.slice none 0 0)).run P w = .ok A.isNone w := eqIn_slice1 9999 h2 A n c w

theorem eqIn_func1 (d : Nat) {t : Nat} {a b c} (h2 : P.underlying t = some (.func a b c)) (w : World) : (Op.equalIn (d + 1) t .nilFunc .nilFunc).run P w = .ok true w := by
  simp [Op.equalIn, Sem.run_bind, run_underlying h2]
theorem eqIn_func {t : Nat} {a b c} (h2 : P.underlying t = some (.func a b c)) (w : World) : (Op.equal t .nilFunc .nilFunc).run P w = .ok true w := eqIn_func1 9999 h2 w

theorem eqIn_fn1 (d : Nat) {t : Nat} {a b c} (h2 : P.underlying t = some (.func a b c)) (f : Fn) (x y : Array Value) (w : World) : (Op.equalIn (d + 1) t (.func f x y) .nilFunc).run P w = .ok false w := by
  simp [Op.equalIn, Sem.run_bind, run_underlying h2]
theorem eqIn_fn {t : Nat} {a b c} (h2 : P.underlying t = some (.func a b c)) (f : Fn) (x y : Array Value) (w : World) : (Op.equal t (.func f x y) .nilFunc).run P w = .ok false w := eqIn_fn1 9999 h2 f x y w

theorem eqCells_sound {e : Nat} {isInt : Bool} {d : Nat} (hc : P.cellsOf e = 1) (he : if isInt then ∃ k, P.underlying e = some (.int k) else P.underlying e = some .bool) {X Y : Array Value} :
    ∀ (xs ys : List AV) (s : Nat) (b : Bool), eqCells isInt xs ys = some b → (∀ (j : Nat) x, xs[j]? = some x → ∃ v, X[s + j]? = some v ∧ VRel ι h w x v) → (∀ (j : Nat) x, ys[j]? = some x → ∃ v, Y[s + j]? = some v ∧ VRel ι h w x v) →
      (Op.eqItems (d + 1) e (P.cellsOf e) X Y (List.range' s xs.length)).run P w = .ok b w := by
  have hp : P.plainKey e = true := by
    cases isInt with
    | true => obtain ⟨k, hk⟩ := he; simp [Program.plainKey, hk]
    | false => simp at he; simp [Program.plainKey, he]
  intro xs
  induction xs with
  | nil =>
    intro ys s b hb _ _
    cases ys with
    | nil => cases isInt <;> (simp [eqCells] at hb; subst hb; simp [Op.eqItems])
    | cons y r => cases isInt <;> simp [eqCells] at hb
  | cons x r ih =>
    intro ys s b hb hx hy
    have nx : ∀ (j : Nat) z, r[j]? = some z → ∃ v, X[s + 1 + j]? = some v ∧ VRel ι h w z v := fun j z hz => by
      have := hx (j + 1) z (by simpa using hz)
      rwa [show s + (j + 1) = s + 1 + j by omega] at this
    obtain ⟨v, hv, hxv⟩ := hx 0 x rfl
    simp only [Nat.add_zero] at hv
    simp only [List.length_cons, List.range'_succ, Op.eqItems, hc, Nat.mul_one] at *
    unfold eqCells at hb
    split at hb
    · rename_i h2; simp at h2
    · rename_i k a r1 k' b' r' h1
      cases h1
      have ny : ∀ (j : Nat) z, r'[j]? = some z → ∃ v, Y[s + 1 + j]? = some v ∧ VRel ι h w z v := fun j z hz => by
        have := hy (j + 1) z (by simpa using hz)
        rwa [show s + (j + 1) = s + 1 + j by omega] at this
      obtain ⟨u, hu, hyu⟩ := hy 0 _ rfl
      simp only [Nat.add_zero] at hu
      split at hb
      · rename_i hk
        subst hk
        obtain ⟨c, hc', rfl⟩ := Option.map_eq_some_iff.mp hb
        obtain ⟨rfl, _⟩ := hxv.int_inv
        obtain ⟨rfl, _⟩ := hyu.int_inv
        obtain ⟨k2, hk2⟩ := he
        have q := ih r' (s + 1) c hc' nx ny
        have p3 : (Op.equalIn (d + 1) e (.int k a) (.int k b')).run P w = .ok (a == b') w := run_equalIn_int w d e k k2 a b' hk2
        simp only [Sem.run_bind, run_part_plain w hp hv, run_part_plain w hp hu, p3, Result.andThen_ok]
        cases hab : (a == b') <;> simp [q]
      · cases hb
    · rename_i a r1 b' r' h1
      cases h1
      have ny : ∀ (j : Nat) z, r'[j]? = some z → ∃ v, Y[s + 1 + j]? = some v ∧ VRel ι h w z v := fun j z hz => by
        have := hy (j + 1) z (by simpa using hz)
        rwa [show s + (j + 1) = s + 1 + j by omega] at this
      obtain ⟨u, hu, hyu⟩ := hy 0 _ rfl
      simp only [Nat.add_zero] at hu
      obtain ⟨c, hc', rfl⟩ := Option.map_eq_some_iff.mp hb
      have e1 := hxv.bool_inv
      have e2 := hyu.bool_inv
      subst e1; subst e2
      have q := ih r' (s + 1) c hc' nx ny
      have p3 : (Op.equalIn (d + 1) e (.bool a) (.bool b')).run P w = .ok (a == b') w := run_equalIn_bool' w d e a b' (by simpa using he)
      simp only [Sem.run_bind, run_part_plain w hp hv, run_part_plain w hp hu, p3, Result.andThen_ok]
      cases hab : (a == b') <;> simp [q]
    · cases hb

/-! ### Types of nothing but numbers. -/

def aE (A B : Nat → Int) (s n : Nat) : Bool := (List.range' s n).all fun j => A j == B j
theorem aE_add (A B : Nat → Int) (s m r : Nat) : aE A B s (m + r) = (aE A B s m && aE A B (s + m) r) := by
  unfold aE
  rw [← List.range'_append_1, List.all_append]
theorem aE_shift (A B : Nat → Int) (s o n : Nat) : aE (fun j => A (s + j)) (fun j => B (s + j)) o n = aE A B (s + o) n := by
  unfold aE
  rw [← List.map_add_range', List.all_map]
  rfl
/-- What is asked of a type: parts of it are compared number by number. -/
def FlatEq (P : Program) (w : World) (dd t n : Nat) : Prop := ∀ (X Y : Array Value) (s : Nat) (K : Nat → IntKind) (A B : Nat → Int),
    (∀ j, s ≤ j → j < s + n → X[j]? = some (.int (K j) (A j)) ∧ Y[j]? = some (.int (K j) (B j))) →
    ∃ a b, (part t X s).run P w = .ok a w ∧ (part t Y s).run P w = .ok b w ∧ (Op.equalIn dd t a b).run P w = .ok (aE A B s n) w

theorem items_flat {dd e m : Nat} (hc : P.cellsOf e = m) (ih : FlatEq P w dd e m) {X Y : Array Value} {K : Nat → IntKind} {A B : Nat → Int} :
    ∀ (k i : Nat), (∀ j, i * m ≤ j → j < i * m + k * m → X[j]? = some (.int (K j) (A j)) ∧ Y[j]? = some (.int (K j) (B j))) → (Op.eqItems dd e (P.cellsOf e) X Y (List.range' i k)).run P w = .ok (aE A B (i * m) (k * m)) w
  | 0, i, _ => by simp [Op.eqItems, aE]
  | k + 1, i, h => by
    have e1 : (k + 1) * m = m + k * m := by rw [Nat.add_mul, Nat.one_mul, Nat.add_comm]
    have e2 : (i + 1) * m = i * m + m := by rw [Nat.add_mul, Nat.one_mul]
    have q := items_flat hc ih k (i + 1) (X := X) (Y := Y) (K := K) (A := A) (B := B) fun j h1 h2 => h j (by omega) (by omega)
    obtain ⟨a, b, p1, p2, p3⟩ := ih X Y (i * m) K A B fun j h1 h2 => h j h1 (by omega)
    rw [List.range'_succ, Op.eqItems, e1, aE_add]
    rw [hc] at q ⊢
    simp only [Sem.run_bind, p1, p2, p3, Result.andThen_ok]
    rw [e2] at q
    cases hab : aE A B (i * m) m <;> simp [q]

theorem fields_flat {dd : Nat} {rec : Nat → Option Nat} (ih : ∀ t n, rec t = some n → P.cellsOf t = n → FlatEq P w dd t n) {X Y : Array Value} {K : Nat → IntKind} {A B : Nat → Int} :
    ∀ (fs : List Field) (o n : Nat), flatF P rec fs o = some n → o ≤ n ∧ ((∀ j, o ≤ j → j < n → X[j]? = some (.int (K j) (A j)) ∧ Y[j]? = some (.int (K j) (B j))) → (Op.eqFields dd X Y fs).run P w = .ok (aE A B o (n - o)) w)
  | [], o, n, h => by
    simp only [flatF, Option.some.injEq] at h
    subst h
    exact ⟨Nat.le_refl _, fun _ => by simp [Op.eqFields, aE]⟩
  | f :: r, o, n, h => by
    unfold flatF at h
    split at h
    · rename_i m hm
      split at h
      · rename_i hc
        obtain ⟨h1, h2, h3⟩ := hc
        obtain ⟨q1, q2⟩ := fields_flat ih r (o + m) n h (X := X) (Y := Y) (K := K) (A := A) (B := B)
        refine ⟨by omega, fun hj => ?_⟩
        obtain ⟨a, b, p1, p2, p3⟩ := ih f.type m hm h3 X Y o K A B fun j g1 g2 => hj j g1 (by omega)
        have q := q2 fun j g1 g2 => hj j (by omega) g2
        have hn : f.name ≠ "_" := by simpa using h1
        rw [show n - o = m + (n - (o + m)) by omega, aE_add, Op.eqFields, if_pos hn]
        simp only [Sem.run_bind, h2, p1, p2, p3, Result.andThen_ok]
        cases hab : aE A B o m <;> simp [q]
      · cases h
    · cases h

theorem agg_flat {dd t n : Nat} {d : TypeDesc} (hu : P.underlying t = some d) (hd : (∃ k e, d = .array k e) ∨ ∃ fs, d = .struct fs) (hc : P.cellsOf t = n)
    (hin : ∀ (X Y : Array Value) (K : Nat → IntKind) (A B : Nat → Int), (∀ j, j < n → X[j]? = some (.int (K j) (A j)) ∧ Y[j]? = some (.int (K j) (B j))) → (Op.equalIn dd t (.agg X) (.agg Y)).run P w = .ok (aE A B 0 n) w) : FlatEq P w dd t n := by
  intro X Y s K A B h
  obtain ⟨i, hi⟩ := info_of_underlying hu
  have hp : ∀ Z : Array Value, (part t Z s).run P w = .ok (.agg (Z.extract s (s + n))) w := by
    intro Z
    rcases hd with ⟨k, e, rfl⟩ | ⟨fs, rfl⟩ <;> simp [part, isAgg, run_underlying hu, run_sizeOf w hi, hc]
  refine ⟨_, _, hp X, hp Y, ?_⟩
  have hx : ∀ (Z : Array Value) (j : Nat), j < n → (∃ v, Z[s + j]? = some v) → (Z.extract s (s + n))[j]? = Z[s + j]? := by
    intro Z j hj ⟨v, hv⟩
    have hlt : s + j < Z.size := by
      rcases Nat.lt_or_ge (s + j) Z.size with h | h
      · exact h
      · rw [Array.getElem?_eq_none h] at hv; cases hv
    rw [Array.getElem?_extract]
    rw [if_pos (by omega)]
  have := hin (X.extract s (s + n)) (Y.extract s (s + n)) (fun j => K (s + j)) (fun j => A (s + j)) (fun j => B (s + j)) fun j hj => by
    obtain ⟨h1, h2⟩ := h (s + j) (by omega) (by omega)
    rw [hx X j hj ⟨_, h1⟩, hx Y j hj ⟨_, h2⟩]
    exact ⟨h1, h2⟩
  rw [aE_shift] at this
  exact this

theorem flat_eq : ∀ (D dd t n : Nat), D ≤ dd → flatI P D t = some n → (P.cellsOf t = n → FlatEq P w dd t n) ∧
    (∀ d, P.underlying t = some d → (∃ fs, d = .struct fs) → ∀ (X Y : Array Value) (K : Nat → IntKind) (A B : Nat → Int), (∀ j, j < n → X[j]? = some (.int (K j) (A j)) ∧ Y[j]? = some (.int (K j) (B j))) → (Op.equalIn dd t (.agg X) (.agg Y)).run P w = .ok (aE A B 0 n) w)
  | 0, _, _, _, _, h => by simp [flatI] at h
  | D + 1, 0, _, _, hd, _ => by omega
  | D + 1, dd + 1, t, n, hd, h => by
    have ih : ∀ t n, flatI P D t = some n → P.cellsOf t = n → FlatEq P w dd t n := fun t n h1 h2 => (flat_eq D dd t n (by omega) h1).1 h2
    unfold flatI at h
    split at h
    · rename_i k hu
      cases h
      refine ⟨fun hc => fun X Y s K A B hj => ?_, fun d hd => by rw [hu] at hd; cases hd; rintro ⟨_, h⟩; cases h⟩
      obtain ⟨h1, h2⟩ := hj s (Nat.le_refl _) (by omega)
      have hp : P.plainKey t = true := by simp [Program.plainKey, hu]
      refine ⟨_, _, run_part_plain w hp h1, run_part_plain w hp h2, ?_⟩
      rw [run_equalIn_int w dd t (K s) k (A s) (B s) hu]
      simp [aE]
    · rename_i k e hu
      split at h
      · rename_i m hm
        split at h
        · rename_i hc
          cases h
          refine ⟨fun hct => agg_flat hu (.inl ⟨_, _, rfl⟩) hct fun X Y K A B hj => ?_, fun d hd => by rw [hu] at hd; cases hd; rintro ⟨_, h⟩; cases h⟩
          have he : ∃ i, P.info? e = some i := by
            cases D with
            | zero => simp [flatI] at hm
            | succ D =>
              unfold flatI at hm
              cases hue : P.underlying e with
              | none => simp [hue] at hm
              | some _ => exact info_of_underlying hue
          obtain ⟨i, hi⟩ := he
          rw [run_equalIn_array w dd X Y hu hi, List.range_eq_range']
          have := items_flat hc (ih e m hm hc) k 0 (X := X) (Y := Y) (K := K) (A := A) (B := B) fun j h1 h2 => hj j (by simpa using h2)
          simpa using this
        · cases h
      · cases h
    · rename_i fs hu
      split at h
      · cases h
      rename_i hst
      have key : ∀ (X Y : Array Value) (K : Nat → IntKind) (A B : Nat → Int), (∀ j, j < n → X[j]? = some (.int (K j) (A j)) ∧ Y[j]? = some (.int (K j) (B j))) → (Op.equalIn (dd + 1) t (.agg X) (.agg Y)).run P w = .ok (aE A B 0 n) w := by
        intro X Y K A B hj
        have hfs : P.fieldsOf t = fs := by simp [Program.fieldsOf, hu]
        rw [run_equalIn_struct w dd t X Y (by rw [hfs]; exact hu) (by simpa using hst), hfs]
        exact (fields_flat ih fs.toList 0 n h).2 fun j _ h2 => hj j h2
      exact ⟨fun hc => agg_flat hu (.inr ⟨_, rfl⟩) hc key, fun d hd _ => key⟩
    · cases h

theorem eqCells_ints {ι : Nat → Nat × Nat} {h : Heap} {w : World} : ∀ (xs ys : List AV) (b : Bool), eqCells true xs ys = some b →
    xs.length = ys.length ∧ ∃ (K : Nat → IntKind) (A B : Nat → Int), (∀ j, j < xs.length → xs[j]? = some (.p (.int (K j) (A j))) ∧ ys[j]? = some (.p (.int (K j) (B j)))) ∧ b = aE A B 0 xs.length
  | [], [], b, hb => by
    simp [eqCells] at hb
    exact ⟨rfl, fun _ => .i64, fun _ => 0, fun _ => 0, fun j hj => absurd hj (Nat.not_lt_zero _), by subst hb; rfl⟩
  | [], y :: r, b, hb => by simp [eqCells] at hb
  | x :: r, ys, b, hb => by
    unfold eqCells at hb
    split at hb
    · rename_i h2; simp at h2
    · rename_i k a r1 k' b' r' h0 h1
      cases h1
      split at hb
      · rename_i hk
        subst hk
        obtain ⟨c, hc, rfl⟩ := Option.map_eq_some_iff.mp hb
        obtain ⟨hl, K, A, B, hj, rfl⟩ := eqCells_ints (ι := ι) (h := h) (w := w) r r' c hc
        refine ⟨by simp [hl], fun j => match j with | 0 => k | j + 1 => K j, fun j => match j with | 0 => a | j + 1 => A j, fun j => match j with | 0 => b' | j + 1 => B j, fun j h => ?_, ?_⟩
        · cases j with
          | zero => exact ⟨rfl, rfl⟩
          | succ j => simpa using hj j (by simpa using h)
        · rw [List.length_cons, show r.length + 1 = 1 + r.length by omega, aE_add]
          have := aE_shift (fun j => match j with | 0 => a | j + 1 => A j) (fun j => match j with | 0 => b' | j + 1 => B j) 1 0 r.length
          rw [← this]
          have e : ∀ j, 1 + j = j + 1 := fun j => by omega
          simp only [e]
          simp [aE]
      · cases hb
    · contradiction
    · cases hb

theorem eqStr_sound {t : Nat} {xs ys : List AV} {vs us : Array Value} {b : Bool} (hx : VRel ι h w (.agg xs) (.agg vs)) (hy : VRel ι h w (.agg ys) (.agg us)) {fs n bt z} (ht : tinfo P t = some ⟨.struct fs, n, bt, z⟩) (hn : n = xs.length) (hi : intsB P t n = true) (hb : eqCells true xs ys = some b) :
    P.eqGuardType P.depth t = false ∧ (Op.equal t (.agg vs) (.agg us)).run P w = .ok b w := by
  unfold intsB at hi
  simp only [Bool.and_eq_true, beq_iff_eq, Bool.not_eq_true'] at hi
  refine ⟨hi.2, ?_⟩
  obtain ⟨inf, d, h1, h2, h3, _⟩ := tinfo_some ht
  obtain ⟨F, rfl, _⟩ := kind_struct h3
  obtain ⟨vs', e1, l1, v1⟩ := hx.agg_inv
  cases e1
  obtain ⟨us', e2, l2, v2⟩ := hy.agg_inv
  cases e2
  obtain ⟨hl, K, A, B, hj, rfl⟩ := eqCells_ints (ι := ι) (h := h) (w := w) xs ys b hb
  have := (flat_eq (P := P) (w := w) 20 10000 t n (by omega) hi.1).2 _ h2 ⟨_, rfl⟩ vs us K A B fun j hjn => by
    obtain ⟨g1, g2⟩ := hj j (by omega)
    have hj1 : j < vs.size := by omega
    have hj2 : j < us.size := by omega
    have r1 := v1 j _ _ g1 (Array.getElem?_eq_getElem hj1)
    have r2 := v2 j _ _ g2 (Array.getElem?_eq_getElem hj2)
    rw [Array.getElem?_eq_getElem hj1, Array.getElem?_eq_getElem hj2]
    exact ⟨by rw [r1.int_inv.1], by rw [r2.int_inv.1]⟩
  rw [hn] at this
  exact this

theorem eqAgg_sound {t : Nat} {xs ys : List AV} {vs us : Array Value} {b : Bool} (hx : VRel ι h w (.agg xs) (.agg vs)) (hy : VRel ι h w (.agg ys) (.agg us)) (hb : eqA P t (.agg xs) (.agg ys) = some b) :
    P.eqGuardType P.depth t = false ∧ (Op.equal t (.agg vs) (.agg us)).run P w = .ok b w := by
  unfold eqA at hb
  simp only at hb
  split at hb
  · rename_i n e _ _ _ ht
    obtain ⟨inf, d, h1, h2, h3, h4, _⟩ := tinfo_some ht
    have := kind_array h3; subst this
    split at hb
    · rename_i hn
      refine ⟨hn.2, ?_⟩
      obtain ⟨vs', e1, l1, v1⟩ := hx.agg_inv
      cases e1
      obtain ⟨us', e2, l2, v2⟩ := hy.agg_inv
      cases e2
      have gx : ∀ (j : Nat) x, xs[j]? = some x → ∃ v, vs[0 + j]? = some v ∧ VRel ι h w x v := fun j x hx => by
        have hj : j < vs.size := by have := getElem?_lt hx; omega
        exact ⟨vs[j], by rw [Nat.zero_add]; exact Array.getElem?_eq_getElem hj, v1 j x _ hx (Array.getElem?_eq_getElem hj)⟩
      have gy : ∀ (j : Nat) x, ys[j]? = some x → ∃ v, us[0 + j]? = some v ∧ VRel ι h w x v := fun j x hx => by
        have hj : j < us.size := by have := getElem?_lt hx; omega
        exact ⟨us[j], by rw [Nat.zero_add]; exact Array.getElem?_eq_getElem hj, v2 j x _ hx (Array.getElem?_eq_getElem hj)⟩
      split at hb
      · rename_i k _ _ hte
        obtain ⟨ie, de, g1, g2, g3, g4, _⟩ := tinfo_some hte
        have := kind_int g3; subst this
        have hc : P.cellsOf e = 1 := by simp [Program.cellsOf, g1, g4]
        have q := eqCells_sound (P := P) (isInt := true) (d := 9998) hc ⟨k, g2⟩ xs ys 0 b hb gx gy
        have := run_equalIn_array (P := P) w 9999 vs us h2 g1
        rw [← hn.1, ← List.range_eq_range'] at q
        exact this.trans q
      · rename_i _ _ hte
        obtain ⟨ie, de, g1, g2, g3, g4, _⟩ := tinfo_some hte
        have := kind_bool g3; subst this
        have hc : P.cellsOf e = 1 := by simp [Program.cellsOf, g1, g4]
        have q := eqCells_sound (P := P) (isInt := false) (d := 9998) hc g2 xs ys 0 b hb gx gy
        have := run_equalIn_array (P := P) w 9999 vs us h2 g1
        rw [← hn.1, ← List.range_eq_range'] at q
        exact this.trans q
      · cases hb
    · cases hb
  · rename_i fs n bt z ht
    split at hb
    · rename_i hn
      exact eqStr_sound hx hy ht hn.1 hn.2 hb
    · cases hb
  · cases hb

theorem bin_sound {op : BinOp} {t : Nat} {x y r : AV} {v u : Value} (hx : VRel ι h w x v) (hy : VRel ι h w y u) (hr : binA P op t x y = some r) (X Y : Operand) :
    ∃ q, (do eqGuard op t X Y v u; binOp op t v u : Sem Value).run P w = .ok q w ∧ VRel ι h w r q := by
  unfold binA at hr
  split at hr
  · rename_i r' h1
    cases hr
    unfold opBin at h1
    split at h1
    · rename_i k a k' b
      obtain ⟨rfl, ha⟩ := hx.int_inv
      obtain ⟨rfl, hb⟩ := hy.int_inv
      split at h1
      case isFalse => cases h1
      rename_i hk
      subst hk
      have hg : (eqGuard op t X Y (.int k a) (.int k b)).run P w = .ok () w := by
        unfold eqGuard; split <;> rfl
      simp only [Sem.run_bind, hg, Result.andThen_ok]
      split at h1
      · cases h1; exact ⟨.int k (k.wrap (a + b)), by simp [binOp, Op.intArith], .int _ _ (ints_range _)⟩
      · cases h1; exact ⟨.int k (k.wrap (a - b)), by simp [binOp, Op.intArith], .int _ _ (ints_range _)⟩
      · cases h1; exact ⟨.int k (k.wrap (a * b)), by simp [binOp, Op.intArith], .int _ _ (ints_range _)⟩
      · split at h1
        · cases h1
        · rename_i hz; cases h1; exact ⟨.int k (k.wrap (a.tdiv b)), by simp [binOp, Op.intDiv, hz], .int _ _ (ints_range _)⟩
      · split at h1
        · cases h1
        · rename_i hz
          split at h1
          · rename_i hr; cases h1; exact ⟨.int k (a.tmod b), by simp [binOp, Op.intDiv, hz], .int _ _ (by simpa [inR, InRange] using hr)⟩
          · cases h1
      · obtain ⟨c, hc, rfl⟩ := Option.map_eq_some_iff.mp h1
        unfold cmpInt at hc
        split at hc
        · cases hc; exact ⟨.bool (a == b), by simp [binOp, Op.intCmp], .b⟩
        · cases hc; exact ⟨.bool (a != b), by simp [binOp, Op.intCmp], .b⟩
        · cases hc; exact ⟨.bool (decide (a < b)), by simp [binOp, Op.intCmp], .b⟩
        · cases hc; exact ⟨.bool (decide (a ≤ b)), by simp [binOp, Op.intCmp], .b⟩
        · cases hc; exact ⟨.bool (decide (b < a)), by simp [binOp, Op.intCmp], .b⟩
        · cases hc; exact ⟨.bool (decide (b ≤ a)), by simp [binOp, Op.intCmp], .b⟩
        · cases hc
    · cases h1
  · have hE : ∀ b, eqA P t x y = some b → (op = .eql ∨ op = .neq) → (eqGuard op t X Y v u).run P w = .ok () w ∧ (Op.equal t v u).run P w = .ok b w ∧ (∀ k n, v ≠ .int k n) ∧ (∀ s, v ≠ .string s) ∧ (∀ k n, v ≠ .float k n) ∧ (∀ k n m, v ≠ .complex k n m) := by
      intro b hb hop
      unfold eqA at hb
      split at hb
      · have e1 := hx.bool_inv; have e2 := hy.bool_inv; subst e1; subst e2
        split at hb
        · rename_i ht
          cases hb
          obtain ⟨inf, d, h1, h2, h3, _⟩ := tinfo_some ht
          have := kind_bool h3; subst this
          refine ⟨by unfold eqGuard; rcases hop with rfl | rfl <;> rfl, eqIn_bool h2 _ _ _, by simp, by simp, by simp, by simp⟩
        · cases hb
      · have e1 := hx.nilp_inv; have e2 := hy.nilp_inv; subst e1; subst e2
        split at hb
        · rename_i ht
          cases hb
          obtain ⟨inf, d, h1, h2, h3, _⟩ := tinfo_some ht
          obtain ⟨e, this⟩ := kind_ptr h3; subst this
          refine ⟨by unfold eqGuard; rcases hop with rfl | rfl <;> rfl, eqIn_ptr h2 _, by simp, by simp, by simp, by simp⟩
        · cases hb
      · have e2 := hy.nilp_inv; subst e2
        obtain ⟨A, rfl, _⟩ := hx.ptr_any
        split at hb
        · rename_i ht
          cases hb
          obtain ⟨inf, d, h1, h2, h3, _⟩ := tinfo_some ht
          obtain ⟨e, this⟩ := kind_ptr h3; subst this
          refine ⟨by unfold eqGuard; rcases hop with rfl | rfl <;> rfl, eqIn_ptrn h2 _ _, by simp, by simp, by simp, by simp⟩
        · cases hb
      · have e1 := hx.nilf_inv; have e2 := hy.nilf_inv; subst e1; subst e2
        split at hb
        · rename_i ht
          cases hb
          obtain ⟨inf, d, h1, h2, h3, _⟩ := tinfo_some ht
          obtain ⟨_, _, _, this⟩ := kind_func h3; subst this
          refine ⟨by unfold eqGuard; rcases hop with rfl | rfl <;> rfl, eqIn_func h2 _, by simp, by simp, by simp, by simp⟩
        · cases hb
      · have e2 := hy.nilf_inv; subst e2
        cases hx with
        | fn f cells vs hl hv =>
          split at hb
          · rename_i ht
            cases hb
            obtain ⟨inf, d, h1, h2, h3, _⟩ := tinfo_some ht
            obtain ⟨_, _, _, this⟩ := kind_func h3; subst this
            refine ⟨by unfold eqGuard; rcases hop with rfl | rfl <;> rfl, eqIn_fn h2 _ _ _ _, by simp, by simp, by simp, by simp⟩
          · cases hb
      · obtain ⟨vs, rfl, _⟩ := hx.agg_inv
        obtain ⟨us, rfl, _⟩ := hy.agg_inv
        obtain ⟨q1, q2⟩ := eqAgg_sound (P := P) hx hy (b := b) (by unfold eqA; exact hb)
        refine ⟨?_, q2, by simp, by simp, by simp, by simp⟩
        unfold eqGuard
        rcases hop with rfl | rfl <;> simp [Sem.run_bind, run_program, q1]
      · have e1 := hx.nils_inv; have e2 := hy.nils_inv; subst e1; subst e2
        split at hb
        · rename_i ht
          cases hb
          obtain ⟨inf, d, h1, h2, h3, _⟩ := tinfo_some ht
          have := kind_slice h3; subst this
          refine ⟨by unfold eqGuard; rcases hop with rfl | rfl <;> rfl, eqIn_slice h2 _ _ _ _, by simp, by simp, by simp, by simp⟩
        · cases hb
      · have e2 := hy.nils_inv; subst e2
        split at hb
        · cases hb
        rename_i hr
        split at hb
        · rename_i ht
          cases hb
          obtain ⟨inf, d, h1, h2, h3, _⟩ := tinfo_some ht
          have := kind_slice h3; subst this
          cases hx with
          | p _ _ hx =>
          cases hx with
          | slz A c => simp at hr
          | sl rows blk off c sz f hc hn ho hb' hsz hcell hrec =>
            refine ⟨by unfold eqGuard; rcases hop with rfl | rfl <;> rfl, eqIn_slice h2 _ _ _ _, by simp, by simp, by simp, by simp⟩
        · cases hb
      · cases hb
    split at hr
    · obtain ⟨b, hb, rfl⟩ := Option.map_eq_some_iff.mp hr
      obtain ⟨g1, g2, n1, n2, n3, n4⟩ := hE b hb (.inl rfl)
      refine ⟨.bool b, ?_, .b⟩
      simp only [Sem.run_bind, g1, Result.andThen_ok]
      have : binOp .eql t v u = (do Pure.pure (.bool (← Op.equal t v u)) : Sem Value) := by
        cases v <;> first | exact absurd rfl (n1 _ _) | exact absurd rfl (n2 _) | exact absurd rfl (n3 _ _) | exact absurd rfl (n4 _ _ _) | rfl
      rw [this]; simp [Sem.run_bind, g2]
    · obtain ⟨b, hb, rfl⟩ := Option.map_eq_some_iff.mp hr
      obtain ⟨g1, g2, n1, n2, n3, n4⟩ := hE b hb (.inr rfl)
      refine ⟨.bool (!b), ?_, .b⟩
      simp only [Sem.run_bind, g1, Result.andThen_ok]
      have : binOp .neq t v u = (do Pure.pure (.bool (!(← Op.equal t v u))) : Sem Value) := by
        cases v <;> first | exact absurd rfl (n1 _ _) | exact absurd rfl (n2 _) | exact absurd rfl (n3 _ _) | exact absurd rfl (n4 _ _ _) | rfl
      rw [this]; simp [Sem.run_bind, g2]
    · cases hr

end
end Go.Proofs.Ytkmcecbglomemaa.AM
end

section
set_option linter.unusedVariables false
set_option linter.unusedSimpArgs false
namespace Go.Proofs.Ytkmcecbglomemaa.AM
open Go

section
variable {P : Program} {G : Nat → Option (List PV)} {ι ι' : Nat → Nat × Nat} {h h' : Heap} {w w' : World}

theorem bound_sound {ρ : Operand → Value} {ρA : Operand → Option AV} (hρ : ∀ x a, ρA x = some a → VRel ι h w a (ρ x)) {x : Option Operand} {d n : Nat} (hb : boundA (x.map ρA) d = some n) :
    (x = none ∧ n = d) ∨ ∃ k i, x.map ρ = some (.int k i) ∧ 0 ≤ i ∧ i.toNat = n := by
  cases x with
  | none => simp [boundA] at hb; exact .inl ⟨rfl, hb.symm⟩
  | some X =>
    simp only [Option.map_some, boundA] at hb
    split at hb
    · cases ‹some (ρA X) = none›
    · rename_i k i heq
      have he : ρA X = some (.p (.int k i)) := Option.some.inj heq
      split at hb
      · rename_i h0
        obtain ⟨e, _⟩ := (hρ X _ he).int_inv
        exact .inr ⟨k, i, by simp [e], h0, Option.some.inj hb⟩
      · cases hb
    · cases hb

theorem run_bounds (sl : Bool) (len cap : Nat) {ρ : Operand → Value} {ρA : Operand → Option AV} (hρ : ∀ x a, ρA x = some a → VRel ι h w a (ρ x)) {lo hi : Option Operand} {l m : Nat}
    (h1 : boundA (lo.map ρA) 0 = some l) (h2 : boundA (hi.map ρA) len = some m) (hlm : l ≤ m) (hm : m ≤ cap) :
    (Instr.sliceBounds sl len cap (lo.map ρ) (hi.map ρ) none).run P w = .ok (l, m, cap) w := by
  have key : ∀ (k : IntKind) (i : Int) (y : Nat) (code : BoundsCode), 0 ≤ i → i ≤ y → (Instr.sliceBound (.int k i) y code).run P w = .ok i.toNat w := fun k i y code h0 h1 => run_sliceBound w k i y code h0 h1
  rcases bound_sound hρ h1 with ⟨rfl, rfl⟩ | ⟨k, i, e1, i0, rfl⟩ <;> rcases bound_sound hρ h2 with ⟨rfl, rfl⟩ | ⟨k', i', e2, i0', rfl⟩
  · simp [Instr.sliceBounds]
  · simp only [Instr.sliceBounds, e2, Option.map_none, Sem.run_bind, Sem.run_pure, Result.andThen_ok, key k' i' cap _ i0' (by omega)]
  · simp only [Instr.sliceBounds, e1, Option.map_none, Sem.run_bind, Sem.run_pure, Result.andThen_ok, key k i m _ i0 (by omega)]
  · simp only [Instr.sliceBounds, e1, e2, Sem.run_bind, Sem.run_pure, Result.andThen_ok, key k' i' cap _ i0' (by omega), key k i i'.toNat _ i0 (by omega)]

theorem mem_take_drop {α : Type} {l : List α} {a b : Nat} {x : α} (hx : x ∈ (l.drop a).take b) : x ∈ l := List.mem_of_mem_drop (List.mem_of_mem_take hx)

theorem slice_sound (hS : SimH P G ι h w) {ρ : Operand → Value} {ρA : Operand → Option AV} (hρ : ∀ x a, ρA x = some a → VRel ι h w a (ρ x)) {t : Nat} {x r : AV} {v : Value} {lo hi : Option Operand}
    (hx : VRel ι h w x v) (hr : sliceA P h t x (lo.map ρA) (hi.map ρA) = some r) :
    ∃ u, (Instr.sliceAt t v (lo.map ρ) (hi.map ρ) none).run P w = .ok u w ∧ VRel ι h w r u := by
  unfold sliceA at hr
  split at hr
  · rename_i n e _ _ _ ht
    obtain ⟨inf, d, h1, h2, h3, h4, h5, h6⟩ := tinfo_some ht
    have hd := kind_array h3
    subst hd
    split at hr
    · rename_i b g off l m hl hm
      obtain ⟨cells, hb, hr⟩ := Option.bind_eq_some_iff.mp hr
      split at hr
      case isFalse => cases hr
      rename_i hc
      obtain ⟨c1, c2, c3, c4, c5, c6⟩ := hc
      cases hr
      obtain ⟨rfl, hbl, _, _, _, hcl⟩ := hx.ptr_inv (blkAt_live hb)
      have hne : cells ≠ [] := by
        intro hz0; subst hz0
        have : 0 < n * sizeA P e := Nat.mul_pos (by omega) (by omega)
        simp only [List.length_nil] at c6
        omega
      obtain ⟨c, ty, hcc, hcl, _⟩ := (hS.hr.blk b _ (blkAt_some hb) hne).cells hcl
      have hcl' : (ι b).2 + cells.length ≤ c.size := hcl
      refine ⟨.slice (some ⟨(ι b).1, (ι b).2 + (off + l * sizeA P e), none⟩) (m - l) (n - l), ?_, .ref _ _ _ _ _ _ _ (by omega) hbl (live_g (blkAt_live hb)).2 fun _ => .inr ⟨rfl, by omega, ⟨_, blkAt_some hb, hne⟩, c, ty, _, hcc, ?_⟩⟩
      · have hbd := run_bounds (P := P) false n n hρ hl hm c1 c2
        have hne' : n ≠ l := by omega
        simp only [Instr.sliceAt, Sem.run_bind, run_underlying h2, Result.andThen_ok, Instr.sureAddr, Sem.run_pure, hbd, run_sizeA c5, hne', if_false, Addr.add_lit, Nat.add_assoc]
      · have : (n - l) * sizeA P e + l * sizeA P e = n * sizeA P e := by rw [← Nat.add_mul]; congr 1; omega
        omega
    · cases hr
  · rename_i e _ _ _ ht
    obtain ⟨inf, d, h1, h2, h3, h4, h5, h6⟩ := tinfo_some ht
    have hd := kind_slice h3
    subst hd
    split at hr
    · rename_i rows
      split at hr
      · rename_i l m hl hm
        split at hr
        case isFalse => cases hr
        rename_i hc
        obtain ⟨c1, c2, c3, c4⟩ := hc
        cases hr
        obtain ⟨A, c, rfl, hn, hcase⟩ := hx.sl_inv
        have hall : ∀ row ∈ rows, row.length = sizeA P e := by simpa using c4
        have hlen : ((rows.drop l).take (m - l)).length = m - l := by simp; omega
        by_cases hz : m - l = 0
        · have he : (rows.drop l).take (m - l) = [] := List.eq_nil_of_length_eq_zero (by omega)
          rcases hcase with rfl | ⟨blk, off, sz, hcc, rfl, ho, hb, hs, hcell⟩
          · simp at c2
            have : l = 0 := by omega
            subst this; subst c2
            have hbd := run_bounds (P := P) true 0 c hρ hl (by simpa using hm) (Nat.le_refl _) (Nat.zero_le _)
            refine ⟨.slice (if c = 0 then A else A.map (·.add (0 * sizeA P e))) 0 c, ?_, .p _ _ (by simp; exact .slz _ _)⟩
            simp [Instr.sliceAt, Instr.slice, Sem.run_bind, run_underlying h2, hbd, run_sizeA c3]
          · have hbd := run_bounds (P := P) true rows.length c hρ hl hm c1 (by omega)
            rw [he]
            refine ⟨.slice (if c = l then some ⟨blk, off, none⟩ else (some (⟨blk, off, none⟩ : Addr)).map (·.add (l * sizeA P e))) 0 (c - l), ?_, .p _ _ (.slz _ _)⟩
            simp [Instr.sliceAt, Instr.slice, Sem.run_bind, run_underlying h2, hbd, run_sizeA c3, hz]
        · rcases hcase with rfl | ⟨blk, off, sz, hcc, rfl, ho, hb, hs, hcell⟩
          · simp at c2; omega
          · have hbd := run_bounds (P := P) true rows.length c hρ hl hm c1 (by omega)
            have hsz : sz = sizeA P e := by
              have : 0 < rows.length := by omega
              have hm0 : rows[0] ∈ rows := List.getElem_mem this
              rw [← hs _ hm0, hall _ hm0]
            subst hsz
            have hne' : c ≠ l := by omega
            refine ⟨.slice (some ⟨blk, off + l * sizeA P e, none⟩) (m - l) (c - l), ?_, .p _ _ ?_⟩
            · simp only [Instr.sliceAt, Instr.slice, Sem.run_bind, run_underlying h2, Result.andThen_ok, hbd, run_sizeA c3, hne', if_false, Option.map_some, Addr.add_lit, Sem.run_pure]
            · have hf : ∀ q : Nat × Nat, ∃ v, ∀ x, get2 ((rows.drop l).take (m - l)) q.1 q.2 = some x → w.cell? ⟨blk, off + l * sizeA P e + (q.1 * sizeA P e + q.2), none⟩ = some v ∧ PRel w (own ι h) x v := by
                intro q
                cases hq : get2 ((rows.drop l).take (m - l)) q.1 q.2 with
                | none => exact ⟨undef, fun x hx => by cases hx⟩
                | some x =>
                  have hq' : get2 rows (l + q.1) q.2 = some x := by
                    unfold get2 at hq ⊢
                    rw [List.getElem?_take] at hq
                    split at hq
                    · rwa [List.getElem?_drop] at hq
                    · cases hq
                  obtain ⟨v, hv1, hv2⟩ := hcell _ _ x hq'
                  exact ⟨v, fun y hy => by cases hy; exact ⟨by rw [Nat.add_mul] at hv1; rw [show off + l * sizeA P e + (q.1 * sizeA P e + q.2) = off + (l * sizeA P e + q.1 * sizeA P e + q.2) by omega]; exact hv1, hv2⟩⟩
              obtain ⟨f, hf⟩ := Classical.axiomOfChoice hf
              have := PRel.sl (w := w) (own := own ι h) ((rows.drop l).take (m - l)) blk (off + l * sizeA P e) (c - l) (sizeA P e) (fun i j => f (i, j)) (by rw [hlen]; omega) (by rw [hlen]; omega) ho hb
                (fun row hr => hall row (mem_take_drop hr)) (fun i j x hx => (hf (i, j) x hx).1) (fun i j x hx => (hf (i, j) x hx).2)
              rwa [hlen] at this
      · cases hr
    · split at hr
      · rename_i l m hl hm
        split at hr
        case isFalse => cases hr
        rename_i hc
        obtain ⟨rfl, rfl, c3⟩ := hc
        cases hr
        have := hx.nils_inv
        subst this
        have hbd := run_bounds (P := P) true 0 0 hρ hl hm (Nat.le_refl _) (Nat.le_refl _)
        refine ⟨.slice none 0 0, ?_, .p _ _ .nils⟩
        simp [Instr.sliceAt, Instr.slice, Sem.run_bind, run_underlying h2, hbd, run_sizeA c3]
      · cases hr
    · rename_i b g off sz len
      split at hr
      · rename_i l m hl hm
        split at hr
        case isFalse => cases hr
        rename_i hc
        obtain ⟨c1, c2, c3, c4, c5⟩ := hc
        cases hr
        have hlv := blkAt_isSome c5
        obtain ⟨A, c, rfl, hn, hcase⟩ := hx.ref_inv hlv
        subst c3
        rcases hcase with ⟨rfl, rfl⟩ | ⟨rfl, hlc, hbk, cs, ty, fr, hcs, hcap⟩
        · have : m = 0 := by omega
          subst this
          have : l = 0 := by omega
          subst this
          have hbd := run_bounds (P := P) true 0 0 hρ hl hm (Nat.le_refl _) (Nat.le_refl _)
          refine ⟨.slice A 0 0, ?_, .ref _ _ _ _ _ _ _ (by omega) (live_g hlv).1 (live_g hlv).2 fun _ => .inl ⟨rfl, rfl⟩⟩
          simp [Instr.sliceAt, Instr.slice, Sem.run_bind, run_underlying h2, hbd, run_sizeA c4]
        · have hbd := run_bounds (P := P) true len c hρ hl hm c1 (by omega)
          by_cases he : c = l
          · refine ⟨.slice (some ⟨(ι b).1, (ι b).2 + off, none⟩) (m - l) (c - l), ?_, .ref _ _ _ _ _ _ _ (by omega) (live_g hlv).1 (live_g hlv).2 fun _ => .inl ⟨by omega, by omega⟩⟩
            subst he
            simp [Instr.sliceAt, Instr.slice, Sem.run_bind, run_underlying h2, hbd, run_sizeA c4]
          · refine ⟨.slice (some ⟨(ι b).1, (ι b).2 + (off + l * sizeA P e), none⟩) (m - l) (c - l), ?_, .ref _ _ _ _ _ _ _ (by omega) (live_g hlv).1 (live_g hlv).2 fun _ => .inr ⟨rfl, by omega, hbk, cs, ty, fr, hcs, ?_⟩⟩
            · simp only [Instr.sliceAt, Instr.slice, Sem.run_bind, run_underlying h2, Result.andThen_ok, hbd, run_sizeA c4, he, if_false, Option.map_some, Addr.add_lit, Sem.run_pure, Nat.add_assoc]
            · have : (c - l) * sizeA P e + l * sizeA P e = c * sizeA P e := by rw [← Nat.add_mul]; congr 1; omega
              omega
      · cases hr
    · cases hr
  · cases hr

theorem len_sound {x : AV} {v : Value} {n : Nat} (hx : VRel ι h w x v) (hn : lenA x = some n) : Builtin.lenOf v = Pure.pure n ∧ n ≤ 9223372036854775807 ∧ ((∃ A c, v = .slice A n c) ∨ ∃ s, v = .string s ∧ s.size = n) := by
  unfold lenA at hn
  split at hn
  · obtain ⟨A, c, rfl, h1, _⟩ := hx.sl_inv; cases hn; exact ⟨rfl, h1, .inl ⟨_, _, rfl⟩⟩
  · have := hx.nils_inv; subst this; cases hn; exact ⟨rfl, by omega, .inl ⟨_, _, rfl⟩⟩
  · cases hx with
    | p _ _ hx => cases hx; cases hn; exact ⟨rfl, by omega, .inr ⟨_, rfl, rfl⟩⟩
  · cases hx with
    | ref _ _ _ _ _ A c h1 _ _ _ => cases hn; exact ⟨rfl, h1, .inl ⟨_, _, rfl⟩⟩
  · cases hn

theorem inr64 {n : Nat} (hn : n ≤ 9223372036854775807) : InRange .i64 n := by
  unfold InRange IntKind.min IntKind.max IntKind.signed IntKind.bits; simp; omega

end
end Go.Proofs.Ytkmcecbglomemaa.AM
end

section
set_option linter.unusedVariables false
set_option linter.unusedSimpArgs false
namespace Go.Proofs.Ytkmcecbglomemaa.AM
open Go

section
variable {P : Program} {G : Nat → Option (List PV)} {ι ι' : Nat → Nat × Nat} {h h' : Heap} {w w' : World}

theorem place_list {cells : List AV} {blk off : Nat} (hp : Place ι h w cells blk off) :
    ∃ news : List Value, news.length = cells.length ∧ (∀ (j : Nat) u, news[j]? = some u → w.cell? ((⟨blk, off, none⟩ : Addr).add j) = some u) ∧
      ∀ (j : Nat) x u, cells[j]? = some x → news[j]? = some u → VRel ι h w x u := by
  have hf : ∀ j : Nat, ∃ v, ∀ x, cells[j]? = some x → w.cell? ⟨blk, off + j, none⟩ = some v ∧ VRel ι h w x v := by
    intro j
    cases hq : cells[j]? with
    | none => exact ⟨undef, fun x hx => by cases hx⟩
    | some x =>
      obtain ⟨v, h1, h2⟩ := hp j x hq
      exact ⟨v, fun y hy => by cases hy; exact ⟨h1, h2⟩⟩
  obtain ⟨f, hf⟩ := Classical.axiomOfChoice hf
  have hget : ∀ (j : Nat) u, ((List.range cells.length).map f)[j]? = some u → j < cells.length ∧ u = f j := by
    intro j u hu
    have hj : j < cells.length := by have := getElem?_lt hu; simpa using this
    simp [hj] at hu
    exact ⟨hj, hu.symm⟩
  refine ⟨(List.range cells.length).map f, by simp, fun j u hu => ?_, fun j x u hx hu => ?_⟩
  · obtain ⟨hj, rfl⟩ := hget j u hu
    rw [Addr.add_lit]
    exact (hf j cells[j] (by simp)).1
  · obtain ⟨hj, rfl⟩ := hget j u hu
    exact (hf j x hx).2

theorem src_sound (hS : SimH P G ι h w) {sz k : Nat} {y : AV} {u : Value} {cs : List AV} (hy : VRel ι h w y u) (hk : lenA y = some k) (hcs : srcCells h sz y = some cs) (hsz : sz ≠ 0) :
    cs.length = k * sz ∧ (∀ x ∈ cs, x.scalar = true) ∧ ((k = 0 ∧ ∃ A c, u = .slice A 0 c) ∨ ∃ blk off c, u = .slice (some ⟨blk, off, none⟩) k c ∧ Place ι h w cs blk off) := by
  unfold srcCells at hcs
  split at hcs
  · rename_i rows
    simp [lenA] at hk
    subst hk
    split at hcs
    case isFalse => cases hcs
    rename_i hall
    have hall' : ∀ row ∈ rows, row.length = sz := by simpa using hall
    cases hcs
    obtain ⟨A, c, rfl, hn, hcase⟩ := hy.sl_inv
    refine ⟨by rw [List.length_map, flat_length rows hall'], fun x hx => by
      simp only [List.mem_map] at hx; obtain ⟨y, _, rfl⟩ := hx; rfl, ?_⟩
    rcases hcase with rfl | ⟨blk, off, sz', hc, rfl, ho, hb, hs, hcell⟩
    · exact .inl ⟨rfl, A, c, rfl⟩
    · refine .inr ⟨blk, off, c, rfl, fun j x hx => ?_⟩
      simp only [List.getElem?_map, Option.map_eq_some_iff] at hx
      obtain ⟨y, hy', rfl⟩ := hx
      have hj := getElem?_lt hy'
      rw [flat_length rows hall'] at hj
      have hpos : 0 < rows.length := by
        rcases Nat.eq_zero_or_pos rows.length with h | h
        · rw [h] at hj; omega
        · exact h
      have hss : sz' = sz := by rw [← hs _ (List.getElem_mem hpos), hall' _ (List.getElem_mem hpos)]
      subst hss
      have hdm : j / sz' * sz' + j % sz' = j := by rw [Nat.mul_comm]; exact Nat.div_add_mod j sz'
      have hm : j % sz' < sz' := Nat.mod_lt _ (by omega)
      have := flat_get rows hall' (j / sz') (j % sz') hm
      rw [hdm, hy'] at this
      obtain ⟨v, hv1, hv2⟩ := hcell _ _ y this.symm
      rw [hdm] at hv1
      exact ⟨v, hv1, .p _ _ hv2⟩
  · simp [lenA] at hk; subst hk; cases hcs
    have := hy.nils_inv; subst this
    exact ⟨by simp, by simp, .inl ⟨rfl, none, 0, rfl⟩⟩
  · rename_i b g off sz' len
    simp [lenA] at hk; subst hk
    split at hcs
    case isFalse => cases hcs
    rename_i he
    subst he
    obtain ⟨cells, hb, hcs⟩ := Option.bind_eq_some_iff.mp hcs
    split at hcs
    case isFalse => cases hcs
    rename_i hle
    obtain ⟨hle, hall⟩ := hle
    cases hcs
    obtain ⟨A, c, rfl, hn, hcase⟩ := hy.ref_inv (blkAt_live hb)
    refine ⟨by rw [List.length_take, List.length_drop]; omega, by simpa using hall, ?_⟩
    rcases hcase with ⟨rfl, rfl⟩ | ⟨rfl, _, _, cs1, ty1, fr1, hcc1, _⟩
    · exact .inl ⟨rfl, A, 0, rfl⟩
    · refine .inr ⟨_, _, c, rfl, fun j x hx => ?_⟩
      rw [List.getElem?_take] at hx
      split at hx
      · exact ((place_of_blk hS hb fun _ => ⟨cs1, ty1, fr1, hcc1⟩).drop off) j x hx
      · cases hx
  · cases hcs

theorem zero_facts {e : Nat} {ie : TI} (he : tinfo P e = some ie) (hz : ie.zero.map List.length = some ie.size) : ∃ (inf : TypeInfo) (z : Value), P.info? e = some inf ∧ inf.zero = some z ∧ z.cells.size = ie.size ∧ inf.size = ie.size ∧ inf.bytes = ie.bytes := by
  obtain ⟨inf, d, h1, h2, h3, h4, h5, h6⟩ := tinfo_some he
  obtain ⟨l, hl, hl2⟩ := Option.map_eq_some_iff.mp hz
  rw [h6] at hl
  obtain ⟨z, hz1, hz2⟩ := Option.bind_eq_some_iff.mp hl
  have := (constPVs_rel (w := default) (o := fun _ => False) hz2).1
  exact ⟨inf, z, h1, hz1, by simp at this; omega, h4, h5⟩

theorem SimH.drew (hS : SimH P G ι h w) : SimH P G ι h w.drew ∧ Evo h.length ι h w ι h w.drew := hS.garbage (Nat.le_refl _) (fun _ _ => rfl) rfl rfl rfl

/-- A grown row. -/
theorem grown_sound (hS : SimH P G ι h w) (b : Nat) (bk' : Blk) (e : Nat) {olds : List AV} {vals : List Value} (sz n cap : Nat) (z : Value) (hz : z.cells.size = sz) (hsz : sz ≠ 0) (hn0 : n ≠ 0) (hn : n ≤ maxCount)
    (hb : (h' = h ++ [some bk'] ∧ b = h.length) ∨ (b < h.length ∧ (∃ bk : Blk, h[b]? = some (some bk) ∧ bk.g ≤ bk'.g) ∧ h' = h.set b (some bk')))
    (hg : ∀ bk : Blk, h[b]? = some (some bk) → bk.g ≠ bk'.g) (hl : vals.length = n * sz) (hcl : bk'.cells.length = vals.length) (hcap : n ≤ cap)
    (hv : ∀ (j : Nat) x v, bk'.cells[j]? = some x → vals[j]? = some v → VRel ι h w x v) (arr : Array Value) (harr : arr = (vals.toArray ++ Builtin.zeroCells z.cells (cap - n))) :
    let ι' := fun i => if i = b then (w.heap.size, 0) else ι i
    SimH P G ι' h' (w.drew.alloc (.cells arr e)) ∧ VRel ι' h' (w.drew.alloc (.cells arr e)) (.ref b bk'.g 0 sz n) (.slice (some ⟨w.heap.size, 0, none⟩) n cap) ∧ Evo h.length ι h w ι' h' (w.drew.alloc (.cells arr e)) := by
  intro ι'
  obtain ⟨hS', he0⟩ := hS.drew
  have hne : bk'.cells ≠ [] := by
    intro e0
    rw [e0, hl] at hcl
    have : 0 < n * sz := Nat.mul_pos (by omega) (by omega)
    simp only [List.length_nil] at hcl
    omega
  have hasz : arr.size = cap * sz := by
    rw [harr, Array.size_append, size_zeroCells, hz]
    simp only [List.size_toArray, hl, ← Nat.add_mul]
    congr 1; omega
  have hnew : (w.drew.alloc (.cells arr e)).heap[w.heap.size]? = some (.cells arr e (0, 0)) := heap_alloc_new w.drew _
  have hle : bk'.cells.length ≤ arr.size := by rw [hasz, hcl, hl]; exact Nat.mul_le_mul_right _ hcap
  obtain ⟨q1, q2⟩ := hS'.upd (h' := h') (ι' := ι') (w' := w.drew.alloc (.cells arr e)) b bk' w.heap.size 0 arr e hb (fun i => rfl) (.inl (Nat.le_refl _)) hne hnew (by simpa using hle)
    (fun j x hx => by
      have hj : j < vals.length := by have := getElem?_lt hx; omega
      refine ⟨vals[j], ?_, (hv j x _ hx (by simp)).evo he0⟩
      rw [harr, Nat.zero_add, Array.getElem?_append_left (by simpa using hj)]
      simp [hj])
    (by simp) (fun k hk _ => by first | exact heap_alloc_old _ _ hk | exact heap_alloc_old _ _ _ hk) (fun bk hq hgg => absurd hgg (hg bk hq)) rfl rfl rfl
  refine ⟨q1, ?_, he0.trans q2 (Nat.le_refl _)⟩
  have hb' : h'[b]? = some (some bk') := by
    rcases hb with ⟨rfl, rfl⟩ | ⟨hlt, _, rfl⟩
    · simp
    · simp [hlt]
  have hlive : liveAt h' b bk'.g := ⟨bk', hb', rfl⟩
  refine .ref _ _ _ _ _ _ _ (by unfold maxCount at hn; omega) (live_g hlive).1 (live_g hlive).2 fun _ => .inr ⟨by simp [ι'], hcap, ⟨bk', hb', hne⟩, arr, e, _, by simpa [ι'] using hnew, by simp [ι', hasz]⟩

theorem append_sound (hS : SimH P G ι h w) {t : Nat} (ty : Nat) {x y r : AV} {v u : Value} (hx : VRel ι h w x v) (hy : VRel ι h w y u) (hr : appendA P h t x y = some (r, h')) :
    ∃ q w' ι', (Builtin.append_ #[t, t] ty #[v, u]).run P w = .ok q w' ∧ SimH P G ι' h' w' ∧ VRel ι' h' w' r q ∧ Evo h.length ι h w ι' h' w' := by
  unfold appendA at hr
  split at hr
  case h_2 => cases hr
  rename_i e _ _ _ ht
  obtain ⟨inf0, d0, t1, t2, t3, _⟩ := tinfo_some ht
  have := kind_slice t3; subst this
  split at hr
  case h_2 => cases hr
  rename_i ie k he hk
  split at hr
  · cases hr
  rename_i hcond
  have hsz : ie.size ≠ 0 := fun h => hcond (.inl h)
  have hby : ie.bytes ≤ 1048576 := Nat.le_of_not_gt fun h => hcond (.inr (.inl h))
  have hzl : ie.zero.map List.length = some ie.size := Classical.byContradiction fun h => hcond (.inr (.inr h))
  clear hcond
  split at hr
  · cases hr
  rename_i cs hcs
  obtain ⟨inf, z, f1, f2, f3, f4, f5⟩ := zero_facts he hzl
  obtain ⟨s1, s2, s3⟩ := src_sound hS hy hk hcs hsz
  have hbytes : ∀ n, n ≤ maxCount → n * inf.bytes ≤ 140737488355328 := by
    intro n hn
    calc n * inf.bytes ≤ 16777216 * 1048576 := Nat.mul_le_mul hn (by omega)
      _ ≤ 140737488355328 := by decide
  split at hr
  · -- nil
    have := hx.nils_inv; subst this
    split at hr
    · rename_i hk0
      subst hk0
      cases hr
      have hu : ∃ A c, u = .slice A 0 c := by
        rcases s3 with ⟨_, A, c, rfl⟩ | ⟨blk, off, c, rfl, _⟩
        · exact ⟨A, c, rfl⟩
        · exact ⟨_, c, rfl⟩
      obtain ⟨A, c, rfl⟩ := hu
      refine ⟨.slice none 0 0, w, ι, ?_, hS, .p _ _ .nils, .refl (Nat.le_refl _)⟩
      cases A <;> simp [Builtin.append_, run_underlying t2, sizeOf, typeInfo, f1, Builtin.lenOf, Builtin.firstCells, loadCells, loadCellsFrom]
    · rename_i hk0
      split at hr
      case isFalse => cases hr
      rename_i hkm
      cases hr
      rcases s3 with ⟨h0, _⟩ | ⟨blk, off, c, rfl, hp⟩
      · exact absurd h0 hk0
      obtain ⟨news, n1, n2, n3⟩ := place_list hp
      have hb := hbytes k hkm
      have hrun := run_append_nil (P := P) w t ty e inf z t2 f1 f2 ⟨blk, off, none⟩ k c news (by rw [n1, s1, f4]) n2 (by omega) (by unfold maxCount at hkm; omega) (by omega)
      obtain ⟨g1, g2, g3⟩ := grown_sound (h' := h ++ [some ⟨0, cs⟩]) hS h.length ⟨0, cs⟩ e (olds := []) (vals := news) ie.size k (grownCap w k 0 e) z f3 hsz hk0 hkm (.inl ⟨rfl, rfl⟩) (fun bk hq => by simp at hq) (by rw [n1, s1]) n1.symm (grownCap_ge w k 0 e) n3 _ rfl
      exact ⟨_, _, _, hrun, g1, g2, g3⟩
  · -- a block of ours
    rename_i b g off sz len
    obtain ⟨cells, hb, hr2⟩ := Option.bind_eq_some_iff.mp hr
    clear hr
    by_cases hk0 : k = 0
    · rw [if_pos hk0] at hr2
      split at hr2
      case isFalse => cases hr2
      rename_i hsz1
      cases hr2
      subst hk0
      have hu : ∃ A c, u = .slice A 0 c := by
        rcases s3 with ⟨_, A, c, rfl⟩ | ⟨blk, off, c, rfl, _⟩
        · exact ⟨A, c, rfl⟩
        · exact ⟨_, c, rfl⟩
      obtain ⟨A', c, rfl⟩ := hu
      obtain ⟨A, cap, rfl, hn, hcase⟩ := hx.ref_inv (blkAt_live hb)
      have hle : len ≤ cap := by
        rcases hcase with ⟨rfl, rfl⟩ | ⟨_, hle, _⟩
        · exact Nat.le_refl _
        · exact hle
      refine ⟨.slice A len cap, w, ι, ?_, hS, hx, .refl (Nat.le_refl _)⟩
      cases A <;> cases A' <;> simp [Builtin.append_, run_underlying t2, sizeOf, typeInfo, f1, Builtin.lenOf, Builtin.firstCells, loadCells, loadCellsFrom, storeCells, hle]
    rw [if_neg hk0] at hr2
    have hr := hr2
    clear hr2
    have hr' : sz = ie.size ∧ off + len * sz ≤ cells.length ∧ len + k ≤ maxCount ∧ k ≠ 0 ∧ r = .ref b (g + 1) 0 sz (len + k) ∧ h' = h.set b (some ⟨g + 1, (cells.drop off).take (len * sz) ++ cs⟩) := by
      split at hr
      · rename_i hc
        cases hr
        exact ⟨hc.1, by omega, hc.2.2.1, hc.2.2.2, rfl, by rw [List.take_of_length_le (by rw [List.length_drop]; omega)]⟩
      · split at hr
        case isFalse => cases hr
        rename_i hc
        cases hr
        exact ⟨hc.1, hc.2.1, hc.2.2.1, hc.2.2.2, rfl, rfl⟩
    clear hr
    obtain ⟨c1, c2, c3, c4, c5, c6⟩ := hr'
    subst c1
    subst c5
    subst c6
    have hlv := blkAt_live hb
    have hblt := (live_g hlv).1
    have hq := blkAt_some hb
    obtain ⟨A, cap, rfl, hn, hcase⟩ := hx.ref_inv hlv
    rcases s3 with ⟨h0, _⟩ | ⟨blk, offy, cy, rfl, hp⟩
    · exact absurd h0 c4
    obtain ⟨news, n1, n2, n3⟩ := place_list hp
    have hbb := hbytes (len + k) c3
    have hkp : 0 < k := Nat.pos_of_ne_zero c4
    have hlk : 0 < len + k := by omega
    have hlk0 : len + k ≠ 0 := by omega
    have h64 : ((len + k : Nat) : Int) ≤ 9223372036854775807 := by unfold maxCount at c3; omega
    have h64k : (k : Int) ≤ 9223372036854775807 := by unfold maxCount at c3; omega
    have hdl : ((cells.drop off).take (len * ie.size)).length = len * ie.size := by rw [List.length_take, List.length_drop]; omega
    have hks : 0 < k * ie.size := Nat.mul_pos hkp (Nat.pos_of_ne_zero hsz)
    have hkb : k * inf.bytes ≤ 281474976710656 := by have := hbytes k (by omega); omega
    have hnc : (cells.drop off).take (len * ie.size) ++ cs ≠ [] := by
      intro e0
      have := congrArg List.length e0
      rw [List.length_append, s1] at this
      simp only [List.length_nil] at this
      omega
    have hbcase : ((h.set b (some ⟨g + 1, (cells.drop off).take (len * ie.size) ++ cs⟩)) = h ++ [some ⟨g + 1, (cells.drop off).take (len * ie.size) ++ cs⟩] ∧ b = h.length) ∨ (b < h.length ∧ (∃ bk : Blk, h[b]? = some (some bk) ∧ bk.g ≤ (⟨g + 1, (cells.drop off).take (len * ie.size) ++ cs⟩ : Blk).g) ∧ (h.set b (some ⟨g + 1, (cells.drop off).take (len * ie.size) ++ cs⟩)) = h.set b (some ⟨g + 1, (cells.drop off).take (len * ie.size) ++ cs⟩)) :=
      .inr ⟨hblt, ⟨_, hq, Nat.le_succ g⟩, rfl⟩
    have hgne : ∀ bk : Blk, h[b]? = some (some bk) → bk.g ≠ (⟨g + 1, (cells.drop off).take (len * ie.size) ++ cs⟩ : Blk).g := by
      intro bk hq2; rw [hq] at hq2; cases hq2; exact Nat.ne_of_lt (Nat.lt_succ_self g)
    have hgrow : cap < len + k → ∀ olds : List Value, olds.length = len * ie.size → (∀ (j : Nat) x v, ((cells.drop off).take (len * ie.size))[j]? = some x → olds[j]? = some v → VRel ι h w x v) →
        (Builtin.append_ #[t, t] ty #[.slice A len cap, .slice (some ⟨blk, offy, none⟩) k cy]).run P w = .ok (.slice (some ⟨w.heap.size, 0, none⟩) (len + k) (grownCap w (len + k) cap e))
          (w.drew.alloc (.cells (olds.toArray ++ news.toArray ++ Builtin.zeroCells z.cells (grownCap w (len + k) cap e - (len + k))) e)) →
        ∃ q w' ι', (Builtin.append_ #[t, t] ty #[.slice A len cap, .slice (some ⟨blk, offy, none⟩) k cy]).run P w = .ok q w' ∧ SimH P G ι' (h.set b (some ⟨g + 1, (cells.drop off).take (len * ie.size) ++ cs⟩)) w' ∧ VRel ι' (h.set b (some ⟨g + 1, (cells.drop off).take (len * ie.size) ++ cs⟩)) w' (.ref b (g + 1) 0 ie.size (len + k)) q ∧
          Evo h.length ι h w ι' (h.set b (some ⟨g + 1, (cells.drop off).take (len * ie.size) ++ cs⟩)) w' := by
      intro hlt olds ho1 ho2 hrun
      obtain ⟨g1, g2, g3⟩ := grown_sound (h' := h.set b (some ⟨g + 1, (cells.drop off).take (len * ie.size) ++ cs⟩)) hS b ⟨g + 1, (cells.drop off).take (len * ie.size) ++ cs⟩ e (olds := []) (vals := olds ++ news) ie.size (len + k) (grownCap w (len + k) cap e) z f3 hsz hlk0 c3 hbcase hgne
        (by rw [List.length_append, ho1, n1, s1, Nat.add_mul]) (by rw [List.length_append, List.length_append, ho1, n1, hdl]) (grownCap_ge w (len + k) cap e)
        (fun j x v hx hv => by
          by_cases hj : j < len * ie.size
          · rw [List.getElem?_append_left (by omega)] at hx hv
            exact ho2 j x v hx hv
          · rw [List.getElem?_append_right (by omega)] at hx hv
            rw [hdl] at hx; rw [ho1] at hv
            exact n3 _ x v hx hv) (olds.toArray ++ news.toArray ++ Builtin.zeroCells z.cells (grownCap w (len + k) cap e - (len + k))) (by simp)
      exact ⟨_, _, _, hrun, g1, g2, g3⟩
    rcases hcase with ⟨rfl, rfl⟩ | ⟨rfl, hlc, ⟨bk0, hq0, hne0⟩, ccs, cty, cfr, hcc, hcap⟩
    · refine hgrow hlk [] (by simp) (fun j x v _ hv => by simp at hv) ?_
      cases A with
      | none =>
        have hrun := run_append_nil (P := P) w t ty e inf z t2 f1 f2 ⟨blk, offy, none⟩ k cy news (by rw [n1, s1, f4]) n2 hkp h64k hkb
        simpa using hrun
      | some A =>
        have hrun := run_append_grow (P := P) w t ty e inf z t2 f1 f2 A 0 0 [] (by simp) (fun j v hv => by simp at hv) ⟨blk, offy, none⟩ k cy news (by rw [n1, s1, f4]) n2 hlk h64 (growslice_fits hlk hbb)
        simpa using hrun
    · rw [hq] at hq0; cases hq0
      have hne : cells ≠ [] := hne0
      obtain ⟨c0, ty0, hc0, hl0, hv0⟩ := (hS.hr.blk b _ hq hne).cells hcc
      rw [hc0] at hcc; injection hcc with hcc; injection hcc with hcc _ _; subst hcc
      have hl0' : (ι b).2 + cells.length ≤ c0.size := hl0
      by_cases hroom : len + k ≤ cap
      · -- in place
        have hnl : news.length = k * ie.size := by rw [n1, s1]
        have hmul : (len + k) * ie.size ≤ cap * ie.size := Nat.mul_le_mul_right _ hroom
        have hfit : (ι b).2 + off + len * ie.size + news.length ≤ c0.size := by
          rw [hnl]
          have : (len + k) * ie.size = len * ie.size + k * ie.size := Nat.add_mul ..
          omega
        have h1 : ∀ v ∈ news, v.oneCell' = true := oneCells n1.symm s2 n3
        have hst := run_storeCells_at P (ι b).1 ((ι b).2 + off + len * ie.size) ty0 news 0 c0 w hc0 (by omega) h1
        simp only [Nat.add_zero] at hst
        have hf := run_firstCells_some (P := P) w inf.size k ⟨blk, offy, none⟩ k cy news (by rw [n1, s1, f4]) n2
        have hrun : (Builtin.append_ #[t, t] ty #[.slice (some ⟨(ι b).1, (ι b).2 + off, none⟩) len cap, .slice (some ⟨blk, offy, none⟩) k cy]).run P w =
            .ok (.slice (some ⟨(ι b).1, (ι b).2 + off, none⟩) (len + k) cap) (w.setRow (ι b).1 (c0.toList.take ((ι b).2 + off + len * ie.size) ++ news ++ c0.toList.drop ((ι b).2 + off + len * ie.size + news.length)).toArray) := by
          rw [← f4] at hst ⊢
          simp [Builtin.append_, run_underlying t2, sizeOf, typeInfo, f1, Builtin.lenOf, hroom, hf, Addr.add_lit, hst]
        have hnew := setRow_heap w (ι b).1 c0 (c0.toList.take ((ι b).2 + off + len * ie.size) ++ news ++ c0.toList.drop ((ι b).2 + off + len * ie.size + news.length)).toArray ty0 _ hc0
        have hasz : (c0.toList.take ((ι b).2 + off + len * ie.size) ++ news ++ c0.toList.drop ((ι b).2 + off + len * ie.size + news.length)).toArray.size = c0.size := by
          simp only [List.size_toArray, List.length_append, List.length_take, List.length_drop, Array.length_toList]; omega
        clear hgrow
        obtain ⟨u1, u2⟩ := hS.upd (h' := h.set b (some ⟨g + 1, (cells.drop off).take (len * ie.size) ++ cs⟩)) (ι' := fun i => if i = b then ((ι b).1, (ι b).2 + off) else ι i) (w' := w.setRow (ι b).1 (c0.toList.take ((ι b).2 + off + len * ie.size) ++ news ++ c0.toList.drop ((ι b).2 + off + len * ie.size + news.length)).toArray) b ⟨g + 1, (cells.drop off).take (len * ie.size) ++ cs⟩ (ι b).1 ((ι b).2 + off) _ ty0 hbcase (fun i => rfl)
          (.inr ⟨_, hq, hne, rfl, fun cs2 ty2 fr2 hx => by rw [hc0] at hx; injection hx with hx; injection hx with hx _ _; subst hx; exact hasz⟩)
          hnc
          hnew (by rw [hasz, List.length_append, hdl, ← n1]; omega)
          (fun j x hx => by
            simp only [List.getElem?_toArray]
            rw [splice_get c0.toList news _ _ (by simpa using hfit)]
            by_cases hj : j < len * ie.size
            · rw [List.getElem?_append_left (by omega), List.getElem?_take_of_lt hj, List.getElem?_drop] at hx
              obtain ⟨v, p1, p2⟩ := hv0 _ x hx
              exact ⟨v, by rw [if_pos (by omega)]; rw [show (ι b).2 + off + j = (ι b).2 + (off + j) by omega]; simpa using p1, p2⟩
            · rw [List.getElem?_append_right (by omega), hdl] at hx
              have hjl := getElem?_lt hx
              have hjn : j - len * ie.size < news.length := by omega
              refine ⟨news[j - len * ie.size], ?_, n3 _ x _ hx (by simp)⟩
              rw [if_neg (by omega), if_pos (by omega), show (ι b).2 + off + j - ((ι b).2 + off + len * ie.size) = j - len * ie.size by omega]
              simp)
          (by simp) (fun k hk hkk => setRow_other w _ k _ hkk) (fun bk hq2 hgg => absurd hgg (hgne bk hq2)) rfl rfl rfl
        have hlive : liveAt (h.set b (some ⟨g + 1, (cells.drop off).take (len * ie.size) ++ cs⟩)) b (g + 1) := ⟨⟨g + 1, (cells.drop off).take (len * ie.size) ++ cs⟩, by simp [hblt], rfl⟩
        refine ⟨_, _, _, hrun, u1, .ref _ _ _ _ _ _ _ (by unfold maxCount at c3; clear hbcase hgne; omega) (live_g hlive).1 (live_g hlive).2 fun _ => .inr ⟨by simp, hroom, ⟨⟨g + 1, (cells.drop off).take (len * ie.size) ++ cs⟩, by simp [hblt], hnc⟩, _, _, _, (by show _ = _; simp only [if_true]; exact hnew), ?_⟩, u2⟩
        rw [hasz]; simp; omega
      · obtain ⟨olds, o1, o2, o3⟩ := place_list ((place_of_blk hS hb fun _ => ⟨_, _, _, hc0⟩).drop off)
        have hgt : cap < len + k := Nat.lt_of_not_le hroom
        have o1' : (olds.take (len * ie.size)).length = len * ie.size := by rw [List.length_take, o1, List.length_drop]; omega
        have o2' : ∀ (j : Nat) v, (olds.take (len * ie.size))[j]? = some v → _ := fun j v hv => o2 j v (by rw [List.getElem?_take] at hv; split at hv; exact hv; cases hv)
        refine hgrow hgt (olds.take (len * ie.size)) o1' (fun j x v hx hv => o3 j x v (by rw [List.getElem?_take] at hx; split at hx; exact hx; cases hx) (by rw [List.getElem?_take] at hv; split at hv; exact hv; cases hv)) ?_
        exact run_append_grow (P := P) w t ty e inf z t2 f1 f2 ⟨(ι b).1, (ι b).2 + off, none⟩ len cap (olds.take (len * ie.size)) (by rw [o1', f4]) o2' ⟨blk, offy, none⟩ k cy news (by rw [n1, s1, f4]) n2 hgt h64 (growslice_fits hgt hbb)
  · cases hr

end
end Go.Proofs.Ytkmcecbglomemaa.AM
end

section
set_option linter.unusedVariables false
set_option maxRecDepth 4000
namespace Go.Proofs.Ytkmcecbglomemaa.AM
open Go Go.Proofs Go.WideShapes

section
variable {P : Program} {G : Nat → Option (List PV)} {ι ι' : Nat → Nat × Nat} {h h' : Heap} {w w' : World}

theorem mapM_some {α β : Type} {f : α → Option β} : ∀ {l : List α}, (∀ x ∈ l, ∃ y, f x = some y) → ∃ ys, l.mapM f = some ys
  | [], _ => ⟨[], rfl⟩
  | x :: r, h => by
    obtain ⟨y, hy⟩ := h x (List.mem_cons_self ..)
    obtain ⟨ys, hys⟩ := mapM_some (l := r) fun z hz => h z (List.mem_cons_of_mem _ hz)
    exact ⟨y :: ys, by simp [hy, hys]⟩

theorem keyLits_some : ∀ (D t : Nat), keyI P D t = true → ∀ dd, D ≤ dd → ∀ k : List Int, k.length = P.cellsOf t → (∀ n ∈ k, InRange .i64 n) → ∃ ls, P.keyLits dd t (k.map (Value.int .i64)) = some ls
  | 0, _, h, _, _, _, _, _ => by simp [keyI] at h
  | D + 1, t, h, 0, hd, _, _, _ => by omega
  | D + 1, t, h, dd + 1, hd, k, hl, hr => by
    unfold keyI at h
    split at h
    · rename_i hu
      have hc : P.cellsOf t = 1 := by simpa using h
      rw [hc] at hl
      match k, hl with
      | [n], _ =>
        refine ⟨[.int .i64 n], ?_⟩
        have hn := hr n (List.mem_cons_self ..)
        unfold InRange at hn
        have hn2 := hn.2
        simp [Program.keyLits, hu, Lit.wf, hn.1]
        exact hn2
    · rename_i n e hu
      simp only [Bool.and_eq_true, beq_iff_eq] at h
      obtain ⟨hc, he⟩ := h
      have hcs : (k.map (Value.int .i64)).length = P.cellsOf t := by rw [List.length_map]; exact hl
      obtain ⟨ys, hys⟩ := mapM_some (f := fun i => P.keyLits dd e (((k.map (Value.int .i64)).drop (i * P.cellsOf e)).take (P.cellsOf e))) (l := List.range n) fun i hi => by
        rw [List.mem_range] at hi
        rw [← List.map_drop, ← List.map_take]
        have hm : (i + 1) * P.cellsOf e ≤ n * P.cellsOf e := Nat.mul_le_mul_right _ hi
        rw [Nat.add_mul, Nat.one_mul] at hm
        exact keyLits_some D e he dd (by omega) _ (by rw [List.length_take, List.length_drop]; omega) fun x hx => hr x (List.mem_of_mem_drop (List.mem_of_mem_take hx))
      refine ⟨ys.flatten, ?_⟩
      simp only [Program.keyLits, hu]
      rw [if_pos hcs, hys]
      rfl
    · rename_i fs hu
      have hcs : (k.map (Value.int .i64)).length = P.cellsOf t := by rw [List.length_map]; exact hl
      rw [List.all_eq_true] at h
      have hall : ∀ f ∈ fs.toList, f.name ≠ "_" ∧ f.offset + P.cellsOf f.type ≤ P.cellsOf t ∧ keyI P D f.type = true := fun f hf => by
        have := h f hf
        simp only [Bool.and_eq_true, bne_iff_ne, ne_eq, decide_eq_true_eq] at this
        exact ⟨this.1.1, this.1.2, this.2⟩
      obtain ⟨ys, hys⟩ := mapM_some (f := fun f : Field => P.keyLits dd f.type (((k.map (Value.int .i64)).drop f.offset).take (P.cellsOf f.type))) (l := fs.toList) fun f hf => by
        obtain ⟨_, h2, h3⟩ := hall f hf
        rw [← List.map_drop, ← List.map_take]
        exact keyLits_some D f.type h3 dd (by omega) _ (by rw [List.length_take, List.length_drop]; omega) fun x hx => hr x (List.mem_of_mem_drop (List.mem_of_mem_take hx))
      refine ⟨ys.flatten, ?_⟩
      have hnames : fs.all (·.name != "_") = true := by
        rw [Array.all_eq_true_iff_forall_mem]
        intro f hf
        simpa using (hall f (by simpa using hf)).1
      simp only [Program.keyLits, hu]
      rw [if_pos ⟨hcs, hnames⟩, hys]
      rfl
    · cases h

theorem keyB_law {kt n : Nat} (hk : keyB P kt n = true) : WideMaps.KeyLaw P kt ∧ ∀ k : List Int, k.length = n → (∀ x ∈ k, InRange .i64 x) → ∃ l, keyOf P kt (keyV k) = some l := by
  unfold keyB at hk
  simp only [Bool.and_eq_true, beq_iff_eq, decide_eq_true_eq] at hk
  obtain ⟨⟨⟨⟨⟨⟨h1, h2⟩, h3⟩, h4⟩, h5⟩, h6⟩, h7⟩ := hk
  refine ⟨deep_law (m := 20) (by omega) h3 h4 h5, fun k hl hr => ?_⟩
  obtain ⟨ls, hls⟩ := keyLits_some 20 kt h1 (P.types.size + 1) h7 k (by rw [h6]; exact hl) hr
  have hf : (keyV k).formed P kt = true := by
    unfold wideB at h5
    unfold keyV Value.formed
    split at h5
    · rename_i hu; simp [hu, hl, h6]
    · rename_i hu; simp [hu, hl, h6]
    · cases h5
  refine ⟨.string (keyBytes ls), ?_⟩
  unfold keyOf
  unfold wideB at h5
  have hcl : (keyV k).cells.toList = k.map (Value.int .i64) := by simp [keyV, Value.cells]
  split at h5
  · rename_i hu; simp only [hu, h2, hf, Bool.and_self, if_true, hcl, hls, Option.map_some]
  · rename_i hu; simp only [hu, h2, hf, Bool.and_self, if_true, hcl, hls, Option.map_some]
  · cases h5

theorem keyV_inj {a b : List Int} (h : keyV a = keyV b) : a = b := by
  unfold keyV at h
  have h1 : a.map (Value.int .i64) = b.map (Value.int .i64) := by
    have := Value.agg.inj h
    simpa using congrArg Array.toList this
  exact List.map_inj_right (fun x y e => by cases e; rfl) |>.mp h1

theorem intsOf_some : ∀ {ks : List AV} {kl : List Int}, intsOf ks = some kl → ks = kl.map AV.i
  | [], kl, h => by cases h; rfl
  | x :: r, kl, h => by
    unfold intsOf at h
    split at h
    · rename_i heq; cases heq
    · rename_i n r' heq
      cases heq
      obtain ⟨l, hl, rfl⟩ := Option.map_eq_some_iff.mp h
      rw [intsOf_some hl]; rfl
    · cases h

theorem agg_ints {kl : List Int} {v : Value} (hx : VRel ι h w (.agg (kl.map AV.i)) v) : v = keyV kl ∧ ∀ n ∈ kl, InRange .i64 n := by
  cases hx with
  | agg _ vs hl hv =>
    have h1 : ∀ (j : Nat) n, kl[j]? = some n → vs[j]? = some (.int .i64 n) ∧ InRange .i64 n := fun j n hj => by
      have hjl : j < vs.size := by
        have := (List.getElem?_eq_some_iff.mp hj).1
        rw [← hl, List.length_map]; exact this
      have := hv j (AV.i n) vs[j] (by rw [List.getElem?_map, hj]; rfl) (Array.getElem?_eq_getElem hjl)
      obtain ⟨e, hr⟩ := this.int_inv
      exact ⟨by rw [Array.getElem?_eq_getElem hjl, e], hr⟩
    refine ⟨?_, fun n hn => ?_⟩
    · unfold keyV
      congr 1
      apply Array.ext_getElem?
      intro j
      have hR : ((kl.map (Value.int .i64)).toArray)[j]? = (kl[j]?).map (Value.int .i64) := by simp
      rw [hR]
      cases hq : kl[j]? with
      | none =>
        have : kl.length ≤ j := by simpa using hq
        rw [Array.getElem?_eq_none (by rw [← hl, List.length_map]; exact this)]; rfl
      | some n => exact (h1 j n hq).1
    · obtain ⟨j, hj, rfl⟩ := List.getElem_of_mem hn
      exact (h1 j _ (List.getElem?_eq_getElem hj)).2

theorem ensOf_mem {es : List (List Int × Bool)} {en : MapEntry} (he : en ∈ (ensOf es).toList) : ∃ e ∈ es, en.key = keyV e.1 ∧ en.val = .bool e.2 := by
  unfold ensOf at he
  simp only [List.mem_mapIdx] at he
  obtain ⟨i, hi, rfl⟩ := he
  exact ⟨es[i], List.getElem_mem hi, rfl, rfl⟩
theorem ensOf_of {es : List (List Int × Bool)} {e : List Int × Bool} (he : e ∈ es) : ∃ en ∈ (ensOf es).toList, en.key = keyV e.1 := by
  obtain ⟨i, hi, rfl⟩ := List.getElem_of_mem he
  refine ⟨{ key := keyV es[i].1, val := .bool es[i].2, born := i }, ?_, rfl⟩
  unfold ensOf
  simp only [List.mem_mapIdx]
  exact ⟨i, hi, rfl⟩

/-- What the model finds is what the list says. -/
theorem find_is {kt : Nat} (w : World) (K : WideMaps.KeyLaw P kt) {es : List (List Int × Bool)} (hnd : (es.map (·.1)).Nodup) (hes : ∀ e ∈ es, ∃ l, keyOf P kt (keyV e.1) = some l) {kl : List Int} {l : Lit} (hk : keyOf P kt (keyV kl) = some l) :
    (mget es kl = none ∧ (Instr.findKey kt (keyV kl) (ensOf es).toList).run P w = .ok none w) ∨ ∃ y j, mget es kl = some y ∧ (Instr.findKey kt (keyV kl) (ensOf es).toList).run P w = .ok (some (j, .bool y)) w := by
  rcases K.find w hk (ensOf es).toList (fun en hen => by obtain ⟨e, he, h1, _⟩ := ensOf_mem hen; rw [h1]; exact hes e he) with ⟨h1, h2⟩ | ⟨j, en, h1, h2, h3⟩
  · refine .inl ⟨?_, h1⟩
    unfold mget
    rw [Option.map_eq_none_iff, List.find?_eq_none]
    intro e he hek
    obtain ⟨en, hen, hkk⟩ := ensOf_of he
    exact h2 en hen (by rw [hkk]; simp at hek; rw [hek])
  · obtain ⟨e, he, q1, q2⟩ := ensOf_mem (List.mem_of_getElem? h2)
    have hek : e.1 = kl := keyV_inj (by rw [← q1, h3])
    refine .inr ⟨e.2, j, ?_, by rw [h1, q2]⟩
    unfold mget
    cases hf : es.find? (fun e => e.1 == kl) with
    | none => rw [List.find?_eq_none] at hf; exact absurd (by simpa using hek) (hf e he)
    | some e' =>
      have h4 : e'.1 = kl := by simpa using List.find?_some hf
      have h5 : e' ∈ es := List.mem_of_find?_eq_some hf
      have : e' = e := by
        obtain ⟨a, ha, ea⟩ := List.getElem_of_mem h5
        obtain ⟨c, hc, ec⟩ := List.getElem_of_mem he
        have hp := List.pairwise_iff_getElem.mp hnd
        have : a = c := by
          rcases Nat.lt_trichotomy a c with hq | hq | hq
          · have hne := hp a c (by simpa using ha) (by simpa using hc) hq
            simp only [List.getElem_map] at hne
            rw [ea, ec] at hne
            exact absurd (h4.trans hek.symm) hne
          · exact hq
          · have hne := hp c a (by simpa using hc) (by simpa using ha) hq
            simp only [List.getElem_map] at hne
            rw [ea, ec] at hne
            exact absurd (hek.trans h4.symm) hne
        subst this
        rw [← ea, ec]
      rw [this]; rfl

/-- A block that is a map. -/
theorem map_blk (hS : SimH P G ι h w) {b g : Nat} {es : List (List Int × Bool)} (hb : blkAt h b g = some [.mp es]) : w.heap[(ι b).1]? = some (.map (ensOf es) es.length) ∧ (es.map (·.1)).Nodup ∧ ∀ e ∈ es, ∀ n ∈ e.1, InRange .i64 n := by
  rcases hS.hr.blk b _ (blkAt_some hb) (by simp) with ⟨c, ty, _, _, hv⟩ | ⟨es', h1, h2, h3, h4⟩
  · obtain ⟨v, _, hv2⟩ := hv 0 (.mp es) rfl
    cases hv2
  · have : es = es' := by simpa using h1
    subst this
    exact ⟨h2, h3, h4⟩

theorem mref_inv {b g : Nat} {v : Value} (hx : VRel ι h w (.mref b g) v) (hl : liveAt h b g) : v = .map (some (ι b).1) := by
  cases hx with
  | mref _ _ r hb hg hv => rw [hv hl]

theorem mapT_some {t k e : Nat} (ht : mapT P t = some (k, e)) : P.underlying t = some (.map k e) := by
  unfold mapT at ht
  split at ht
  · rename_i hu; cases ht; exact hu
  · cases ht

theorem lookup_sound (hS : SimH P G ι h w) {t : Nat} {x ix r : AV} {v vi : Value} (hx : VRel ι h w x v) (hi : VRel ι h w ix vi) (hr : lookupA P h t x ix = some r) :
    ∃ u, (Instr.lookup t v vi false).run P w = .ok u w ∧ VRel ι h w r u := by
  unfold lookupA at hr
  split at hr
  case h_2 => cases hr
  rename_i kt et b g ks hm
  split at hr
  case h_2 => cases hr
  rename_i kl es hks hb
  split at hr
  case isFalse => cases hr
  rename_i hc
  cases hr
  obtain rfl := intsOf_some hks
  obtain ⟨hkb, hall, hbz⟩ := hc
  obtain ⟨K, hkey⟩ := keyB_law hkb
  rw [List.length_map] at hkey hall
  obtain ⟨rfl, hin⟩ := agg_ints hi
  obtain rfl := mref_inv hx (blkAt_live hb)
  obtain ⟨q1, q2, q3⟩ := map_blk hS hb
  obtain ⟨l, hl⟩ := hkey kl rfl hin
  have hes : ∀ e ∈ es, ∃ l, keyOf P kt (keyV e.1) = some l := fun e he => hkey e.1 (by have := List.all_eq_true.mp hall e he; simpa using this) (q3 e he)
  have hz : (zeroValue et).run P w = .ok (.bool false) w := by
    unfold boolZ at hbz
    split at hbz
    · rename_i i hi1
      split at hbz
      · rename_i hz1
        simp [zeroValue, typeInfo, hi1, hz1]
      · cases hbz
    · cases hbz
  have hu := mapT_some hm
  have hck := K.check w (ensOf es).isEmpty hl
  rcases find_is w K q2 hes hl with ⟨m1, m2⟩ | ⟨y, j, m1, m2⟩
  · refine ⟨.bool false, ?_, by rw [m1]; exact .b⟩
    simp [Instr.lookup, Sem.run_bind, run_underlying hu, MapKept.run_getObj_map q1, hck, m2, hz, Result.andThen]
  · refine ⟨.bool y, ?_, by rw [m1]; exact .b⟩
    simp [Instr.lookup, Sem.run_bind, run_underlying hu, MapKept.run_getObj_map q1, hck, m2, Result.andThen]

theorem mapUpdate_sound (hS : SimH P G ι h w) {t : Nat} {x ix y : AV} {v vi vy : Value} (hx : VRel ι h w x v) (hi : VRel ι h w ix vi) (hy : VRel ι h w y vy) (hr : mapUpdateA P h t x ix y = some h') :
    ∃ w', (Instr.mapUpdate t v vi vy).run P w = .ok () w' ∧ SimH P G ι h' w' ∧ Evo h.length ι h w ι h' w' := by
  unfold mapUpdateA at hr
  split at hr
  case h_2 => cases hr
  rename_i kt et b g ks yb hm
  split at hr
  case h_2 => cases hr
  rename_i kl es hks hb
  split at hr
  case isFalse => cases hr
  rename_i hc
  cases hr
  obtain rfl := intsOf_some hks
  obtain ⟨hkb, hall, hnone⟩ := hc
  obtain ⟨K, hkey⟩ := keyB_law hkb
  rw [List.length_map] at hkey hall
  obtain ⟨rfl, hin⟩ := agg_ints hi
  obtain rfl := mref_inv hx (blkAt_live hb)
  have := hy.bool_inv
  subst this
  obtain ⟨q1, q2, q3⟩ := map_blk hS hb
  obtain ⟨l, hl⟩ := hkey kl rfl hin
  have hes : ∀ e ∈ es, ∃ l, keyOf P kt (keyV e.1) = some l := fun e he => hkey e.1 (by have := List.all_eq_true.mp hall e he; simpa using this) (q3 e he)
  have hu := mapT_some hm
  have hck := K.check w false hl
  rcases find_is w K q2 hes hl with ⟨m1, m2⟩ | ⟨y, j, m1, m2⟩
  case inr => rw [hnone] at m1; cases m1
  refine ⟨_, by
    simp only [Instr.mapUpdate, Sem.run_bind, run_underlying hu, MapKept.run_getObj_map q1, hck, m2, Result.andThen_ok, MapKept.run_setObj_map _ q1]
    rfl, ?_⟩
  have hbl : b < h.length := (List.getElem?_eq_some_iff.mp (blkAt_some hb)).1
  have hens : (ensOf es).push { key := keyV kl, val := .bool yb, born := es.length } = ensOf (es ++ [(kl, yb)]) := by
    unfold ensOf
    apply Array.toList_inj.mp
    simp [List.mapIdx_append]
  refine hS.updG b ⟨g, [.mp (es ++ [(kl, yb)])]⟩ (ι b).1 (ι b).2 (.inr ⟨hbl, ⟨_, blkAt_some hb, Nat.le_refl _⟩, rfl⟩) (fun i => by split <;> rename_i q <;> first | (subst q; rfl) | rfl)
    (.inr ⟨_, blkAt_some hb, by simp, rfl, fun cs ty fr hq => by rw [q1] at hq; cases hq⟩) (by simp)
    (fun _ => .inr ⟨es ++ [(kl, yb)], rfl, ?_, ?_, ?_⟩) (by simp) (fun q hq hqn => by exact (MapKept.heap_set q1).2 q hqn) (fun bk _ _ => rfl) rfl rfl rfl
  · rw [(MapKept.heap_set q1).1, hens]; simp
  · rw [List.map_append, List.nodup_append]
    refine ⟨q2, by simp, fun a ha c hc => ?_⟩
    obtain ⟨e, he, rfl⟩ := List.mem_map.mp ha
    simp at hc
    subst hc
    intro e1
    unfold mget at hnone
    rw [Option.map_eq_none_iff, List.find?_eq_none] at hnone
    exact hnone e he (by simpa using e1)
  · intro e he
    rcases List.mem_append.mp he with he | he
    · exact q3 e he
    · rw [List.mem_singleton] at he; subst he; exact hin

theorem makeMap_sound (hS : SimH P G ι h w) : ∃ ι', SimH P G ι' (h ++ [some ⟨0, [.mp []]⟩]) (w.alloc (.map #[] 0)) ∧ VRel ι' (h ++ [some ⟨0, [.mp []]⟩]) (w.alloc (.map #[] 0)) (.mref h.length 0) (.map (some w.heap.size)) ∧ Evo h.length ι h w ι' (h ++ [some ⟨0, [.mp []]⟩]) (w.alloc (.map #[] 0)) := by
  obtain ⟨u1, u2⟩ := hS.updG (h' := h ++ [some ⟨0, [.mp []]⟩]) (ι' := fun i => if i = h.length then (w.heap.size, 0) else ι i) (w' := w.alloc (.map #[] 0)) h.length ⟨0, [.mp []]⟩ w.heap.size 0 (.inl ⟨rfl, rfl⟩) (fun i => rfl) (.inl (Nat.le_refl _)) (by simp)
    (fun _ => .inr ⟨[], rfl, by show (w.alloc _).heap[(if h.length = h.length then (w.heap.size, 0) else ι h.length).1]? = _; rw [if_pos rfl]; exact heap_alloc_new w _, by simp, by simp⟩) (by simp) (fun k hk _ => by first | exact heap_alloc_old _ _ hk | exact heap_alloc_old _ _ _ hk) (fun bk hq _ => by simp at hq) rfl rfl rfl
  refine ⟨_, u1, .mref _ _ _ (by simp) (fun bk hq => Nat.zero_le _) (fun _ => by simp), u2⟩
end
end Go.Proofs.Ytkmcecbglomemaa.AM
end

section
set_option linter.unusedVariables false
set_option linter.unusedSimpArgs false
namespace Go.Proofs.Ytkmcecbglomemaa.AM
open Go

section
variable {P : Program} {G : Nat → Option (List PV)} {ι ι' : Nat → Nat × Nat} {h h' : Heap} {w w' : World}

theorem evals_some {ρ : Operand → Option AV} : ∀ {l : List Operand} {vs : List AV}, evals ρ l = some vs → vs.length = l.length ∧ ∀ (i : Nat) x v, l[i]? = some x → vs[i]? = some v → ρ x = some v
  | [], vs, h => by cases h; simp
  | x :: r, vs, h => by
    simp only [evals] at h
    split at h
    · rename_i v vs' h1 h2
      cases h
      obtain ⟨l1, l2⟩ := evals_some h2
      refine ⟨by simp [l1], fun i y u hy hu => ?_⟩
      cases i with
      | zero => simp at hy hu; rw [← hy, ← hu]; exact h1
      | succ i => simp at hy hu; exact l2 i y u hy hu
    · cases h

theorem vrels_evals {ρ : Operand → Value} {ρA : Operand → Option AV} (hρ : ∀ x a, ρA x = some a → VRel ι h w a (ρ x)) {ops : Array Operand} {vs : List AV} (he : evals ρA ops.toList = some vs) :
    VRels ι h w vs (ops.map ρ) := by
  obtain ⟨l1, l2⟩ := evals_some he
  refine ⟨by simpa using l1, fun i x v hx hv => ?_⟩
  simp only [Array.getElem?_map, Option.map_eq_some_iff] at hv
  obtain ⟨o, ho, rfl⟩ := hv
  exact hρ _ _ (l2 i o x (by simpa using ho) hx)

theorem zero_rel {t : Nat} {i : TI} {z : List PV} (ht : tinfo P t = some i) (hz : i.zero = some z) : ∃ v : Value, (∀ w : World, (zeroValue t).run P w = .ok v w) ∧ z.length = v.cells.size ∧
    ∀ (w : World) (o : Nat → Prop) (j : Nat) x u, z[j]? = some x → v.cells[j]? = some u → PRel w o x u := by
  obtain ⟨inf, d, h1, h2, h3, h4, h5, h6⟩ := tinfo_some ht
  rw [hz] at h6
  obtain ⟨v, hv1, hv2⟩ := Option.bind_eq_some_iff.mp h6.symm
  refine ⟨v, fun w => by simp [zeroValue, typeInfo, h1, hv1], ?_, fun w o j x u hx hu => ?_⟩
  · have := (constPVs_rel (w := default) (o := fun _ => False) hv2).1
    simpa using this
  · exact (constPVs_rel (w := w) (o := o) hv2).2.2 j x u hx (by simpa using hu)

theorem sel_rel {t : Bool} {x y : AV} {v u : Value} (hx : VRel ι h w x v) (hy : VRel ι h w y u) : VRel ι h w (selA t x y) (if t then v else u) := by
  unfold selA
  split
  · rename_i a c
    have e1 := hx.bool_inv; have e2 := hy.bool_inv; subst e1; subst e2
    cases t <;> exact .b
  · cases t <;> assumption

theorem mapM_places (F : Array Field) (hF : ∀ f ∈ F.toList, ∃ i, P.info? f.type = some i) :
    (F.mapM fun f => (do Pure.pure (f.offset, ← sizeOf f.type) : Sem (Nat × Nat))).run P w = .ok ((F.toList.map fun f => (f.offset, P.cellsOf f.type)).toArray) w := by
  have key : ∀ l : List Field, (∀ f ∈ l, ∃ i, P.info? f.type = some i) → (l.mapM fun f => (do Pure.pure (f.offset, ← sizeOf f.type) : Sem (Nat × Nat))).run P w = .ok (l.map fun f => (f.offset, P.cellsOf f.type)) w := by
    intro l
    induction l with
    | nil => intro _; rfl
    | cons f r ih =>
      intro hl
      obtain ⟨i, hi⟩ := hl f (by simp)
      simp only [List.mapM_cons, Sem.run_bind, sizeOf, typeInfo, run_program, Result.andThen_ok, hi, Sem.run_pure, List.map_cons]
      have := ih (fun g hg => hl g (by simp [hg]))
      simp only [sizeOf, typeInfo, Sem.run_bind] at this
      rw [this]
      simp [Program.cellsOf, hi]
  rw [Array.mapM_eq_mapM_toList]
  simp only [Sem.run_map, key F.toList hF, Result.andThen_ok]


theorem build_sound {ρ : Operand → Value} {ρA : Operand → Option AV} (hS : SimH P G ι h w) (hρ : ∀ x a, ρA x = some a → VRel ι h w a (ρ x)) {t : Nat} {parts : Array (Nat × Operand)} {cs z : List AV} {i : TI} {z0 : List PV}
    (ht : tinfo P t = some i) (hz : i.zero = some z0)
    (hk : (∃ fs, i.k = .struct fs ∧ fs.all (fun f => f.2.1 != 0) = true ∧ fillA (fun i => (fs[i]?).map fun f => (f.1, f.2.1)) (z0.map .p) (parts.toList.map fun q => (q.1, ρA q.2)) = some cs) ∨
      ∃ n e, i.k = .array n e ∧ sizeA P e ≠ 0 ∧ fillA (fun i => some (i * sizeA P e, sizeA P e)) (z0.map .p) (parts.toList.map fun q => (q.1, ρA q.2)) = some cs) :
    ∃ v, (Instr.build t (parts.map fun q => (q.1, ρ q.2))).run P w = .ok v w ∧ VRel ι h w (.agg cs) v := by
  obtain ⟨inf, d, h1, h2, h3, h4, h5, h6⟩ := tinfo_some ht
  obtain ⟨zv, hzr, hzl, hzv⟩ := zero_rel ht hz
  have hz1 : (z0.map AV.p).length = zv.cells.size := by simpa using hzl
  have hz2 : ∀ (j : Nat) x v, (z0.map AV.p)[j]? = some x → zv.cells[j]? = some v → VRel ι h w x v := by
    intro j x v hx hv
    simp only [List.getElem?_map, Option.map_eq_some_iff] at hx
    obtain ⟨y, hy, rfl⟩ := hx
    exact .p _ _ (hzv w _ j y v hy hv)
  rcases hk with ⟨fs, hk, hall, hf⟩ | ⟨n, e, hk, hs, hf⟩
  · rw [hk] at h3
    obtain ⟨F, rfl, rfl⟩ := kind_struct h3
    have hF : ∀ f ∈ F.toList, ∃ i, P.info? f.type = some i := by
      intro f hf
      simp only [List.all_map, List.all_eq_true, Function.comp_apply, bne_iff_ne, ne_eq] at hall
      have := hall f hf
      unfold Program.cellsOf at this
      cases hq : P.info? f.type with
      | none => rw [hq] at this; simp at this
      | some i => exact ⟨i, rfl⟩
    have hpl : (fun i : Nat => ((F.toList.map fun f => (f.offset, P.cellsOf f.type, f.type))[i]?).map fun f : Nat × Nat × Nat => (f.1, f.2.1)) = (fun i : Nat => (F.toList.map fun f => (f.offset, P.cellsOf f.type)).toArray[i]?) := by
      funext i
      simp
      rfl
    rw [hpl] at hf
    obtain ⟨d', e1, e2, e3, e4⟩ := fill_sound hρ _ parts.toList (z0.map .p) cs zv.cells hz1 hz2 hf
    refine ⟨.agg d', ?_, .agg _ _ e2 e4⟩
    have hm := mapM_places (P := P) (w := w) F hF
    simp only [Instr.build, Sem.run_bind, hzr w, Result.andThen_ok, run_underlying h2, Sem.run_pure] at hm ⊢
    rw [hm]
    simp only [Result.andThen_ok, Array.toList_map, e1]
    rfl
  · rw [hk] at h3
    have := kind_array h3; subst this
    obtain ⟨d', e1, e2, e3, e4⟩ := fill_sound hρ _ parts.toList (z0.map .p) cs zv.cells hz1 hz2 hf
    refine ⟨.agg d', ?_, .agg _ _ e2 e4⟩
    simp only [Instr.build, Sem.run_bind, hzr w, Result.andThen_ok, run_underlying h2, run_sizeA hs, Array.toList_map, e1]
    rfl

theorem not_own_size (hS : SimH P G ι h w) : ¬ own ι h w.heap.size := fun ho => by have := own_lt hS ho; omega

theorem alloc_garbage (hS : SimH P G ι h w) (o : Obj) : SimH P G ι h (w.alloc o) ∧ Evo h.length ι h w ι h (w.alloc o) :=
  hS.garbage (by simp) (fun k hk => by first | exact heap_alloc_old _ _ hk | exact heap_alloc_old _ _ _ hk) rfl rfl rfl

/-- An empty block is told of. -/
theorem SimH.lay (hS : SimH P G ι h w) : SimH P G ι (h ++ [some ⟨0, []⟩]) w ∧ Evo h.length ι h w ι (h ++ [some ⟨0, []⟩]) w := by
  have hlo : ∀ (b : Nat) (bk : Blk), (h ++ [some ⟨0, []⟩])[b]? = some (some bk) → bk.cells ≠ [] → h[b]? = some (some bk) := by
    intro b bk hb hne
    rcases Nat.lt_or_ge b h.length with hl | hl
    · rwa [List.getElem?_append_left hl] at hb
    · rw [List.getElem?_append_right hl] at hb
      cases hq : b - h.length with
      | zero => rw [hq] at hb; simp at hb; subst hb; exact absurd rfl hne
      | succ i => rw [hq] at hb; simp at hb
  have ho : ∀ k, own ι (h ++ [some ⟨0, []⟩]) k → own ι h k := fun k ⟨b, bk, q1, q2, q3⟩ => ⟨b, bk, hlo b bk q1 q2, q2, q3⟩
  have he : Evo h.length ι h w ι (h ++ [some ⟨0, []⟩]) w := ⟨Nat.le_refl _, fun k hk hn => ⟨rfl, fun e => hn (ho k e)⟩, by simp, fun b bk' hb hq => ⟨bk', by rwa [List.getElem?_append_left hb] at hq, Nat.le_refl _, fun _ => ⟨rfl, id, fun cs ty fr hc => ⟨cs, ty, fr, hc, rfl⟩⟩⟩, rfl, rfl, rfl, Nat.le_refl _⟩
  refine ⟨⟨⟨fun b bk hb hne => ?_, fun b b' bk bk' q1 q2 n1 n2 e => hS.hr.inj b b' bk bk' (hlo b bk q1 n1) (hlo b' bk' q2 n2) n1 n2 e⟩,
    fun g cells hg => (hS.gr g cells hg).mono (Nat.le_refl _) fun k _ hn => ⟨rfl, fun e => hn (ho k e)⟩⟩, he⟩
  exact (hS.hr.blk b bk (hlo b bk hb hne) hne).keep rfl rfl (fun x _ v hv => hv.evo he) (Nat.le_refl _) fun k _ hn => ⟨rfl, fun e => hn (ho k e)⟩

theorem buildSlice_sound {ρ : Operand → Value} {ρA : Operand → Option AV} (hS : SimH P G ι h w) (hρ : ∀ x a, ρA x = some a → VRel ι h w a (ρ x)) {t e size by1 s1 b1 : Nat} {zz : Option (List PV)} {kk : TK} {len : Nat} {parts : Array (Nat × Operand)} {z : List PV} {cs : List AV}
    (ht : tinfo P t = some ⟨.slice e, s1, b1, zz⟩) (he : tinfo P e = some ⟨kk, size, by1, some z⟩) (hlen : len * size ≤ 10000) (hzl : z.length = size) (hsz : size ≠ 0)
    (hf : fillA (fun i => some (i * size, size)) ((List.replicate len (z.map .p)).flatMap id) (parts.toList.map fun q => (q.1, ρA q.2)) = some cs) :
    ∃ arr, (Instr.buildSlice t len (parts.map fun q => (q.1, ρ q.2))).run P w = .ok (.slice (some ⟨w.heap.size, 0, none⟩) len len) (w.alloc (.cells arr e)) ∧ cs.length = len * size ∧ arr.size = cs.length ∧
      ∀ (i : Nat) x v, cs[i]? = some x → arr[i]? = some v → VRel ι h w x v := by
  obtain ⟨inf, d, h1, h2, h3, h4, h5, h6⟩ := tinfo_some ht
  have := kind_slice h3; subst this
  obtain ⟨zv, hzr, hzl', hzv⟩ := zero_rel he rfl
  have hzs : zv.cells.size = size := by omega
  have hrl : ∀ row ∈ List.replicate len (z.map AV.p), row.length = size := by
    intro row hr; rw [List.eq_of_mem_replicate hr]; simpa using hzl
  have hfl := flat_length _ hrl
  rw [List.length_replicate] at hfl
  let arr0 : Array Value := (Array.range (len * size)).map (fun k => (if len * size = 0 then (#[] : Array Value) else zv.cells)[k % (if len * size = 0 then (#[] : Array Value) else zv.cells).size]!)
  have ha0 : ((List.replicate len (z.map AV.p)).flatMap id).length = arr0.size := by simp only [arr0, Array.size_map, Array.size_range, hfl]
  have ha1 : ∀ (j : Nat) x v, ((List.replicate len (z.map AV.p)).flatMap id)[j]? = some x → arr0[j]? = some v → VRel ι h w x v := by
    intro j x v hx hv
    have hj := getElem?_lt hx
    rw [hfl] at hj
    have hne : len * size ≠ 0 := by omega
    have hm : j % size < size := Nat.mod_lt _ (by omega)
    have hdm : j / size * size + j % size = j := by rw [Nat.mul_comm]; exact Nat.div_add_mod j size
    have := flat_get _ hrl (j / size) (j % size) hm
    rw [hdm, hx] at this
    have hv2 : zv.cells[j % size]? = some v := by
      simp only [arr0, hne, if_false, Array.getElem?_map, Option.map_eq_some_iff] at hv
      obtain ⟨k, hk, hkv⟩ := hv
      have : k = j := by
        have hjr : j < (Array.range (len * size)).size := by simpa using hj
        rw [Array.getElem?_eq_getElem hjr] at hk
        simpa using hk.symm
      subst this
      have hlt : k % zv.cells.size < zv.cells.size := by rw [hzs]; exact hm
      rw [getElem!_pos zv.cells _ hlt] at hkv
      rw [← hkv, Array.getElem?_eq_getElem (by rw [hzs]; exact hm)]
      simp only [hzs]
    unfold get2 at this
    have hi : j / size < len := by
      rw [Nat.div_lt_iff_lt_mul (by omega)]; exact hj
    rw [List.getElem?_replicate, if_pos hi] at this
    simp only [Option.bind_some, List.getElem?_map] at this
    obtain ⟨y, hy, hyx⟩ := Option.map_eq_some_iff.mp this.symm
    rw [← hyx]
    exact .p _ _ (hzv w _ _ y v hy hv2)
  obtain ⟨arr, e1, e2, e3, e4⟩ := fill_sound hρ _ parts.toList _ cs arr0 ha0 ha1 hf
  refine ⟨arr, ?_, by rw [e3, hfl], e2.symm, e4⟩
  have h24 : ¬ len * size > 2 ^ 24 := by omega
  simp only [Instr.buildSlice, Sem.run_bind, run_underlying h2, Result.andThen_ok, run_sizeOf' he, h24, if_false, Sem.run_pure]
  by_cases hz0 : len * size = 0
  · simp only [hz0, if_true, Sem.run_pure, Result.andThen_ok]
    simp only [arr0, hz0, if_true] at e1
    simp only [Array.toList_map, e1, Sem.run_bind, newRow, run_newObj, Result.andThen_ok, Sem.run_pure]
    rfl
  · simp only [hz0, if_false, Sem.run_bind, hzr w, Result.andThen_ok, Sem.run_pure]
    simp only [arr0, hz0, if_false] at e1
    simp only [Array.toList_map, e1, Sem.run_bind, newRow, run_newObj, Result.andThen_ok, Sem.run_pure]
    rfl


theorem op_value {m : Sem Value} {o : Oper} (hS : SimH P G ι h w) {r : AV} {v : Value} (hm : m.run P w = .ok v w) (hr : VRel ι h w r v) : Sound P G ι h w (do Pure.pure (.value (← m)) : Sem Next) r h :=
  .pure hS (by simp [Sem.run_bind, hm]) hr

theorem op_value' {m : Sem Value} {r : AV} {v : Value} {w' : World} {ι' : Nat → Nat × Nat} (hm : m.run P w = .ok v w') (hS : SimH P G ι' h' w') (hr : VRel ι' h' w' r v) (he : Evo h.length ι h w ι' h' w') :
    Sound P G ι h w (do Pure.pure (.value (← m)) : Sem Next) r h' := ⟨v, w', ι', .inl (by simp [Sem.run_bind, hm]), hS, hr, he⟩

theorem box_sound (hS : SimH P G ι h w) (t : Nat) {cs : List AV} {vs : Array Value} (hne : cs ≠ []) (hl : cs.length = vs.size) (hv : ∀ (i : Nat) x v, cs[i]? = some x → vs[i]? = some v → VRel ι h w x v) :
    ∃ w' ι', w' = w.alloc (.cells vs t) ∧ SimH P G ι' (h ++ [some ⟨0, cs⟩]) w' ∧ VRel ι' (h ++ [some ⟨0, cs⟩]) w' (.ptr h.length 0 0) (.pointer (some ⟨w.heap.size, 0, none⟩)) ∧ Evo h.length ι h w ι' (h ++ [some ⟨0, cs⟩]) w' := by
  obtain ⟨q1, q2⟩ := alloc_sound hS cs hne vs t (Nat.le_of_eq hl) hv
  refine ⟨_, _, rfl, q1, ?_, q2⟩
  have hl : liveAt (h ++ [some ⟨0, cs⟩]) h.length 0 := ⟨_, by simp; rfl, rfl⟩
  have := ptr_rel (ι := fun i => if i = h.length then (w.heap.size, 0) else ι i) (w := w.alloc (.cells vs t)) hl ⟨vs, t, (0, 0), by rw [if_pos rfl]; exact heap_alloc_new w _⟩ 0
  simpa using this

theorem arr1 {x : AV} {vs : Array Value} (hv : VRels ι h w [x] vs) : ∃ v, vs = #[v] ∧ VRel ι h w x v := by
  obtain ⟨h1, h2⟩ := hv
  have hs : vs.size = 1 := by simpa using h1.symm
  refine ⟨vs[0], ?_, h2 0 x _ rfl (by simp [hs])⟩
  apply Array.ext (by simpa using hs)
  intro i a b
  have : i = 0 := by simp at b; omega
  subst this; rfl

theorem arr2 {x y : AV} {vs : Array Value} (hv : VRels ι h w [x, y] vs) : ∃ v u, vs = #[v, u] ∧ VRel ι h w x v ∧ VRel ι h w y u := by
  obtain ⟨h1, h2⟩ := hv
  have hs : vs.size = 2 := by simpa using h1.symm
  refine ⟨vs[0], vs[1], ?_, h2 0 x _ rfl (by simp [hs]), h2 1 y _ rfl (by simp [hs])⟩
  apply Array.ext (by simpa using hs)
  intro i a b
  have : i = 0 ∨ i = 1 := by simp at b; omega
  rcases this with rfl | rfl <;> rfl

theorem rep_get0 {α : Type} {l : List α} {sz : Nat} (hl : l.length = sz) : ∀ (n j : Nat) (x : α), ((List.replicate n l).flatMap id)[j]? = some x → j < n * sz ∧ l[j % sz]? = some x
  | 0, j, x, h => by simp at h
  | n + 1, j, x, h => by
    simp only [List.replicate_succ, List.flatMap_cons, id_eq] at h
    rcases Nat.lt_or_ge j sz with hj | hj
    · rw [List.getElem?_append_left (by omega)] at h
      refine ⟨?_, by rw [Nat.mod_eq_of_lt hj]; exact h⟩
      rw [Nat.add_mul]; omega
    · rw [List.getElem?_append_right (by omega), hl] at h
      obtain ⟨h1, h2⟩ := rep_get0 hl n (j - sz) x h
      refine ⟨by rw [Nat.add_mul]; omega, ?_⟩
      have : (j - sz) % sz = j % sz := by
        have : j = (j - sz) + sz := by omega
        conv => rhs; rw [this]
        exact (Nat.add_mod_right _ _).symm
      rw [← this]; exact h2
theorem rep_len0 {α : Type} {l : List α} {sz : Nat} (hl : l.length = sz) : ∀ n : Nat, ((List.replicate n l).flatMap id).length = n * sz
  | 0 => by simp
  | n + 1 => by
    simp only [List.replicate_succ, List.flatMap_cons, id_eq, List.length_append, rep_len0 hl n, hl, Nat.add_mul]; omega
theorem builtin_sound (hS : SimH P G ι h w) {b : Builtin} {ats : Array TypeId} {ty : TypeId} {consts : Array Bool} {xs : List AV} {vs : Array Value} {r : AV}
    (hv : VRels ι h w xs vs) (hop : builtinA P b ats.toList xs h = some (r, h')) : Sound P G ι h w (builtin b ats ty consts vs) r h' := by
  unfold builtinA at hop
  split at hop
  · -- len
    rename_i t x hat
    obtain ⟨v, rfl, hx⟩ := arr1 hv
    have hat' : ats = #[t] := by have := congrArg List.toArray hat; simpa using this
    subst hat'
    split at hop
    · rename_i e s1 b1 z1 ht
      obtain ⟨n, hn, he⟩ := Option.map_eq_some_iff.mp hop
      simp only [Prod.mk.injEq] at he; obtain ⟨rfl, rfl⟩ := he
      obtain ⟨_, d, _, u1, k1, _⟩ := tinfo_some ht
      have := kind_slice k1; subst this
      split at hn
      · cases hn
      · rename_i hns
        obtain ⟨_, hle, hcase⟩ := len_sound hx hn
        refine .pure hS (v := .int .i64 n) ?_ (.int _ _ (inr64 hle))
        rcases hcase with ⟨A, cc, rfl⟩ | ⟨s, rfl, rfl⟩
        · simp [builtin, Builtin.len_, Sem.run_bind, run_underlying u1, goInt]
        · cases hx with
          | p _ _ hx => cases hx; exact absurd rfl (hns _)
    · rename_i s1 b1 z1 ht
      split at hop
      · rename_i s
        cases hop
        obtain ⟨_, d, _, u1, k1, _⟩ := tinfo_some ht
        have := kind_str k1; subst this
        cases hx with
        | p _ _ hx =>
          cases hx
          rename_i hs
          exact .pure hS (v := .int .i64 s.size) (by simp [builtin, Builtin.len_, Sem.run_bind, run_underlying u1, goInt]) (.int _ _ (inr64 (by omega)))
      · cases hop
    · rename_i n e s1 b1 z1 ht
      split at hop
      case isFalse => cases hop
      rename_i hn
      cases hop
      obtain ⟨_, d, _, u1, k1, _⟩ := tinfo_some ht
      have := kind_array k1; subst this
      exact .pure hS (v := .int .i64 n) (by simp [builtin, Builtin.len_, Sem.run_bind, run_underlying u1, goInt]) (.int _ _ (inr64 (by omega)))
    · cases hop
  · -- append
    rename_i t u x y hat
    obtain ⟨v, q, rfl, hx, hy⟩ := arr2 hv
    have hat' : ats = #[t, u] := by have := congrArg List.toArray hat; simpa using this
    subst hat'
    split at hop
    case isFalse => cases hop
    rename_i hu
    subst hu
    obtain ⟨z, w', ι', e1, e2, e3, e4⟩ := append_sound hS ty hx hy hop
    exact ⟨z, w', ι', .inl (by simp [builtin, Sem.run_bind, e1]), e2, e3, e4⟩
  · -- max
    rename_i k a k' c
    obtain ⟨v, q, rfl, hx, hy⟩ := arr2 hv
    split at hop
    case isFalse => cases hop
    rename_i hk
    subst hk
    cases hop
    obtain ⟨rfl, r1⟩ := hx.int_inv
    obtain ⟨rfl, r2⟩ := hy.int_inv
    refine .pure hS (v := .int k (if a < c then c else a)) (by simp [builtin, Sem.run_bind, Builtin.max_, Builtin.max2]) (.int _ _ (by split <;> assumption))
  · -- min
    rename_i k a k' c
    obtain ⟨v, q, rfl, hx, hy⟩ := arr2 hv
    split at hop
    case isFalse => cases hop
    rename_i hk
    subst hk
    cases hop
    obtain ⟨rfl, r1⟩ := hx.int_inv
    obtain ⟨rfl, r2⟩ := hy.int_inv
    refine .pure hS (v := .int k (if c < a then c else a)) (by simp [builtin, Sem.run_bind, Builtin.min_, Builtin.min2]) (.int _ _ (by split <;> assumption))
  · -- clear
    rename_i t b g off sz len hat
    obtain ⟨v, rfl, hx⟩ := arr1 hv
    have hat' : ats = #[t] := by have := congrArg List.toArray hat; simpa using this
    subst hat'
    split at hop
    case h_2 => cases hop
    rename_i e s1 b1 z1 ht
    split at hop
    case h_2 => cases hop
    rename_i kk size bytes z he
    obtain ⟨cells, hb, hop⟩ := Option.bind_eq_some_iff.mp hop
    split at hop
    case isFalse => cases hop
    rename_i hc
    obtain ⟨c1, rfl, c3, c4, c5⟩ := hc
    cases hop
    obtain ⟨_, d, _, u1, k1, _⟩ := tinfo_some ht
    have := kind_slice k1; subst this
    obtain ⟨zv, hzr, hzl, hzv⟩ := zero_rel he rfl
    have hq := blkAt_some hb
    obtain ⟨A, c, rfl, hn, hcase⟩ := hx.ref_inv (blkAt_live hb)
    rcases hcase with ⟨h0, _⟩ | ⟨rfl, hlc, ⟨bk0, hq0, hne⟩, cs0, ty1, fr1, hcc, hfit⟩
    · exact absurd h0 c1
    rw [hq] at hq0; cases hq0
    obtain ⟨c0, ty0, hc0, hl0, hv0⟩ := (hS.hr.blk b _ hq hne).cells hcc
    have hl0' : (ι b).2 + cells.length ≤ c0.size := hl0
    have hzs : zv.cells.size = sz := by rw [← hzl]; exact c4
    obtain ⟨vals, hvals⟩ : ∃ vals, vals = (Builtin.zeroCells zv.cells len).toList := ⟨_, rfl⟩
    have hvl : vals.length = len * sz := by rw [hvals]; simp [Builtin.zeroCells, hzs]
    have hrl := rep_len0 (l := z.map AV.p) (sz := sz) (by simpa using c4) len
    have hrv : ∀ (j : Nat) x v, ((List.replicate len (z.map AV.p)).flatMap id)[j]? = some x → vals[j]? = some v → VRel ι h w x v := by
      intro j x v hx hv
      obtain ⟨hj, hx⟩ := rep_get0 (l := z.map AV.p) (by simpa using c4) len j x hx
      simp only [List.getElem?_map, Option.map_eq_some_iff] at hx
      obtain ⟨y, hy, rfl⟩ := hx
      have hm : j % sz < zv.cells.size := by rw [hzs]; exact Nat.mod_lt _ (by omega)
      have hv' : v = zv.cells[j % sz] := by
        rw [hvals, Array.getElem?_toList] at hv
        simp only [Builtin.zeroCells, hzs, Array.getElem?_map, Array.getElem?_range] at hv
        rw [if_pos hj] at hv
        simp only [Option.map_some, Option.some.injEq] at hv
        rw [← hv]
        simp [hm]
      subst hv'
      exact .p _ _ (hzv w _ _ y _ hy (by simp [hm]))
    have h1 : ∀ v ∈ vals, v.oneCell' = true := by
      intro v hv
      obtain ⟨j, hj, rfl⟩ := List.getElem_of_mem hv
      have hj2 : j < ((List.replicate len (z.map AV.p)).flatMap id).length := by rw [hrl, ← hvl]; exact hj
      obtain ⟨x, hx⟩ : ∃ x, ((List.replicate len (z.map AV.p)).flatMap id)[j]? = some x := ⟨_, List.getElem?_eq_getElem hj2⟩
      obtain ⟨_, hx'⟩ := rep_get0 (l := z.map AV.p) (by simpa using c4) len j x hx
      simp only [List.getElem?_map, Option.map_eq_some_iff] at hx'
      obtain ⟨y, _, rfl⟩ := hx'
      exact (hrv j _ _ hx (by simp)).oneCell rfl
    have hst := run_storeCells_at P (ι b).1 ((ι b).2 + off) ty0 vals 0 c0 w hc0 (by rw [hvl]; simp only [Nat.add_zero]; omega) h1
    simp only [Nat.add_zero] at hst
    obtain ⟨m, hm⟩ : ∃ m, len = m + 1 := ⟨len - 1, by omega⟩
    have hrun : (builtin .clear #[t] ty consts #[.slice (some ⟨(ι b).1, (ι b).2 + off, none⟩) len c]).run P w =
        .ok (.value (.tuple #[])) (w.setRow (ι b).1 (c0.toList.take ((ι b).2 + off) ++ vals ++ c0.toList.drop ((ι b).2 + off + vals.length)).toArray) := by
      rw [hvals] at hst ⊢
      rw [hm] at hst ⊢
      simp [builtin, Builtin.clear_, Sem.run_bind, run_underlying u1, hzr, hst]
    have hnew := setRow_heap w (ι b).1 c0 (c0.toList.take ((ι b).2 + off) ++ vals ++ c0.toList.drop ((ι b).2 + off + vals.length)).toArray ty0 _ hc0
    have hfitv : (ι b).2 + off + vals.length ≤ c0.size := by rw [hvl]; omega
    have hasz : (c0.toList.take ((ι b).2 + off) ++ vals ++ c0.toList.drop ((ι b).2 + off + vals.length)).toArray.size = c0.size := by
      simp only [List.size_toArray, List.length_append, List.length_take, List.length_drop, Array.length_toList]; omega
    have hblt := getElem?_lt hq
    have hcl : (cells.take off ++ ((List.replicate len (z.map AV.p)).flatMap id ++ cells.drop (off + len * sz))).length = cells.length := by
      simp only [List.length_append, List.length_take, List.length_drop, hrl]; omega
    have hcn : (cells.take off ++ ((List.replicate len (z.map AV.p)).flatMap id ++ cells.drop (off + len * sz))) ≠ [] := by
      intro e; have := congrArg List.length e; rw [hcl] at this; exact hne (List.length_eq_zero_iff.mp this)
    obtain ⟨u1, u2⟩ := hS.upd (h' := h.set b (some ⟨g, cells.take off ++ ((List.replicate len (z.map AV.p)).flatMap id ++ cells.drop (off + len * sz))⟩)) (ι' := ι) (w' := w.setRow (ι b).1 (c0.toList.take ((ι b).2 + off) ++ vals ++ c0.toList.drop ((ι b).2 + off + vals.length)).toArray) b
      ⟨g, cells.take off ++ ((List.replicate len (z.map AV.p)).flatMap id ++ cells.drop (off + len * sz))⟩ (ι b).1 (ι b).2 _ ty0 (.inr ⟨hblt, ⟨_, hq, Nat.le_refl _⟩, rfl⟩) (fun i => by split <;> rename_i q <;> first | (subst q; rfl) | rfl)
      (.inr ⟨_, hq, hne, rfl, fun cs2 ty2 fr2 hx => by rw [hc0] at hx; injection hx with hx; injection hx with hx _ _; subst hx; exact hasz⟩) hcn hnew (by rw [hasz, hcl]; exact hl0')
      (fun j x hx => by
        simp only [List.getElem?_toArray]
        rw [splice_get c0.toList vals _ _ (by simpa using hfitv)]
        rcases Nat.lt_or_ge j off with a | a
        · rw [List.getElem?_append_left (by rw [List.length_take]; omega), List.getElem?_take_of_lt a] at hx
          obtain ⟨v, p1, p2⟩ := hv0 j x hx
          exact ⟨v, by rw [if_pos (by omega)]; simpa using p1, p2⟩
        · have hol : (cells.take off).length = off := by rw [List.length_take]; omega
          rw [List.getElem?_append_right (by omega), hol] at hx
          rcases Nat.lt_or_ge (j - off) (len * sz) with a2 | a2
          · rw [List.getElem?_append_left (by rw [hrl]; exact a2)] at hx
            refine ⟨vals[j - off]'(by rw [hvl]; exact a2), ?_, hrv _ x _ hx (by simp)⟩
            rw [if_neg (by omega), if_pos (by rw [hvl]; omega), show (ι b).2 + j - ((ι b).2 + off) = j - off by omega]
            simp
          · rw [List.getElem?_append_right (by rw [hrl]; exact a2), hrl, List.getElem?_drop, show off + len * sz + (j - off - len * sz) = j by omega] at hx
            obtain ⟨v, p1, p2⟩ := hv0 j x hx
            exact ⟨v, by rw [if_neg (by omega), if_neg (by rw [hvl]; omega)]; simpa using p1, p2⟩)
      (by simp) (fun k hk hkk => setRow_other w _ k _ hkk) (fun bk _ _ => rfl) rfl rfl rfl
    exact ⟨_, _, _, .inl hrun, u1, .tup _ _ rfl (fun i x v hx => by simp at hx), u2⟩
  · cases hop

theorem rep_get {α : Type} {l : List α} {sz : Nat} (hl : l.length = sz) : ∀ (n j : Nat) (x : α), ((List.replicate n l).flatMap id)[j]? = some x → j < n * sz ∧ l[j % sz]? = some x
  | 0, j, x, h => by simp at h
  | n + 1, j, x, h => by
    simp only [List.replicate_succ, List.flatMap_cons, id_eq] at h
    rcases Nat.lt_or_ge j sz with hj | hj
    · rw [List.getElem?_append_left (by omega)] at h
      refine ⟨?_, by rw [Nat.mod_eq_of_lt hj]; exact h⟩
      rw [Nat.add_mul]; omega
    · rw [List.getElem?_append_right (by omega), hl] at h
      obtain ⟨h1, h2⟩ := rep_get hl n (j - sz) x h
      refine ⟨by rw [Nat.add_mul]; omega, ?_⟩
      have : (j - sz) % sz = j % sz := by
        have : j = (j - sz) + sz := by omega
        conv => rhs; rw [this]
        exact (Nat.add_mod_right _ _).symm
      rw [← this]; exact h2

theorem rep_len {α : Type} {l : List α} {sz : Nat} (hl : l.length = sz) : ∀ n : Nat, ((List.replicate n l).flatMap id).length = n * sz
  | 0 => by simp
  | n + 1 => by
    simp only [List.replicate_succ, List.flatMap_cons, id_eq, List.length_append, rep_len hl n, hl, Nat.add_mul]; omega

/-- A row that is made, of zeros. -/
theorem make_sound (hS : SimH P G ι h w) {t e size bytes s1 b1 : Nat} {zz : Option (List PV)} {kk : TK} {z : List PV} {n : Int} (k1 k2 : IntKind) (ht : tinfo P t = some ⟨.slice e, s1, b1, zz⟩) (he : tinfo P e = some ⟨kk, size, bytes, some z⟩)
    (h0 : 0 ≤ n) (hn : n ≤ 16777216) (hb : bytes ≤ 1048576) (hz : z.length = size) (hs : size ≠ 0) :
    ∃ arr : Array Value, (Instr.makeSlice t (.int k1 n) (.int k2 n)).run P w = .ok (.slice (some ⟨w.heap.size, 0, none⟩) n.toNat n.toNat) (w.alloc (.cells arr e)) ∧ arr.size = n.toNat * size ∧
      ∀ (j : Nat) x v, ((List.replicate n.toNat (z.map AV.p)).flatMap id)[j]? = some x → arr[j]? = some v → VRel ι h w x v := by
  obtain ⟨inf, d, h1, h2, h3, h4, h5, h6⟩ := tinfo_some ht
  have := kind_slice h3; subst this
  obtain ⟨ie, de, g1, g2, g3, g4, g5, g6⟩ := tinfo_some he
  obtain ⟨zv, hz1, hz2⟩ := Option.bind_eq_some_iff.mp g6.symm
  obtain ⟨l1, _, l3⟩ := constPVs_rel (w := w) (o := own ι h) hz2
  have hzs : zv.cells.size = size := by rw [← hz, l1]; simp
  have hby : (ie.bytes : Int) * n ≤ 281474976710656 := by
    have e1 : (ie.bytes : Int) ≤ 1048576 := by have : ie.bytes = bytes := g5; omega
    have e2 : (ie.bytes : Int) * n ≤ 1048576 * n := Int.mul_le_mul_of_nonneg_right e1 h0
    omega
  refine ⟨madeCells zv.cells (n.toNat * size), ?_, size_madeCells _ _, fun j x v hx hv => ?_⟩
  · have := run_make (P := P) w t e ie zv h2 g1 hz1 k1 k2 n n h0 (Int.le_refl _) hby (by omega)
    rw [g4] at this
    exact this
  · obtain ⟨hj, hx⟩ := rep_get (by simpa using hz) n.toNat j x hx
    simp only [List.getElem?_map, Option.map_eq_some_iff] at hx
    obtain ⟨y, hy, rfl⟩ := hx
    have hm : j % size < zv.cells.size := by rw [hzs]; exact Nat.mod_lt _ (by omega)
    unfold madeCells at hv
    simp only [Array.getElem?_map, Option.map_eq_some_iff] at hv
    obtain ⟨i, hi, rfl⟩ := hv
    have hij : i = j := by
      simp only [Array.getElem?_range] at hi
      by_cases hc : j < n.toNat * size
      · simp [hc] at hi; exact hi.symm
      · simp [hc] at hi
    subst hij
    rw [hzs]
    have e : zv.cells[i % size]! = zv.cells[i % size] := by simp [hm]
    rw [e]
    exact .p _ _ (l3 (i % size) y _ hy (by simp [hm]))

theorem opA_sound {rl : List String} {o : Oper} {ρ : Operand → Value} {ρA : Operand → Option AV} {r : AV} (hS : SimH P G ι h w) (hρ : ∀ x a, ρA x = some a → VRel ι h w a (ρ x)) (hop : opA P rl o ρA h = some (r, h')) :
    Sound P G ι h w (execOp ρ o) r h' := by
  unfold opA at hop
  unfold execOp
  split at hop
  · -- move
    rename_i x ho
    obtain ⟨a, ha, he⟩ := Option.map_eq_some_iff.mp hop
    simp only [Prod.mk.injEq] at he; obtain ⟨rfl, rfl⟩ := he
    simp only [ho]
    exact .pure hS rfl (hρ x a ha)
  · rename_i x ho
    obtain ⟨a, ha, he⟩ := Option.map_eq_some_iff.mp hop
    simp only [Prod.mk.injEq] at he; obtain ⟨rfl, rfl⟩ := he
    simp only [ho]
    exact .pure hS rfl (hρ x a ha)
  · -- pick
    rename_i c a b ho
    split at hop
    · rename_i t x y hc ha hb
      cases hop
      simp only [ho]
      have e := (hρ c _ hc).bool_inv
      exact .pure hS (by simp [Sem.run_bind, e, asBool]) (sel_rel (hρ a x ha) (hρ b y hb))
    · cases hop
  · -- alloc
    rename_i t ho
    split at hop
    · rename_i kk s1 b1 z ht
      split at hop
      · cases hop
      · rename_i hz0
        cases hop
        simp only [ho]
        obtain ⟨zv, hzr, hzl, hzv⟩ := zero_rel ht rfl
        obtain ⟨w', ι', rfl, q1, q2, q3⟩ := box_sound hS t (cs := z.map .p) (vs := zv.cells) (by simpa using hz0) (by simpa using hzl) (fun j x v hx hv => by
          simp only [List.getElem?_map, Option.map_eq_some_iff] at hx
          obtain ⟨y, hy, rfl⟩ := hx
          exact .p _ _ (hzv w _ j y v hy hv))
        refine op_value' (w' := w.alloc (.cells zv.cells t)) ?_ q1 q2 q3
        simp [Instr.alloc, Sem.run_bind, hzr w, newVar, newRow]
    · cases hop
  · -- box
    rename_i t x ho
    split at hop
    · rename_i cs hcs
      split at hop
      · cases hop
      · rename_i hne
        cases hop
        simp only [ho]
        obtain ⟨a, ha, hca⟩ := Option.bind_eq_some_iff.mp hcs
        obtain ⟨q1, q2, q3⟩ := cellsA_rel (hρ x a ha) hca
        obtain ⟨w', ι', rfl, p1, p2, p3⟩ := box_sound hS t (cs := cs) (vs := (ρ x).cells) (by simpa using hne) q1 q3
        refine op_value' (w' := w.alloc (.cells (ρ x).cells t)) ?_ p1 p2 p3
        simp [Instr.box, Sem.run_bind, newVar, newRow]
    · cases hop
  · -- build
    rename_i t parts ho
    simp only [ho]
    split at hop
    · rename_i fs s1 b1 z ht
      split at hop
      case isFalse => cases hop
      rename_i hall
      obtain ⟨cs, hcs, he⟩ := Option.map_eq_some_iff.mp hop
      simp only [Prod.mk.injEq] at he; obtain ⟨rfl, rfl⟩ := he
      obtain ⟨v, e1, e2⟩ := build_sound (z := []) hS hρ ht rfl (.inl ⟨fs, rfl, hall, hcs⟩)
      exact op_value (o := o) hS e1 e2
    · rename_i n e s1 b1 z ht
      split at hop
      case isFalse => cases hop
      rename_i hs
      obtain ⟨cs, hcs, he⟩ := Option.map_eq_some_iff.mp hop
      simp only [Prod.mk.injEq] at he; obtain ⟨rfl, rfl⟩ := he
      obtain ⟨v, e1, e2⟩ := build_sound (z := []) hS hρ ht rfl (.inr ⟨n, e, rfl, hs, hcs⟩)
      exact op_value (o := o) hS e1 e2
    · cases hop
  · -- buildSlice
    rename_i t len parts ho
    simp only [ho]
    split at hop
    case h_2 => cases hop
    rename_i e s1 b1 zz ht
    split at hop
    case h_2 => cases hop
    rename_i kk size by1 z he
    split at hop
    case isFalse => cases hop
    rename_i hc
    obtain ⟨c1, c2, c3⟩ := hc
    split at hop
    case h_2 => cases hop
    rename_i cs hf
    obtain ⟨arr, e1, e2, e3, e4⟩ := buildSlice_sound hS hρ ht he c1 c2 c3 hf
    obtain ⟨g1, g2⟩ := alloc_garbage hS (.cells arr e)
    have hnc : ¬ own ι h w.heap.size := not_own_size hS
    split at hop
    · rename_i hz; subst hz
      split at hop
      · cases hop
        obtain ⟨q1, q2⟩ := g1.lay
        exact op_value' e1 q1 (.ref _ _ _ _ _ _ _ (by omega) (by simp) (fun bk hq => Nat.zero_le _) fun _ => .inl ⟨rfl, rfl⟩) (g2.trans q2 g2.len)
      · cases hop
        exact op_value' e1 g1 (.p _ _ (.slz _ _)) g2
    · rename_i hz
      have hlb : len ≤ 9223372036854775807 := by
        have : len * 1 ≤ len * size := Nat.mul_le_mul_left _ (by omega)
        omega
      split at hop
      · cases hop
        have hne : cs ≠ [] := by
          intro e0; subst e0
          have : 0 < len * size := Nat.mul_pos (by omega) (by omega)
          simp at e2; omega
        obtain ⟨q1, q2⟩ := alloc_sound hS cs hne arr e (Nat.le_of_eq e3.symm) e4
        refine op_value' e1 q1 ?_ q2
        have hl : liveAt (h ++ [some ⟨0, cs⟩]) h.length 0 := ⟨_, by simp; rfl, rfl⟩
        exact .ref _ _ _ _ _ _ _ hlb (live_g hl).1 (live_g hl).2 fun _ => .inr ⟨by simp, Nat.le_refl _, ⟨⟨0, cs⟩, by simp, hne⟩, arr, e, (0, 0), by simpa using heap_alloc_new w _, by simp; omega⟩
      · obtain ⟨l, hl, he'⟩ := Option.map_eq_some_iff.mp hop
        simp only [Prod.mk.injEq] at he'; obtain ⟨rfl, rfl⟩ := he'
        have := pvs_map hl; subst this
        refine op_value' e1 g1 (.p _ _ (prel_chunk l size len len w.heap.size 0 (by simpa using e2) (Nat.le_refl _) hlb hnc (by simp) fun j x hx => ?_)) g2
        have hj : j < arr.size := by have := getElem?_lt hx; rw [e3]; simpa using this
        refine ⟨arr[j], by rw [World.cell?_alloc_at _ _ _ _ rfl]; simp [hj], ?_⟩
        exact (((e4 j (.p x) arr[j] (by simp [hx]) (by simp [hj])).evo g2).pv)
  · -- makeSlice
    rename_i t l c ho
    simp only [ho]
    split at hop
    case h_2 => cases hop
    rename_i e s1 b1 zz kl n km m ht hl hc
    split at hop
    case h_2 => cases hop
    rename_i kk size bytes z he
    split at hop
    case isFalse => cases hop
    rename_i hcond
    obtain ⟨c1, c2, c3, c4, c5, c6⟩ := hcond
    subst c2
    obtain ⟨arr, e1, e2, e3⟩ := make_sound hS kl km ht he c1 c3 c4 c5 c6
    obtain ⟨el, _⟩ := (hρ l _ hl).int_inv
    obtain ⟨ec, _⟩ := (hρ c _ hc).int_inv
    rw [← el, ← ec] at e1
    obtain ⟨g1, g2⟩ := alloc_garbage hS (.cells arr e)
    split at hop
    · rename_i hz; subst hz; cases hop
      exact op_value' e1 g1 (.p _ _ (.slz _ _)) g2
    · rename_i hz
      cases hop
      have hlen := rep_len (l := z.map AV.p) (sz := size) (by simpa using c5) n.toNat
      have hne : (List.replicate n.toNat (z.map AV.p)).flatMap id ≠ [] := by
        intro e0
        rw [e0] at hlen
        have : 0 < n.toNat * size := Nat.mul_pos (by omega) (by omega)
        simp at hlen; omega
      obtain ⟨q1, q2⟩ := alloc_sound hS _ hne arr e (Nat.le_of_eq (hlen.trans e2.symm)) e3
      refine op_value' e1 q1 ?_ q2
      have hl : liveAt (h ++ [some ⟨0, (List.replicate n.toNat (z.map AV.p)).flatMap id⟩]) h.length 0 := ⟨_, by simp; rfl, rfl⟩
      exact .ref _ _ _ _ _ _ _ (by omega) (live_g hl).1 (live_g hl).2 fun _ => .inr ⟨by simp, Nat.le_refl _, ⟨⟨0, _⟩, by simp, hne⟩, arr, e, (0, 0), by simpa using heap_alloc_new w _, by simp; omega⟩
  · -- load
    rename_i t a ho
    simp only [ho]
    obtain ⟨x, hx, hop⟩ := Option.bind_eq_some_iff.mp hop
    obtain ⟨y, hy, he⟩ := Option.map_eq_some_iff.mp hop
    simp only [Prod.mk.injEq] at he; obtain ⟨rfl, rfl⟩ := he
    obtain ⟨u, e1, e2⟩ := load_sound (P := P) hS (hρ a x hx) hy
    exact op_value (o := o) hS e1 e2
  · -- store
    rename_i t a x ho
    simp only [ho]
    split at hop
    · rename_i a' x' ha hx
      obtain ⟨h2, hh, he⟩ := Option.map_eq_some_iff.mp hop
      simp only [Prod.mk.injEq] at he; obtain ⟨rfl, rfl⟩ := he
      obtain ⟨w', e1, e2, e3⟩ := store_op_sound hS (hρ a a' ha) (hρ x x' hx) hh
      exact ⟨undef, w', ι, .inr ⟨by simp [Sem.run_bind, e1], rfl⟩, e2, undef_rel, e3⟩
    · cases hop
  · -- nilCheck
    rename_i x ho
    simp only [ho]
    split at hop
    · rename_i b g off hx
      cases hop
      obtain ⟨A, e, _⟩ := (hρ x _ hx).ptr_any
      refine .pure hS ?_ (hρ x _ hx)
      rw [e]; rfl
    · rename_i cells hx
      cases hop
      obtain ⟨blk, off, e, _⟩ := (hρ x _ hx).pin_inv
      refine .pure hS ?_ (hρ x _ hx)
      rw [e]; rfl
    · cases hop
  · -- binOp
    rename_i op t x y yt ho
    simp only [ho]
    split at hop
    · rename_i a b ha hb
      obtain ⟨c, hc, he⟩ := Option.map_eq_some_iff.mp hop
      simp only [Prod.mk.injEq] at he; obtain ⟨rfl, rfl⟩ := he
      obtain ⟨q, e1, e2⟩ := bin_sound (hρ x a ha) (hρ y b hb) hc x y
      exact op_value (o := o) hS e1 e2
    · cases hop
  · -- unOp
    rename_i op t x ho
    simp only [ho]
    obtain ⟨a, ha, hop⟩ := Option.bind_eq_some_iff.mp hop
    obtain ⟨y, hy, he⟩ := Option.map_eq_some_iff.mp hop
    simp only [Prod.mk.injEq] at he; obtain ⟨rfl, rfl⟩ := he
    unfold unA at hy
    split at hy
    · rename_i k n
      cases hy
      obtain ⟨e, _⟩ := (hρ x _ ha).int_inv
      exact .pure hS (by simp [Sem.run_bind, e, Op.unary, Op.intArith]) (.int _ _ (ints_range _))
    · rename_i b
      cases hy
      have e := (hρ x _ ha).bool_inv
      exact .pure hS (by simp [Sem.run_bind, e, Op.unary]) .b
    · cases hy
  · -- convert
    rename_i src dst x ho
    simp only [ho]
    split at hop
    · rename_i k s1 b1 z1 k' s2 b2 z2 k'' n hs hd hx
      obtain ⟨e, hr⟩ := (hρ x _ hx).int_inv
      obtain ⟨_, d1, _, u1, q1, _⟩ := tinfo_some hs
      obtain ⟨_, d2, _, u2, q2, _⟩ := tinfo_some hd
      have := kind_int q1; subst this
      have := kind_int q2; subst this
      split at hop
      · rename_i hk
        obtain ⟨rfl, rfl⟩ := hk
        cases hop
        have hw : k''.wrap n = n := by
          unfold InRange IntKind.min IntKind.max IntKind.signed IntKind.bits at hr
          unfold IntKind.wrap IntKind.signed IntKind.bits
          cases k'' <;> simp at hr ⊢ <;> (try split) <;> omega
        exact .pure hS (by simp [Sem.run_bind, e, convert, run_underlying u1, run_underlying u2, Conv.intToInt, hw]) (.int _ _ hr)
      · cases hop
        exact .pure hS (by simp [Sem.run_bind, e, convert, run_underlying u1, run_underlying u2, Conv.intToInt]) (.int _ _ (ints_range _))
    · cases hop
  · -- makeFunc
    rename_i f first captured ho
    simp only [ho]
    split at hop
    · rename_i hf
      obtain ⟨vs, hvs, he⟩ := Option.map_eq_some_iff.mp hop
      simp only [Prod.mk.injEq] at he; obtain ⟨rfl, rfl⟩ := he
      have h0 : first = #[] := Array.eq_empty_of_size_eq_zero hf
      subst h0
      obtain ⟨q1, q2⟩ := vrels_evals hρ hvs
      exact .pure hS (v := .func (.func f) #[] (captured.map ρ)) (by simp [Sem.run_bind, Instr.makeFunc]) (.fn _ _ _ q1 q2)
    · cases hop
  · -- slice
    rename_i t x lo hi mx ho
    simp only [ho]
    split at hop
    · rename_i a ha
      obtain ⟨y, hy, he⟩ := Option.map_eq_some_iff.mp hop
      simp only [Prod.mk.injEq] at he; obtain ⟨rfl, rfl⟩ := he
      obtain ⟨u, e1, e2⟩ := slice_sound (P := P) hS hρ (hρ x a ha) hy
      exact op_value (o := o) hS e1 e2
    · cases hop
  · -- fieldAddr
    rename_i t x f ho
    simp only [ho]
    obtain ⟨a, ha, hop⟩ := Option.bind_eq_some_iff.mp hop
    obtain ⟨y, hy, he⟩ := Option.map_eq_some_iff.mp hop
    simp only [Prod.mk.injEq] at he; obtain ⟨rfl, rfl⟩ := he
    obtain ⟨u, e1, e2⟩ := fieldAddr_sound (P := P) hS (hρ x a ha) hy
    exact op_value (o := o) hS e1 e2
  · -- field
    rename_i t x f ho
    simp only [ho]
    obtain ⟨a, ha, hop⟩ := Option.bind_eq_some_iff.mp hop
    obtain ⟨y, hy, he⟩ := Option.map_eq_some_iff.mp hop
    simp only [Prod.mk.injEq] at he; obtain ⟨rfl, rfl⟩ := he
    obtain ⟨u, e1, e2⟩ := field_sound (P := P) (hρ x a ha) hy
    exact op_value (o := o) hS e1 e2
  · -- indexAddr
    rename_i t x ix ho
    simp only [ho]
    split at hop
    · rename_i a b ha hb
      obtain ⟨y, hy, he⟩ := Option.map_eq_some_iff.mp hop
      simp only [Prod.mk.injEq] at he; obtain ⟨rfl, rfl⟩ := he
      obtain ⟨u, e1, e2⟩ := indexAddr_sound (P := P) hS (hρ x a ha) (hρ ix b hb) hy
      exact op_value (o := o) hS e1 e2
    · cases hop
  · -- index
    rename_i t x ix ho
    simp only [ho]
    split at hop
    · rename_i a b ha hb
      obtain ⟨y, hy, he⟩ := Option.map_eq_some_iff.mp hop
      simp only [Prod.mk.injEq] at he; obtain ⟨rfl, rfl⟩ := he
      obtain ⟨u, e1, e2⟩ := index_sound (P := P) (hρ x a ha) (hρ ix b hb) hy
      exact op_value (o := o) hS e1 e2
    · cases hop
  · -- extract
    rename_i t i ho
    simp only [ho]
    split at hop
    · rename_i vs hv
      obtain ⟨y, hy, he⟩ := Option.map_eq_some_iff.mp hop
      simp only [Prod.mk.injEq] at he; obtain ⟨rfl, rfl⟩ := he
      have hx := hρ t _ hv
      generalize hq : ρ t = u at hx
      cases hx with
      | tup _ us hl hr =>
        have hi : i < us.size := by have := getElem?_lt hy; omega
        exact .pure hS (v := us[i]) (by simp [Sem.run_bind, hq, Instr.extract, hi]) (hr i y _ hy (by simp [hi]))
    · cases hop
  · -- builtin
    rename_i c ho
    simp only [ho]
    split at hop
    · rename_i b hb
      obtain ⟨xs, hxs, hop⟩ := Option.bind_eq_some_iff.mp hop
      obtain ⟨v1, v2⟩ := vrels_evals hρ hxs
      obtain ⟨consts, hrun⟩ : ∃ consts, (do let d ← resolve ρ c o.type; invoke d.target d.args : Sem Next).run P w = (builtin b c.argTypes o.type consts (c.args.map ρ)).run P w :=
        ⟨_, by simp only [resolve, hb, Sem.run_bind, Sem.run_pure, Result.andThen_ok, invoke]; rfl⟩
      have hv0 : VRels ι h w xs (c.args.map ρ) := ⟨v1, v2⟩
      suffices hX : Sound P G ι h w (builtin b c.argTypes o.type consts (c.args.map ρ)) r h' by
        obtain ⟨v, w', ι', a1, a2, a3, a4⟩ := hX
        exact ⟨v, w', ι', by rw [hrun]; exact a1, a2, a3, a4⟩
      generalize c.args.map ρ = vs at hv0 ⊢
      generalize c.argTypes = ats at hop ⊢
      exact builtin_sound hS hv0 hop
    · cases hop
  · -- makeMap
    rename_i t ho
    simp only [ho]
    cases hop
    obtain ⟨ι', u1, u2, u3⟩ := makeMap_sound (P := P) hS
    exact op_value' (m := Instr.makeMap t none) rfl u1 u2 u3
  · -- lookup
    rename_i t x ix ho
    simp only [ho]
    split at hop
    · rename_i a b ha hb
      obtain ⟨c, hc, he⟩ := Option.map_eq_some_iff.mp hop
      simp only [Prod.mk.injEq] at he; obtain ⟨rfl, rfl⟩ := he
      obtain ⟨u, e1, e2⟩ := lookup_sound hS (hρ x a ha) (hρ ix b hb) hc
      exact op_value (o := o) hS e1 e2
    · cases hop
  · -- mapUpdate
    rename_i t x ix y ho
    simp only [ho]
    split at hop
    · rename_i a b c ha hb hc
      obtain ⟨h2, hh, he⟩ := Option.map_eq_some_iff.mp hop
      simp only [Prod.mk.injEq] at he; obtain ⟨rfl, rfl⟩ := he
      obtain ⟨w', e1, e2, e3⟩ := mapUpdate_sound hS (hρ x a ha) (hρ ix b hb) (hρ y c hc) hh
      exact ⟨undef, w', ι, .inr ⟨by simp [Sem.run_bind, e1], rfl⟩, e2, undef_rel, e3⟩
    · cases hop
  · cases hop

end
end Go.Proofs.Ytkmcecbglomemaa.AM
end

section
set_option linter.unusedVariables false
set_option linter.unusedSimpArgs false
namespace Go.Proofs.Ytkmcecbglomemaa.AM
open Go

structure Sim (P : Program) (G : Nat → Option (List PV)) (ι : Nat → Nat × Nat) (s : St) (a : Act) (w : World) : Prop where
  hS : SimH P G ι s.heap w
  fr : ∀ (k : Nat) x, s.fr k = some x → ∃ v, a.tmps[k]? = some v ∧ VRel ι s.heap w x v
  nt : a.tmps.size = s.nt
  df : a.defers = []

section
variable {P : Program} {G : Nat → Option (List PV)} {rl : List String} {ι ι' ι0 : Nat → Nat × Nat} {h h' h0 : Heap} {w w' w0 : World} {n0 : Nat} {s : St} {a : Act} {ops : Array Oper}

theorem Sim.eval (hs : Sim P G ι s a w) {x : Operand} {v : AV} (hx : evalA G s x = some v) : VRel ι s.heap w v (a.eval x) := by
  cases x with
  | tmp t =>
    obtain ⟨u, h1, h2⟩ := hs.fr t v hx
    simpa [Act.eval, h1] using h2
  | const u => exact constA_rel hx
  | global g =>
    obtain ⟨cells, hg, rfl⟩ := Option.map_eq_some_iff.mp hx
    exact .pin _ _ _ (hs.hS.gr g cells hg)
  | func f =>
    simp only [evalA] at hx
    cases hx
    exact .fn _ _ _ rfl fun i x v hx _ => by simp at hx

theorem Sim.put (hs : Sim P G ι s a w) (hS : SimH P G ι' h' w') (he : Evo s.heap.length ι s.heap w ι' h' w') (dst : Option Nat) {r : AV} {v : Value} (hr : VRel ι' h' w' r v) :
    Sim P G ι' ({ s with heap := h' }.put dst r) (a.put dst v) w' := by
  cases dst with
  | none => exact ⟨hS, fun k x hx => by obtain ⟨u, h1, h2⟩ := hs.fr k x hx; exact ⟨u, h1, h2.evo he⟩, hs.nt, hs.df⟩
  | some d =>
    simp only [St.put, Act.put]
    split
    · rename_i hd
      refine ⟨hS, fun k x hx => ?_, by simp [hs.nt], hs.df⟩
      simp only [upd] at hx
      split at hx
      · rename_i hk; subst hk
        cases hx
        exact ⟨v, by simp [hs.nt, hd], hr⟩
      · rename_i hk
        obtain ⟨u, h1, h2⟩ := hs.fr k x hx
        exact ⟨u, by rw [Array.getElem?_setIfInBounds_ne (fun e => hk e.symm)]; exact h1, h2.evo he⟩
    · rename_i hd
      refine ⟨hS, fun k x hx => ?_, by simp [hs.nt], hs.df⟩
      obtain ⟨u, h1, h2⟩ := hs.fr k x hx
      have hk : d ≠ k := by
        intro e; subst e
        have := hs.nt
        have hlt : d < a.tmps.size := by
          rcases Nat.lt_or_ge d a.tmps.size with h | h
          · exact h
          · simp [Array.getElem?_eq_none h] at h1
        simp at hd; omega
      exact ⟨u, by rw [Array.getElem?_setIfInBounds_ne hk]; exact h1, h2.evo he⟩

theorem Sim.put0 (hs : Sim P G ι s a w) (dst : Option Nat) : Sim P G ι (s.put dst .undef) (a.put dst undef) w :=
  hs.put hs.hS (.refl (Nat.le_refl _)) dst undef_rel

theorem St.put_heap (s : St) (d : Option Nat) (v : AV) : (s.put d v).heap = s.heap := by
  cases d <;> simp only [St.put] <;> (try split) <;> rfl

theorem run_call {o : Oper} {f : Operand} {args : Array Operand} {ats : Array TypeId} {ρ : Operand → Value} {g : FuncId} {caps : Array Value} (ho : o.op = .call ⟨.value f, args, ats⟩) (hf : ρ f = .func (.func g) #[] caps) (hg : Enters P g) (w : World) :
    (execOp ρ o).run P w = .ok (.enter g (args.map ρ ++ caps)) w := by
  obtain ⟨fn, c, h1, h2, h3⟩ := hg
  have h3' : ¬ fn.name = "runtime.NumGoroutine" := by simpa using h3
  simp [execOp, ho, resolve, Deferred.ofValue, hf, invoke, callFunc, Sem.run_bind, h1, h2, h3']

theorem vrels_append {xs ys : List AV} {vs us : Array Value} (h1 : VRels ι h w xs vs) (h2 : xs.length = vs.size → VRels ι h w ys us) : VRels ι h w (xs ++ ys) (vs ++ us) := by
  obtain ⟨a1, a2⟩ := h1
  obtain ⟨b1, b2⟩ := h2 a1
  refine ⟨by simp [a1, b1], fun i x v hx hv => ?_⟩
  by_cases hi : i < xs.length
  · rw [List.getElem?_append_left hi] at hx
    rw [Array.getElem?_append_left (by omega)] at hv
    exact a2 i x v hx hv
  · rw [List.getElem?_append_right (by omega)] at hx
    rw [Array.getElem?_append_right (by omega), ← a1] at hv
    exact b2 _ x v hx hv

theorem VRel.fn_inv {f : FuncId} {cells : List AV} {v : Value} (hx : VRel ι h w (.fn f cells) v) : ∃ vs, v = .func (.func f) #[] vs ∧ VRels ι h w cells vs := by
  cases hx with
  | fn _ _ vs hl hv => exact ⟨vs, rfl, hl, hv⟩

theorem callOf_some {o : Oper} {f : Operand} {args : Array Operand} (h : callOf o = some (f, args)) : ∃ ats, o.op = .call ⟨.value f, args, ats⟩ := by
  unfold callOf at h
  split at h
  · rename_i f' args' ats ho
    cases h
    exact ⟨ats, ho⟩
  · cases h

/-- One operation. -/
theorem aexec_sound {o : Oper} {K : St → Prop} {K' : Act → World → Prop} {Q' : Exit → Act → World → Prop} (hs : Sim P G ι s a w) (he : Evo n0 ι0 h0 w0 ι s.heap w)
    (hK : ∀ s' ι' a' w', K s' → Sim P G ι' s' a' w' → Evo n0 ι0 h0 w0 ι' s'.heap w' → K' a' w') (hx : aexec P G rl o K s) : o.wp P a w K' Q' := by
  unfold aexec at hx
  cases hq : callOf o with
  | some q =>
    obtain ⟨f, args⟩ := q
    obtain ⟨ats, ho⟩ := callOf_some hq
    simp only [hq] at hx
    split at hx
    · rename_i g caps xs hf hargs
      obtain ⟨hg, hc⟩ := hx
      obtain ⟨vs, e1, e2⟩ := (hs.eval hf).fn_inv
      unfold Oper.wp
      rw [run_call ho e1 hg w]
      simp only [Oper.upon]
      refine (hc ι w _ hs.hS (vrels_append (vrels_evals (fun x a hx => hs.eval hx) hargs) fun _ => e2)).mono ?_
      rintro e w' ⟨v, r, h', ι', rfl, hk, hS', hr, he'⟩
      exact hK _ ι' _ w' hk (hs.put hS' he' o.dst hr) (by rw [St.put_heap]; exact he.trans he' he.len)
    · exact hx.elim
  | none =>
    simp only [hq] at hx
    split at hx
    · rename_i r h' hop
      obtain ⟨v, w', ι', hrun, hS', hr, he'⟩ := opA_sound hs.hS (fun x a hx => hs.eval hx) hop
      have := hK _ ι' _ w' hx (hs.put hS' he' o.dst hr) (by rw [St.put_heap]; exact he.trans he' he.len)
      unfold Oper.wp
      rcases hrun with hrun | ⟨hrun, rfl⟩
      · rw [hrun]; exact this
      · rw [hrun]; exact this
    · exact hx.elim

theorem guard_bool (hs : Sim P G ι s a w) {j : Nat} {g : Bool} (hg : guardA ops s j = some (.p (.bool g))) : yielded ops a.tmps j = some g := by
  obtain ⟨d, hd, hv⟩ := Option.bind_eq_some_iff.mp hg
  obtain ⟨u, h1, h2⟩ := hs.fr d _ hv
  have := h2.bool_inv; subst this
  simp [yielded, hd, h1]

theorem guard_undef (hs : Sim P G ι s a w) {j : Nat} (hg : guardA ops s j = some (.tup [])) : yielded ops a.tmps j = none := by
  obtain ⟨d, hd, hv⟩ := Option.bind_eq_some_iff.mp hg
  obtain ⟨u, h1, h2⟩ := hs.fr d _ hv
  cases h2 with
  | tup _ vs hl _ => simp [yielded, hd, h1]

theorem wanted_eq (hs : Sim P G ι s a w) {o : Oper} {b : Bool} (hb : wantA ops o s = some b) : Region.wanted o (yielded ops a.tmps) = b := by
  unfold wantA at hb
  unfold Region.wanted
  split at hb
  · rename_i hg; cases hb; simp [hg]
  · rename_i j want hg
    simp only [hg]
    split at hb
    · rename_i g hga
      cases hb
      rw [guard_bool hs hga]
      cases g <;> cases want <;> rfl
    · rename_i hga
      cases hb
      rw [guard_undef hs hga]
      cases want <;> rfl
    · cases hb

theorem aop_sound {o : Oper} {K : St → Prop} {K' : Act → World → Prop} {Q' : Exit → Act → World → Prop} (hs : Sim P G ι s a w) (he : Evo n0 ι0 h0 w0 ι s.heap w)
    (hK : ∀ s' ι' a' w', K s' → Sim P G ι' s' a' w' → Evo n0 ι0 h0 w0 ι' s'.heap w' → K' a' w') (hx : aop P G rl ops o K s) :
    if Region.wanted o (yielded ops a.tmps) then o.wp P a w K' Q' ∨ (o.asks P a w ∧ LetsOut Q') else K' (a.put o.dst undef) w := by
  unfold aop at hx
  split at hx
  case h_2 => exact hx.elim
  rename_i b hb
  rw [wanted_eq hs hb]
  cases b with
  | true =>
    simp only [if_true]
    exact .inl (aexec_sound hs he hK (hx.1 rfl))
  | false =>
    simp only [Bool.false_eq_true, if_false]
    exact hK _ ι _ w (hx.2 rfl) (hs.put0 o.dst) (by rw [St.put_heap]; exact he)

theorem aops_sound {K : St → Prop} {Q' : Exit → Act → World → Prop} (hK : ∀ s' ι' a' w', K s' → Sim P G ι' s' a' w' → Evo n0 ι0 h0 w0 ι' s'.heap w' → Q' .normal a' w') :
    ∀ (l : List Oper) (s : St) (ι : Nat → Nat × Nat) (a : Act) (w : World), Sim P G ι s a w → Evo n0 ι0 h0 w0 ι s.heap w → aops P G rl ops K l s → wpList P ops Q' l a w
  | [], s, ι, a, w, hs, he, h => hK s ι a w h hs he
  | o :: rest, s, ι, a, w, hs, he, h => by
    unfold wpList
    exact aop_sound (K := aops P G rl ops K rest) (K' := wpList P ops Q' rest) hs he (fun s' ι' a' w' hk hs' he' => aops_sound hK rest s' ι' a' w' hs' he' hk) h

end
end Go.Proofs.Ytkmcecbglomemaa.AM
end
