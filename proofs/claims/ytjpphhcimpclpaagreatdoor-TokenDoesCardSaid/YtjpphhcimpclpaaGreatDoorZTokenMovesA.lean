/- Proved here, in parts, for one law: contracts of the functions that the laws call, and the plain facts behind them. Conditions: none. -/
import Derived.WalkKit
import Derived.Orders
import Derived.Still
import Derived.ChangeKeysEq
set_option linter.unusedVariables false
set_option linter.unusedSimpArgs false
set_option linter.defProp false
set_option maxRecDepth 4000
set_option maxHeartbeats 4000000
namespace Go.Proofs.YtjpphhcimpclpaaGreatDoor.AM
open Go Go.Proofs
section
inductive PV where
  | int (k : IntKind) (n : Int)
  | bool (b : Bool)
  | str (s : ByteArray)
  | nils
  | sl (rows : List (List PV))
  | nilp
  | nilf
  deriving Inhabited
inductive AV where
  | p (x : PV)
  | agg (cells : List AV)
  | ref (b g off sz len : Nat)
  | ptr (b g off : Nat)
  | pin (cells : List PV)
  | fn (f : FuncId) (caps : List AV)
  | tup (vs : List AV)
  deriving Inhabited
abbrev AV.i (n : Int) : AV := .p (.int .i64 n)
abbrev AV.b (x : Bool) : AV := .p (.bool x)
abbrev AV.undef : AV := .tup []
structure Blk where
  g : Nat
  cells : List AV
abbrev Heap := List (Option Blk)
def E1 (k : IntKind) (n : Int) : Prop := k.min ≤ n ∧ n ≤ k.max
def P5 {α : Type} (rows : List (List α)) (i j : Nat) : Option α := (rows[i]?).bind (·[j]?)
inductive PRel (w : World) (own : Nat → Prop) : PV → Value → Prop where
  | int (k : IntKind) (n : Int) (h : E1 k n) : PRel w own (.int k n) (.int k n)
  | bool (b : Bool) : PRel w own (.bool b) (.bool b)
  | str (s : ByteArray) (h : s.size ≤ 9223372036854775807) : PRel w own (.str s) (.string s)
  | nils : PRel w own .nils (.slice none 0 0)
  | nilp : PRel w own .nilp (.pointer none)
  | nilf : PRel w own .nilf .nilFunc
  | slz (A : Option Addr) (c : Nat) : PRel w own (.sl []) (.slice A 0 c)
  | sl (rows : List (List PV)) (blk off c sz : Nat) (f : Nat → Nat → Value) (hc : rows.length ≤ c) (hn : rows.length ≤ 9223372036854775807) (ho : ¬ own blk) (hb : blk < w.heap.size)
      (hsz : ∀ row ∈ rows, row.length = sz)
      (hcell : ∀ i j x, P5 rows i j = some x → w.cell? ⟨blk, off + (i * sz + j), none⟩ = some (f i j))
      (hrec : ∀ i j x, P5 rows i j = some x → PRel w own x (f i j)) : PRel w own (.sl rows) (.slice (some ⟨blk, off, none⟩) rows.length c)
def W0 (w : World) (own : Nat → Prop) (cells : List PV) (blk off : Nat) : Prop :=
  ¬ own blk ∧ blk < w.heap.size ∧ ∀ j x, cells[j]? = some x → ∃ v, w.cell? ⟨blk, off + j, none⟩ = some v ∧ PRel w own x v
def C6 (h : Heap) (b g : Nat) : Prop := ∃ blk, h[b]? = some (some blk) ∧ blk.g = g
def own (ι : Nat → Nat × Nat) (h : Heap) (n : Nat) : Prop := ∃ b blk, h[b]? = some (some blk) ∧ blk.cells ≠ [] ∧ (ι b).1 = n
inductive VRel (ι : Nat → Nat × Nat) (h : Heap) (w : World) : AV → Value → Prop where
  | p (x : PV) (v : Value) (hx : PRel w (own ι h) x v) : VRel ι h w (.p x) v
  | agg (cells : List AV) (vs : Array Value) (hl : cells.length = vs.size) (hv : ∀ (i : Nat) x v, cells[i]? = some x → vs[i]? = some v → VRel ι h w x v) :
      VRel ι h w (.agg cells) (.agg vs)
  | tup (cells : List AV) (vs : Array Value) (hl : cells.length = vs.size) (hv : ∀ (i : Nat) x v, cells[i]? = some x → vs[i]? = some v → VRel ι h w x v) :
      VRel ι h w (.tup cells) (.tuple vs)
  | fn (f : FuncId) (cells : List AV) (vs : Array Value) (hl : cells.length = vs.size) (hv : ∀ (i : Nat) x v, cells[i]? = some x → vs[i]? = some v → VRel ι h w x v) :
      VRel ι h w (.fn f cells) (.func (.func f) #[] vs)
  | ref (b g off sz len : Nat) (A : Option Addr) (c : Nat) (hn : len ≤ 9223372036854775807) (hb : b < h.length) (hg : ∀ bk : Blk, h[b]? = some (some bk) → g ≤ bk.g)
      (hv : C6 h b g → (len = 0 ∧ c = 0) ∨ (A = some ⟨(ι b).1, (ι b).2 + off, none⟩ ∧ len ≤ c ∧ (∃ bk : Blk, h[b]? = some (some bk) ∧ bk.cells ≠ []) ∧ ∃ cs ty fr, w.heap[(ι b).1]? = some (.cells cs ty fr) ∧ (ι b).2 + off + c * sz ≤ cs.size)) :
      VRel ι h w (.ref b g off sz len) (.slice A len c)
  | ptr (b g off : Nat) (A : Addr) (hb : b < h.length) (hg : ∀ bk : Blk, h[b]? = some (some bk) → g ≤ bk.g) (hv : C6 h b g → A = ⟨(ι b).1, (ι b).2 + off, none⟩) : VRel ι h w (.ptr b g off) (.pointer (some A))
  | pin (cells : List PV) (blk off : Nat) (hv : W0 w (own ι h) cells blk off) : VRel ι h w (.pin cells) (.pointer (some ⟨blk, off, none⟩))
structure HRel (ι : Nat → Nat × Nat) (h : Heap) (w : World) : Prop where
  blk : ∀ (b : Nat) (bk : Blk), h[b]? = some (some bk) → bk.cells ≠ [] → ∃ c ty, w.heap[(ι b).1]? = some (.cells c ty (0, 0)) ∧ (ι b).2 + bk.cells.length ≤ c.size ∧
    ∀ (j : Nat) x, bk.cells[j]? = some x → ∃ v, c[(ι b).2 + j]? = some v ∧ VRel ι h w x v
  inj : ∀ (b b' : Nat) (bk bk' : Blk), h[b]? = some (some bk) → h[b']? = some (some bk') → bk.cells ≠ [] → bk'.cells ≠ [] → (ι b).1 = (ι b').1 → b = b'
structure Evo (n : Nat) (ι : Nat → Nat × Nat) (h : Heap) (w : World) (ι' : Nat → Nat × Nat) (h' : Heap) (w' : World) : Prop where
  size : w.heap.size ≤ w'.heap.size
  keep : ∀ k, k < w.heap.size → ¬ own ι h k → w'.heap[k]? = w.heap[k]? ∧ ¬ own ι' h' k
  len : n ≤ h'.length
  gens : ∀ (b : Nat) (bk' : Blk), b < n → h'[b]? = some (some bk') → ∃ bk : Blk, h[b]? = some (some bk) ∧ bk.g ≤ bk'.g ∧ (bk.g = bk'.g → ι' b = ι b ∧ (bk.cells ≠ [] → bk'.cells ≠ [])
    ∧ ∀ cs ty fr, w.heap[(ι b).1]? = some (.cells cs ty fr) → ∃ cs' ty' fr', w'.heap[(ι b).1]? = some (.cells cs' ty' fr') ∧ cs'.size = cs.size)
  os : w'.os = w.os
  output : w'.output = w.output
  tape : w'.tape = w.tape
theorem fH {w w' : World} {k : Nat} (h : w'.heap[k]? = w.heap[k]?) (off : Nat) : w'.cell? ⟨k, off, none⟩ = w.cell? ⟨k, off, none⟩ := by
  unfold World.cell?; simp only [h]
theorem PRel.mono {w w' : World} {o o' : Nat → Prop} (hs : w.heap.size ≤ w'.heap.size) (hk : ∀ k, k < w.heap.size → ¬ o k → w'.heap[k]? = w.heap[k]? ∧ ¬ o' k)
    {x : PV} {v : Value} (h : PRel w o x v) : PRel w' o' x v := by
  induction h with
  | int k n h => exact .int k n h
  | bool b => exact .bool b
  | str s h => exact .str s h
  | nils => exact .nils
  | nilp => exact .nilp
  | nilf => exact .nilf
  | slz A c => exact .slz A c
  | sl rows blk off c sz f hc hn ho hb hsz hcell hrec ih =>
    exact .sl rows blk off c sz f hc hn (hk blk hb ho).2 (by omega) hsz (fun i j x hx => by rw [fH (hk blk hb ho).1]; exact hcell i j x hx) ih
theorem W0.mono {w w' : World} {o o' : Nat → Prop} (hs : w.heap.size ≤ w'.heap.size) (hk : ∀ k, k < w.heap.size → ¬ o k → w'.heap[k]? = w.heap[k]? ∧ ¬ o' k)
    {cells : List PV} {blk off : Nat} (h : W0 w o cells blk off) : W0 w' o' cells blk off := by
  obtain ⟨h1, h2, h3⟩ := h
  refine ⟨(hk blk h2 h1).2, by omega, fun j x hx => ?_⟩
  obtain ⟨v, hv, hr⟩ := h3 j x hx
  exact ⟨v, by rw [fH (hk blk h2 h1).1]; exact hv, hr.mono hs hk⟩
section
variable {ι ι' ι'' : Nat → Nat × Nat} {h h' h'' : Heap} {w w' w'' : World} {n m : Nat}
theorem Evo.refl (hn : n ≤ h.length) : Evo n ι h w ι h w where
  size := Nat.le_refl _
  keep := fun k _ ho => ⟨rfl, ho⟩
  len := hn
  gens := fun b bk' _ hb => ⟨bk', hb, Nat.le_refl _, fun _ => ⟨rfl, id, fun cs ty fr hc => ⟨cs, ty, fr, hc, rfl⟩⟩⟩
  os := rfl
  output := rfl
  tape := rfl
theorem Evo.trans (h1 : Evo n ι h w ι' h' w') (h2 : Evo m ι' h' w' ι'' h'' w'') (hnm : n ≤ m) : Evo n ι h w ι'' h'' w'' where
  size := Nat.le_trans h1.size h2.size
  keep := fun k hk ho => by
    obtain ⟨a1, a2⟩ := h1.keep k hk ho
    obtain ⟨b1, b2⟩ := h2.keep k (Nat.lt_of_lt_of_le hk h1.size) a2
    exact ⟨b1.trans a1, b2⟩
  len := Nat.le_trans hnm h2.len
  gens := fun b bk'' hb hq => by
    obtain ⟨bk', hq', hg', hr'⟩ := h2.gens b bk'' (by omega) hq
    obtain ⟨bk, hq0, hg, hr⟩ := h1.gens b bk' hb hq'
    refine ⟨bk, hq0, Nat.le_trans hg hg', fun he => ?_⟩
    have e1 : bk.g = bk'.g := by omega
    have e2 : bk'.g = bk''.g := by omega
    obtain ⟨i1, c1, s1⟩ := hr e1
    obtain ⟨i2, c2, s2⟩ := hr' e2
    refine ⟨i2.trans i1, fun hc => c2 (c1 hc), fun cs ty fr hc => ?_⟩
    obtain ⟨cs', ty', fr', hc', e'⟩ := s1 cs ty fr hc
    obtain ⟨cs'', ty'', fr'', hc'', e''⟩ := s2 cs' ty' fr' (by rw [i1]; exact hc')
    exact ⟨cs'', ty'', fr'', by rw [← i1]; exact hc'', e''.trans e'⟩
  os := h2.os.trans h1.os
  output := h2.output.trans h1.output
  tape := h2.tape.trans h1.tape
theorem Evo.le (h1 : Evo n ι h w ι' h' w') (hm : m ≤ n) : Evo m ι h w ι' h' w' where
  size := h1.size
  keep := h1.keep
  len := Nat.le_trans hm h1.len
  gens := fun b bk' hb hq => h1.gens b bk' (by omega) hq
  os := h1.os
  output := h1.output
  tape := h1.tape
theorem VRel.evo (he : Evo h.length ι h w ι' h' w') {x : AV} {v : Value} (hx : VRel ι h w x v) : VRel ι' h' w' x v := by
  have lv : ∀ b g, b < h.length → (∀ bk : Blk, h[b]? = some (some bk) → g ≤ bk.g) → C6 h' b g → ∃ bk bk' : Blk, h[b]? = some (some bk) ∧ h'[b]? = some (some bk') ∧ bk.g = g ∧ bk'.g = g := by
    intro b g hb hg ⟨bk', hq, e⟩
    obtain ⟨bk, hq0, hle, _⟩ := he.gens b bk' hb hq
    have := hg bk hq0
    exact ⟨bk, bk', hq0, hq, by omega, e⟩
  have gg : ∀ b g, b < h.length → (∀ bk : Blk, h[b]? = some (some bk) → g ≤ bk.g) → ∀ bk : Blk, h'[b]? = some (some bk) → g ≤ bk.g := by
    intro b g hb hg bk' hq
    obtain ⟨bk, hq0, hle, _⟩ := he.gens b bk' hb hq
    have := hg bk hq0
    omega
  induction hx with
  | p x v hx => exact .p x v (hx.mono he.size he.keep)
  | agg cells vs hl hv ih => exact .agg cells vs hl ih
  | tup cells vs hl hv ih => exact .tup cells vs hl ih
  | fn f cells vs hl hv ih => exact .fn f cells vs hl ih
  | ref b g off sz len A c hn hb hg hv =>
    refine .ref b g off sz len A c hn (Nat.lt_of_lt_of_le hb he.len) (gg b g hb hg) fun hl => ?_
    obtain ⟨bk, bk', q1, q2, e1, e2⟩ := lv b g hb hg hl
    rcases hv ⟨bk, q1, e1⟩ with hz | ⟨hA, hle, ⟨bk0, q0, hne⟩, cs, ty, fr, hc, hs⟩
    · exact .inl hz
    · obtain ⟨bk1, q3, _, hr⟩ := he.gens b bk' hb q2
      have : bk1 = bk := by rw [q1] at q3; exact (Option.some.inj (Option.some.inj q3)).symm
      subst this
      have : bk0 = bk1 := by rw [q1] at q0; exact (Option.some.inj (Option.some.inj q0)).symm
      subst this
      obtain ⟨i1, hne', s1⟩ := hr (by omega)
      obtain ⟨cs', ty', fr', hc', es⟩ := s1 cs ty fr hc
      exact .inr ⟨by rw [i1]; exact hA, hle, ⟨bk', q2, hne' hne⟩, cs', ty', fr', by rw [i1]; exact hc', by rw [i1]; omega⟩
  | ptr b g off A hb hg hv =>
    refine .ptr b g off A (Nat.lt_of_lt_of_le hb he.len) (gg b g hb hg) fun hl => ?_
    obtain ⟨bk, bk', q1, q2, e1, e2⟩ := lv b g hb hg hl
    obtain ⟨bk1, q3, _, hr⟩ := he.gens b bk' hb q2
    have : bk1 = bk := by rw [q1] at q3; exact (Option.some.inj (Option.some.inj q3)).symm
    subst this
    rw [(hr (by omega)).1]
    exact hv ⟨_, q1, e1⟩
  | pin cells blk off hv => exact .pin cells blk off (hv.mono he.size he.keep)
end
end
section
inductive TK where
  | int (k : IntKind)
  | bool
  | str
  | slice (e : Nat)
  | array (n e : Nat)
  | struct (fs : List (Nat × Nat × Nat))
  | ptr
  | func
  | other
  deriving Inhabited
structure TI where
  k : TK
  size : Nat
  bytes : Nat
  zero : Option (List PV)
def inR (k : IntKind) (n : Int) : Bool := decide (k.min ≤ n) && decide (n ≤ k.max)
def J4 : Value → Option PV
  | .int k n => if inR k n then some (.int k n) else none
  | .bool b => some (.bool b)
  | .string s => if s.size ≤ 1000000 then some (.str s) else none
  | .slice none 0 0 => some .nils
  | .pointer none => some .nilp
  | .nilFunc => some .nilf
  | _ => none
def L9 : List Value → Option (List PV)
  | [] => some []
  | v :: r => match J4 v, L9 r with
    | some x, some xs => some (x :: xs)
    | _, _ => none
def dv : Value → Option AV
  | .agg cs => (L9 cs.toList).map fun l => .agg (l.map .p)
  | .tuple vs => if vs.size = 0 then some .undef else none
  | v => (J4 v).map .p
def E2 (P : Program) : TypeDesc → TK
  | .int k => .int k
  | .bool => .bool
  | .string => .str
  | .slice e => .slice e
  | .array n e => .array n e
  | .struct fs => .struct (fs.toList.map fun f => (f.offset, P.cellsOf f.type, f.type))
  | .pointer _ => .ptr
  | .func .. => .func
  | _ => .other
def l7 (P : Program) (t : Nat) : Option TI :=
  match P.info? t, P.underlying t with
  | some i, some d => some ⟨E2 P d, i.size, i.bytes, i.zero.bind fun v => L9 v.cells.toList⟩
  | _, _ => none
def TI.isAgg (i : TI) : Bool := match i.k with | .struct _ | .array _ _ => true | _ => false
def upd (fr : Nat → Option AV) (d : Nat) (v : AV) : Nat → Option AV := fun k => if k = d then some v else fr k
structure St where
  fr : Nat → Option AV
  nt : Nat
  heap : Heap
def St.put (s : St) (dst : Option Nat) (v : AV) : St :=
  match dst with
  | some d => if d < s.nt then { s with fr := upd s.fr d v } else s
  | none => s
def r4 (G : Nat → Option (List PV)) (s : St) : Operand → Option AV
  | .tmp t => s.fr t
  | .const v => dv v
  | .global g => (G g).map .pin
  | .func f => some (.fn f [])
def AV.scalar : AV → Bool
  | .agg _ | .tup _ => false
  | _ => true
def aK : AV → Option (List AV)
  | .agg cs => if cs.all AV.scalar then some cs else none
  | .tup _ => none
  | x => some [x]
def pvs : List AV → Option (List PV)
  | [] => some []
  | .p x :: r => (pvs r).map (x :: ·)
  | _ :: _ => none
def B5 {α : Type} (sz : Nat) : Nat → List α → List (List α)
  | 0, _ => []
  | n + 1, l => l.take sz :: B5 sz n (l.drop sz)
def iv (t : Bool) (x y : AV) : AV :=
  match x, y with
  | .p (.bool a), .p (.bool c) => .p (.bool (bif t then a else c))
  | _, _ => bif t then x else y
def w9 {α : Type} : List α → Nat → List α → List α
  | c, _, [] => c
  | c, k, v :: r => w9 (c.set k v) (k + 1) r
def ap (place : Nat → Option (Nat × Nat)) : List AV → List (Nat × Option AV) → Option (List AV)
  | cells, [] => some cells
  | cells, (i, x) :: rest =>
    match place i, x.bind aK with
    | some (off, size), some cs => if cs.length = size ∧ off + cs.length ≤ cells.length then ap place (w9 cells off cs) rest else none
    | _, _ => none
def Y5 (op : BinOp) (a b : Int) : Option Bool :=
  match op with
  | .eql => some (a == b)
  | .neq => some (a != b)
  | .lss => some (decide (a < b))
  | .leq => some (decide (a ≤ b))
  | .gtr => some (decide (b < a))
  | .geq => some (decide (b ≤ a))
  | _ => none
def cA (op : BinOp) (x y : AV) : Option AV :=
  match x, y with
  | .p (.int k a), .p (.int k' b) =>
    if k = k' then
      match op with
      | .add => some (.p (.int k (k.wrap (a + b))))
      | .sub => some (.p (.int k (k.wrap (a - b))))
      | .mul => some (.p (.int k (k.wrap (a * b))))
      | .quo => if b = 0 then none else some (.p (.int k (k.wrap (a.tdiv b))))
      | .rem => if b = 0 then none else if inR k (a.tmod b) then some (.p (.int k (a.tmod b))) else none
      | _ => (Y5 op a b).map AV.b
    else none
  | _, _ => none
def u7 : Bool → List AV → List AV → Option Bool
  | _, [], [] => some true
  | true, .p (.int k a) :: r, .p (.int k' b) :: r' => if k = k' then (u7 true r r').map (fun c => (a == b) && c) else none
  | false, .p (.bool a) :: r, .p (.bool b) :: r' => (u7 false r r').map (fun c => (a == b) && c)
  | _, _, _ => none
def kR (P : Program) (rec : Nat → Option Nat) : List Field → Nat → Option Nat
  | [], o => some o
  | f :: r, o => match rec f.type with
    | some m => if (f.name != "_") = true ∧ f.offset = o ∧ P.cellsOf f.type = m then kR P rec r (o + m) else none
    | none => none
def cB (P : Program) : Nat → Nat → Option Nat
  | 0, _ => none
  | d + 1, t => match P.underlying t with
    | some (.int _) => some 1
    | some (.array n e) => match cB P d e with
      | some m => if P.cellsOf e = m then some (n * m) else none
      | none => none
    | some (.struct fs) => if P.stoodInHeld t = true then none else kR P (cB P d) fs.toList 0
    | _ => none
def iL (P : Program) (t n : Nat) : Bool := cB P 20 t == some n && !P.eqGuardType P.depth t
def eqA (P : Program) (t : Nat) (x y : AV) : Option Bool :=
  match x, y with
  | .p (.bool a), .p (.bool b) => match l7 P t with
    | some ⟨.bool, _, _, _⟩ => some (a == b)
    | _ => none
  | .p .nilp, .p .nilp => match l7 P t with | some ⟨.ptr, _, _, _⟩ => some true | _ => none
  | .p .nilf, .p .nilf => match l7 P t with | some ⟨.func, _, _, _⟩ => some true | _ => none
  | .fn _ _, .p .nilf => match l7 P t with | some ⟨.func, _, _, _⟩ => some false | _ => none
  | .agg xs, .agg ys =>
    match l7 P t with
    | some ⟨.array n e, _, _, _⟩ =>
      if n = xs.length ∧ P.eqGuardType P.depth t = false then
        match l7 P e with
        | some ⟨.int _, 1, _, _⟩ => u7 true xs ys
        | some ⟨.bool, 1, _, _⟩ => u7 false xs ys
        | _ => none
      else none
    | some ⟨.struct _, n, _, _⟩ => if n = xs.length ∧ iL P t n = true then u7 true xs ys else none
    | _ => none
  | _, _ => none
def pu (P : Program) (op : BinOp) (t : Nat) (x y : AV) : Option AV :=
  match cA op x y with
  | some r => some r
  | none =>
    match op with
    | .eql => (eqA P t x y).map AV.b
    | .neq => (eqA P t x y).map fun b => AV.b (!b)
    | _ => none
def unA (op : UnOp) (x : AV) : Option AV :=
  match op, x with
  | .neg, .p (.int k n) => some (.p (.int k (k.wrap (0 - n))))
  | .not, .p (.bool b) => some (.b (!b))
  | _, _ => none
def t4 (h : Heap) (b g : Nat) : Option (List AV) :=
  match h[b]? with
  | some (some bk) => if bk.g = g then some bk.cells else none
  | _ => none
def P8 (i : TI) (cells : List AV) : Option AV :=
  if i.isAgg then if i.size ≤ cells.length then some (.agg (cells.take i.size)) else none
  else match cells with
    | x :: _ => some x
    | [] => none
def aL (P : Program) (h : Heap) (t : Nat) (x : AV) : Option AV :=
  match l7 P t, x with
  | some i, .ptr b g off => (t4 h b g).bind fun cells => P8 i (cells.drop off)
  | some i, .pin cells => P8 i (cells.map .p)
  | _, _ => none
def jK (P : Program) (h : Heap) (t : Nat) (a x : AV) : Option Heap :=
  match l7 P t, a, aK x with
  | some i, .ptr b g off, some cs =>
    (t4 h b g).bind fun cells => if cs.length = i.size ∧ off + cs.length ≤ cells.length then some (h.set b (some ⟨g, w9 cells off cs⟩)) else none
  | _, _, _ => none
def N3 (P : Program) (h : Heap) (t : Nat) (x : AV) (f : Nat) : Option AV :=
  match l7 P t with
  | some ⟨.struct fs, _, _, _⟩ =>
    match fs[f]? with
    | some (o, s, _) =>
      if s = 0 then none else
      match x with
      | .ptr b g off => some (.ptr b g (off + o))
      | .pin cells => some (.pin (cells.drop o))
      | _ => none
    | none => none
  | _ => none
def s8 (P : Program) (t : Nat) : Nat := match l7 P t with | some i => i.size | none => 0
def A3 (P : Program) (h : Heap) (t : Nat) (x ix : AV) : Option AV :=
  match l7 P t, ix with
  | some ⟨.array n e, _, _, _⟩, .p (.int _ i) =>
    if 0 ≤ i ∧ i < n ∧ s8 P e ≠ 0 then
      match x with
      | .ptr b g off => some (.ptr b g (off + i.toNat * s8 P e))
      | .pin cells => some (.pin (cells.drop (i.toNat * s8 P e)))
      | _ => none
    else none
  | some ⟨.slice e, _, _, _⟩, .p (.int _ i) =>
    match x with
    | .p (.sl rows) => if 0 ≤ i then match rows[i.toNat]? with
        | some row => if row.length = s8 P e ∧ s8 P e ≠ 0 then some (.pin row) else none
        | none => none
      else none
    | .ref b g off sz len => if 0 ≤ i ∧ i < len ∧ sz = s8 P e ∧ sz ≠ 0 ∧ (t4 h b g).isSome then some (.ptr b g (off + i.toNat * sz)) else none
    | _ => none
  | _, _ => none
def jL (P : Program) (t : Nat) (x ix : AV) : Option AV :=
  match l7 P t, x, ix with
  | some ⟨.array n e, _, _, _⟩, .agg cells, .p (.int _ i) =>
    if 0 ≤ i ∧ i < n then (l7 P e).bind fun ie => P8 ie (cells.drop (i.toNat * ie.size)) else none
  | _, _, _ => none
def jM (P : Program) (t : Nat) (x : AV) (f : Nat) : Option AV :=
  match l7 P t, x with
  | some ⟨.struct fs, _, _, _⟩, .agg cells => match fs[f]? with
    | some (o, _, ft) => (l7 P ft).bind fun i => P8 i (cells.drop o)
    | none => none
  | _, _ => none
def I0 (x : Option (Option AV)) (dflt : Nat) : Option Nat :=
  match x with
  | none => some dflt
  | some (some (.p (.int _ i))) => if 0 ≤ i then some i.toNat else none
  | _ => none
def jN (P : Program) (h : Heap) (t : Nat) (x : AV) (lo hi : Option (Option AV)) : Option AV :=
  match l7 P t with
  | some ⟨.array n e, _, _, _⟩ =>
    match x, I0 lo 0, I0 hi n with
    | .ptr b g off, some l, some m => (t4 h b g).bind fun cells => if l ≤ m ∧ m ≤ n ∧ l < n ∧ n ≤ 16777216 ∧ s8 P e ≠ 0 ∧ off + n * s8 P e ≤ cells.length then some (.ref b g (off + l * s8 P e) (s8 P e) (m - l)) else none
    | _, _, _ => none
  | some ⟨.slice e, _, _, _⟩ =>
    match x with
    | .p (.sl rows) => match I0 lo 0, I0 hi rows.length with
      | some l, some m => if l ≤ m ∧ m ≤ rows.length ∧ s8 P e ≠ 0 ∧ rows.all (fun r => r.length == s8 P e) then some (.p (.sl ((rows.drop l).take (m - l)))) else none
      | _, _ => none
    | .p .nils => match I0 lo 0, I0 hi 0 with
      | some l, some m => if l = 0 ∧ m = 0 ∧ s8 P e ≠ 0 then some (.p .nils) else none
      | _, _ => none
    | .ref b g off sz len => match I0 lo 0, I0 hi len with
      | some l, some m => if l ≤ m ∧ m ≤ len ∧ sz = s8 P e ∧ sz ≠ 0 ∧ (t4 h b g).isSome then some (.ref b g (off + l * sz) sz (m - l)) else none
      | _, _ => none
    | _ => none
  | _ => none
def dw : AV → Option Nat
  | .p (.sl rows) => some rows.length
  | .p .nils => some 0
  | .p (.str s) => some s.size
  | .ref _ _ _ _ len => some len
  | _ => none
def S2 (h : Heap) (sz : Nat) : AV → Option (List AV)
  | .p (.sl rows) => if rows.all (fun r => r.length == sz) then some ((rows.flatMap id).map .p) else none
  | .p .nils => some []
  | .ref b g off sz' len => if sz' = sz then (t4 h b g).bind fun cells => if off + len * sz ≤ cells.length ∧ ((cells.drop off).take (len * sz)).all AV.scalar then some ((cells.drop off).take (len * sz)) else none else none
  | _ => none
def o9 : Nat := 16777216
def fz (P : Program) (h : Heap) (t : Nat) (x y : AV) : Option (AV × Heap) :=
  match l7 P t with
  | some ⟨.slice e, _, _, _⟩ =>
    match l7 P e, dw y with
    | some ie, some k =>
      if ie.size = 0 ∨ ie.bytes > 1048576 ∨ (ie.zero.map List.length) ≠ some ie.size then none else
      match S2 h ie.size y with
      | none => none
      | some cs =>
        match x with
        | .p .nils => if k = 0 then some (.p .nils, h) else if k ≤ o9 then some (.ref h.length 0 0 ie.size k, h ++ [some ⟨0, cs⟩]) else none
        | .ref b g off sz len =>
          (t4 h b g).bind fun cells =>
            if k = 0 then (if sz = ie.size then some (.ref b g off sz len, h) else none) else
            if sz = ie.size ∧ cells.length = off + len * sz ∧ len + k ≤ o9 ∧ k ≠ 0 then some (.ref b (g + 1) 0 sz (len + k), h.set b (some ⟨g + 1, cells.drop off ++ cs⟩)) else none
        | _ => none
    | _, _ => none
  | _ => none
def M0 (P : Program) (b : Builtin) (argTypes : List Nat) (args : List AV) (h : Heap) : Option (AV × Heap) :=
  match b, argTypes, args with
  | .len, [t], [x] => match l7 P t with
    | some ⟨.slice _, _, _, _⟩ => (match x with | .p (.str _) => (none : Option Nat) | y => dw y).map fun n : Nat => (.i n, h)
    | some ⟨.str, _, _, _⟩ => match x with | .p (.str s) => some (.i s.size, h) | _ => none
    | some ⟨.array n _, _, _, _⟩ => if n ≤ 1000000 then some (.i n, h) else none
    | _ => none
  | .append, [t, u], [x, y] => if t = u then fz P h t x y else none
  | .max, _, [.p (.int k a), .p (.int k' c)] => if k = k' then some (.p (.int k (if a < c then c else a)), h) else none
  | .min, _, [.p (.int k a), .p (.int k' c)] => if k = k' then some (.p (.int k (if c < a then c else a)), h) else none
  | _, _, _ => none
def F9 (ρ : Operand → Option AV) : List Operand → Option (List AV)
  | [] => some []
  | x :: r => match ρ x, F9 ρ r with
    | some v, some vs => some (v :: vs)
    | _, _ => none
def opA (P : Program) (rl : List String) (o : Oper) (ρ : Operand → Option AV) (h : Heap) : Option (AV × Heap) :=
  match o.op with
  | .move x | .assign x => (ρ x).map (·, h)
  | .pick c a b => match ρ c, ρ a, ρ b with
    | some (.p (.bool t)), some x, some y => some (iv t x y, h)
    | _, _, _ => none
  | .alloc t => match l7 P t with
    | some ⟨_, _, _, some z⟩ => if z = [] then none else some (.ptr h.length 0 0, h ++ [some ⟨0, z.map .p⟩])
    | _ => none
  | .box t x => match (ρ x).bind aK with
    | some cs => if cs.isEmpty then none else some (.ptr h.length 0 0, h ++ [some ⟨0, cs⟩])
    | none => none
  | .build t parts => match l7 P t with
    | some ⟨.struct fs, _, _, some z⟩ => if fs.all (fun f => f.2.1 != 0) then (ap (fun i => (fs[i]?).map fun f => (f.1, f.2.1)) (z.map .p) (parts.toList.map fun q => (q.1, ρ q.2))).map fun cs => (.agg cs, h) else none
    | some ⟨.array _ e, _, _, some z⟩ => if s8 P e ≠ 0 then (ap (fun i => some (i * s8 P e, s8 P e)) (z.map .p) (parts.toList.map fun q => (q.1, ρ q.2))).map fun cs => (.agg cs, h) else none
    | _ => none
  | .buildSlice t len parts => match l7 P t with
    | some ⟨.slice e, _, _, _⟩ => match l7 P e with
      | some ⟨_, size, _, some z⟩ =>
        if len * size ≤ 10000 ∧ z.length = size ∧ size ≠ 0 then
          match ap (fun i => some (i * size, size)) ((List.replicate len (z.map .p)).flatMap id) (parts.toList.map fun q => (q.1, ρ q.2)) with
          | some cs =>
            if len = 0 then some (.p (.sl []), h)
            else if rl.contains o.pos then some (.ref h.length 0 0 size len, h ++ [some ⟨0, cs⟩])
            else (pvs cs).map fun l => (.p (.sl (B5 size len l)), h)
          | none => none
        else none
      | _ => none
    | _ => none
  | .makeSlice t l c => match l7 P t, ρ l, ρ c with
    | some ⟨.slice e, _, _, _⟩, some (.p (.int _ n)), some (.p (.int _ m)) =>
      match l7 P e with
      | some ⟨_, size, bytes, some z⟩ =>
        if 0 ≤ n ∧ n = m ∧ n ≤ 16777216 ∧ bytes ≤ 1048576 ∧ z.length = size ∧ size ≠ 0 then
          if n = 0 then some (.p (.sl []), h) else some (.ref h.length 0 0 size n.toNat, h ++ [some ⟨0, (List.replicate n.toNat (z.map .p)).flatMap id⟩])
        else none
      | _ => none
    | _, _, _ => none
  | .load t a => (ρ a).bind fun x => (aL P h t x).map (·, h)
  | .store t a x => match ρ a, ρ x with
    | some a, some x => (jK P h t a x).map (AV.undef, ·)
    | _, _ => none
  | .nilCheck x => match ρ x with
    | some (.ptr b g off) => some (.ptr b g off, h)
    | some (.pin cells) => some (.pin cells, h)
    | _ => none
  | .binOp op t x y _ => match ρ x, ρ y with
    | some x, some y => (pu P op t x y).map (·, h)
    | _, _ => none
  | .unOp op _ x => (ρ x).bind fun x => (unA op x).map (·, h)
  | .convert src dst x => match l7 P src, l7 P dst, ρ x with
    | some ⟨.int k, _, _, _⟩, some ⟨.int k', _, _, _⟩, some (.p (.int k'' n)) => if k = k' ∧ k'' = k then some (.p (.int k n), h) else some (.p (.int k' (k'.wrap n)), h)
    | _, _, _ => none
  | .makeFunc (.func f) first captured => if first.size = 0 then (F9 ρ captured.toList).map fun vs => (.fn f vs, h) else none
  | .slice t x lo hi mx => match mx, ρ x with
    | none, some x => (jN P h t x (lo.map ρ) (hi.map ρ)).map (·, h)
    | _, _ => none
  | .fieldAddr t x f => (ρ x).bind fun x => (N3 P h t x f).map (·, h)
  | .field t x f => (ρ x).bind fun x => (jM P t x f).map (·, h)
  | .indexAddr t x ix => match ρ x, ρ ix with
    | some x, some ix => (A3 P h t x ix).map (·, h)
    | _, _ => none
  | .index t x ix => match ρ x, ρ ix with
    | some x, some ix => (jL P t x ix).map (·, h)
    | _, _ => none
  | .extract t i => match ρ t with
    | some (.tup vs) => (vs[i]?).map (·, h)
    | _ => none
  | .call c => match c.callee with
    | .builtin b => (F9 ρ c.args.toList).bind fun xs => M0 P b c.argTypes.toList xs h
    | _ => none
  | _ => none
structure SimH (P : Program) (G : Nat → Option (List PV)) (ι : Nat → Nat × Nat) (h : Heap) (w : World) : Prop where
  hr : HRel ι h w
  gr : ∀ g cells, G g = some cells → W0 w (own ι h) cells g 0
def bM (ι : Nat → Nat × Nat) (h : Heap) (w : World) (xs : List AV) (vs : Array Value) : Prop :=
  xs.length = vs.size ∧ ∀ (i : Nat) x v, xs[i]? = some x → vs[i]? = some v → VRel ι h w x v
def f9 (P : Program) (G : Nat → Option (List PV)) (f : FuncId) (args : List AV) (h : Heap) (K : AV → Heap → Prop) : Prop :=
  ∀ ι w vs, SimH P G ι h w → bM ι h w args vs → Calls P f vs w fun e w' => ∃ v r h' ι', e = .returned v ∧ K r h' ∧ SimH P G ι' h' w' ∧ VRel ι' h' w' r v ∧ Evo h.length ι h w ι' h' w'
def j5 (P : Program) (f : FuncId) : Prop := ∃ fn c, P.funcs[f]? = some fn ∧ fn.body = some c ∧ (fn.name == "runtime.NumGoroutine") = false
def z5 (o : Oper) : Option (Operand × Array Operand) :=
  match o.op with
  | .call ⟨.value f, args, _⟩ => some (f, args)
  | _ => none
section
variable (P : Program) (G : Nat → Option (List PV)) (rl : List String)
def P9 (o : Oper) (K : St → Prop) (s : St) : Prop :=
  match z5 o with
  | some (f, args) =>
    match r4 G s f, F9 (r4 G s) args.toList with
    | some (.fn g caps), some xs => j5 P g ∧ f9 P G g (xs ++ caps) s.heap fun r h' => K ({ s with heap := h' }.put o.dst r)
    | _, _ => False
  | none =>
    match opA P rl o (r4 G s) s.heap with
    | some (r, h') => K ({ s with heap := h' }.put o.dst r)
    | none => False
def Y6 (ops : Array Oper) (s : St) (j : Nat) : Option AV := ((ops[j]?).bind (·.dst)).bind s.fr
def H9 (ops : Array Oper) (o : Oper) (s : St) : Option Bool :=
  match o.guard with
  | none => some true
  | some (j, want) =>
    match Y6 ops s j with
    | some (.p (.bool g)) => some (g == want)
    | some (.tup []) => some false
    | _ => none
def aop (ops : Array Oper) (o : Oper) (K : St → Prop) (s : St) : Prop :=
  match H9 ops o s with
  | some b => (b = true → P9 P G rl o K s) ∧ (b = false → K (s.put o.dst .undef))
  | none => False
def q9 (ops : Array Oper) (K : St → Prop) : List Oper → St → Prop
  | [], s => K s
  | o :: rest, s => aop P G rl ops o (q9 ops K rest) s
def bY (o : Oper) (K : St → Prop) (s : St) : Prop :=
  match z5 o with
  | some (f, args) =>
    match r4 G s f, F9 (r4 G s) args.toList with
    | some (.fn g caps), some xs => j5 P g ∧ ∃ r, f9 P G g (xs ++ caps) s.heap (fun r' h' => r' = r ∧ h' = s.heap) ∧ K (s.put o.dst r)
    | _, _ => False
  | none =>
    match opA P rl o (r4 G s) s.heap with
    | some (r, h') => h' = s.heap ∧ K (s.put o.dst r)
    | none => False
def aG (ops : Array Oper) (o : Oper) (K : St → Prop) (s : St) : Prop :=
  match H9 ops o s with
  | some b => (b = true → bY P G rl o K s) ∧ (b = false → K (s.put o.dst .undef))
  | none => False
def m7 (ops : Array Oper) (K : St → Prop) : List Oper → St → Prop
  | [], s => K s
  | o :: rest, s => aG P G rl ops o (m7 ops K rest) s
end
end
section
section
variable {P : Program} {G : Nat → Option (List PV)} {ι ι' : Nat → Nat × Nat} {h h' : Heap} {w w' : World}
theorem SimH.garbage (hS : SimH P G ι h w) (hs : w.heap.size ≤ w'.heap.size) (hk : ∀ k, k < w.heap.size → w'.heap[k]? = w.heap[k]?) (ho : w'.os = w.os) (hu : w'.output = w.output) (ht : w'.tape = w.tape) :
    SimH P G ι h w' ∧ Evo h.length ι h w ι h w' := by
  have he : Evo h.length ι h w ι h w' := ⟨hs, fun k hk' hn => ⟨hk k hk', hn⟩, Nat.le_refl _, fun b bk' _ hb => ⟨bk', hb, Nat.le_refl _, fun _ => ⟨rfl, id, fun cs ty fr hc => by
      have hlt : (ι b).1 < w.heap.size := by
        rcases Nat.lt_or_ge (ι b).1 w.heap.size with h | h
        · exact h
        · simp [Array.getElem?_eq_none h] at hc
      exact ⟨cs, ty, fr, by rw [hk _ hlt]; exact hc, rfl⟩⟩⟩, ho, hu, ht⟩
  refine ⟨⟨⟨fun b bk hb hne => ?_, hS.hr.inj⟩, fun g cells hg => (hS.gr g cells hg).mono he.size he.keep⟩, he⟩
  obtain ⟨c, ty, hc, hl, hv⟩ := hS.hr.blk b bk hb hne
  have hlt : (ι b).1 < w.heap.size := by
    rcases Nat.lt_or_ge (ι b).1 w.heap.size with h | h
    · exact h
    · simp [Array.getElem?_eq_none h] at hc
  refine ⟨c, ty, by rw [hk _ hlt]; exact hc, hl, fun j x hx => ?_⟩
  obtain ⟨v, hv1, hv2⟩ := hv j x hx
  exact ⟨v, hv1, hv2.evo he⟩
theorem J7 {k : Nat} {o : Obj} (hc : w.heap[k]? = some o) : k < w.heap.size := by
  rcases Nat.lt_or_ge k w.heap.size with h | h
  · exact h
  · simp [Array.getElem?_eq_none h] at hc
theorem SimH.upd (hS : SimH P G ι h w) (b : Nat) (bk' : Blk) (k0 β : Nat) (c : Array Value) (ty : TypeId)
    (hb : (h' = h ++ [some bk'] ∧ b = h.length) ∨ (b < h.length ∧ (∃ bk : Blk, h[b]? = some (some bk) ∧ bk.g ≤ bk'.g) ∧ h' = h.set b (some bk')))
    (hι : ∀ i, ι' i = if i = b then (k0, β) else ι i)
    (hk0 : w.heap.size ≤ k0 ∨ ∃ bk : Blk, h[b]? = some (some bk) ∧ bk.cells ≠ [] ∧ (ι b).1 = k0 ∧ ∀ cs ty fr, w.heap[k0]? = some (.cells cs ty fr) → c.size = cs.size)
    (hne : bk'.cells ≠ [])
    (hc : w'.heap[k0]? = some (.cells c ty (0, 0))) (hl : β + bk'.cells.length ≤ c.size)
    (hv : ∀ (j : Nat) x, bk'.cells[j]? = some x → ∃ v, c[β + j]? = some v ∧ VRel ι h w x v)
    (hsz : w.heap.size ≤ w'.heap.size) (hk : ∀ k, k < w.heap.size → k ≠ k0 → w'.heap[k]? = w.heap[k]?)
    (hsame : ∀ bk : Blk, h[b]? = some (some bk) → bk.g = bk'.g → ι b = (k0, β))
    (ho : w'.os = w.os) (hu : w'.output = w.output) (ht : w'.tape = w.tape) :
    SimH P G ι' h' w' ∧ Evo h.length ι h w ι' h' w' := by
  have hb' : h'[b]? = some (some bk') := by
    rcases hb with ⟨rfl, rfl⟩ | ⟨hlt, _, rfl⟩
    · simp
    · simp [hlt]
  have hoth : ∀ i, i ≠ b → i < h.length ∨ True → h'[i]? = h[i]? := by
    intro i hi _
    rcases hb with ⟨rfl, rfl⟩ | ⟨hlt, _, rfl⟩
    · rcases Nat.lt_or_ge i h.length with hl | hl
      · simp [List.getElem?_append_left hl]
      · rw [List.getElem?_eq_none (by simp; omega), List.getElem?_eq_none hl]
    · simp [List.getElem?_set_ne (Ne.symm hi)]
  have hlen : h.length ≤ h'.length := by
    rcases hb with ⟨rfl, rfl⟩ | ⟨hlt, _, rfl⟩ <;> simp
  have hown : ∀ k, k < w.heap.size → ¬ own ι h k → k ≠ k0 := by
    intro k hk hn e
    rcases hk0 with h1 | ⟨bk, q1, q2, q3, _⟩
    · omega
    · exact hn ⟨b, bk, q1, q2, by rw [q3, e]⟩
  have hown' : ∀ k, k < w.heap.size → ¬ own ι h k → ¬ own ι' h' k := by
    intro k hk hn ⟨b2, bk2, q1, q2, q3⟩
    by_cases hbb : b2 = b
    · subst hbb; rw [hι] at q3; simp at q3; exact hown k hk hn q3.symm
    · rw [hoth b2 hbb (.inr trivial)] at q1; rw [hι, if_neg hbb] at q3; exact hn ⟨b2, bk2, q1, q2, q3⟩
  have hcsz : ∀ cs ty fr, w.heap[k0]? = some (.cells cs ty fr) → c.size = cs.size := by
    intro cs ty fr hq
    rcases hk0 with h1 | ⟨bk, q1, q2, q3, q4⟩
    · have := J7 hq; omega
    · exact q4 cs ty fr hq
  have he : Evo h.length ι h w ι' h' w' := by
    refine ⟨hsz, fun k hlt hn => ⟨hk k hlt (hown k hlt hn), hown' k hlt hn⟩, hlen, fun b2 bk2 hlt hq => ?_, ho, hu, ht⟩
    have hcs : ∀ cs ty fr, w.heap[(ι b2).1]? = some (.cells cs ty fr) → ∃ cs' ty' fr', w'.heap[(ι b2).1]? = some (.cells cs' ty' fr') ∧ cs'.size = cs.size := by
      intro cs ty2 fr hq2
      by_cases hkk : (ι b2).1 = k0
      · rw [hkk] at hq2 ⊢
        exact ⟨c, ty, (0, 0), hc, hcsz cs ty2 fr hq2⟩
      · exact ⟨cs, ty2, fr, by rw [hk _ (J7 hq2) hkk]; exact hq2, rfl⟩
    by_cases hbb : b2 = b
    · subst hbb
      rcases hb with ⟨rfl, hx⟩ | ⟨hlt2, ⟨bk, q1, q2⟩, rfl⟩
      · omega
      · rw [hb'] at hq
        have : bk2 = bk' := (Option.some.inj (Option.some.inj hq)).symm
        subst this
        exact ⟨bk, q1, q2, fun hg => ⟨by rw [hι, if_pos rfl]; exact (hsame bk q1 hg).symm, fun _ => hne, hcs⟩⟩
    · rw [hoth b2 hbb (.inr trivial)] at hq
      exact ⟨bk2, hq, Nat.le_refl _, fun _ => ⟨by rw [hι, if_neg hbb], id, hcs⟩⟩
  refine ⟨⟨⟨fun b2 bk2 hq hne2 => ?_, fun b2 b3 bk2 bk3 q2 q3 n2 n3 hii => ?_⟩, fun g cells hg => (hS.gr g cells hg).mono he.size he.keep⟩, he⟩
  · by_cases hbb : b2 = b
    · subst hbb
      rw [hb'] at hq
      have : bk2 = bk' := (Option.some.inj (Option.some.inj hq)).symm
      subst this
      rw [hι, if_pos rfl]
      refine ⟨c, ty, hc, hl, fun j x hx => ?_⟩
      obtain ⟨v, hv1, hv2⟩ := hv j x hx
      exact ⟨v, hv1, hv2.evo he⟩
    · rw [hoth b2 hbb (.inr trivial)] at hq
      obtain ⟨c2, ty2, hc2, hl2, hv2⟩ := hS.hr.blk b2 bk2 hq hne2
      have hkk : (ι b2).1 ≠ k0 := by
        intro e
        rcases hk0 with h1 | ⟨bk, q1, q2, q3, _⟩
        · have := J7 hc2; omega
        · exact hbb (hS.hr.inj b2 b bk2 bk hq q1 hne2 q2 (by rw [e, q3]))
      rw [hι, if_neg hbb]
      refine ⟨c2, ty2, by rw [hk _ (J7 hc2) hkk]; exact hc2, hl2, fun j x hx => ?_⟩
      obtain ⟨v, hv3, hv4⟩ := hv2 j x hx
      exact ⟨v, hv3, hv4.evo he⟩
  · have key : ∀ b2 (bk2 : Blk), h'[b2]? = some (some bk2) → bk2.cells ≠ [] → b2 ≠ b → (ι b2).1 ≠ k0 := by
      intro b2 bk2 q2 n2 hbb e
      rw [hoth b2 hbb (.inr trivial)] at q2
      obtain ⟨c2, ty2, hc2, _, _⟩ := hS.hr.blk b2 bk2 q2 n2
      rcases hk0 with h1 | ⟨bk, p1, p2, p3, _⟩
      · have := J7 hc2; omega
      · exact hbb (hS.hr.inj b2 b bk2 bk q2 p1 n2 p2 (by rw [e, p3]))
    by_cases e2 : b2 = b <;> by_cases e3 : b3 = b
    · rw [e2, e3]
    · rw [hι b2, if_pos e2, hι b3, if_neg e3] at hii
      exact absurd hii.symm (key b3 bk3 q3 n3 e3)
    · rw [hι b2, if_neg e2, hι b3, if_pos e3] at hii
      exact absurd hii (key b2 bk2 q2 n2 e2)
    · rw [hι b2, if_neg e2, hι b3, if_neg e3] at hii
      rw [hoth b2 e2 (.inr trivial)] at q2
      rw [hoth b3 e3 (.inr trivial)] at q3
      exact hS.hr.inj b2 b3 bk2 bk3 q2 q3 n2 n3 hii
theorem ep {o : Nat → Prop} {v : Value} {x : PV} (hx : J4 v = some x) : PRel w o x v ∧ v.oneCell' = true := by
  unfold J4 at hx
  split at hx
  · rename_i k n
    split at hx
    · rename_i hr
      cases hx
      simp only [inR, Bool.and_eq_true, decide_eq_true_eq] at hr
      exact ⟨.int _ _ hr, rfl⟩
    · cases hx
  · cases hx; exact ⟨.bool _, rfl⟩
  · split at hx
    · rename_i hs
      cases hx; exact ⟨.str _ (by omega), rfl⟩
    · cases hx
  · cases hx; exact ⟨.nils, rfl⟩
  · cases hx; exact ⟨.nilp, rfl⟩
  · cases hx; exact ⟨.nilf, rfl⟩
  · cases hx
theorem H5 {o : Nat → Prop} : ∀ {vs : List Value} {xs : List PV}, L9 vs = some xs → xs.length = vs.length ∧ (∀ v ∈ vs, v.oneCell' = true) ∧ ∀ (i : Nat) x v, xs[i]? = some x → vs[i]? = some v → PRel w o x v
  | [], xs, hx => by cases hx; simp
  | v :: r, xs, hx => by
    simp only [L9] at hx
    split at hx
    · rename_i x xs' h1 h2
      cases hx
      obtain ⟨l1, l2, l3⟩ := H5 (o := o) h2
      obtain ⟨p1, p2⟩ := ep (w := w) (o := o) h1
      refine ⟨by simp [l1], by simpa [p2] using l2, fun i y u hy hu => ?_⟩
      cases i with
      | zero => simp at hy hu; rw [← hy, ← hu]; exact p1
      | succ i => simp at hy hu; exact l3 i y u hy hu
    · cases hx
theorem VRel.oneCell {x : AV} {v : Value} (hx : VRel ι h w x v) (hs : x.scalar = true) : v.oneCell' = true := by
  cases hx with
  | p x v hx => cases hx <;> rfl
  | agg => simp [AV.scalar] at hs
  | tup => simp [AV.scalar] at hs
  | fn => rfl
  | ref => rfl
  | ptr => rfl
  | pin => rfl
theorem VRel.cells1 {x : AV} {v : Value} (hx : VRel ι h w x v) (hs : x.scalar = true) : v.cells = #[v] := by
  have := hx.oneCell hs
  cases v <;> simp [Value.oneCell'] at this <;> rfl
theorem bZ {x : AV} {v : Value} {cs : List AV} (hx : VRel ι h w x v) (hc : aK x = some cs) :
    cs.length = v.cells.size ∧ (∀ y ∈ cs, y.scalar = true) ∧ ∀ (i : Nat) y u, cs[i]? = some y → v.cells[i]? = some u → VRel ι h w y u := by
  unfold aK at hc
  split at hc
  · split at hc
    · rename_i cs' hall
      cases hc
      cases hx with
      | agg _ vs hl hv => exact ⟨by simpa [Value.cells] using hl, by simpa using hall, fun i y u hy hu => hv i y u hy (by simpa [Value.cells] using hu)⟩
    · cases hc
  · cases hc
  · rename_i h1 h2
    cases hc
    have hs : x.scalar = true := by cases x <;> first | rfl | exact absurd rfl (h1 _) | exact absurd rfl (h2 _)
    rw [hx.cells1 hs]
    refine ⟨rfl, by simpa using hs, fun i y u hy hu => ?_⟩
    cases i with
    | zero => simp at hy hu; rw [← hy, ← hu]; exact hx
    | succ i => simp at hy
theorem mQ {x : AV} {v : Value} (hx : dv v = some x) : VRel ι h w x v := by
  unfold dv at hx
  split at hx
  · rename_i cs
    cases hq : L9 cs.toList with
    | none => simp [hq] at hx
    | some l =>
      simp [hq] at hx
      subst hx
      obtain ⟨l1, l2, l3⟩ := H5 (w := w) (o := own ι h) hq
      refine .agg _ _ (by simpa using l1) fun i x v hx hv => ?_
      simp only [List.getElem?_map, Option.map_eq_some_iff] at hx
      obtain ⟨y, hy, rfl⟩ := hx
      exact .p _ _ (l3 i y v hy (by simpa using hv))
  · split at hx
    · rename_i vs hz
      cases hx
      exact .tup _ _ (by simpa using hz.symm) fun i x v hx hv => by simp at hx
    · cases hx
  · cases hq : J4 v with
    | none => simp [hq] at hx
    | some y => simp [hq] at hx; subst hx; exact .p _ _ (ep hq).1
end
end
section
theorem m5 {P : Program} {t : Nat} {i : TI} (ht : l7 P t = some i) :
    ∃ inf d, P.info? t = some inf ∧ P.underlying t = some d ∧ E2 P d = i.k ∧ inf.size = i.size ∧ inf.bytes = i.bytes ∧ i.zero = inf.zero.bind fun v => L9 v.cells.toList := by
  unfold l7 at ht
  split at ht
  · rename_i inf d h1 h2
    cases ht
    exact ⟨inf, d, h1, h2, rfl, rfl, rfl, rfl⟩
  · cases ht
theorem J8 {P : Program} {d : TypeDesc} {e : Nat} (hk : E2 P d = .slice e) : d = .slice e := by cases d <;> simp [E2] at hk; rw [hk]
theorem J9 {P : Program} {d : TypeDesc} {n e : Nat} (hk : E2 P d = .array n e) : d = .array n e := by cases d <;> simp [E2] at hk; rw [hk.1, hk.2]
theorem cC {P : Program} {d : TypeDesc} {k : IntKind} (hk : E2 P d = .int k) : d = .int k := by cases d <;> simp [E2] at hk; rw [hk]
theorem dx {P : Program} {d : TypeDesc} (hk : E2 P d = .bool) : d = .bool := by cases d <;> simp [E2] at hk; rfl
theorem qH {P : Program} {d : TypeDesc} (hk : E2 P d = .str) : d = .string := by cases d <;> simp [E2] at hk; rfl
theorem qI {P : Program} {d : TypeDesc} (hk : E2 P d = .ptr) : ∃ e, d = .pointer e := by cases d <;> simp [E2] at hk; exact ⟨_, rfl⟩
theorem iM {P : Program} {d : TypeDesc} (hk : E2 P d = .func) : ∃ a b c, d = .func a b c := by cases d <;> simp [E2] at hk; exact ⟨_, _, _, rfl⟩
theorem O0 {P : Program} {d : TypeDesc} {fs} (hk : E2 P d = .struct fs) : ∃ F : Array Field, d = .struct F ∧ fs = F.toList.map fun f => (f.offset, P.cellsOf f.type, f.type) := by
  cases d <;> simp [E2] at hk; exact ⟨_, rfl, hk.symm⟩
theorem iN {P : Program} {t : Nat} {i : TI} (ht : l7 P t = some i) (w : World) : (isAgg t).run P w = .ok i.isAgg w := by
  obtain ⟨inf, d, h1, h2, h3, _⟩ := m5 ht
  unfold isAgg
  rw [Sem.run_bind, run_underlying h2 w]
  unfold TI.isAgg
  rw [← h3]
  cases d <;> simp [E2]
theorem G6 {P : Program} {t : Nat} {i : TI} (ht : l7 P t = some i) (w : World) : (sizeOf t).run P w = .ok i.size w := by
  obtain ⟨inf, d, h1, h2, h3, h4, _⟩ := m5 ht
  simp [sizeOf, typeInfo, h1, h4]
section
variable {P : Program} {G : Nat → Option (List PV)} {ι ι' : Nat → Nat × Nat} {h h' : Heap} {w w' : World}
def eu (ι : Nat → Nat × Nat) (h : Heap) (w : World) (cells : List AV) (blk off : Nat) : Prop :=
  ∀ (j : Nat) x, cells[j]? = some x → ∃ v, w.cell? ⟨blk, off + j, none⟩ = some v ∧ VRel ι h w x v
theorem eu.drop {cells : List AV} {blk off : Nat} (hp : eu ι h w cells blk off) (k : Nat) : eu ι h w (cells.drop k) blk (off + k) := by
  intro j x hx
  rw [List.getElem?_drop] at hx
  obtain ⟨v, h1, h2⟩ := hp _ _ hx
  exact ⟨v, by rw [show off + k + j = off + (k + j) by omega]; exact h1, h2⟩
theorem E3 {b g : Nat} {cells : List AV} (hb : t4 h b g = some cells) : h[b]? = some (some ⟨g, cells⟩) := by
  unfold t4 at hb
  split at hb
  · rename_i bk hq
    split at hb
    · rename_i hg
      cases hb
      rw [hq, ← hg]
    · cases hb
  · cases hb
theorem A4 {b g : Nat} {cells : List AV} (hb : t4 h b g = some cells) : C6 h b g := ⟨_, E3 hb, rfl⟩
theorem Y7 {b g : Nat} (hb : (t4 h b g).isSome = true) : C6 h b g := by
  cases hq : t4 h b g with
  | none => simp [hq] at hb
  | some c => exact A4 hq
theorem Q4 (hS : SimH P G ι h w) {b g : Nat} {cells : List AV} (hb : t4 h b g = some cells) : eu ι h w cells (ι b).1 (ι b).2 := by
  intro j x hx
  have hne : cells ≠ [] := by intro e; subst e; simp at hx
  obtain ⟨c, ty, hc, hl, hv⟩ := hS.hr.blk b _ (E3 hb) hne
  obtain ⟨v, h1, h2⟩ := hv j x hx
  exact ⟨v, by simp [World.cell?, hc, h1], h2⟩
theorem jO {cells : List PV} {blk off : Nat} (hp : W0 w (own ι h) cells blk off) : eu ι h w (cells.map .p) blk off := by
  intro j x hx
  simp only [List.getElem?_map, Option.map_eq_some_iff] at hx
  obtain ⟨y, hy, rfl⟩ := hx
  obtain ⟨v, h1, h2⟩ := hp.2.2 j y hy
  exact ⟨v, h1, .p _ _ h2⟩
theorem bN {t : Nat} {i : TI} (ht : l7 P t = some i) {cells : List AV} {blk off : Nat} (hp : eu ι h w cells blk off) {r : AV} (hr : P8 i cells = some r) :
    ∃ v, (loadVar t ⟨blk, off, none⟩).run P w = .ok v w ∧ VRel ι h w r v := by
  unfold P8 at hr
  unfold loadVar
  simp only [Sem.run_bind, iN ht, Result.andThen_ok]
  split at hr
  · rename_i hagg
    split at hr
    · rename_i hle
      cases hr
      have hf : ∀ j, ∃ v, j < i.size → w.cell? ⟨blk, off + j, none⟩ = some v ∧ ∀ x, cells[j]? = some x → VRel ι h w x v := by
        intro j
        by_cases hj : j < i.size
        · have hjl : j < cells.length := by omega
          obtain ⟨v, h1, h2⟩ := hp j cells[j] (List.getElem?_eq_getElem hjl)
          exact ⟨v, fun _ => ⟨h1, fun x hx => by rw [List.getElem?_eq_getElem hjl] at hx; rw [← Option.some.inj hx]; exact h2⟩⟩
        · exact ⟨undef, fun h => absurd h hj⟩
      obtain ⟨f, hf⟩ := Classical.axiomOfChoice hf
      have hl := run_loadCells (P := P) w ⟨blk, off, none⟩ i.size f (fun j hj => by rw [Addr.add_lit]; exact (hf j hj).1)
      refine ⟨.agg ((List.range i.size).map f).toArray, ?_, .agg _ _ (by simp; omega) fun j x v hx hv => ?_⟩
      · simp [hagg, Sem.run_bind, G6 ht, hl]
      · simp only [List.getElem?_toArray, List.getElem?_map, Option.map_eq_some_iff] at hv
        obtain ⟨k, hk, rfl⟩ := hv
        have hj : j < i.size := by
          rcases Nat.lt_or_ge j i.size with h | h
          · exact h
          · rw [List.getElem?_eq_none (by simpa using h)] at hk; cases hk
        have hkj : k = j := by rw [List.getElem?_range hj] at hk; exact (Option.some.inj hk).symm
        subst hkj
        rw [List.getElem?_take, if_pos hj] at hx
        exact (hf k hj).2 x hx
    · cases hr
  · rename_i hagg
    split at hr
    · rename_i x rest
      cases hr
      obtain ⟨v, h1, h2⟩ := hp 0 r rfl
      refine ⟨v, ?_, h2⟩
      simp only [Nat.add_zero] at h1
      simp [hagg, h1]
    · cases hr
theorem cD {α : Type} : ∀ (l c : List α) (k j : Nat), k + l.length ≤ c.length → (w9 c k l)[j]? = if j < k then c[j]? else if j < k + l.length then l[j - k]? else c[j]?
  | [], c, k, j, hl => by simp only [w9, List.length_nil, Nat.add_zero]; split <;> simp_all
  | v :: r, c, k, j, hl => by
    simp only [w9]
    rw [cD r (c.set k v) (k + 1) j (by simp at hl ⊢; omega)]
    simp only [List.length_cons] at hl ⊢
    by_cases h1 : j < k
    · have : k ≠ j := by omega
      simp [h1, show j < k + 1 by omega, List.getElem?_set_ne this]
    · by_cases h2 : j = k
      · subst h2
        simp [show j < c.length by omega]
      · have : k ≠ j := by omega
        simp only [h1, if_false, show ¬ j < k + 1 by omega, show k + 1 + r.length = k + (r.length + 1) by omega]
        split
        · rw [show j - k = (j - (k + 1)) + 1 by omega]; rfl
        · exact List.getElem?_set_ne this
theorem z6 {α : Type} : ∀ (l c : List α) (k : Nat), (w9 c k l).length = c.length
  | [], c, k => rfl
  | v :: r, c, k => by simp only [w9]; rw [z6 r]; simp
theorem fI {α : Type} (c vs : List α) (k j : Nat) (hl : k + vs.length ≤ c.length) :
    (c.take k ++ vs ++ c.drop (k + vs.length))[j]? = if j < k then c[j]? else if j < k + vs.length then vs[j - k]? else c[j]? := by
  by_cases h1 : j < k
  · rw [List.append_assoc, List.getElem?_append_left (by simp; omega)]
    simp [h1]
  · by_cases h2 : j < k + vs.length
    · rw [List.append_assoc, List.getElem?_append_right (by simp; omega), List.getElem?_append_left (by simp; omega)]
      simp [h1, h2, show min k c.length = k by omega]
    · rw [List.getElem?_append_right (by simp; omega)]
      simp only [h1, h2, if_false, List.length_append, List.length_take, List.getElem?_drop]
      congr 1
      omega
theorem kS (hS : SimH P G ι h w) {b g off : Nat} {cells cs : List AV} (hb : t4 h b g = some cells) (hle : off + cs.length ≤ cells.length) (hne : cells ≠ [])
    {vs : List Value} (hl : cs.length = vs.length) (h1 : ∀ v ∈ vs, v.oneCell' = true) (hv : ∀ (i : Nat) x v, cs[i]? = some x → vs[i]? = some v → VRel ι h w x v) :
    ∃ w', (storeCells ⟨(ι b).1, (ι b).2 + off, none⟩ vs).run P w = .ok () w' ∧ SimH P G ι (h.set b (some ⟨g, w9 cells off cs⟩)) w' ∧ Evo h.length ι h w ι (h.set b (some ⟨g, w9 cells off cs⟩)) w' := by
  have hq := E3 hb
  obtain ⟨c, ty, hc, hlc, hcv⟩ := hS.hr.blk b _ hq hne
  have hblt : b < h.length := by
    rcases Nat.lt_or_ge b h.length with h | h
    · exact h
    · simp [List.getElem?_eq_none h] at hq
  have hlc' : (ι b).2 + cells.length ≤ c.size := hlc
  have hrun := run_storeCells_at P (ι b).1 ((ι b).2 + off) ty vs 0 c w hc (by omega) h1
  simp only [Nat.add_zero] at hrun
  refine ⟨_, hrun, ?_⟩
  have hnew : (w.setRow (ι b).1 (c.toList.take ((ι b).2 + off) ++ vs ++ c.toList.drop ((ι b).2 + off + vs.length)).toArray).heap[(ι b).1]? = some (.cells _ ty (0, 0)) := setRow_heap w _ c _ ty _ hc
  refine hS.upd (h' := h.set b (some ⟨g, w9 cells off cs⟩)) b ⟨g, w9 cells off cs⟩ (ι b).1 (ι b).2 _ ty (.inr ⟨hblt, ⟨_, hq, Nat.le_refl _⟩, rfl⟩) (fun i => by split <;> simp_all)
    (.inr ⟨_, hq, hne, rfl, fun cs2 ty2 fr2 hx => ?_⟩) ?_ hnew ?_ ?_ (by simp) (fun k hk hkk => setRow_other w _ k _ hkk) (fun bk _ _ => rfl) rfl rfl rfl
  · rw [hc] at hx
    injection hx with hx
    injection hx with hx _ _
    subst hx
    simp
    omega
  · intro e
    have := congrArg List.length e
    rw [z6] at this
    exact hne (List.eq_nil_of_length_eq_zero (by simpa using this))
  · simp only [z6, List.size_toArray, List.length_append, List.length_take, List.length_drop, Array.length_toList]
    omega
  · intro j x hx
    simp only [cD cs cells off j hle] at hx
    simp only [List.getElem?_toArray]
    rw [fI c.toList vs ((ι b).2 + off) _ (by simp; omega)]
    by_cases j1 : j < off
    · simp only [j1, if_true] at hx
      simp only [show (ι b).2 + j < (ι b).2 + off by omega, if_true]
      obtain ⟨v, p1, p2⟩ := hcv j x hx
      exact ⟨v, by simpa using p1, p2⟩
    · by_cases j2 : j < off + cs.length
      · simp only [j1, if_false, j2, if_true] at hx
        simp only [show ¬ (ι b).2 + j < (ι b).2 + off by omega, if_false, show (ι b).2 + j < (ι b).2 + off + vs.length by omega, if_true, show (ι b).2 + j - ((ι b).2 + off) = j - off by omega]
        have : j - off < vs.length := by omega
        exact ⟨vs[j - off], by simp, hv _ x _ hx (by simp)⟩
      · simp only [j1, if_false, j2] at hx
        simp only [show ¬ (ι b).2 + j < (ι b).2 + off by omega, if_false, show ¬ (ι b).2 + j < (ι b).2 + off + vs.length by omega]
        obtain ⟨v, p1, p2⟩ := hcv j x hx
        exact ⟨v, by simpa using p1, p2⟩
theorem aM (hS : SimH P G ι h w) (cs : List AV) (hne : cs ≠ []) (c : Array Value) (ty : TypeId) (hl : cs.length ≤ c.size)
    (hv : ∀ (i : Nat) x v, cs[i]? = some x → c[i]? = some v → VRel ι h w x v) :
    let ι' := fun i => if i = h.length then (w.heap.size, 0) else ι i
    SimH P G ι' (h ++ [some ⟨0, cs⟩]) (w.alloc (.cells c ty)) ∧ Evo h.length ι h w ι' (h ++ [some ⟨0, cs⟩]) (w.alloc (.cells c ty)) := by
  refine hS.upd h.length ⟨0, cs⟩ w.heap.size 0 c ty (.inl ⟨rfl, rfl⟩) (fun i => rfl) (.inl (Nat.le_refl _)) hne (heap_alloc_new w _) (by simpa using hl) (fun j x hx => ?_) (by simp) (fun k hk _ => by first | exact heap_alloc_old _ _ hk | exact heap_alloc_old _ _ _ hk) (fun bk hq _ => by simp at hq) rfl rfl rfl
  have hj : j < cs.length := by
    rcases Nat.lt_or_ge j cs.length with h | h
    · exact h
    · simp [List.getElem?_eq_none h] at hx
  have hj' : j < c.size := by omega
  exact ⟨c[j], by simp [hj'], hv j x _ hx (by simp [hj'])⟩
end
end
section
theorem m6 {α : Type} {l : List α} {i : Nat} {x : α} (h : l[i]? = some x) : i < l.length := by
  rcases Nat.lt_or_ge i l.length with h' | h'
  · exact h'
  · rw [List.getElem?_eq_none h'] at h; cases h
theorem fJ {α : Type} {sz : Nat} : ∀ (rows : List (List α)), (∀ row ∈ rows, row.length = sz) → ∀ i j, j < sz → (rows.flatMap id)[i * sz + j]? = P5 rows i j
  | [], _, i, j, _ => by simp [P5]
  | row :: rest, hr, i, j, hj => by
    have h0 : row.length = sz := hr row (by simp)
    simp only [List.flatMap_cons, id]
    cases i with
    | zero => rw [List.getElem?_append_left (by simp; omega)]; simp [P5]
    | succ i =>
      rw [List.getElem?_append_right (by rw [h0, Nat.succ_mul]; omega), h0, show (i + 1) * sz + j - sz = i * sz + j by rw [Nat.succ_mul]; omega]
      rw [fJ rest (fun r hr' => hr r (by simp [hr'])) i j hj]
      simp [P5]
theorem U8 {α : Type} {sz : Nat} : ∀ (rows : List (List α)), (∀ row ∈ rows, row.length = sz) → (rows.flatMap id).length = rows.length * sz
  | [], _ => by simp
  | row :: rest, hr => by
    have h0 : row.length = sz := hr row (by simp)
    simp only [List.flatMap_cons, id, List.length_append, List.length_cons]
    rw [U8 rest (fun r hr' => hr r (by simp [hr'])), h0, Nat.succ_mul]; omega
theorem Q5 {α : Type} (sz : Nat) : ∀ (n : Nat) (l : List α), (B5 sz n l).length = n
  | 0, l => rfl
  | n + 1, l => by simp [B5, Q5 sz n]
theorem fK {α : Type} (sz : Nat) : ∀ (n : Nat) (l : List α), l.length = n * sz → ∀ row ∈ B5 sz n l, row.length = sz
  | 0, l, _ => by simp [B5]
  | n + 1, l, h => by
    intro row hr
    rw [Nat.succ_mul] at h
    simp only [B5, List.mem_cons] at hr
    rcases hr with rfl | hr
    · rw [List.length_take]; omega
    · exact fK sz n (l.drop sz) (by simp; omega) row hr
theorem iP {α : Type} (sz : Nat) : ∀ (n : Nat) (l : List α) (i j : Nat) (x : α), P5 (B5 sz n l) i j = some x → j < sz ∧ i < n ∧ l[i * sz + j]? = some x
  | 0, l, i, j, x, h => by simp [B5, P5] at h
  | n + 1, l, i, j, x, h => by
    cases i with
    | zero =>
      simp only [B5, P5, List.getElem?_cons_zero, Option.bind_some] at h
      rw [List.getElem?_take] at h
      split at h
      · rename_i hj; exact ⟨hj, by omega, by simpa using h⟩
      · cases h
    | succ i =>
      simp only [B5, P5, List.getElem?_cons_succ] at h
      obtain ⟨h1, h2, h3⟩ := iP sz n (l.drop sz) i j x h
      rw [List.getElem?_drop] at h3
      exact ⟨h1, by omega, by rw [Nat.succ_mul, show i * sz + sz + j = sz + (i * sz + j) by omega]; exact h3⟩
section
variable {P : Program} {G : Nat → Option (List PV)} {ι ι' : Nat → Nat × Nat} {h h' : Heap} {w w' : World}
theorem tJ (hS : SimH P G ι h w) {k : Nat} (hk : own ι h k) : k < w.heap.size := by
  obtain ⟨b, bk, h1, h2, h3⟩ := hk
  obtain ⟨c, ty, hc, _⟩ := hS.hr.blk b bk h1 h2
  rw [← h3]; exact J7 hc
theorem fL {o : Nat → Prop} (l : List PV) (sz n c blk off : Nat) (hl : l.length = n * sz) (hc : n ≤ c) (hn : n ≤ 9223372036854775807) (ho : ¬ o blk) (hb : blk < w.heap.size)
    (hv : ∀ (j : Nat) x, l[j]? = some x → ∃ v, w.cell? ⟨blk, off + j, none⟩ = some v ∧ PRel w o x v) :
    PRel w o (.sl (B5 sz n l)) (.slice (some ⟨blk, off, none⟩) n c) := by
  have hf : ∀ q : Nat × Nat, ∃ v, ∀ x, P5 (B5 sz n l) q.1 q.2 = some x → w.cell? ⟨blk, off + (q.1 * sz + q.2), none⟩ = some v ∧ PRel w o x v := by
    intro q
    cases hq : P5 (B5 sz n l) q.1 q.2 with
    | none => exact ⟨undef, fun x hx => by cases hx⟩
    | some x =>
      obtain ⟨_, _, h3⟩ := iP sz n l q.1 q.2 x hq
      obtain ⟨v, hv1, hv2⟩ := hv _ x h3
      exact ⟨v, fun y hy => by cases hy; exact ⟨hv1, hv2⟩⟩
  obtain ⟨f, hf⟩ := Classical.axiomOfChoice hf
  have := PRel.sl (w := w) (own := o) (B5 sz n l) blk off c sz (fun i j => f (i, j)) (by rw [Q5]; exact hc) (by rw [Q5]; exact hn) ho hb (fK sz n l hl) (fun i j x hx => (hf (i, j) x hx).1) (fun i j x hx => (hf (i, j) x hx).2)
  rwa [Q5] at this
theorem oE : ∀ {cs : List AV} {l : List PV}, pvs cs = some l → cs = l.map .p
  | [], l, h => by cases h; rfl
  | .p x :: r, l, h => by
    simp only [pvs, Option.map_eq_some_iff] at h
    obtain ⟨l', h1, rfl⟩ := h
    simp [oE h1]
  | .agg _ :: _, l, h => by cases h
  | .ref .. :: _, l, h => by cases h
  | .ptr .. :: _, l, h => by cases h
  | .pin _ :: _, l, h => by cases h
  | .fn .. :: _, l, h => by cases h
  | .tup _ :: _, l, h => by cases h
theorem VRel.pv {x : PV} {v : Value} (hx : VRel ι h w (.p x) v) : PRel w (own ι h) x v := by cases hx; assumption
theorem dy : ∀ (l : List Value) (off k : Nat) (cells : Array Value), ((l.zipIdx k).foldl (fun cs (q : Value × Nat) => cs.setIfInBounds (off + q.2) q.1) cells).toList = w9 cells.toList (off + k) l
  | [], off, k, cells => rfl
  | v :: r, off, k, cells => by
    simp only [List.zipIdx_cons, List.foldl_cons, w9]
    rw [dy r off (k + 1)]
    simp [Nat.add_assoc]
theorem qJ {R : AV → Value → Prop} {c cs : List AV} {d vs : List Value} {off : Nat} (hl : c.length = d.length) (hl2 : cs.length = vs.length) (hle : off + cs.length ≤ c.length)
    (h1 : ∀ (i : Nat) x v, c[i]? = some x → d[i]? = some v → R x v) (h2 : ∀ (i : Nat) x v, cs[i]? = some x → vs[i]? = some v → R x v) :
    ∀ (i : Nat) x v, (w9 c off cs)[i]? = some x → (w9 d off vs)[i]? = some v → R x v := by
  intro i x v hx hv
  rw [cD cs c off i hle] at hx
  rw [cD vs d off i (by omega)] at hv
  rw [hl2] at hx
  split at hx
  · rename_i hq; simp only [hq, if_true] at hv; exact h1 i x v hx hv
  · rename_i hq
    simp only [hq, if_false] at hv
    split at hx
    · rename_i hq2; simp only [hq2, if_true] at hv; exact h2 _ x v hx hv
    · rename_i hq2; simp only [hq2, if_false] at hv; exact h1 i x v hx hv
theorem Y8 {ρ : Operand → Value} {ρA : Operand → Option AV} (hρ : ∀ x a, ρA x = some a → VRel ι h w a (ρ x)) (pl : Nat → Option (Nat × Nat)) :
    ∀ (parts : List (Nat × Operand)) (c r : List AV) (d : Array Value), c.length = d.size → (∀ (i : Nat) x v, c[i]? = some x → d[i]? = some v → VRel ι h w x v) →
      ap pl c (parts.map fun q => (q.1, ρA q.2)) = some r →
      ∃ d', Instr.fill pl d (parts.map fun q => (q.1, ρ q.2)) = some d' ∧ r.length = d'.size ∧ r.length = c.length ∧ ∀ (i : Nat) x v, r[i]? = some x → d'[i]? = some v → VRel ι h w x v
  | [], c, r, d, hl, hr, hf => by
    simp [ap] at hf
    subst hf
    exact ⟨d, rfl, hl, rfl, hr⟩
  | (i, x) :: rest, c, r, d, hl, hr, hf => by
    simp only [List.map_cons, ap] at hf
    split at hf
    · rename_i off size cs h1 h2
      split at hf
      · rename_i hcond
        obtain ⟨a, ha, hca⟩ := Option.bind_eq_some_iff.mp h2
        obtain ⟨q1, q2, q3⟩ := bZ (hρ x a ha) hca
        have hlen : (w9 c off cs).length = ((ρ x).cells.zipIdx.foldl (fun cs (q : Value × Nat) => cs.setIfInBounds (off + q.2) q.1) d).size := by
          have := congrArg List.length (dy (ρ x).cells.toList off 0 d)
          simp only [z6] at this
          rw [z6, hl, ← Array.foldl_toList, Array.toList_zipIdx]
          simpa using this.symm
        have hgl : ∀ j : Nat, ((ρ x).cells.zipIdx.foldl (fun cs (q : Value × Nat) => cs.setIfInBounds (off + q.2) q.1) d)[j]? = (w9 d.toList off (ρ x).cells.toList)[j]? := by
          intro j
          have := dy (ρ x).cells.toList off 0 d
          rw [Nat.add_zero] at this
          rw [← this, ← Array.foldl_toList, Array.toList_zipIdx]
          simp
        obtain ⟨d', e1, e2, e3, e4⟩ := Y8 hρ pl rest (w9 c off cs) r _ hlen (fun j y u hy hu => by
          rw [hgl] at hu
          exact qJ (R := VRel ι h w) (by simpa using hl) (by simpa using q1) hcond.2 (fun i x v hx hv => hr i x v hx (by simpa using hv)) (fun i x v hx hv => q3 i x v hx (by simpa using hv)) j y u hy hu) hf
        refine ⟨d', ?_, e2, by rw [e3, z6], e4⟩
        simp only [List.map_cons, Instr.fill, h1]
        rw [if_neg]
        · exact e1
        · simp only [Bool.or_eq_true, decide_eq_true_eq, not_or]
          exact ⟨by simp; omega, by omega⟩
      · cases hf
    · cases hf
end
end
section
section
variable {P : Program} {G : Nat → Option (List PV)} {ι ι' : Nat → Nat × Nat} {h h' : Heap} {w w' : World}
def ey (P : Program) (G : Nat → Option (List PV)) (ι : Nat → Nat × Nat) (h : Heap) (w : World) (m : Sem Next) (r : AV) (h' : Heap) : Prop :=
  ∃ v w' ι', (m.run P w = .ok (.value v) w' ∨ (m.run P w = .ok .skip w' ∧ v = undef)) ∧ SimH P G ι' h' w' ∧ VRel ι' h' w' r v ∧ Evo h.length ι h w ι' h' w'
theorem ey.pure (hS : SimH P G ι h w) {m : Sem Next} {r : AV} {v : Value} (hm : m.run P w = .ok (.value v) w) (hr : VRel ι h w r v) : ey P G ι h w m r h :=
  ⟨v, w, ι, .inl hm, hS, hr, .refl (Nat.le_refl _)⟩
theorem iQ : VRel ι h w .undef undef := .tup _ _ rfl fun i x v hx _ => by simp at hx
theorem N4 {k : IntKind} (n : Int) : E1 k (k.wrap n) := by
  unfold E1 IntKind.wrap IntKind.min IntKind.max IntKind.signed IntKind.bits
  cases k <;> simp <;> (try split) <;> omega
theorem VRel.int_inv {k : IntKind} {n : Int} {v : Value} (hx : VRel ι h w (.p (.int k n)) v) : v = .int k n ∧ E1 k n := by
  cases hx with
  | p _ _ hx => cases hx; exact ⟨rfl, by assumption⟩
theorem VRel.bool_inv {b : Bool} {v : Value} (hx : VRel ι h w (.p (.bool b)) v) : v = .bool b := by
  cases hx with
  | p _ _ hx => cases hx; rfl
theorem VRel.nilp_inv {v : Value} (hx : VRel ι h w (.p .nilp) v) : v = .pointer none := by
  cases hx with
  | p _ _ hx => cases hx; rfl
theorem VRel.nilf_inv {v : Value} (hx : VRel ι h w (.p .nilf) v) : v = .nilFunc := by
  cases hx with
  | p _ _ hx => cases hx; rfl
theorem VRel.nils_inv {v : Value} (hx : VRel ι h w (.p .nils) v) : v = .slice none 0 0 := by
  cases hx with
  | p _ _ hx => cases hx; rfl
theorem VRel.b {b : Bool} : VRel ι h w (.b b) (.bool b) := .p _ _ (.bool b)
theorem VRel.int (k : IntKind) (n : Int) (hn : E1 k n) : VRel ι h w (.p (.int k n)) (.int k n) := .p _ _ (.int k n hn)
theorem VRel.ptr_inv {b g off : Nat} {v : Value} (hx : VRel ι h w (.ptr b g off) v) (hl : C6 h b g) : v = .pointer (some ⟨(ι b).1, (ι b).2 + off, none⟩) ∧ b < h.length := by
  cases hx with
  | ptr _ _ _ A hb hg hv => rw [hv hl]; exact ⟨rfl, hb⟩
theorem VRel.ptr_any {b g off : Nat} {v : Value} (hx : VRel ι h w (.ptr b g off) v) : ∃ A : Addr, v = .pointer (some A) ∧ b < h.length ∧ (∀ bk : Blk, h[b]? = some (some bk) → g ≤ bk.g) ∧ (C6 h b g → A = ⟨(ι b).1, (ι b).2 + off, none⟩) := by
  cases hx with
  | ptr _ _ _ A hb hg hv => exact ⟨A, rfl, hb, hg, hv⟩
theorem VRel.pin_inv {cells : List PV} {v : Value} (hx : VRel ι h w (.pin cells) v) : ∃ blk off, v = .pointer (some ⟨blk, off, none⟩) ∧ W0 w (own ι h) cells blk off := by
  cases hx with
  | pin _ blk off hv => exact ⟨blk, off, rfl, hv⟩
theorem D2 {b g : Nat} (hl : C6 h b g) : b < h.length ∧ ∀ bk : Blk, h[b]? = some (some bk) → g ≤ bk.g := by
  obtain ⟨bk, hq, e⟩ := hl
  refine ⟨m6 hq, fun bk2 hq2 => ?_⟩
  rw [hq] at hq2
  cases hq2
  omega
theorem jP {b g : Nat} (hl : C6 h b g) (off : Nat) : VRel ι h w (.ptr b g off) (.pointer (some ⟨(ι b).1, (ι b).2 + off, none⟩)) :=
  .ptr b g off _ (D2 hl).1 (D2 hl).2 fun _ => rfl
theorem fM (hS : SimH P G ι h w) {t : Nat} {x r : AV} {v : Value} (hx : VRel ι h w x v) (hr : aL P h t x = some r) : ∃ u, (Instr.loadAt t v).run P w = .ok u w ∧ VRel ι h w r u := by
  unfold aL at hr
  split at hr
  · rename_i i b g off ht
    obtain ⟨cells, hb, hr⟩ := Option.bind_eq_some_iff.mp hr
    obtain ⟨rfl, _⟩ := hx.ptr_inv (A4 hb)
    obtain ⟨u, h1, h2⟩ := bN (P := P) ht ((Q4 hS hb).drop off) hr
    exact ⟨u, by simpa [Instr.loadAt, Instr.sureAddr] using h1, h2⟩
  · rename_i i cells ht
    obtain ⟨blk, off, rfl, hp⟩ := hx.pin_inv
    obtain ⟨u, h1, h2⟩ := bN (P := P) ht (jO hp) hr
    exact ⟨u, by simpa [Instr.loadAt, Instr.sureAddr] using h1, h2⟩
  · cases hr
theorem kT {vs : Array Value} {cs : List AV} (hv : ∀ (i : Nat) y u, cs[i]? = some y → vs[i]? = some u → VRel ι h w y u) : ∀ (i : Nat) y u, cs[i]? = some y → vs.toList[i]? = some u → VRel ι h w y u :=
  fun i y u hy hu => hv i y u hy (by simpa using hu)
theorem kU {cs : List AV} {vs : List Value} (hl : cs.length = vs.length) (hs : ∀ y ∈ cs, y.scalar = true) (hv : ∀ (i : Nat) y u, cs[i]? = some y → vs[i]? = some u → VRel ι h w y u) : ∀ v ∈ vs, v.oneCell' = true := by
  intro v hm
  obtain ⟨i, hi, rfl⟩ := List.getElem_of_mem hm
  have hi' : i < cs.length := by omega
  exact (hv i cs[i] vs[i] (by simp) (by simp)).oneCell (hs _ (List.getElem_mem hi'))
theorem fN (hS : SimH P G ι h w) {t : Nat} {a x : AV} {va vx : Value} (ha : VRel ι h w a va) (hx : VRel ι h w x vx) (hr : jK P h t a x = some h') :
    ∃ w', (Instr.storeAt t va vx).run P w = .ok () w' ∧ SimH P G ι h' w' ∧ Evo h.length ι h w ι h' w' := by
  unfold jK at hr
  split at hr
  · rename_i i b g off cs ht hcs
    obtain ⟨cells, hb, hr⟩ := Option.bind_eq_some_iff.mp hr
    split at hr
    · rename_i hcond
      cases hr
      obtain ⟨rfl, _⟩ := ha.ptr_inv (A4 hb)
      obtain ⟨q1, q2, q3⟩ := bZ hx hcs
      have hsz : vx.cells.size = i.size := by omega
      by_cases hne : cells = []
      · subst hne
        have hz : cs = [] := by cases cs with | nil => rfl | cons => simp at hcond
        subst hz
        simp at q1
        have hvs : vx.cells.toList = [] := by rw [Array.eq_empty_of_size_eq_zero q1.symm]
        refine ⟨w, ?_, ?_, ?_⟩
        · simp [Instr.storeAt, Instr.sureAddr, storeVar, Sem.run_bind, G6 ht, hsz, hvs, storeCells]
        · simp only [w9]
          have : h.set b (some ⟨g, []⟩) = h := by
            apply List.ext_getElem?
            intro k
            by_cases hk : b = k
            · subst hk; rw [E3 hb]; simp [(D2 (A4 hb)).1]
            · rw [List.getElem?_set_ne hk]
          rw [this]; exact hS
        · simp only [w9]
          have : h.set b (some ⟨g, []⟩) = h := by
            apply List.ext_getElem?
            intro k
            by_cases hk : b = k
            · subst hk; rw [E3 hb]; simp [(D2 (A4 hb)).1]
            · rw [List.getElem?_set_ne hk]
          rw [this]; exact .refl (Nat.le_refl _)
      · obtain ⟨w', e1, e2, e3⟩ := kS hS hb hcond.2 hne (vs := vx.cells.toList) (by simpa using q1) (kU (by simpa using q1) q2 (kT q3)) (kT q3)
        refine ⟨w', ?_, e2, e3⟩
        simp [Instr.storeAt, Instr.sureAddr, storeVar, Sem.run_bind, G6 ht, hsz, e1]
    · cases hr
  · cases hr
theorem fj {t f : Nat} {x r : AV} {v : Value} (hS : SimH P G ι h w) (hx : VRel ι h w x v) (hr : N3 P h t x f = some r) :
    ∃ u, (Instr.fieldAt t v f).run P w = .ok u w ∧ VRel ι h w r u := by
  unfold N3 at hr
  split at hr
  · rename_i fs _ _ _ ht
    obtain ⟨inf, d, h1, h2, h3, h4, h5, h6⟩ := m5 ht
    obtain ⟨F, rfl, rfl⟩ := O0 h3
    split at hr
    · rename_i o s ft hf
      split at hr
      · cases hr
      · rename_i hs0
        simp only [List.getElem?_map, Option.map_eq_some_iff] at hf
        obtain ⟨fd, hfd, he⟩ := hf
        simp only [Prod.mk.injEq] at he
        obtain ⟨rfl, rfl, rfl⟩ := he
        have hfd' : F[f]? = some fd := by simpa using hfd
        have hsz : (sizeOf fd.type).run P w = .ok (P.cellsOf fd.type) w := by
          have hs0' := hs0
          unfold Program.cellsOf at hs0' ⊢
          cases hq : P.info? fd.type with
          | none => rw [hq] at hs0'; simp at hs0'
          | some i => simp [sizeOf, typeInfo, hq]
        split at hr
        · rename_i b g off
          cases hr
          obtain ⟨A, rfl, hb, hg, hv⟩ := hx.ptr_any
          refine ⟨.pointer (some (A.add fd.offset)), ?_, .ptr _ _ _ _ hb hg fun hl => ?_⟩
          · simp [Instr.fieldAt, Sem.run_bind, run_underlying h2, hfd', Instr.sureAddr, fieldPlace, hsz, hs0]
          · rw [hv hl]; simp [Addr.add_lit, Nat.add_assoc]
        · rename_i cells
          cases hr
          obtain ⟨blk, off, rfl, hp⟩ := hx.pin_inv
          refine ⟨.pointer (some ⟨blk, off + fd.offset, none⟩), ?_, .pin _ _ _ ⟨hp.1, hp.2.1, fun j x hx => ?_⟩⟩
          · simp [Instr.fieldAt, Sem.run_bind, run_underlying h2, hfd', Instr.sureAddr, fieldPlace, hsz, hs0, Addr.add_lit]
          · rw [List.getElem?_drop] at hx
            rw [Nat.add_assoc]
            exact hp.2.2 _ x hx
        · cases hr
    · cases hr
  · cases hr
theorem B2 {P : Program} {e : Nat} (h0 : s8 P e ≠ 0) (w : World) : (sizeOf e).run P w = .ok (s8 P e) w := by
  unfold s8 at h0 ⊢
  cases hq : l7 P e with
  | none => rw [hq] at h0; simp at h0
  | some i => exact G6 hq w
theorem VRel.sl_inv {rows : List (List PV)} {v : Value} (hx : VRel ι h w (.p (.sl rows)) v) : ∃ A c, v = .slice A rows.length c ∧ rows.length ≤ 9223372036854775807 ∧
    (rows = [] ∨ ∃ blk off sz, rows.length ≤ c ∧ A = some ⟨blk, off, none⟩ ∧ ¬ own ι h blk ∧ blk < w.heap.size ∧ (∀ row ∈ rows, row.length = sz) ∧
      ∀ i j x, P5 rows i j = some x → ∃ u, w.cell? ⟨blk, off + (i * sz + j), none⟩ = some u ∧ PRel w (own ι h) x u) := by
  cases hx with
  | p _ _ hx =>
    cases hx with
    | slz A c => exact ⟨A, c, rfl, by simp, .inl rfl⟩
    | sl _ blk off c sz f hc hn ho hb hsz hcell hrec =>
      exact ⟨_, c, rfl, hn, .inr ⟨blk, off, sz, hc, rfl, ho, hb, hsz, fun i j x hx => ⟨_, hcell i j x hx, hrec i j x hx⟩⟩⟩
theorem VRel.ref_inv {b g off sz len : Nat} {v : Value} (hx : VRel ι h w (.ref b g off sz len) v) (hl : C6 h b g) : ∃ A c, v = .slice A len c ∧ len ≤ 9223372036854775807 ∧
    ((len = 0 ∧ c = 0) ∨ (A = some ⟨(ι b).1, (ι b).2 + off, none⟩ ∧ len ≤ c ∧ (∃ bk : Blk, h[b]? = some (some bk) ∧ bk.cells ≠ []) ∧
      ∃ cs ty fr, w.heap[(ι b).1]? = some (.cells cs ty fr) ∧ (ι b).2 + off + c * sz ≤ cs.size)) := by
  cases hx with
  | ref _ _ _ _ _ A c hn hb hg hv => exact ⟨A, c, rfl, hn, hv hl⟩
theorem fk (hS : SimH P G ι h w) {t : Nat} {x ix r : AV} {v vi : Value} (hx : VRel ι h w x v) (hi : VRel ι h w ix vi) (hr : A3 P h t x ix = some r) :
    ∃ u, (Instr.indexAt t v vi).run P w = .ok u w ∧ VRel ι h w r u := by
  unfold A3 at hr
  split at hr
  · rename_i n e _ _ _ k i ht
    obtain ⟨rfl, _⟩ := hi.int_inv
    obtain ⟨inf, d, h1, h2, h3, h4, h5, h6⟩ := m5 ht
    have hd := J9 h3
    subst hd
    split at hr
    case isFalse => cases hr
    rename_i hin
    split at hr
    · rename_i b g off
      cases hr
      obtain ⟨A, rfl, hb, hg, hv⟩ := hx.ptr_any
      refine ⟨.pointer (some (A.add (i.toNat * s8 P e))), ?_, .ptr _ _ _ _ hb hg fun hl => ?_⟩
      · simp [Instr.indexAt, asIntOf, Sem.run_bind, run_underlying h2, Instr.sureAddr, hin.1, hin.2.1, B2 hin.2.2]
      · rw [hv hl]; simp [Addr.add_lit, Nat.add_assoc]
    · rename_i cells
      cases hr
      obtain ⟨blk, off, rfl, hp⟩ := hx.pin_inv
      refine ⟨.pointer (some ⟨blk, off + i.toNat * s8 P e, none⟩), ?_, .pin _ _ _ ⟨hp.1, hp.2.1, fun j x hx => ?_⟩⟩
      · simp [Instr.indexAt, asIntOf, Sem.run_bind, run_underlying h2, Instr.sureAddr, hin.1, hin.2.1, B2 hin.2.2, Addr.add_lit, Nat.add_assoc]
      · rw [List.getElem?_drop] at hx
        rw [Nat.add_assoc]
        exact hp.2.2 _ x hx
    · cases hr
  · rename_i e _ _ _ k i ht
    obtain ⟨rfl, _⟩ := hi.int_inv
    obtain ⟨inf, d, h1, h2, h3, h4, h5, h6⟩ := m5 ht
    have hd := J8 h3
    subst hd
    split at hr
    · rename_i rows
      split at hr
      case isFalse => cases hr
      rename_i hi0
      split at hr
      · rename_i row hrow
        split at hr
        case isFalse => cases hr
        rename_i hsz
        cases hr
        obtain ⟨A, c, rfl, _, hcase⟩ := hx.sl_inv
        rcases hcase with rfl | ⟨blk, off, sz, hc, rfl, ho, hb, hs, hcell⟩
        · simp at hrow
        · have hlt := m6 hrow
          have hrsz : sz = s8 P e := by rw [← hsz.1]; exact (hs row (List.mem_of_getElem? hrow)).symm
          subst hrsz
          refine ⟨.pointer (some ⟨blk, off + i.toNat * s8 P e, none⟩), ?_, .pin _ _ _ ⟨ho, hb, fun j x hx => ?_⟩⟩
          · have hi1 : i < (rows.length : Int) := by omega
            simp [Instr.indexAt, asIntOf, Sem.run_bind, run_underlying h2, Instr.sureAddr, hi0, hi1, B2 hsz.2, Addr.add_lit, Nat.add_assoc]
          · obtain ⟨u, hu1, hu2⟩ := hcell i.toNat j x (by simp [P5, hrow, hx])
            exact ⟨u, by rw [Nat.add_assoc]; exact hu1, hu2⟩
      · cases hr
    · rename_i b g off sz len
      split at hr
      case isFalse => cases hr
      rename_i hc
      obtain ⟨c1, c2, c3, c4, c5⟩ := hc
      cases hr
      obtain ⟨A, c, rfl, _, hcase⟩ := hx.ref_inv (Y7 c5)
      rcases hcase with ⟨hz, _⟩ | ⟨rfl, _⟩
      · omega
      · refine ⟨_, ?_, jP (Y7 c5) _⟩
        have hi1 : i < (len : Int) := by omega
        subst c3
        simp [Instr.indexAt, asIntOf, Sem.run_bind, run_underlying h2, Instr.sureAddr, c1, hi1, B2 c4, Addr.add_lit, Nat.add_assoc]
    · cases hr
  · cases hr
theorem fO {t : Nat} {i : TI} (ht : l7 P t = some i) {cells : List AV} {vs : Array Value} (hl : cells.length = vs.size)
    (hv : ∀ (j : Nat) x v, cells[j]? = some x → vs[j]? = some v → VRel ι h w x v) {o : Nat} {r : AV} (hr : P8 i (cells.drop o) = some r) :
    ∃ v, (part t vs o).run P w = .ok v w ∧ VRel ι h w r v := by
  unfold P8 at hr
  unfold part
  simp only [Sem.run_bind, iN ht, Result.andThen_ok]
  split at hr
  · rename_i hagg
    split at hr
    · rename_i hle
      cases hr
      refine ⟨_, by simp [hagg, Sem.run_bind, G6 ht]; rfl, .agg _ _ ?_ fun j x v hx hv' => ?_⟩
      · simp at hle ⊢; omega
      · rw [List.getElem?_take] at hx
        split at hx
        · rename_i hj
          rw [List.getElem?_drop] at hx
          refine hv _ x v hx ?_
          rw [Array.getElem?_extract] at hv'
          split at hv'
          · exact hv'
          · cases hv'
        · cases hx
    · cases hr
  · rename_i hagg
    split at hr
    · rename_i x rest hd
      cases hr
      have hx : cells[o]? = some r := by
        have := congrArg (·[0]?) hd
        simpa [List.getElem?_drop] using this
      have ho : o < vs.size := by have := m6 hx; omega
      refine ⟨vs[o], by simp [hagg, ho], hv o r _ hx (by simp [ho])⟩
    · cases hr
theorem VRel.agg_inv {cells : List AV} {v : Value} (hx : VRel ι h w (.agg cells) v) : ∃ vs, v = .agg vs ∧ cells.length = vs.size ∧ ∀ (i : Nat) x v, cells[i]? = some x → vs[i]? = some v → VRel ι h w x v := by
  cases hx with
  | agg _ vs hl hv => exact ⟨vs, rfl, hl, hv⟩
theorem kV {t : Nat} {x ix r : AV} {v vi : Value} (hx : VRel ι h w x v) (hi : VRel ι h w ix vi) (hr : jL P t x ix = some r) :
    ∃ u, (Instr.index t v vi).run P w = .ok u w ∧ VRel ι h w r u := by
  unfold jL at hr
  split at hr
  · rename_i n e _ _ _ cells k i ht
    obtain ⟨rfl, _⟩ := hi.int_inv
    obtain ⟨inf, d, h1, h2, h3, h4, h5, h6⟩ := m5 ht
    have hd := J9 h3
    subst hd
    split at hr
    case isFalse => cases hr
    rename_i hin
    obtain ⟨ie, he, hr⟩ := Option.bind_eq_some_iff.mp hr
    obtain ⟨vs, rfl, hl, hv⟩ := hx.agg_inv
    obtain ⟨u, p1, p2⟩ := fO (P := P) he hl hv hr
    exact ⟨u, by simp [Instr.index, asIntOf, Sem.run_bind, run_underlying h2, hin, G6 he, p1], p2⟩
  · cases hr
theorem kW {t f : Nat} {x r : AV} {v : Value} (hx : VRel ι h w x v) (hr : jM P t x f = some r) :
    ∃ u, (Instr.field t v f).run P w = .ok u w ∧ VRel ι h w r u := by
  unfold jM at hr
  split at hr
  · rename_i fs _ _ _ cells ht
    obtain ⟨inf, d, h1, h2, h3, h4, h5, h6⟩ := m5 ht
    obtain ⟨F, rfl, rfl⟩ := O0 h3
    split at hr
    · rename_i o s ft hf
      simp only [List.getElem?_map, Option.map_eq_some_iff] at hf
      obtain ⟨fd, hfd, he⟩ := hf
      simp only [Prod.mk.injEq] at he
      obtain ⟨rfl, rfl, rfl⟩ := he
      have hfd' : F[f]? = some fd := by simpa using hfd
      obtain ⟨ie, he, hr⟩ := Option.bind_eq_some_iff.mp hr
      obtain ⟨vs, rfl, hl, hv⟩ := hx.agg_inv
      obtain ⟨u, p1, p2⟩ := fO (P := P) he hl hv hr
      exact ⟨u, by simp [Instr.field, Sem.run_bind, run_underlying h2, hfd', asAgg, p1], p2⟩
    · cases hr
  · cases hr
theorem pw {t : Nat} (h2 : P.underlying t = some .bool) (a b : Bool) (w : World) : (Op.equal t (.bool a) (.bool b)).run P w = .ok (a == b) w :=
  run_equalIn_bool' w 9999 t a b h2
theorem px (d : Nat) {t e : Nat} (h2 : P.underlying t = some (.pointer e)) (w : World) : (Op.equalIn (d + 1) t (.pointer none) (.pointer none)).run P w = .ok true w := by
  simp [Op.equalIn, Sem.run_bind, run_underlying h2]
theorem qK {t e : Nat} (h2 : P.underlying t = some (.pointer e)) (w : World) : (Op.equal t (.pointer none) (.pointer none)).run P w = .ok true w := px 9999 h2 w
theorem mR (d : Nat) {t : Nat} {a b c} (h2 : P.underlying t = some (.func a b c)) (w : World) : (Op.equalIn (d + 1) t .nilFunc .nilFunc).run P w = .ok true w := by
  simp [Op.equalIn, Sem.run_bind, run_underlying h2]
theorem py {t : Nat} {a b c} (h2 : P.underlying t = some (.func a b c)) (w : World) : (Op.equal t .nilFunc .nilFunc).run P w = .ok true w := mR 9999 h2 w
theorem qL (d : Nat) {t : Nat} {a b c} (h2 : P.underlying t = some (.func a b c)) (f : Fn) (x y : Array Value) (w : World) : (Op.equalIn (d + 1) t (.func f x y) .nilFunc).run P w = .ok false w := by
  simp [Op.equalIn, Sem.run_bind, run_underlying h2]
theorem sr {t : Nat} {a b c} (h2 : P.underlying t = some (.func a b c)) (f : Fn) (x y : Array Value) (w : World) : (Op.equal t (.func f x y) .nilFunc).run P w = .ok false w := qL 9999 h2 f x y w
theorem bO {e : Nat} {isInt : Bool} {d : Nat} (hc : P.cellsOf e = 1) (he : if isInt then ∃ k, P.underlying e = some (.int k) else P.underlying e = some .bool) {X Y : Array Value} :
    ∀ (xs ys : List AV) (s : Nat) (b : Bool), u7 isInt xs ys = some b → (∀ (j : Nat) x, xs[j]? = some x → ∃ v, X[s + j]? = some v ∧ VRel ι h w x v) → (∀ (j : Nat) x, ys[j]? = some x → ∃ v, Y[s + j]? = some v ∧ VRel ι h w x v) →
      (Op.eqItems (d + 1) e (P.cellsOf e) X Y (List.range' s xs.length)).run P w = .ok b w := by
  have hp : P.plainKey e = true := by
    cases isInt with
    | true => obtain ⟨k, hk⟩ := he; simp [Program.plainKey, hk]
    | false => simp at he; simp [Program.plainKey, he]
  intro xs
  induction xs with
  | nil =>
    intro ys s b hb _ _
    cases ys with
    | nil => cases isInt <;> (simp [u7] at hb; subst hb; simp [Op.eqItems])
    | cons y r => cases isInt <;> simp [u7] at hb
  | cons x r ih =>
    intro ys s b hb hx hy
    have nx : ∀ (j : Nat) z, r[j]? = some z → ∃ v, X[s + 1 + j]? = some v ∧ VRel ι h w z v := fun j z hz => by
      have := hx (j + 1) z (by simpa using hz)
      rwa [show s + (j + 1) = s + 1 + j by omega] at this
    obtain ⟨v, hv, hxv⟩ := hx 0 x rfl
    simp only [Nat.add_zero] at hv
    simp only [List.length_cons, List.range'_succ, Op.eqItems, hc, Nat.mul_one] at *
    unfold u7 at hb
    split at hb
    · rename_i h2; simp at h2
    · rename_i k a r1 k' b' r' h1
      cases h1
      have ny : ∀ (j : Nat) z, r'[j]? = some z → ∃ v, Y[s + 1 + j]? = some v ∧ VRel ι h w z v := fun j z hz => by
        have := hy (j + 1) z (by simpa using hz)
        rwa [show s + (j + 1) = s + 1 + j by omega] at this
      obtain ⟨u, hu, hyu⟩ := hy 0 _ rfl
      simp only [Nat.add_zero] at hu
      split at hb
      · rename_i hk
        subst hk
        obtain ⟨c, hc', rfl⟩ := Option.map_eq_some_iff.mp hb
        obtain ⟨rfl, _⟩ := hxv.int_inv
        obtain ⟨rfl, _⟩ := hyu.int_inv
        obtain ⟨k2, hk2⟩ := he
        have q := ih r' (s + 1) c hc' nx ny
        have p3 : (Op.equalIn (d + 1) e (.int k a) (.int k b')).run P w = .ok (a == b') w := run_equalIn_int w d e k k2 a b' hk2
        simp only [Sem.run_bind, run_part_plain w hp hv, run_part_plain w hp hu, p3, Result.andThen_ok]
        cases hab : (a == b') <;> simp [q]
      · cases hb
    · rename_i a r1 b' r' h1
      cases h1
      have ny : ∀ (j : Nat) z, r'[j]? = some z → ∃ v, Y[s + 1 + j]? = some v ∧ VRel ι h w z v := fun j z hz => by
        have := hy (j + 1) z (by simpa using hz)
        rwa [show s + (j + 1) = s + 1 + j by omega] at this
      obtain ⟨u, hu, hyu⟩ := hy 0 _ rfl
      simp only [Nat.add_zero] at hu
      obtain ⟨c, hc', rfl⟩ := Option.map_eq_some_iff.mp hb
      have e1 := hxv.bool_inv
      have e2 := hyu.bool_inv
      subst e1; subst e2
      have q := ih r' (s + 1) c hc' nx ny
      have p3 : (Op.equalIn (d + 1) e (.bool a) (.bool b')).run P w = .ok (a == b') w := run_equalIn_bool' w d e a b' (by simpa using he)
      simp only [Sem.run_bind, run_part_plain w hp hv, run_part_plain w hp hu, p3, Result.andThen_ok]
      cases hab : (a == b') <;> simp [q]
    · cases hb
def aE (A B : Nat → Int) (s n : Nat) : Bool := (List.range' s n).all fun j => A j == B j
theorem mS (A B : Nat → Int) (s m r : Nat) : aE A B s (m + r) = (aE A B s m && aE A B (s + m) r) := by
  unfold aE
  rw [← List.range'_append_1, List.all_append]
theorem kX (A B : Nat → Int) (s o n : Nat) : aE (fun j => A (s + j)) (fun j => B (s + j)) o n = aE A B (s + o) n := by
  unfold aE
  rw [← List.map_add_range', List.all_map]
  rfl
def fP (P : Program) (w : World) (dd t n : Nat) : Prop := ∀ (X Y : Array Value) (s : Nat) (K : Nat → IntKind) (A B : Nat → Int),
    (∀ j, s ≤ j → j < s + n → X[j]? = some (.int (K j) (A j)) ∧ Y[j]? = some (.int (K j) (B j))) →
    ∃ a b, (part t X s).run P w = .ok a w ∧ (part t Y s).run P w = .ok b w ∧ (Op.equalIn dd t a b).run P w = .ok (aE A B s n) w
theorem fQ {dd e m : Nat} (hc : P.cellsOf e = m) (ih : fP P w dd e m) {X Y : Array Value} {K : Nat → IntKind} {A B : Nat → Int} :
    ∀ (k i : Nat), (∀ j, i * m ≤ j → j < i * m + k * m → X[j]? = some (.int (K j) (A j)) ∧ Y[j]? = some (.int (K j) (B j))) → (Op.eqItems dd e (P.cellsOf e) X Y (List.range' i k)).run P w = .ok (aE A B (i * m) (k * m)) w
  | 0, i, _ => by simp [Op.eqItems, aE]
  | k + 1, i, h => by
    have e1 : (k + 1) * m = m + k * m := by rw [Nat.add_mul, Nat.one_mul, Nat.add_comm]
    have e2 : (i + 1) * m = i * m + m := by rw [Nat.add_mul, Nat.one_mul]
    have q := fQ hc ih k (i + 1) (X := X) (Y := Y) (K := K) (A := A) (B := B) fun j h1 h2 => h j (by omega) (by omega)
    obtain ⟨a, b, p1, p2, p3⟩ := ih X Y (i * m) K A B fun j h1 h2 => h j h1 (by omega)
    rw [List.range'_succ, Op.eqItems, e1, mS]
    rw [hc] at q ⊢
    simp only [Sem.run_bind, p1, p2, p3, Result.andThen_ok]
    rw [e2] at q
    cases hab : aE A B (i * m) m <;> simp [q]
theorem ez {dd : Nat} {rec : Nat → Option Nat} (ih : ∀ t n, rec t = some n → P.cellsOf t = n → fP P w dd t n) {X Y : Array Value} {K : Nat → IntKind} {A B : Nat → Int} :
    ∀ (fs : List Field) (o n : Nat), kR P rec fs o = some n → o ≤ n ∧ ((∀ j, o ≤ j → j < n → X[j]? = some (.int (K j) (A j)) ∧ Y[j]? = some (.int (K j) (B j))) → (Op.eqFields dd X Y fs).run P w = .ok (aE A B o (n - o)) w)
  | [], o, n, h => by
    simp only [kR, Option.some.injEq] at h
    subst h
    exact ⟨Nat.le_refl _, fun _ => by simp [Op.eqFields, aE]⟩
  | f :: r, o, n, h => by
    unfold kR at h
    split at h
    · rename_i m hm
      split at h
      · rename_i hc
        obtain ⟨h1, h2, h3⟩ := hc
        obtain ⟨q1, q2⟩ := ez ih r (o + m) n h (X := X) (Y := Y) (K := K) (A := A) (B := B)
        refine ⟨by omega, fun hj => ?_⟩
        obtain ⟨a, b, p1, p2, p3⟩ := ih f.type m hm h3 X Y o K A B fun j g1 g2 => hj j g1 (by omega)
        have q := q2 fun j g1 g2 => hj j (by omega) g2
        have hn : f.name ≠ "_" := by simpa using h1
        rw [show n - o = m + (n - (o + m)) by omega, mS, Op.eqFields, if_pos hn]
        simp only [Sem.run_bind, h2, p1, p2, p3, Result.andThen_ok]
        cases hab : aE A B o m <;> simp [q]
      · cases h
    · cases h
theorem kY {dd t n : Nat} {d : TypeDesc} (hu : P.underlying t = some d) (hd : (∃ k e, d = .array k e) ∨ ∃ fs, d = .struct fs) (hc : P.cellsOf t = n)
    (hin : ∀ (X Y : Array Value) (K : Nat → IntKind) (A B : Nat → Int), (∀ j, j < n → X[j]? = some (.int (K j) (A j)) ∧ Y[j]? = some (.int (K j) (B j))) → (Op.equalIn dd t (.agg X) (.agg Y)).run P w = .ok (aE A B 0 n) w) : fP P w dd t n := by
  intro X Y s K A B h
  obtain ⟨i, hi⟩ := info_of_underlying hu
  have hp : ∀ Z : Array Value, (part t Z s).run P w = .ok (.agg (Z.extract s (s + n))) w := by
    intro Z
    rcases hd with ⟨k, e, rfl⟩ | ⟨fs, rfl⟩ <;> simp [part, isAgg, run_underlying hu, run_sizeOf w hi, hc]
  refine ⟨_, _, hp X, hp Y, ?_⟩
  have hx : ∀ (Z : Array Value) (j : Nat), j < n → (∃ v, Z[s + j]? = some v) → (Z.extract s (s + n))[j]? = Z[s + j]? := by
    intro Z j hj ⟨v, hv⟩
    have hlt : s + j < Z.size := by
      rcases Nat.lt_or_ge (s + j) Z.size with h | h
      · exact h
      · rw [Array.getElem?_eq_none h] at hv; cases hv
    rw [Array.getElem?_extract]
    rw [if_pos (by omega)]
  have := hin (X.extract s (s + n)) (Y.extract s (s + n)) (fun j => K (s + j)) (fun j => A (s + j)) (fun j => B (s + j)) fun j hj => by
    obtain ⟨h1, h2⟩ := h (s + j) (by omega) (by omega)
    rw [hx X j hj ⟨_, h1⟩, hx Y j hj ⟨_, h2⟩]
    exact ⟨h1, h2⟩
  rw [kX] at this
  exact this
theorem oF : ∀ (D dd t n : Nat), D ≤ dd → cB P D t = some n → (P.cellsOf t = n → fP P w dd t n) ∧
    (∀ d, P.underlying t = some d → (∃ fs, d = .struct fs) → ∀ (X Y : Array Value) (K : Nat → IntKind) (A B : Nat → Int), (∀ j, j < n → X[j]? = some (.int (K j) (A j)) ∧ Y[j]? = some (.int (K j) (B j))) → (Op.equalIn dd t (.agg X) (.agg Y)).run P w = .ok (aE A B 0 n) w)
  | 0, _, _, _, _, h => by simp [cB] at h
  | D + 1, 0, _, _, hd, _ => by omega
  | D + 1, dd + 1, t, n, hd, h => by
    have ih : ∀ t n, cB P D t = some n → P.cellsOf t = n → fP P w dd t n := fun t n h1 h2 => (oF D dd t n (by omega) h1).1 h2
    unfold cB at h
    split at h
    · rename_i k hu
      cases h
      refine ⟨fun hc => fun X Y s K A B hj => ?_, fun d hd => by rw [hu] at hd; cases hd; rintro ⟨_, h⟩; cases h⟩
      obtain ⟨h1, h2⟩ := hj s (Nat.le_refl _) (by omega)
      have hp : P.plainKey t = true := by simp [Program.plainKey, hu]
      refine ⟨_, _, run_part_plain w hp h1, run_part_plain w hp h2, ?_⟩
      rw [run_equalIn_int w dd t (K s) k (A s) (B s) hu]
      simp [aE]
    · rename_i k e hu
      split at h
      · rename_i m hm
        split at h
        · rename_i hc
          cases h
          refine ⟨fun hct => kY hu (.inl ⟨_, _, rfl⟩) hct fun X Y K A B hj => ?_, fun d hd => by rw [hu] at hd; cases hd; rintro ⟨_, h⟩; cases h⟩
          have he : ∃ i, P.info? e = some i := by
            cases D with
            | zero => simp [cB] at hm
            | succ D =>
              unfold cB at hm
              cases hue : P.underlying e with
              | none => simp [hue] at hm
              | some _ => exact info_of_underlying hue
          obtain ⟨i, hi⟩ := he
          rw [run_equalIn_array w dd X Y hu hi, List.range_eq_range']
          have := fQ hc (ih e m hm hc) k 0 (X := X) (Y := Y) (K := K) (A := A) (B := B) fun j h1 h2 => hj j (by simpa using h2)
          simpa using this
        · cases h
      · cases h
    · rename_i fs hu
      split at h
      · cases h
      rename_i hst
      have key : ∀ (X Y : Array Value) (K : Nat → IntKind) (A B : Nat → Int), (∀ j, j < n → X[j]? = some (.int (K j) (A j)) ∧ Y[j]? = some (.int (K j) (B j))) → (Op.equalIn (dd + 1) t (.agg X) (.agg Y)).run P w = .ok (aE A B 0 n) w := by
        intro X Y K A B hj
        have hfs : P.fieldsOf t = fs := by simp [Program.fieldsOf, hu]
        rw [run_equalIn_struct w dd t X Y (by rw [hfs]; exact hu) (by simpa using hst), hfs]
        exact (ez ih fs.toList 0 n h).2 fun j _ h2 => hj j h2
      exact ⟨fun hc => kY hu (.inr ⟨_, rfl⟩) hc key, fun d hd _ => key⟩
    · cases h
theorem cE {ι : Nat → Nat × Nat} {h : Heap} {w : World} : ∀ (xs ys : List AV) (b : Bool), u7 true xs ys = some b →
    xs.length = ys.length ∧ ∃ (K : Nat → IntKind) (A B : Nat → Int), (∀ j, j < xs.length → xs[j]? = some (.p (.int (K j) (A j))) ∧ ys[j]? = some (.p (.int (K j) (B j)))) ∧ b = aE A B 0 xs.length
  | [], [], b, hb => by
    simp [u7] at hb
    exact ⟨rfl, fun _ => .i64, fun _ => 0, fun _ => 0, fun j hj => absurd hj (Nat.not_lt_zero _), by subst hb; rfl⟩
  | [], y :: r, b, hb => by simp [u7] at hb
  | x :: r, ys, b, hb => by
    unfold u7 at hb
    split at hb
    · rename_i h2; simp at h2
    · rename_i k a r1 k' b' r' h0 h1
      cases h1
      split at hb
      · rename_i hk
        subst hk
        obtain ⟨c, hc, rfl⟩ := Option.map_eq_some_iff.mp hb
        obtain ⟨hl, K, A, B, hj, rfl⟩ := cE (ι := ι) (h := h) (w := w) r r' c hc
        refine ⟨by simp [hl], fun j => match j with | 0 => k | j + 1 => K j, fun j => match j with | 0 => a | j + 1 => A j, fun j => match j with | 0 => b' | j + 1 => B j, fun j h => ?_, ?_⟩
        · cases j with
          | zero => exact ⟨rfl, rfl⟩
          | succ j => simpa using hj j (by simpa using h)
        · rw [List.length_cons, show r.length + 1 = 1 + r.length by omega, mS]
          have := kX (fun j => match j with | 0 => a | j + 1 => A j) (fun j => match j with | 0 => b' | j + 1 => B j) 1 0 r.length
          rw [← this]
          have e : ∀ j, 1 + j = j + 1 := fun j => by omega
          simp only [e]
          simp [aE]
      · cases hb
    · contradiction
    · cases hb
theorem kZ {t : Nat} {xs ys : List AV} {vs us : Array Value} {b : Bool} (hx : VRel ι h w (.agg xs) (.agg vs)) (hy : VRel ι h w (.agg ys) (.agg us)) {fs n bt z} (ht : l7 P t = some ⟨.struct fs, n, bt, z⟩) (hn : n = xs.length) (hi : iL P t n = true) (hb : u7 true xs ys = some b) :
    P.eqGuardType P.depth t = false ∧ (Op.equal t (.agg vs) (.agg us)).run P w = .ok b w := by
  unfold iL at hi
  simp only [Bool.and_eq_true, beq_iff_eq, Bool.not_eq_true'] at hi
  refine ⟨hi.2, ?_⟩
  obtain ⟨inf, d, h1, h2, h3, _⟩ := m5 ht
  obtain ⟨F, rfl, _⟩ := O0 h3
  obtain ⟨vs', e1, l1, v1⟩ := hx.agg_inv
  cases e1
  obtain ⟨us', e2, l2, v2⟩ := hy.agg_inv
  cases e2
  obtain ⟨hl, K, A, B, hj, rfl⟩ := cE (ι := ι) (h := h) (w := w) xs ys b hb
  have := (oF (P := P) (w := w) 20 10000 t n (by omega) hi.1).2 _ h2 ⟨_, rfl⟩ vs us K A B fun j hjn => by
    obtain ⟨g1, g2⟩ := hj j (by omega)
    have hj1 : j < vs.size := by omega
    have hj2 : j < us.size := by omega
    have r1 := v1 j _ _ g1 (Array.getElem?_eq_getElem hj1)
    have r2 := v2 j _ _ g2 (Array.getElem?_eq_getElem hj2)
    rw [Array.getElem?_eq_getElem hj1, Array.getElem?_eq_getElem hj2]
    exact ⟨by rw [r1.int_inv.1], by rw [r2.int_inv.1]⟩
  rw [hn] at this
  exact this
theorem lc {t : Nat} {xs ys : List AV} {vs us : Array Value} {b : Bool} (hx : VRel ι h w (.agg xs) (.agg vs)) (hy : VRel ι h w (.agg ys) (.agg us)) (hb : eqA P t (.agg xs) (.agg ys) = some b) :
    P.eqGuardType P.depth t = false ∧ (Op.equal t (.agg vs) (.agg us)).run P w = .ok b w := by
  unfold eqA at hb
  simp only at hb
  split at hb
  · rename_i n e _ _ _ ht
    obtain ⟨inf, d, h1, h2, h3, h4, _⟩ := m5 ht
    have := J9 h3; subst this
    split at hb
    · rename_i hn
      refine ⟨hn.2, ?_⟩
      obtain ⟨vs', e1, l1, v1⟩ := hx.agg_inv
      cases e1
      obtain ⟨us', e2, l2, v2⟩ := hy.agg_inv
      cases e2
      have gx : ∀ (j : Nat) x, xs[j]? = some x → ∃ v, vs[0 + j]? = some v ∧ VRel ι h w x v := fun j x hx => by
        have hj : j < vs.size := by have := m6 hx; omega
        exact ⟨vs[j], by rw [Nat.zero_add]; exact Array.getElem?_eq_getElem hj, v1 j x _ hx (Array.getElem?_eq_getElem hj)⟩
      have gy : ∀ (j : Nat) x, ys[j]? = some x → ∃ v, us[0 + j]? = some v ∧ VRel ι h w x v := fun j x hx => by
        have hj : j < us.size := by have := m6 hx; omega
        exact ⟨us[j], by rw [Nat.zero_add]; exact Array.getElem?_eq_getElem hj, v2 j x _ hx (Array.getElem?_eq_getElem hj)⟩
      split at hb
      · rename_i k _ _ hte
        obtain ⟨ie, de, g1, g2, g3, g4, _⟩ := m5 hte
        have := cC g3; subst this
        have hc : P.cellsOf e = 1 := by simp [Program.cellsOf, g1, g4]
        have q := bO (P := P) (isInt := true) (d := 9998) hc ⟨k, g2⟩ xs ys 0 b hb gx gy
        have := run_equalIn_array (P := P) w 9999 vs us h2 g1
        rw [← hn.1, ← List.range_eq_range'] at q
        exact this.trans q
      · rename_i _ _ hte
        obtain ⟨ie, de, g1, g2, g3, g4, _⟩ := m5 hte
        have := dx g3; subst this
        have hc : P.cellsOf e = 1 := by simp [Program.cellsOf, g1, g4]
        have q := bO (P := P) (isInt := false) (d := 9998) hc g2 xs ys 0 b hb gx gy
        have := run_equalIn_array (P := P) w 9999 vs us h2 g1
        rw [← hn.1, ← List.range_eq_range'] at q
        exact this.trans q
      · cases hb
    · cases hb
  · rename_i fs n bt z ht
    split at hb
    · rename_i hn
      exact kZ hx hy ht hn.1 hn.2 hb
    · cases hb
  · cases hb
theorem pz {op : BinOp} {t : Nat} {x y r : AV} {v u : Value} (hx : VRel ι h w x v) (hy : VRel ι h w y u) (hr : pu P op t x y = some r) (X Y : Operand) :
    ∃ q, (do eqGuard op t X Y v u; binOp op t v u : Sem Value).run P w = .ok q w ∧ VRel ι h w r q := by
  unfold pu at hr
  split at hr
  · rename_i r' h1
    cases hr
    unfold cA at h1
    split at h1
    · rename_i k a k' b
      obtain ⟨rfl, ha⟩ := hx.int_inv
      obtain ⟨rfl, hb⟩ := hy.int_inv
      split at h1
      case isFalse => cases h1
      rename_i hk
      subst hk
      have hg : (eqGuard op t X Y (.int k a) (.int k b)).run P w = .ok () w := by
        unfold eqGuard; split <;> rfl
      simp only [Sem.run_bind, hg, Result.andThen_ok]
      split at h1
      · cases h1; exact ⟨.int k (k.wrap (a + b)), by simp [binOp, Op.intArith], .int _ _ (N4 _)⟩
      · cases h1; exact ⟨.int k (k.wrap (a - b)), by simp [binOp, Op.intArith], .int _ _ (N4 _)⟩
      · cases h1; exact ⟨.int k (k.wrap (a * b)), by simp [binOp, Op.intArith], .int _ _ (N4 _)⟩
      · split at h1
        · cases h1
        · rename_i hz; cases h1; exact ⟨.int k (k.wrap (a.tdiv b)), by simp [binOp, Op.intDiv, hz], .int _ _ (N4 _)⟩
      · split at h1
        · cases h1
        · rename_i hz
          split at h1
          · rename_i hr; cases h1; exact ⟨.int k (a.tmod b), by simp [binOp, Op.intDiv, hz], .int _ _ (by simpa [inR, E1] using hr)⟩
          · cases h1
      · obtain ⟨c, hc, rfl⟩ := Option.map_eq_some_iff.mp h1
        unfold Y5 at hc
        split at hc
        · cases hc; exact ⟨.bool (a == b), by simp [binOp, Op.intCmp], .b⟩
        · cases hc; exact ⟨.bool (a != b), by simp [binOp, Op.intCmp], .b⟩
        · cases hc; exact ⟨.bool (decide (a < b)), by simp [binOp, Op.intCmp], .b⟩
        · cases hc; exact ⟨.bool (decide (a ≤ b)), by simp [binOp, Op.intCmp], .b⟩
        · cases hc; exact ⟨.bool (decide (b < a)), by simp [binOp, Op.intCmp], .b⟩
        · cases hc; exact ⟨.bool (decide (b ≤ a)), by simp [binOp, Op.intCmp], .b⟩
        · cases hc
    · cases h1
  · have hE : ∀ b, eqA P t x y = some b → (op = .eql ∨ op = .neq) → (eqGuard op t X Y v u).run P w = .ok () w ∧ (Op.equal t v u).run P w = .ok b w ∧ (∀ k n, v ≠ .int k n) ∧ (∀ s, v ≠ .string s) ∧ (∀ k n, v ≠ .float k n) ∧ (∀ k n m, v ≠ .complex k n m) := by
      intro b hb hop
      unfold eqA at hb
      split at hb
      · have e1 := hx.bool_inv; have e2 := hy.bool_inv; subst e1; subst e2
        split at hb
        · rename_i ht
          cases hb
          obtain ⟨inf, d, h1, h2, h3, _⟩ := m5 ht
          have := dx h3; subst this
          refine ⟨by unfold eqGuard; rcases hop with rfl | rfl <;> rfl, pw h2 _ _ _, by simp, by simp, by simp, by simp⟩
        · cases hb
      · have e1 := hx.nilp_inv; have e2 := hy.nilp_inv; subst e1; subst e2
        split at hb
        · rename_i ht
          cases hb
          obtain ⟨inf, d, h1, h2, h3, _⟩ := m5 ht
          obtain ⟨e, this⟩ := qI h3; subst this
          refine ⟨by unfold eqGuard; rcases hop with rfl | rfl <;> rfl, qK h2 _, by simp, by simp, by simp, by simp⟩
        · cases hb
      · have e1 := hx.nilf_inv; have e2 := hy.nilf_inv; subst e1; subst e2
        split at hb
        · rename_i ht
          cases hb
          obtain ⟨inf, d, h1, h2, h3, _⟩ := m5 ht
          obtain ⟨_, _, _, this⟩ := iM h3; subst this
          refine ⟨by unfold eqGuard; rcases hop with rfl | rfl <;> rfl, py h2 _, by simp, by simp, by simp, by simp⟩
        · cases hb
      · have e2 := hy.nilf_inv; subst e2
        cases hx with
        | fn f cells vs hl hv =>
          split at hb
          · rename_i ht
            cases hb
            obtain ⟨inf, d, h1, h2, h3, _⟩ := m5 ht
            obtain ⟨_, _, _, this⟩ := iM h3; subst this
            refine ⟨by unfold eqGuard; rcases hop with rfl | rfl <;> rfl, sr h2 _ _ _ _, by simp, by simp, by simp, by simp⟩
          · cases hb
      · obtain ⟨vs, rfl, _⟩ := hx.agg_inv
        obtain ⟨us, rfl, _⟩ := hy.agg_inv
        obtain ⟨q1, q2⟩ := lc (P := P) hx hy (b := b) (by unfold eqA; exact hb)
        refine ⟨?_, q2, by simp, by simp, by simp, by simp⟩
        unfold eqGuard
        rcases hop with rfl | rfl <;> simp [Sem.run_bind, run_program, q1]
      · cases hb
    split at hr
    · obtain ⟨b, hb, rfl⟩ := Option.map_eq_some_iff.mp hr
      obtain ⟨g1, g2, n1, n2, n3, n4⟩ := hE b hb (.inl rfl)
      refine ⟨.bool b, ?_, .b⟩
      simp only [Sem.run_bind, g1, Result.andThen_ok]
      have : binOp .eql t v u = (do Pure.pure (.bool (← Op.equal t v u)) : Sem Value) := by
        cases v <;> first | exact absurd rfl (n1 _ _) | exact absurd rfl (n2 _) | exact absurd rfl (n3 _ _) | exact absurd rfl (n4 _ _ _) | rfl
      rw [this]; simp [Sem.run_bind, g2]
    · obtain ⟨b, hb, rfl⟩ := Option.map_eq_some_iff.mp hr
      obtain ⟨g1, g2, n1, n2, n3, n4⟩ := hE b hb (.inr rfl)
      refine ⟨.bool (!b), ?_, .b⟩
      simp only [Sem.run_bind, g1, Result.andThen_ok]
      have : binOp .neq t v u = (do Pure.pure (.bool (!(← Op.equal t v u))) : Sem Value) := by
        cases v <;> first | exact absurd rfl (n1 _ _) | exact absurd rfl (n2 _) | exact absurd rfl (n3 _ _) | exact absurd rfl (n4 _ _ _) | rfl
      rw [this]; simp [Sem.run_bind, g2]
    · cases hr
end
end
section
section
variable {P : Program} {G : Nat → Option (List PV)} {ι ι' : Nat → Nat × Nat} {h h' : Heap} {w w' : World}
theorem eA {ρ : Operand → Value} {ρA : Operand → Option AV} (hρ : ∀ x a, ρA x = some a → VRel ι h w a (ρ x)) {x : Option Operand} {d n : Nat} (hb : I0 (x.map ρA) d = some n) :
    (x = none ∧ n = d) ∨ ∃ k i, x.map ρ = some (.int k i) ∧ 0 ≤ i ∧ i.toNat = n := by
  cases x with
  | none => simp [I0] at hb; exact .inl ⟨rfl, hb.symm⟩
  | some X =>
    simp only [Option.map_some, I0] at hb
    split at hb
    · cases ‹some (ρA X) = none›
    · rename_i k i heq
      have he : ρA X = some (.p (.int k i)) := Option.some.inj heq
      split at hb
      · rename_i h0
        obtain ⟨e, _⟩ := (hρ X _ he).int_inv
        exact .inr ⟨k, i, by simp [e], h0, Option.some.inj hb⟩
      · cases hb
    · cases hb
theorem K2 (sl : Bool) (len cap : Nat) {ρ : Operand → Value} {ρA : Operand → Option AV} (hρ : ∀ x a, ρA x = some a → VRel ι h w a (ρ x)) {lo hi : Option Operand} {l m : Nat}
    (h1 : I0 (lo.map ρA) 0 = some l) (h2 : I0 (hi.map ρA) len = some m) (hlm : l ≤ m) (hm : m ≤ cap) :
    (Instr.sliceBounds sl len cap (lo.map ρ) (hi.map ρ) none).run P w = .ok (l, m, cap) w := by
  have key : ∀ (k : IntKind) (i : Int) (y : Nat) (code : BoundsCode), 0 ≤ i → i ≤ y → (Instr.sliceBound (.int k i) y code).run P w = .ok i.toNat w := fun k i y code h0 h1 => run_sliceBound w k i y code h0 h1
  rcases eA hρ h1 with ⟨rfl, rfl⟩ | ⟨k, i, e1, i0, rfl⟩ <;> rcases eA hρ h2 with ⟨rfl, rfl⟩ | ⟨k', i', e2, i0', rfl⟩
  · simp [Instr.sliceBounds]
  · simp only [Instr.sliceBounds, e2, Option.map_none, Sem.run_bind, Sem.run_pure, Result.andThen_ok, key k' i' cap _ i0' (by omega)]
  · simp only [Instr.sliceBounds, e1, Option.map_none, Sem.run_bind, Sem.run_pure, Result.andThen_ok, key k i m _ i0 (by omega)]
  · simp only [Instr.sliceBounds, e1, e2, Sem.run_bind, Sem.run_pure, Result.andThen_ok, key k' i' cap _ i0' (by omega), key k i i'.toNat _ i0 (by omega)]
theorem iw {α : Type} {l : List α} {a b : Nat} {x : α} (hx : x ∈ (l.drop a).take b) : x ∈ l := List.mem_of_mem_drop (List.mem_of_mem_take hx)
theorem ld (hS : SimH P G ι h w) {ρ : Operand → Value} {ρA : Operand → Option AV} (hρ : ∀ x a, ρA x = some a → VRel ι h w a (ρ x)) {t : Nat} {x r : AV} {v : Value} {lo hi : Option Operand}
    (hx : VRel ι h w x v) (hr : jN P h t x (lo.map ρA) (hi.map ρA) = some r) :
    ∃ u, (Instr.sliceAt t v (lo.map ρ) (hi.map ρ) none).run P w = .ok u w ∧ VRel ι h w r u := by
  unfold jN at hr
  split at hr
  · rename_i n e _ _ _ ht
    obtain ⟨inf, d, h1, h2, h3, h4, h5, h6⟩ := m5 ht
    have hd := J9 h3
    subst hd
    split at hr
    · rename_i b g off l m hl hm
      obtain ⟨cells, hb, hr⟩ := Option.bind_eq_some_iff.mp hr
      split at hr
      case isFalse => cases hr
      rename_i hc
      obtain ⟨c1, c2, c3, c4, c5, c6⟩ := hc
      cases hr
      obtain ⟨rfl, hbl⟩ := hx.ptr_inv (A4 hb)
      have hne : cells ≠ [] := by
        intro hz0; subst hz0
        have : 0 < n * s8 P e := Nat.mul_pos (by omega) (by omega)
        simp only [List.length_nil] at c6
        omega
      obtain ⟨c, ty, hcc, hcl, _⟩ := hS.hr.blk b _ (E3 hb) hne
      have hcl' : (ι b).2 + cells.length ≤ c.size := hcl
      refine ⟨.slice (some ⟨(ι b).1, (ι b).2 + (off + l * s8 P e), none⟩) (m - l) (n - l), ?_, .ref _ _ _ _ _ _ _ (by omega) hbl (D2 (A4 hb)).2 fun _ => .inr ⟨rfl, by omega, ⟨_, E3 hb, hne⟩, c, ty, _, hcc, ?_⟩⟩
      · have hbd := K2 (P := P) false n n hρ hl hm c1 c2
        have hne' : n ≠ l := by omega
        simp only [Instr.sliceAt, Sem.run_bind, run_underlying h2, Result.andThen_ok, Instr.sureAddr, Sem.run_pure, hbd, B2 c5, hne', if_false, Addr.add_lit, Nat.add_assoc]
      · have : (n - l) * s8 P e + l * s8 P e = n * s8 P e := by rw [← Nat.add_mul]; congr 1; omega
        omega
    · cases hr
  · rename_i e _ _ _ ht
    obtain ⟨inf, d, h1, h2, h3, h4, h5, h6⟩ := m5 ht
    have hd := J8 h3
    subst hd
    split at hr
    · rename_i rows
      split at hr
      · rename_i l m hl hm
        split at hr
        case isFalse => cases hr
        rename_i hc
        obtain ⟨c1, c2, c3, c4⟩ := hc
        cases hr
        obtain ⟨A, c, rfl, hn, hcase⟩ := hx.sl_inv
        have hall : ∀ row ∈ rows, row.length = s8 P e := by simpa using c4
        have hlen : ((rows.drop l).take (m - l)).length = m - l := by simp; omega
        by_cases hz : m - l = 0
        · have he : (rows.drop l).take (m - l) = [] := List.eq_nil_of_length_eq_zero (by omega)
          rcases hcase with rfl | ⟨blk, off, sz, hcc, rfl, ho, hb, hs, hcell⟩
          · simp at c2
            have : l = 0 := by omega
            subst this; subst c2
            have hbd := K2 (P := P) true 0 c hρ hl (by simpa using hm) (Nat.le_refl _) (Nat.zero_le _)
            refine ⟨.slice (if c = 0 then A else A.map (·.add (0 * s8 P e))) 0 c, ?_, .p _ _ (by simp; exact .slz _ _)⟩
            simp [Instr.sliceAt, Instr.slice, Sem.run_bind, run_underlying h2, hbd, B2 c3]
          · have hbd := K2 (P := P) true rows.length c hρ hl hm c1 (by omega)
            rw [he]
            refine ⟨.slice (if c = l then some ⟨blk, off, none⟩ else (some (⟨blk, off, none⟩ : Addr)).map (·.add (l * s8 P e))) 0 (c - l), ?_, .p _ _ (.slz _ _)⟩
            simp [Instr.sliceAt, Instr.slice, Sem.run_bind, run_underlying h2, hbd, B2 c3, hz]
        · rcases hcase with rfl | ⟨blk, off, sz, hcc, rfl, ho, hb, hs, hcell⟩
          · simp at c2; omega
          · have hbd := K2 (P := P) true rows.length c hρ hl hm c1 (by omega)
            have hsz : sz = s8 P e := by
              have : 0 < rows.length := by omega
              have hm0 : rows[0] ∈ rows := List.getElem_mem this
              rw [← hs _ hm0, hall _ hm0]
            subst hsz
            have hne' : c ≠ l := by omega
            refine ⟨.slice (some ⟨blk, off + l * s8 P e, none⟩) (m - l) (c - l), ?_, .p _ _ ?_⟩
            · simp only [Instr.sliceAt, Instr.slice, Sem.run_bind, run_underlying h2, Result.andThen_ok, hbd, B2 c3, hne', if_false, Option.map_some, Addr.add_lit, Sem.run_pure]
            · have hf : ∀ q : Nat × Nat, ∃ v, ∀ x, P5 ((rows.drop l).take (m - l)) q.1 q.2 = some x → w.cell? ⟨blk, off + l * s8 P e + (q.1 * s8 P e + q.2), none⟩ = some v ∧ PRel w (own ι h) x v := by
                intro q
                cases hq : P5 ((rows.drop l).take (m - l)) q.1 q.2 with
                | none => exact ⟨undef, fun x hx => by cases hx⟩
                | some x =>
                  have hq' : P5 rows (l + q.1) q.2 = some x := by
                    unfold P5 at hq ⊢
                    rw [List.getElem?_take] at hq
                    split at hq
                    · rwa [List.getElem?_drop] at hq
                    · cases hq
                  obtain ⟨v, hv1, hv2⟩ := hcell _ _ x hq'
                  exact ⟨v, fun y hy => by cases hy; exact ⟨by rw [Nat.add_mul] at hv1; rw [show off + l * s8 P e + (q.1 * s8 P e + q.2) = off + (l * s8 P e + q.1 * s8 P e + q.2) by omega]; exact hv1, hv2⟩⟩
              obtain ⟨f, hf⟩ := Classical.axiomOfChoice hf
              have := PRel.sl (w := w) (own := own ι h) ((rows.drop l).take (m - l)) blk (off + l * s8 P e) (c - l) (s8 P e) (fun i j => f (i, j)) (by rw [hlen]; omega) (by rw [hlen]; omega) ho hb
                (fun row hr => hall row (iw hr)) (fun i j x hx => (hf (i, j) x hx).1) (fun i j x hx => (hf (i, j) x hx).2)
              rwa [hlen] at this
      · cases hr
    · split at hr
      · rename_i l m hl hm
        split at hr
        case isFalse => cases hr
        rename_i hc
        obtain ⟨rfl, rfl, c3⟩ := hc
        cases hr
        have := hx.nils_inv
        subst this
        have hbd := K2 (P := P) true 0 0 hρ hl hm (Nat.le_refl _) (Nat.le_refl _)
        refine ⟨.slice none 0 0, ?_, .p _ _ .nils⟩
        simp [Instr.sliceAt, Instr.slice, Sem.run_bind, run_underlying h2, hbd, B2 c3]
      · cases hr
    · rename_i b g off sz len
      split at hr
      · rename_i l m hl hm
        split at hr
        case isFalse => cases hr
        rename_i hc
        obtain ⟨c1, c2, c3, c4, c5⟩ := hc
        cases hr
        have hlv := Y7 c5
        obtain ⟨A, c, rfl, hn, hcase⟩ := hx.ref_inv hlv
        subst c3
        rcases hcase with ⟨rfl, rfl⟩ | ⟨rfl, hlc, hbk, cs, ty, fr, hcs, hcap⟩
        · have : m = 0 := by omega
          subst this
          have : l = 0 := by omega
          subst this
          have hbd := K2 (P := P) true 0 0 hρ hl hm (Nat.le_refl _) (Nat.le_refl _)
          refine ⟨.slice A 0 0, ?_, .ref _ _ _ _ _ _ _ (by omega) (D2 hlv).1 (D2 hlv).2 fun _ => .inl ⟨rfl, rfl⟩⟩
          simp [Instr.sliceAt, Instr.slice, Sem.run_bind, run_underlying h2, hbd, B2 c4]
        · have hbd := K2 (P := P) true len c hρ hl hm c1 (by omega)
          by_cases he : c = l
          · refine ⟨.slice (some ⟨(ι b).1, (ι b).2 + off, none⟩) (m - l) (c - l), ?_, .ref _ _ _ _ _ _ _ (by omega) (D2 hlv).1 (D2 hlv).2 fun _ => .inl ⟨by omega, by omega⟩⟩
            subst he
            simp [Instr.sliceAt, Instr.slice, Sem.run_bind, run_underlying h2, hbd, B2 c4]
          · refine ⟨.slice (some ⟨(ι b).1, (ι b).2 + (off + l * s8 P e), none⟩) (m - l) (c - l), ?_, .ref _ _ _ _ _ _ _ (by omega) (D2 hlv).1 (D2 hlv).2 fun _ => .inr ⟨rfl, by omega, hbk, cs, ty, fr, hcs, ?_⟩⟩
            · simp only [Instr.sliceAt, Instr.slice, Sem.run_bind, run_underlying h2, Result.andThen_ok, hbd, B2 c4, he, if_false, Option.map_some, Addr.add_lit, Sem.run_pure, Nat.add_assoc]
            · have : (c - l) * s8 P e + l * s8 P e = c * s8 P e := by rw [← Nat.add_mul]; congr 1; omega
              omega
      · cases hr
    · cases hr
  · cases hr
theorem pA {x : AV} {v : Value} {n : Nat} (hx : VRel ι h w x v) (hn : dw x = some n) : Builtin.lenOf v = Pure.pure n ∧ n ≤ 9223372036854775807 ∧ ((∃ A c, v = .slice A n c) ∨ ∃ s, v = .string s ∧ s.size = n) := by
  unfold dw at hn
  split at hn
  · obtain ⟨A, c, rfl, h1, _⟩ := hx.sl_inv; cases hn; exact ⟨rfl, h1, .inl ⟨_, _, rfl⟩⟩
  · have := hx.nils_inv; subst this; cases hn; exact ⟨rfl, by omega, .inl ⟨_, _, rfl⟩⟩
  · cases hx with
    | p _ _ hx => cases hx; cases hn; exact ⟨rfl, by omega, .inr ⟨_, rfl, rfl⟩⟩
  · cases hx with
    | ref _ _ _ _ _ A c h1 _ _ _ => cases hn; exact ⟨rfl, h1, .inl ⟨_, _, rfl⟩⟩
  · cases hn
theorem qM {n : Nat} (hn : n ≤ 9223372036854775807) : E1 .i64 n := by
  unfold E1 IntKind.min IntKind.max IntKind.signed IntKind.bits; simp; omega
end
end
section
section
variable {P : Program} {G : Nat → Option (List PV)} {ι ι' : Nat → Nat × Nat} {h h' : Heap} {w w' : World}
theorem ca {cells : List AV} {blk off : Nat} (hp : eu ι h w cells blk off) :
    ∃ news : List Value, news.length = cells.length ∧ (∀ (j : Nat) u, news[j]? = some u → w.cell? ((⟨blk, off, none⟩ : Addr).add j) = some u) ∧
      ∀ (j : Nat) x u, cells[j]? = some x → news[j]? = some u → VRel ι h w x u := by
  have hf : ∀ j : Nat, ∃ v, ∀ x, cells[j]? = some x → w.cell? ⟨blk, off + j, none⟩ = some v ∧ VRel ι h w x v := by
    intro j
    cases hq : cells[j]? with
    | none => exact ⟨undef, fun x hx => by cases hx⟩
    | some x =>
      obtain ⟨v, h1, h2⟩ := hp j x hq
      exact ⟨v, fun y hy => by cases hy; exact ⟨h1, h2⟩⟩
  obtain ⟨f, hf⟩ := Classical.axiomOfChoice hf
  have hget : ∀ (j : Nat) u, ((List.range cells.length).map f)[j]? = some u → j < cells.length ∧ u = f j := by
    intro j u hu
    have hj : j < cells.length := by have := m6 hu; simpa using this
    simp [hj] at hu
    exact ⟨hj, hu.symm⟩
  refine ⟨(List.range cells.length).map f, by simp, fun j u hu => ?_, fun j x u hx hu => ?_⟩
  · obtain ⟨hj, rfl⟩ := hget j u hu
    rw [Addr.add_lit]
    exact (hf j cells[j] (by simp)).1
  · obtain ⟨hj, rfl⟩ := hget j u hu
    exact (hf j x hx).2
theorem pB (hS : SimH P G ι h w) {sz k : Nat} {y : AV} {u : Value} {cs : List AV} (hy : VRel ι h w y u) (hk : dw y = some k) (hcs : S2 h sz y = some cs) (hsz : sz ≠ 0) :
    cs.length = k * sz ∧ (∀ x ∈ cs, x.scalar = true) ∧ ((k = 0 ∧ ∃ A c, u = .slice A 0 c) ∨ ∃ blk off c, u = .slice (some ⟨blk, off, none⟩) k c ∧ eu ι h w cs blk off) := by
  unfold S2 at hcs
  split at hcs
  · rename_i rows
    simp [dw] at hk
    subst hk
    split at hcs
    case isFalse => cases hcs
    rename_i hall
    have hall' : ∀ row ∈ rows, row.length = sz := by simpa using hall
    cases hcs
    obtain ⟨A, c, rfl, hn, hcase⟩ := hy.sl_inv
    refine ⟨by rw [List.length_map, U8 rows hall'], fun x hx => by
      simp only [List.mem_map] at hx; obtain ⟨y, _, rfl⟩ := hx; rfl, ?_⟩
    rcases hcase with rfl | ⟨blk, off, sz', hc, rfl, ho, hb, hs, hcell⟩
    · exact .inl ⟨rfl, A, c, rfl⟩
    · refine .inr ⟨blk, off, c, rfl, fun j x hx => ?_⟩
      simp only [List.getElem?_map, Option.map_eq_some_iff] at hx
      obtain ⟨y, hy', rfl⟩ := hx
      have hj := m6 hy'
      rw [U8 rows hall'] at hj
      have hpos : 0 < rows.length := by
        rcases Nat.eq_zero_or_pos rows.length with h | h
        · rw [h] at hj; omega
        · exact h
      have hss : sz' = sz := by rw [← hs _ (List.getElem_mem hpos), hall' _ (List.getElem_mem hpos)]
      subst hss
      have hdm : j / sz' * sz' + j % sz' = j := by rw [Nat.mul_comm]; exact Nat.div_add_mod j sz'
      have hm : j % sz' < sz' := Nat.mod_lt _ (by omega)
      have := fJ rows hall' (j / sz') (j % sz') hm
      rw [hdm, hy'] at this
      obtain ⟨v, hv1, hv2⟩ := hcell _ _ y this.symm
      rw [hdm] at hv1
      exact ⟨v, hv1, .p _ _ hv2⟩
  · simp [dw] at hk; subst hk; cases hcs
    have := hy.nils_inv; subst this
    exact ⟨by simp, by simp, .inl ⟨rfl, none, 0, rfl⟩⟩
  · rename_i b g off sz' len
    simp [dw] at hk; subst hk
    split at hcs
    case isFalse => cases hcs
    rename_i he
    subst he
    obtain ⟨cells, hb, hcs⟩ := Option.bind_eq_some_iff.mp hcs
    split at hcs
    case isFalse => cases hcs
    rename_i hle
    obtain ⟨hle, hall⟩ := hle
    cases hcs
    obtain ⟨A, c, rfl, hn, hcase⟩ := hy.ref_inv (A4 hb)
    refine ⟨by rw [List.length_take, List.length_drop]; omega, by simpa using hall, ?_⟩
    rcases hcase with ⟨rfl, rfl⟩ | ⟨rfl, _⟩
    · exact .inl ⟨rfl, A, 0, rfl⟩
    · refine .inr ⟨_, _, c, rfl, fun j x hx => ?_⟩
      rw [List.getElem?_take] at hx
      split at hx
      · exact ((Q4 hS hb).drop off) j x hx
      · cases hx
  · cases hcs
theorem mT {e : Nat} {ie : TI} (he : l7 P e = some ie) (hz : ie.zero.map List.length = some ie.size) : ∃ (inf : TypeInfo) (z : Value), P.info? e = some inf ∧ inf.zero = some z ∧ z.cells.size = ie.size ∧ inf.size = ie.size ∧ inf.bytes = ie.bytes := by
  obtain ⟨inf, d, h1, h2, h3, h4, h5, h6⟩ := m5 he
  obtain ⟨l, hl, hl2⟩ := Option.map_eq_some_iff.mp hz
  rw [h6] at hl
  obtain ⟨z, hz1, hz2⟩ := Option.bind_eq_some_iff.mp hl
  have := (H5 (w := default) (o := fun _ => False) hz2).1
  exact ⟨inf, z, h1, hz1, by simp at this; omega, h4, h5⟩
theorem SimH.drew (hS : SimH P G ι h w) : SimH P G ι h w.drew ∧ Evo h.length ι h w ι h w.drew := hS.garbage (Nat.le_refl _) (fun _ _ => rfl) rfl rfl rfl
theorem eC (hS : SimH P G ι h w) (b : Nat) (bk' : Blk) (e : Nat) {olds : List AV} {vals : List Value} (sz n cap : Nat) (z : Value) (hz : z.cells.size = sz) (hsz : sz ≠ 0) (hn0 : n ≠ 0) (hn : n ≤ o9)
    (hb : (h' = h ++ [some bk'] ∧ b = h.length) ∨ (b < h.length ∧ (∃ bk : Blk, h[b]? = some (some bk) ∧ bk.g ≤ bk'.g) ∧ h' = h.set b (some bk')))
    (hg : ∀ bk : Blk, h[b]? = some (some bk) → bk.g ≠ bk'.g) (hl : vals.length = n * sz) (hcl : bk'.cells.length = vals.length) (hcap : n ≤ cap)
    (hv : ∀ (j : Nat) x v, bk'.cells[j]? = some x → vals[j]? = some v → VRel ι h w x v) (arr : Array Value) (harr : arr = (vals.toArray ++ Builtin.zeroCells z.cells (cap - n))) :
    let ι' := fun i => if i = b then (w.heap.size, 0) else ι i
    SimH P G ι' h' (w.drew.alloc (.cells arr e)) ∧ VRel ι' h' (w.drew.alloc (.cells arr e)) (.ref b bk'.g 0 sz n) (.slice (some ⟨w.heap.size, 0, none⟩) n cap) ∧ Evo h.length ι h w ι' h' (w.drew.alloc (.cells arr e)) := by
  intro ι'
  obtain ⟨hS', he0⟩ := hS.drew
  have hne : bk'.cells ≠ [] := by
    intro e0
    rw [e0, hl] at hcl
    have : 0 < n * sz := Nat.mul_pos (by omega) (by omega)
    simp only [List.length_nil] at hcl
    omega
  have hasz : arr.size = cap * sz := by
    rw [harr, Array.size_append, size_zeroCells, hz]
    simp only [List.size_toArray, hl, ← Nat.add_mul]
    congr 1; omega
  have hnew : (w.drew.alloc (.cells arr e)).heap[w.heap.size]? = some (.cells arr e (0, 0)) := heap_alloc_new w.drew _
  have hle : bk'.cells.length ≤ arr.size := by rw [hasz, hcl, hl]; exact Nat.mul_le_mul_right _ hcap
  obtain ⟨q1, q2⟩ := hS'.upd (h' := h') (ι' := ι') (w' := w.drew.alloc (.cells arr e)) b bk' w.heap.size 0 arr e hb (fun i => rfl) (.inl (Nat.le_refl _)) hne hnew (by simpa using hle)
    (fun j x hx => by
      have hj : j < vals.length := by have := m6 hx; omega
      refine ⟨vals[j], ?_, (hv j x _ hx (by simp)).evo he0⟩
      rw [harr, Nat.zero_add, Array.getElem?_append_left (by simpa using hj)]
      simp [hj])
    (by simp) (fun k hk _ => by first | exact heap_alloc_old _ _ hk | exact heap_alloc_old _ _ _ hk) (fun bk hq hgg => absurd hgg (hg bk hq)) rfl rfl rfl
  refine ⟨q1, ?_, he0.trans q2 (Nat.le_refl _)⟩
  have hb' : h'[b]? = some (some bk') := by
    rcases hb with ⟨rfl, rfl⟩ | ⟨hlt, _, rfl⟩
    · simp
    · simp [hlt]
  have hlive : C6 h' b bk'.g := ⟨bk', hb', rfl⟩
  refine .ref _ _ _ _ _ _ _ (by unfold o9 at hn; omega) (D2 hlive).1 (D2 hlive).2 fun _ => .inr ⟨by simp [ι'], hcap, ⟨bk', hb', hne⟩, arr, e, _, by simpa [ι'] using hnew, by simp [ι', hasz]⟩
theorem jQ (hS : SimH P G ι h w) {t : Nat} (ty : Nat) {x y r : AV} {v u : Value} (hx : VRel ι h w x v) (hy : VRel ι h w y u) (hr : fz P h t x y = some (r, h')) :
    ∃ q w' ι', (Builtin.append_ #[t, t] ty #[v, u]).run P w = .ok q w' ∧ SimH P G ι' h' w' ∧ VRel ι' h' w' r q ∧ Evo h.length ι h w ι' h' w' := by
  unfold fz at hr
  split at hr
  case h_2 => cases hr
  rename_i e _ _ _ ht
  obtain ⟨inf0, d0, t1, t2, t3, _⟩ := m5 ht
  have := J8 t3; subst this
  split at hr
  case h_2 => cases hr
  rename_i ie k he hk
  split at hr
  · cases hr
  rename_i hcond
  have hsz : ie.size ≠ 0 := fun h => hcond (.inl h)
  have hby : ie.bytes ≤ 1048576 := Nat.le_of_not_gt fun h => hcond (.inr (.inl h))
  have hzl : ie.zero.map List.length = some ie.size := Classical.byContradiction fun h => hcond (.inr (.inr h))
  clear hcond
  split at hr
  · cases hr
  rename_i cs hcs
  obtain ⟨inf, z, f1, f2, f3, f4, f5⟩ := mT he hzl
  obtain ⟨s1, s2, s3⟩ := pB hS hy hk hcs hsz
  have hbytes : ∀ n, n ≤ o9 → n * inf.bytes ≤ 140737488355328 := by
    intro n hn
    calc n * inf.bytes ≤ 16777216 * 1048576 := Nat.mul_le_mul hn (by omega)
      _ ≤ 140737488355328 := by decide
  split at hr
  ·
    have := hx.nils_inv; subst this
    split at hr
    · rename_i hk0
      subst hk0
      cases hr
      have hu : ∃ A c, u = .slice A 0 c := by
        rcases s3 with ⟨_, A, c, rfl⟩ | ⟨blk, off, c, rfl, _⟩
        · exact ⟨A, c, rfl⟩
        · exact ⟨_, c, rfl⟩
      obtain ⟨A, c, rfl⟩ := hu
      refine ⟨.slice none 0 0, w, ι, ?_, hS, .p _ _ .nils, .refl (Nat.le_refl _)⟩
      cases A <;> simp [Builtin.append_, run_underlying t2, sizeOf, typeInfo, f1, Builtin.lenOf, Builtin.firstCells, loadCells, loadCellsFrom]
    · rename_i hk0
      split at hr
      case isFalse => cases hr
      rename_i hkm
      cases hr
      rcases s3 with ⟨h0, _⟩ | ⟨blk, off, c, rfl, hp⟩
      · exact absurd h0 hk0
      obtain ⟨news, n1, n2, n3⟩ := ca hp
      have hb := hbytes k hkm
      have hrun := run_append_nil (P := P) w t ty e inf z t2 f1 f2 ⟨blk, off, none⟩ k c news (by rw [n1, s1, f4]) n2 (by omega) (by unfold o9 at hkm; omega) (by omega)
      obtain ⟨g1, g2, g3⟩ := eC (h' := h ++ [some ⟨0, cs⟩]) hS h.length ⟨0, cs⟩ e (olds := []) (vals := news) ie.size k (grownCap w k 0 e) z f3 hsz hk0 hkm (.inl ⟨rfl, rfl⟩) (fun bk hq => by simp at hq) (by rw [n1, s1]) n1.symm (grownCap_ge w k 0 e) n3 _ rfl
      exact ⟨_, _, _, hrun, g1, g2, g3⟩
  ·
    rename_i b g off sz len
    obtain ⟨cells, hb, hr2⟩ := Option.bind_eq_some_iff.mp hr
    clear hr
    by_cases hk0 : k = 0
    · rw [if_pos hk0] at hr2
      split at hr2
      case isFalse => cases hr2
      rename_i hsz1
      cases hr2
      subst hk0
      have hu : ∃ A c, u = .slice A 0 c := by
        rcases s3 with ⟨_, A, c, rfl⟩ | ⟨blk, off, c, rfl, _⟩
        · exact ⟨A, c, rfl⟩
        · exact ⟨_, c, rfl⟩
      obtain ⟨A', c, rfl⟩ := hu
      obtain ⟨A, cap, rfl, hn, hcase⟩ := hx.ref_inv (A4 hb)
      have hle : len ≤ cap := by
        rcases hcase with ⟨rfl, rfl⟩ | ⟨_, hle, _⟩
        · exact Nat.le_refl _
        · exact hle
      refine ⟨.slice A len cap, w, ι, ?_, hS, hx, .refl (Nat.le_refl _)⟩
      cases A <;> cases A' <;> simp [Builtin.append_, run_underlying t2, sizeOf, typeInfo, f1, Builtin.lenOf, Builtin.firstCells, loadCells, loadCellsFrom, storeCells, hle]
    rw [if_neg hk0] at hr2
    have hr := hr2
    clear hr2
    split at hr
    case isFalse => cases hr
    rename_i hc
    obtain ⟨c1, c2, c3, c4⟩ := hc
    subst c1
    cases hr
    have hlv := A4 hb
    have hblt := (D2 hlv).1
    have hq := E3 hb
    obtain ⟨A, cap, rfl, hn, hcase⟩ := hx.ref_inv hlv
    rcases s3 with ⟨h0, _⟩ | ⟨blk, offy, cy, rfl, hp⟩
    · exact absurd h0 c4
    obtain ⟨news, n1, n2, n3⟩ := ca hp
    have hbb := hbytes (len + k) c3
    have hkp : 0 < k := Nat.pos_of_ne_zero c4
    have hlk : 0 < len + k := by omega
    have hlk0 : len + k ≠ 0 := by omega
    have h64 : ((len + k : Nat) : Int) ≤ 9223372036854775807 := by unfold o9 at c3; omega
    have h64k : (k : Int) ≤ 9223372036854775807 := by unfold o9 at c3; omega
    have hdl : (cells.drop off).length = len * ie.size := by rw [List.length_drop]; omega
    have hks : 0 < k * ie.size := Nat.mul_pos hkp (Nat.pos_of_ne_zero hsz)
    have hkb : k * inf.bytes ≤ 281474976710656 := by have := hbytes k (by omega); omega
    have hnc : cells.drop off ++ cs ≠ [] := by
      intro e0
      have := congrArg List.length e0
      rw [List.length_append, s1] at this
      simp only [List.length_nil] at this
      omega
    have hbcase : ((h.set b (some ⟨g + 1, cells.drop off ++ cs⟩)) = h ++ [some ⟨g + 1, cells.drop off ++ cs⟩] ∧ b = h.length) ∨ (b < h.length ∧ (∃ bk : Blk, h[b]? = some (some bk) ∧ bk.g ≤ (⟨g + 1, cells.drop off ++ cs⟩ : Blk).g) ∧ (h.set b (some ⟨g + 1, cells.drop off ++ cs⟩)) = h.set b (some ⟨g + 1, cells.drop off ++ cs⟩)) :=
      .inr ⟨hblt, ⟨_, hq, Nat.le_succ g⟩, rfl⟩
    have hgne : ∀ bk : Blk, h[b]? = some (some bk) → bk.g ≠ (⟨g + 1, cells.drop off ++ cs⟩ : Blk).g := by
      intro bk hq2; rw [hq] at hq2; cases hq2; exact Nat.ne_of_lt (Nat.lt_succ_self g)
    have hgrow : cap < len + k → ∀ olds : List Value, olds.length = len * ie.size → (∀ (j : Nat) x v, (cells.drop off)[j]? = some x → olds[j]? = some v → VRel ι h w x v) →
        (Builtin.append_ #[t, t] ty #[.slice A len cap, .slice (some ⟨blk, offy, none⟩) k cy]).run P w = .ok (.slice (some ⟨w.heap.size, 0, none⟩) (len + k) (grownCap w (len + k) cap e))
          (w.drew.alloc (.cells (olds.toArray ++ news.toArray ++ Builtin.zeroCells z.cells (grownCap w (len + k) cap e - (len + k))) e)) →
        ∃ q w' ι', (Builtin.append_ #[t, t] ty #[.slice A len cap, .slice (some ⟨blk, offy, none⟩) k cy]).run P w = .ok q w' ∧ SimH P G ι' (h.set b (some ⟨g + 1, cells.drop off ++ cs⟩)) w' ∧ VRel ι' (h.set b (some ⟨g + 1, cells.drop off ++ cs⟩)) w' (.ref b (g + 1) 0 ie.size (len + k)) q ∧
          Evo h.length ι h w ι' (h.set b (some ⟨g + 1, cells.drop off ++ cs⟩)) w' := by
      intro hlt olds ho1 ho2 hrun
      obtain ⟨g1, g2, g3⟩ := eC (h' := h.set b (some ⟨g + 1, cells.drop off ++ cs⟩)) hS b ⟨g + 1, cells.drop off ++ cs⟩ e (olds := []) (vals := olds ++ news) ie.size (len + k) (grownCap w (len + k) cap e) z f3 hsz hlk0 c3 hbcase hgne
        (by rw [List.length_append, ho1, n1, s1, Nat.add_mul]) (by rw [List.length_append, List.length_append, ho1, n1, hdl]) (grownCap_ge w (len + k) cap e)
        (fun j x v hx hv => by
          by_cases hj : j < len * ie.size
          · rw [List.getElem?_append_left (by omega)] at hx hv
            exact ho2 j x v hx hv
          · rw [List.getElem?_append_right (by omega)] at hx hv
            rw [hdl] at hx; rw [ho1] at hv
            exact n3 _ x v hx hv) (olds.toArray ++ news.toArray ++ Builtin.zeroCells z.cells (grownCap w (len + k) cap e - (len + k))) (by simp)
      exact ⟨_, _, _, hrun, g1, g2, g3⟩
    rcases hcase with ⟨rfl, rfl⟩ | ⟨rfl, hlc, ⟨bk0, hq0, hne0⟩, ccs, cty, cfr, hcc, hcap⟩
    · refine hgrow hlk [] (by simp) (fun j x v _ hv => by simp at hv) ?_
      cases A with
      | none =>
        have hrun := run_append_nil (P := P) w t ty e inf z t2 f1 f2 ⟨blk, offy, none⟩ k cy news (by rw [n1, s1, f4]) n2 hkp h64k hkb
        simpa using hrun
      | some A =>
        have hrun := run_append_grow (P := P) w t ty e inf z t2 f1 f2 A 0 0 [] (by simp) (fun j v hv => by simp at hv) ⟨blk, offy, none⟩ k cy news (by rw [n1, s1, f4]) n2 hlk h64 (growslice_fits hlk hbb)
        simpa using hrun
    · rw [hq] at hq0; cases hq0
      have hne : cells ≠ [] := hne0
      obtain ⟨c0, ty0, hc0, hl0, hv0⟩ := hS.hr.blk b _ hq hne
      rw [hc0] at hcc; injection hcc with hcc; injection hcc with hcc _ _; subst hcc
      have hl0' : (ι b).2 + cells.length ≤ c0.size := hl0
      by_cases hroom : len + k ≤ cap
      ·
        have hnl : news.length = k * ie.size := by rw [n1, s1]
        have hmul : (len + k) * ie.size ≤ cap * ie.size := Nat.mul_le_mul_right _ hroom
        have hfit : (ι b).2 + off + len * ie.size + news.length ≤ c0.size := by
          rw [hnl]
          have : (len + k) * ie.size = len * ie.size + k * ie.size := Nat.add_mul ..
          omega
        have h1 : ∀ v ∈ news, v.oneCell' = true := kU n1.symm s2 n3
        have hst := run_storeCells_at P (ι b).1 ((ι b).2 + off + len * ie.size) ty0 news 0 c0 w hc0 (by omega) h1
        simp only [Nat.add_zero] at hst
        have hf := run_firstCells_some (P := P) w inf.size k ⟨blk, offy, none⟩ k cy news (by rw [n1, s1, f4]) n2
        have hrun : (Builtin.append_ #[t, t] ty #[.slice (some ⟨(ι b).1, (ι b).2 + off, none⟩) len cap, .slice (some ⟨blk, offy, none⟩) k cy]).run P w =
            .ok (.slice (some ⟨(ι b).1, (ι b).2 + off, none⟩) (len + k) cap) (w.setRow (ι b).1 (c0.toList.take ((ι b).2 + off + len * ie.size) ++ news ++ c0.toList.drop ((ι b).2 + off + len * ie.size + news.length)).toArray) := by
          rw [← f4] at hst ⊢
          simp [Builtin.append_, run_underlying t2, sizeOf, typeInfo, f1, Builtin.lenOf, hroom, hf, Addr.add_lit, hst]
        have hnew := setRow_heap w (ι b).1 c0 (c0.toList.take ((ι b).2 + off + len * ie.size) ++ news ++ c0.toList.drop ((ι b).2 + off + len * ie.size + news.length)).toArray ty0 _ hc0
        have hasz : (c0.toList.take ((ι b).2 + off + len * ie.size) ++ news ++ c0.toList.drop ((ι b).2 + off + len * ie.size + news.length)).toArray.size = c0.size := by
          simp only [List.size_toArray, List.length_append, List.length_take, List.length_drop, Array.length_toList]; omega
        clear hgrow
        obtain ⟨u1, u2⟩ := hS.upd (h' := h.set b (some ⟨g + 1, cells.drop off ++ cs⟩)) (ι' := fun i => if i = b then ((ι b).1, (ι b).2 + off) else ι i) (w' := w.setRow (ι b).1 (c0.toList.take ((ι b).2 + off + len * ie.size) ++ news ++ c0.toList.drop ((ι b).2 + off + len * ie.size + news.length)).toArray) b ⟨g + 1, cells.drop off ++ cs⟩ (ι b).1 ((ι b).2 + off) _ ty0 hbcase (fun i => rfl)
          (.inr ⟨_, hq, hne, rfl, fun cs2 ty2 fr2 hx => by rw [hc0] at hx; injection hx with hx; injection hx with hx _ _; subst hx; exact hasz⟩)
          hnc
          hnew (by rw [hasz, List.length_append, hdl, ← n1]; omega)
          (fun j x hx => by
            simp only [List.getElem?_toArray]
            rw [fI c0.toList news _ _ (by simpa using hfit)]
            by_cases hj : j < len * ie.size
            · rw [List.getElem?_append_left (by omega), List.getElem?_drop] at hx
              obtain ⟨v, p1, p2⟩ := hv0 _ x hx
              exact ⟨v, by rw [if_pos (by omega)]; rw [show (ι b).2 + off + j = (ι b).2 + (off + j) by omega]; simpa using p1, p2⟩
            · rw [List.getElem?_append_right (by omega), hdl] at hx
              have hjl := m6 hx
              have hjn : j - len * ie.size < news.length := by omega
              refine ⟨news[j - len * ie.size], ?_, n3 _ x _ hx (by simp)⟩
              rw [if_neg (by omega), if_pos (by omega), show (ι b).2 + off + j - ((ι b).2 + off + len * ie.size) = j - len * ie.size by omega]
              simp)
          (by simp) (fun k hk hkk => setRow_other w _ k _ hkk) (fun bk hq2 hgg => absurd hgg (hgne bk hq2)) rfl rfl rfl
        have hlive : C6 (h.set b (some ⟨g + 1, cells.drop off ++ cs⟩)) b (g + 1) := ⟨⟨g + 1, cells.drop off ++ cs⟩, by simp [hblt], rfl⟩
        refine ⟨_, _, _, hrun, u1, .ref _ _ _ _ _ _ _ (by unfold o9 at c3; clear hbcase hgne; omega) (D2 hlive).1 (D2 hlive).2 fun _ => .inr ⟨by simp, hroom, ⟨⟨g + 1, cells.drop off ++ cs⟩, by simp [hblt], hnc⟩, _, _, _, (by show _ = _; simp only [if_true]; exact hnew), ?_⟩, u2⟩
        rw [hasz]; simp; omega
      · obtain ⟨olds, o1, o2, o3⟩ := ca ((Q4 hS hb).drop off)
        have hgt : cap < len + k := Nat.lt_of_not_le hroom
        refine hgrow hgt olds (by rw [o1, hdl]) o3 ?_
        exact run_append_grow (P := P) w t ty e inf z t2 f1 f2 ⟨(ι b).1, (ι b).2 + off, none⟩ len cap olds (by rw [o1, hdl, f4]) o2 ⟨blk, offy, none⟩ k cy news (by rw [n1, s1, f4]) n2 hgt h64 (growslice_fits hgt hbb)
  · cases hr
end
end
section
section
variable {P : Program} {G : Nat → Option (List PV)} {ι ι' : Nat → Nat × Nat} {h h' : Heap} {w w' : World}
theorem fR {ρ : Operand → Option AV} : ∀ {l : List Operand} {vs : List AV}, F9 ρ l = some vs → vs.length = l.length ∧ ∀ (i : Nat) x v, l[i]? = some x → vs[i]? = some v → ρ x = some v
  | [], vs, h => by cases h; simp
  | x :: r, vs, h => by
    simp only [F9] at h
    split at h
    · rename_i v vs' h1 h2
      cases h
      obtain ⟨l1, l2⟩ := fR h2
      refine ⟨by simp [l1], fun i y u hy hu => ?_⟩
      cases i with
      | zero => simp at hy hu; rw [← hy, ← hu]; exact h1
      | succ i => simp at hy hu; exact l2 i y u hy hu
    · cases h
theorem aO {ρ : Operand → Value} {ρA : Operand → Option AV} (hρ : ∀ x a, ρA x = some a → VRel ι h w a (ρ x)) {ops : Array Operand} {vs : List AV} (he : F9 ρA ops.toList = some vs) :
    bM ι h w vs (ops.map ρ) := by
  obtain ⟨l1, l2⟩ := fR he
  refine ⟨by simpa using l1, fun i x v hx hv => ?_⟩
  simp only [Array.getElem?_map, Option.map_eq_some_iff] at hv
  obtain ⟨o, ho, rfl⟩ := hv
  exact hρ _ _ (l2 i o x (by simpa using ho) hx)
theorem cF {t : Nat} {i : TI} {z : List PV} (ht : l7 P t = some i) (hz : i.zero = some z) : ∃ v : Value, (∀ w : World, (zeroValue t).run P w = .ok v w) ∧ z.length = v.cells.size ∧
    ∀ (w : World) (o : Nat → Prop) (j : Nat) x u, z[j]? = some x → v.cells[j]? = some u → PRel w o x u := by
  obtain ⟨inf, d, h1, h2, h3, h4, h5, h6⟩ := m5 ht
  rw [hz] at h6
  obtain ⟨v, hv1, hv2⟩ := Option.bind_eq_some_iff.mp h6.symm
  refine ⟨v, fun w => by simp [zeroValue, typeInfo, h1, hv1], ?_, fun w o j x u hx hu => ?_⟩
  · have := (H5 (w := default) (o := fun _ => False) hv2).1
    simpa using this
  · exact (H5 (w := w) (o := o) hv2).2.2 j x u hx (by simpa using hu)
theorem ss {t : Bool} {x y : AV} {v u : Value} (hx : VRel ι h w x v) (hy : VRel ι h w y u) : VRel ι h w (iv t x y) (if t then v else u) := by
  unfold iv
  split
  · rename_i a c
    have e1 := hx.bool_inv; have e2 := hy.bool_inv; subst e1; subst e2
    cases t <;> exact .b
  · cases t <;> assumption
theorem lf (F : Array Field) (hF : ∀ f ∈ F.toList, ∃ i, P.info? f.type = some i) :
    (F.mapM fun f => (do Pure.pure (f.offset, ← sizeOf f.type) : Sem (Nat × Nat))).run P w = .ok ((F.toList.map fun f => (f.offset, P.cellsOf f.type)).toArray) w := by
  have key : ∀ l : List Field, (∀ f ∈ l, ∃ i, P.info? f.type = some i) → (l.mapM fun f => (do Pure.pure (f.offset, ← sizeOf f.type) : Sem (Nat × Nat))).run P w = .ok (l.map fun f => (f.offset, P.cellsOf f.type)) w := by
    intro l
    induction l with
    | nil => intro _; rfl
    | cons f r ih =>
      intro hl
      obtain ⟨i, hi⟩ := hl f (by simp)
      simp only [List.mapM_cons, Sem.run_bind, sizeOf, typeInfo, run_program, Result.andThen_ok, hi, Sem.run_pure, List.map_cons]
      have := ih (fun g hg => hl g (by simp [hg]))
      simp only [sizeOf, typeInfo, Sem.run_bind] at this
      rw [this]
      simp [Program.cellsOf, hi]
  rw [Array.mapM_eq_mapM_toList]
  simp only [Sem.run_map, key F.toList hF, Result.andThen_ok]
theorem eD {ρ : Operand → Value} {ρA : Operand → Option AV} (hS : SimH P G ι h w) (hρ : ∀ x a, ρA x = some a → VRel ι h w a (ρ x)) {t : Nat} {parts : Array (Nat × Operand)} {cs z : List AV} {i : TI} {z0 : List PV}
    (ht : l7 P t = some i) (hz : i.zero = some z0)
    (hk : (∃ fs, i.k = .struct fs ∧ fs.all (fun f => f.2.1 != 0) = true ∧ ap (fun i => (fs[i]?).map fun f => (f.1, f.2.1)) (z0.map .p) (parts.toList.map fun q => (q.1, ρA q.2)) = some cs) ∨
      ∃ n e, i.k = .array n e ∧ s8 P e ≠ 0 ∧ ap (fun i => some (i * s8 P e, s8 P e)) (z0.map .p) (parts.toList.map fun q => (q.1, ρA q.2)) = some cs) :
    ∃ v, (Instr.build t (parts.map fun q => (q.1, ρ q.2))).run P w = .ok v w ∧ VRel ι h w (.agg cs) v := by
  obtain ⟨inf, d, h1, h2, h3, h4, h5, h6⟩ := m5 ht
  obtain ⟨zv, hzr, hzl, hzv⟩ := cF ht hz
  have hz1 : (z0.map AV.p).length = zv.cells.size := by simpa using hzl
  have hz2 : ∀ (j : Nat) x v, (z0.map AV.p)[j]? = some x → zv.cells[j]? = some v → VRel ι h w x v := by
    intro j x v hx hv
    simp only [List.getElem?_map, Option.map_eq_some_iff] at hx
    obtain ⟨y, hy, rfl⟩ := hx
    exact .p _ _ (hzv w _ j y v hy hv)
  rcases hk with ⟨fs, hk, hall, hf⟩ | ⟨n, e, hk, hs, hf⟩
  · rw [hk] at h3
    obtain ⟨F, rfl, rfl⟩ := O0 h3
    have hF : ∀ f ∈ F.toList, ∃ i, P.info? f.type = some i := by
      intro f hf
      simp only [List.all_map, List.all_eq_true, Function.comp_apply, bne_iff_ne, ne_eq] at hall
      have := hall f hf
      unfold Program.cellsOf at this
      cases hq : P.info? f.type with
      | none => rw [hq] at this; simp at this
      | some i => exact ⟨i, rfl⟩
    have hpl : (fun i : Nat => ((F.toList.map fun f => (f.offset, P.cellsOf f.type, f.type))[i]?).map fun f : Nat × Nat × Nat => (f.1, f.2.1)) = (fun i : Nat => (F.toList.map fun f => (f.offset, P.cellsOf f.type)).toArray[i]?) := by
      funext i
      simp
      rfl
    rw [hpl] at hf
    obtain ⟨d', e1, e2, e3, e4⟩ := Y8 hρ _ parts.toList (z0.map .p) cs zv.cells hz1 hz2 hf
    refine ⟨.agg d', ?_, .agg _ _ e2 e4⟩
    have hm := lf (P := P) (w := w) F hF
    simp only [Instr.build, Sem.run_bind, hzr w, Result.andThen_ok, run_underlying h2, Sem.run_pure] at hm ⊢
    rw [hm]
    simp only [Result.andThen_ok, Array.toList_map, e1]
    rfl
  · rw [hk] at h3
    have := J9 h3; subst this
    obtain ⟨d', e1, e2, e3, e4⟩ := Y8 hρ _ parts.toList (z0.map .p) cs zv.cells hz1 hz2 hf
    refine ⟨.agg d', ?_, .agg _ _ e2 e4⟩
    simp only [Instr.build, Sem.run_bind, hzr w, Result.andThen_ok, run_underlying h2, B2 hs, Array.toList_map, e1]
    rfl
theorem jR (hS : SimH P G ι h w) : ¬ own ι h w.heap.size := fun ho => by have := tJ hS ho; omega
theorem bP (hS : SimH P G ι h w) (o : Obj) : SimH P G ι h (w.alloc o) ∧ Evo h.length ι h w ι h (w.alloc o) :=
  hS.garbage (by simp) (fun k hk => by first | exact heap_alloc_old _ _ hk | exact heap_alloc_old _ _ _ hk) rfl rfl rfl
theorem dz {ρ : Operand → Value} {ρA : Operand → Option AV} (hS : SimH P G ι h w) (hρ : ∀ x a, ρA x = some a → VRel ι h w a (ρ x)) {t e size by1 s1 b1 : Nat} {zz : Option (List PV)} {kk : TK} {len : Nat} {parts : Array (Nat × Operand)} {z : List PV} {cs : List AV}
    (ht : l7 P t = some ⟨.slice e, s1, b1, zz⟩) (he : l7 P e = some ⟨kk, size, by1, some z⟩) (hlen : len * size ≤ 10000) (hzl : z.length = size) (hsz : size ≠ 0)
    (hf : ap (fun i => some (i * size, size)) ((List.replicate len (z.map .p)).flatMap id) (parts.toList.map fun q => (q.1, ρA q.2)) = some cs) :
    ∃ arr, (Instr.buildSlice t len (parts.map fun q => (q.1, ρ q.2))).run P w = .ok (.slice (some ⟨w.heap.size, 0, none⟩) len len) (w.alloc (.cells arr e)) ∧ cs.length = len * size ∧ arr.size = cs.length ∧
      ∀ (i : Nat) x v, cs[i]? = some x → arr[i]? = some v → VRel ι h w x v := by
  obtain ⟨inf, d, h1, h2, h3, h4, h5, h6⟩ := m5 ht
  have := J8 h3; subst this
  obtain ⟨zv, hzr, hzl', hzv⟩ := cF he rfl
  have hzs : zv.cells.size = size := by omega
  have hrl : ∀ row ∈ List.replicate len (z.map AV.p), row.length = size := by
    intro row hr; rw [List.eq_of_mem_replicate hr]; simpa using hzl
  have hfl := U8 _ hrl
  rw [List.length_replicate] at hfl
  let arr0 : Array Value := (Array.range (len * size)).map (fun k => (if len * size = 0 then (#[] : Array Value) else zv.cells)[k % (if len * size = 0 then (#[] : Array Value) else zv.cells).size]!)
  have ha0 : ((List.replicate len (z.map AV.p)).flatMap id).length = arr0.size := by simp only [arr0, Array.size_map, Array.size_range, hfl]
  have ha1 : ∀ (j : Nat) x v, ((List.replicate len (z.map AV.p)).flatMap id)[j]? = some x → arr0[j]? = some v → VRel ι h w x v := by
    intro j x v hx hv
    have hj := m6 hx
    rw [hfl] at hj
    have hne : len * size ≠ 0 := by omega
    have hm : j % size < size := Nat.mod_lt _ (by omega)
    have hdm : j / size * size + j % size = j := by rw [Nat.mul_comm]; exact Nat.div_add_mod j size
    have := fJ _ hrl (j / size) (j % size) hm
    rw [hdm, hx] at this
    have hv2 : zv.cells[j % size]? = some v := by
      simp only [arr0, hne, if_false, Array.getElem?_map, Option.map_eq_some_iff] at hv
      obtain ⟨k, hk, hkv⟩ := hv
      have : k = j := by
        have hjr : j < (Array.range (len * size)).size := by simpa using hj
        rw [Array.getElem?_eq_getElem hjr] at hk
        simpa using hk.symm
      subst this
      have hlt : k % zv.cells.size < zv.cells.size := by rw [hzs]; exact hm
      rw [getElem!_pos zv.cells _ hlt] at hkv
      rw [← hkv, Array.getElem?_eq_getElem (by rw [hzs]; exact hm)]
      simp only [hzs]
    unfold P5 at this
    have hi : j / size < len := by
      rw [Nat.div_lt_iff_lt_mul (by omega)]; exact hj
    rw [List.getElem?_replicate, if_pos hi] at this
    simp only [Option.bind_some, List.getElem?_map] at this
    obtain ⟨y, hy, hyx⟩ := Option.map_eq_some_iff.mp this.symm
    rw [← hyx]
    exact .p _ _ (hzv w _ _ y v hy hv2)
  obtain ⟨arr, e1, e2, e3, e4⟩ := Y8 hρ _ parts.toList _ cs arr0 ha0 ha1 hf
  refine ⟨arr, ?_, by rw [e3, hfl], e2.symm, e4⟩
  have h24 : ¬ len * size > 2 ^ 24 := by omega
  simp only [Instr.buildSlice, Sem.run_bind, run_underlying h2, Result.andThen_ok, G6 he, h24, if_false, Sem.run_pure]
  by_cases hz0 : len * size = 0
  · simp only [hz0, if_true, Sem.run_pure, Result.andThen_ok]
    simp only [arr0, hz0, if_true] at e1
    simp only [Array.toList_map, e1, Sem.run_bind, newRow, run_newObj, Result.andThen_ok, Sem.run_pure]
    rfl
  · simp only [hz0, if_false, Sem.run_bind, hzr w, Result.andThen_ok, Sem.run_pure]
    simp only [arr0, hz0, if_false] at e1
    simp only [Array.toList_map, e1, Sem.run_bind, newRow, run_newObj, Result.andThen_ok, Sem.run_pure]
    rfl
theorem M1 {m : Sem Value} {o : Oper} (hS : SimH P G ι h w) {r : AV} {v : Value} (hm : m.run P w = .ok v w) (hr : VRel ι h w r v) : ey P G ι h w (do Pure.pure (.value (← m)) : Sem Next) r h :=
  .pure hS (by simp [Sem.run_bind, hm]) hr
theorem K5 {m : Sem Value} {r : AV} {v : Value} {w' : World} {ι' : Nat → Nat × Nat} (hm : m.run P w = .ok v w') (hS : SimH P G ι' h' w') (hr : VRel ι' h' w' r v) (he : Evo h.length ι h w ι' h' w') :
    ey P G ι h w (do Pure.pure (.value (← m)) : Sem Next) r h' := ⟨v, w', ι', .inl (by simp [Sem.run_bind, hm]), hS, hr, he⟩
theorem iR (hS : SimH P G ι h w) (t : Nat) {cs : List AV} {vs : Array Value} (hne : cs ≠ []) (hl : cs.length = vs.size) (hv : ∀ (i : Nat) x v, cs[i]? = some x → vs[i]? = some v → VRel ι h w x v) :
    ∃ w' ι', w' = w.alloc (.cells vs t) ∧ SimH P G ι' (h ++ [some ⟨0, cs⟩]) w' ∧ VRel ι' (h ++ [some ⟨0, cs⟩]) w' (.ptr h.length 0 0) (.pointer (some ⟨w.heap.size, 0, none⟩)) ∧ Evo h.length ι h w ι' (h ++ [some ⟨0, cs⟩]) w' := by
  obtain ⟨q1, q2⟩ := aM hS cs hne vs t (Nat.le_of_eq hl) hv
  refine ⟨_, _, rfl, q1, ?_, q2⟩
  have hl : C6 (h ++ [some ⟨0, cs⟩]) h.length 0 := ⟨_, by simp; rfl, rfl⟩
  have := jP (ι := fun i => if i = h.length then (w.heap.size, 0) else ι i) (w := w.alloc (.cells vs t)) hl 0
  simpa using this
theorem uJ {x : AV} {vs : Array Value} (hv : bM ι h w [x] vs) : ∃ v, vs = #[v] ∧ VRel ι h w x v := by
  obtain ⟨h1, h2⟩ := hv
  have hs : vs.size = 1 := by simpa using h1.symm
  refine ⟨vs[0], ?_, h2 0 x _ rfl (by simp [hs])⟩
  apply Array.ext (by simpa using hs)
  intro i a b
  have : i = 0 := by simp at b; omega
  subst this; rfl
theorem tK {x y : AV} {vs : Array Value} (hv : bM ι h w [x, y] vs) : ∃ v u, vs = #[v, u] ∧ VRel ι h w x v ∧ VRel ι h w y u := by
  obtain ⟨h1, h2⟩ := hv
  have hs : vs.size = 2 := by simpa using h1.symm
  refine ⟨vs[0], vs[1], ?_, h2 0 x _ rfl (by simp [hs]), h2 1 y _ rfl (by simp [hs])⟩
  apply Array.ext (by simpa using hs)
  intro i a b
  have : i = 0 ∨ i = 1 := by simp at b; omega
  rcases this with rfl | rfl <;> rfl
theorem iy (hS : SimH P G ι h w) {b : Builtin} {ats : Array TypeId} {ty : TypeId} {consts : Array Bool} {xs : List AV} {vs : Array Value} {r : AV}
    (hv : bM ι h w xs vs) (hop : M0 P b ats.toList xs h = some (r, h')) : ey P G ι h w (builtin b ats ty consts vs) r h' := by
  unfold M0 at hop
  split at hop
  ·
    rename_i t x hat
    obtain ⟨v, rfl, hx⟩ := uJ hv
    have hat' : ats = #[t] := by have := congrArg List.toArray hat; simpa using this
    subst hat'
    split at hop
    · rename_i e s1 b1 z1 ht
      obtain ⟨n, hn, he⟩ := Option.map_eq_some_iff.mp hop
      simp only [Prod.mk.injEq] at he; obtain ⟨rfl, rfl⟩ := he
      obtain ⟨_, d, _, u1, k1, _⟩ := m5 ht
      have := J8 k1; subst this
      split at hn
      · cases hn
      · rename_i hns
        obtain ⟨_, hle, hcase⟩ := pA hx hn
        refine .pure hS (v := .int .i64 n) ?_ (.int _ _ (qM hle))
        rcases hcase with ⟨A, cc, rfl⟩ | ⟨s, rfl, rfl⟩
        · simp [builtin, Builtin.len_, Sem.run_bind, run_underlying u1, goInt]
        · cases hx with
          | p _ _ hx => cases hx; exact absurd rfl (hns _)
    · rename_i s1 b1 z1 ht
      split at hop
      · rename_i s
        cases hop
        obtain ⟨_, d, _, u1, k1, _⟩ := m5 ht
        have := qH k1; subst this
        cases hx with
        | p _ _ hx =>
          cases hx
          rename_i hs
          exact .pure hS (v := .int .i64 s.size) (by simp [builtin, Builtin.len_, Sem.run_bind, run_underlying u1, goInt]) (.int _ _ (qM (by omega)))
      · cases hop
    · rename_i n e s1 b1 z1 ht
      split at hop
      case isFalse => cases hop
      rename_i hn
      cases hop
      obtain ⟨_, d, _, u1, k1, _⟩ := m5 ht
      have := J9 k1; subst this
      exact .pure hS (v := .int .i64 n) (by simp [builtin, Builtin.len_, Sem.run_bind, run_underlying u1, goInt]) (.int _ _ (qM (by omega)))
    · cases hop
  ·
    rename_i t u x y hat
    obtain ⟨v, q, rfl, hx, hy⟩ := tK hv
    have hat' : ats = #[t, u] := by have := congrArg List.toArray hat; simpa using this
    subst hat'
    split at hop
    case isFalse => cases hop
    rename_i hu
    subst hu
    obtain ⟨z, w', ι', e1, e2, e3, e4⟩ := jQ hS ty hx hy hop
    exact ⟨z, w', ι', .inl (by simp [builtin, Sem.run_bind, e1]), e2, e3, e4⟩
  ·
    rename_i k a k' c
    obtain ⟨v, q, rfl, hx, hy⟩ := tK hv
    split at hop
    case isFalse => cases hop
    rename_i hk
    subst hk
    cases hop
    obtain ⟨rfl, r1⟩ := hx.int_inv
    obtain ⟨rfl, r2⟩ := hy.int_inv
    refine .pure hS (v := .int k (if a < c then c else a)) (by simp [builtin, Sem.run_bind, Builtin.max_, Builtin.max2]) (.int _ _ (by split <;> assumption))
  ·
    rename_i k a k' c
    obtain ⟨v, q, rfl, hx, hy⟩ := tK hv
    split at hop
    case isFalse => cases hop
    rename_i hk
    subst hk
    cases hop
    obtain ⟨rfl, r1⟩ := hx.int_inv
    obtain ⟨rfl, r2⟩ := hy.int_inv
    refine .pure hS (v := .int k (if c < a then c else a)) (by simp [builtin, Sem.run_bind, Builtin.min_, Builtin.min2]) (.int _ _ (by split <;> assumption))
  · cases hop
theorem oG {α : Type} {l : List α} {sz : Nat} (hl : l.length = sz) : ∀ (n j : Nat) (x : α), ((List.replicate n l).flatMap id)[j]? = some x → j < n * sz ∧ l[j % sz]? = some x
  | 0, j, x, h => by simp at h
  | n + 1, j, x, h => by
    simp only [List.replicate_succ, List.flatMap_cons, id_eq] at h
    rcases Nat.lt_or_ge j sz with hj | hj
    · rw [List.getElem?_append_left (by omega)] at h
      refine ⟨?_, by rw [Nat.mod_eq_of_lt hj]; exact h⟩
      rw [Nat.add_mul]; omega
    · rw [List.getElem?_append_right (by omega), hl] at h
      obtain ⟨h1, h2⟩ := oG hl n (j - sz) x h
      refine ⟨by rw [Nat.add_mul]; omega, ?_⟩
      have : (j - sz) % sz = j % sz := by
        have : j = (j - sz) + sz := by omega
        conv => rhs; rw [this]
        exact (Nat.add_mod_right _ _).symm
      rw [← this]; exact h2
theorem oH {α : Type} {l : List α} {sz : Nat} (hl : l.length = sz) : ∀ n : Nat, ((List.replicate n l).flatMap id).length = n * sz
  | 0 => by simp
  | n + 1 => by
    simp only [List.replicate_succ, List.flatMap_cons, id_eq, List.length_append, oH hl n, hl, Nat.add_mul]; omega
theorem mU (hS : SimH P G ι h w) {t e size bytes s1 b1 : Nat} {zz : Option (List PV)} {kk : TK} {z : List PV} {n : Int} (k1 k2 : IntKind) (ht : l7 P t = some ⟨.slice e, s1, b1, zz⟩) (he : l7 P e = some ⟨kk, size, bytes, some z⟩)
    (h0 : 0 ≤ n) (hn : n ≤ 16777216) (hb : bytes ≤ 1048576) (hz : z.length = size) (hs : size ≠ 0) :
    ∃ arr : Array Value, (Instr.makeSlice t (.int k1 n) (.int k2 n)).run P w = .ok (.slice (some ⟨w.heap.size, 0, none⟩) n.toNat n.toNat) (w.alloc (.cells arr e)) ∧ arr.size = n.toNat * size ∧
      ∀ (j : Nat) x v, ((List.replicate n.toNat (z.map AV.p)).flatMap id)[j]? = some x → arr[j]? = some v → VRel ι h w x v := by
  obtain ⟨inf, d, h1, h2, h3, h4, h5, h6⟩ := m5 ht
  have := J8 h3; subst this
  obtain ⟨ie, de, g1, g2, g3, g4, g5, g6⟩ := m5 he
  obtain ⟨zv, hz1, hz2⟩ := Option.bind_eq_some_iff.mp g6.symm
  obtain ⟨l1, _, l3⟩ := H5 (w := w) (o := own ι h) hz2
  have hzs : zv.cells.size = size := by rw [← hz, l1]; simp
  have hby : (ie.bytes : Int) * n ≤ 281474976710656 := by
    have e1 : (ie.bytes : Int) ≤ 1048576 := by have : ie.bytes = bytes := g5; omega
    have e2 : (ie.bytes : Int) * n ≤ 1048576 * n := Int.mul_le_mul_of_nonneg_right e1 h0
    omega
  refine ⟨madeCells zv.cells (n.toNat * size), ?_, size_madeCells _ _, fun j x v hx hv => ?_⟩
  · have := run_make (P := P) w t e ie zv h2 g1 hz1 k1 k2 n n h0 (Int.le_refl _) hby (by omega)
    rw [g4] at this
    exact this
  · obtain ⟨hj, hx⟩ := oG (by simpa using hz) n.toNat j x hx
    simp only [List.getElem?_map, Option.map_eq_some_iff] at hx
    obtain ⟨y, hy, rfl⟩ := hx
    have hm : j % size < zv.cells.size := by rw [hzs]; exact Nat.mod_lt _ (by omega)
    unfold madeCells at hv
    simp only [Array.getElem?_map, Option.map_eq_some_iff] at hv
    obtain ⟨i, hi, rfl⟩ := hv
    have hij : i = j := by
      simp only [Array.getElem?_range] at hi
      by_cases hc : j < n.toNat * size
      · simp [hc] at hi; exact hi.symm
      · simp [hc] at hi
    subst hij
    rw [hzs]
    have e : zv.cells[i % size]! = zv.cells[i % size] := by simp [hm]
    rw [e]
    exact .p _ _ (l3 (i % size) y _ hy (by simp [hm]))
theorem pC {rl : List String} {o : Oper} {ρ : Operand → Value} {ρA : Operand → Option AV} {r : AV} (hS : SimH P G ι h w) (hρ : ∀ x a, ρA x = some a → VRel ι h w a (ρ x)) (hop : opA P rl o ρA h = some (r, h')) :
    ey P G ι h w (execOp ρ o) r h' := by
  unfold opA at hop
  unfold execOp
  split at hop
  ·
    rename_i x ho
    obtain ⟨a, ha, he⟩ := Option.map_eq_some_iff.mp hop
    simp only [Prod.mk.injEq] at he; obtain ⟨rfl, rfl⟩ := he
    simp only [ho]
    exact .pure hS rfl (hρ x a ha)
  · rename_i x ho
    obtain ⟨a, ha, he⟩ := Option.map_eq_some_iff.mp hop
    simp only [Prod.mk.injEq] at he; obtain ⟨rfl, rfl⟩ := he
    simp only [ho]
    exact .pure hS rfl (hρ x a ha)
  ·
    rename_i c a b ho
    split at hop
    · rename_i t x y hc ha hb
      cases hop
      simp only [ho]
      have e := (hρ c _ hc).bool_inv
      exact .pure hS (by simp [Sem.run_bind, e, asBool]) (ss (hρ a x ha) (hρ b y hb))
    · cases hop
  ·
    rename_i t ho
    split at hop
    · rename_i kk s1 b1 z ht
      split at hop
      · cases hop
      · rename_i hz0
        cases hop
        simp only [ho]
        obtain ⟨zv, hzr, hzl, hzv⟩ := cF ht rfl
        obtain ⟨w', ι', rfl, q1, q2, q3⟩ := iR hS t (cs := z.map .p) (vs := zv.cells) (by simpa using hz0) (by simpa using hzl) (fun j x v hx hv => by
          simp only [List.getElem?_map, Option.map_eq_some_iff] at hx
          obtain ⟨y, hy, rfl⟩ := hx
          exact .p _ _ (hzv w _ j y v hy hv))
        refine K5 (w' := w.alloc (.cells zv.cells t)) ?_ q1 q2 q3
        simp [Instr.alloc, Sem.run_bind, hzr w, newVar, newRow]
    · cases hop
  ·
    rename_i t x ho
    split at hop
    · rename_i cs hcs
      split at hop
      · cases hop
      · rename_i hne
        cases hop
        simp only [ho]
        obtain ⟨a, ha, hca⟩ := Option.bind_eq_some_iff.mp hcs
        obtain ⟨q1, q2, q3⟩ := bZ (hρ x a ha) hca
        obtain ⟨w', ι', rfl, p1, p2, p3⟩ := iR hS t (cs := cs) (vs := (ρ x).cells) (by simpa using hne) q1 q3
        refine K5 (w' := w.alloc (.cells (ρ x).cells t)) ?_ p1 p2 p3
        simp [Instr.box, Sem.run_bind, newVar, newRow]
    · cases hop
  ·
    rename_i t parts ho
    simp only [ho]
    split at hop
    · rename_i fs s1 b1 z ht
      split at hop
      case isFalse => cases hop
      rename_i hall
      obtain ⟨cs, hcs, he⟩ := Option.map_eq_some_iff.mp hop
      simp only [Prod.mk.injEq] at he; obtain ⟨rfl, rfl⟩ := he
      obtain ⟨v, e1, e2⟩ := eD (z := []) hS hρ ht rfl (.inl ⟨fs, rfl, hall, hcs⟩)
      exact M1 (o := o) hS e1 e2
    · rename_i n e s1 b1 z ht
      split at hop
      case isFalse => cases hop
      rename_i hs
      obtain ⟨cs, hcs, he⟩ := Option.map_eq_some_iff.mp hop
      simp only [Prod.mk.injEq] at he; obtain ⟨rfl, rfl⟩ := he
      obtain ⟨v, e1, e2⟩ := eD (z := []) hS hρ ht rfl (.inr ⟨n, e, rfl, hs, hcs⟩)
      exact M1 (o := o) hS e1 e2
    · cases hop
  ·
    rename_i t len parts ho
    simp only [ho]
    split at hop
    case h_2 => cases hop
    rename_i e s1 b1 zz ht
    split at hop
    case h_2 => cases hop
    rename_i kk size by1 z he
    split at hop
    case isFalse => cases hop
    rename_i hc
    obtain ⟨c1, c2, c3⟩ := hc
    split at hop
    case h_2 => cases hop
    rename_i cs hf
    obtain ⟨arr, e1, e2, e3, e4⟩ := dz hS hρ ht he c1 c2 c3 hf
    obtain ⟨g1, g2⟩ := bP hS (.cells arr e)
    have hnc : ¬ own ι h w.heap.size := jR hS
    split at hop
    · rename_i hz; subst hz; cases hop
      exact K5 e1 g1 (.p _ _ (.slz _ _)) g2
    · rename_i hz
      have hlb : len ≤ 9223372036854775807 := by
        have : len * 1 ≤ len * size := Nat.mul_le_mul_left _ (by omega)
        omega
      split at hop
      · cases hop
        have hne : cs ≠ [] := by
          intro e0; subst e0
          have : 0 < len * size := Nat.mul_pos (by omega) (by omega)
          simp at e2; omega
        obtain ⟨q1, q2⟩ := aM hS cs hne arr e (Nat.le_of_eq e3.symm) e4
        refine K5 e1 q1 ?_ q2
        have hl : C6 (h ++ [some ⟨0, cs⟩]) h.length 0 := ⟨_, by simp; rfl, rfl⟩
        exact .ref _ _ _ _ _ _ _ hlb (D2 hl).1 (D2 hl).2 fun _ => .inr ⟨by simp, Nat.le_refl _, ⟨⟨0, cs⟩, by simp, hne⟩, arr, e, (0, 0), by simpa using heap_alloc_new w _, by simp; omega⟩
      · obtain ⟨l, hl, he'⟩ := Option.map_eq_some_iff.mp hop
        simp only [Prod.mk.injEq] at he'; obtain ⟨rfl, rfl⟩ := he'
        have := oE hl; subst this
        refine K5 e1 g1 (.p _ _ (fL l size len len w.heap.size 0 (by simpa using e2) (Nat.le_refl _) hlb hnc (by simp) fun j x hx => ?_)) g2
        have hj : j < arr.size := by have := m6 hx; rw [e3]; simpa using this
        refine ⟨arr[j], by rw [World.cell?_alloc_at _ _ _ _ rfl]; simp [hj], ?_⟩
        exact (((e4 j (.p x) arr[j] (by simp [hx]) (by simp [hj])).evo g2).pv)
  ·
    rename_i t l c ho
    simp only [ho]
    split at hop
    case h_2 => cases hop
    rename_i e s1 b1 zz kl n km m ht hl hc
    split at hop
    case h_2 => cases hop
    rename_i kk size bytes z he
    split at hop
    case isFalse => cases hop
    rename_i hcond
    obtain ⟨c1, c2, c3, c4, c5, c6⟩ := hcond
    subst c2
    obtain ⟨arr, e1, e2, e3⟩ := mU hS kl km ht he c1 c3 c4 c5 c6
    obtain ⟨el, _⟩ := (hρ l _ hl).int_inv
    obtain ⟨ec, _⟩ := (hρ c _ hc).int_inv
    rw [← el, ← ec] at e1
    obtain ⟨g1, g2⟩ := bP hS (.cells arr e)
    split at hop
    · rename_i hz; subst hz; cases hop
      exact K5 e1 g1 (.p _ _ (.slz _ _)) g2
    · rename_i hz
      cases hop
      have hlen := oH (l := z.map AV.p) (sz := size) (by simpa using c5) n.toNat
      have hne : (List.replicate n.toNat (z.map AV.p)).flatMap id ≠ [] := by
        intro e0
        rw [e0] at hlen
        have : 0 < n.toNat * size := Nat.mul_pos (by omega) (by omega)
        simp at hlen; omega
      obtain ⟨q1, q2⟩ := aM hS _ hne arr e (Nat.le_of_eq (hlen.trans e2.symm)) e3
      refine K5 e1 q1 ?_ q2
      have hl : C6 (h ++ [some ⟨0, (List.replicate n.toNat (z.map AV.p)).flatMap id⟩]) h.length 0 := ⟨_, by simp; rfl, rfl⟩
      exact .ref _ _ _ _ _ _ _ (by omega) (D2 hl).1 (D2 hl).2 fun _ => .inr ⟨by simp, Nat.le_refl _, ⟨⟨0, _⟩, by simp, hne⟩, arr, e, (0, 0), by simpa using heap_alloc_new w _, by simp; omega⟩
  ·
    rename_i t a ho
    simp only [ho]
    obtain ⟨x, hx, hop⟩ := Option.bind_eq_some_iff.mp hop
    obtain ⟨y, hy, he⟩ := Option.map_eq_some_iff.mp hop
    simp only [Prod.mk.injEq] at he; obtain ⟨rfl, rfl⟩ := he
    obtain ⟨u, e1, e2⟩ := fM (P := P) hS (hρ a x hx) hy
    exact M1 (o := o) hS e1 e2
  ·
    rename_i t a x ho
    simp only [ho]
    split at hop
    · rename_i a' x' ha hx
      obtain ⟨h2, hh, he⟩ := Option.map_eq_some_iff.mp hop
      simp only [Prod.mk.injEq] at he; obtain ⟨rfl, rfl⟩ := he
      obtain ⟨w', e1, e2, e3⟩ := fN hS (hρ a a' ha) (hρ x x' hx) hh
      exact ⟨undef, w', ι, .inr ⟨by simp [Sem.run_bind, e1], rfl⟩, e2, iQ, e3⟩
    · cases hop
  ·
    rename_i x ho
    simp only [ho]
    split at hop
    · rename_i b g off hx
      cases hop
      obtain ⟨A, e, _⟩ := (hρ x _ hx).ptr_any
      refine .pure hS ?_ (hρ x _ hx)
      rw [e]; rfl
    · rename_i cells hx
      cases hop
      obtain ⟨blk, off, e, _⟩ := (hρ x _ hx).pin_inv
      refine .pure hS ?_ (hρ x _ hx)
      rw [e]; rfl
    · cases hop
  ·
    rename_i op t x y yt ho
    simp only [ho]
    split at hop
    · rename_i a b ha hb
      obtain ⟨c, hc, he⟩ := Option.map_eq_some_iff.mp hop
      simp only [Prod.mk.injEq] at he; obtain ⟨rfl, rfl⟩ := he
      obtain ⟨q, e1, e2⟩ := pz (hρ x a ha) (hρ y b hb) hc x y
      exact M1 (o := o) hS e1 e2
    · cases hop
  ·
    rename_i op t x ho
    simp only [ho]
    obtain ⟨a, ha, hop⟩ := Option.bind_eq_some_iff.mp hop
    obtain ⟨y, hy, he⟩ := Option.map_eq_some_iff.mp hop
    simp only [Prod.mk.injEq] at he; obtain ⟨rfl, rfl⟩ := he
    unfold unA at hy
    split at hy
    · rename_i k n
      cases hy
      obtain ⟨e, _⟩ := (hρ x _ ha).int_inv
      exact .pure hS (by simp [Sem.run_bind, e, Op.unary, Op.intArith]) (.int _ _ (N4 _))
    · rename_i b
      cases hy
      have e := (hρ x _ ha).bool_inv
      exact .pure hS (by simp [Sem.run_bind, e, Op.unary]) .b
    · cases hy
  ·
    rename_i src dst x ho
    simp only [ho]
    split at hop
    · rename_i k s1 b1 z1 k' s2 b2 z2 k'' n hs hd hx
      obtain ⟨e, hr⟩ := (hρ x _ hx).int_inv
      obtain ⟨_, d1, _, u1, q1, _⟩ := m5 hs
      obtain ⟨_, d2, _, u2, q2, _⟩ := m5 hd
      have := cC q1; subst this
      have := cC q2; subst this
      split at hop
      · rename_i hk
        obtain ⟨rfl, rfl⟩ := hk
        cases hop
        have hw : k''.wrap n = n := by
          unfold E1 IntKind.min IntKind.max IntKind.signed IntKind.bits at hr
          unfold IntKind.wrap IntKind.signed IntKind.bits
          cases k'' <;> simp at hr ⊢ <;> (try split) <;> omega
        exact .pure hS (by simp [Sem.run_bind, e, convert, run_underlying u1, run_underlying u2, Conv.intToInt, hw]) (.int _ _ hr)
      · cases hop
        exact .pure hS (by simp [Sem.run_bind, e, convert, run_underlying u1, run_underlying u2, Conv.intToInt]) (.int _ _ (N4 _))
    · cases hop
  ·
    rename_i f first captured ho
    simp only [ho]
    split at hop
    · rename_i hf
      obtain ⟨vs, hvs, he⟩ := Option.map_eq_some_iff.mp hop
      simp only [Prod.mk.injEq] at he; obtain ⟨rfl, rfl⟩ := he
      have h0 : first = #[] := Array.eq_empty_of_size_eq_zero hf
      subst h0
      obtain ⟨q1, q2⟩ := aO hρ hvs
      exact .pure hS (v := .func (.func f) #[] (captured.map ρ)) (by simp [Sem.run_bind, Instr.makeFunc]) (.fn _ _ _ q1 q2)
    · cases hop
  ·
    rename_i t x lo hi mx ho
    simp only [ho]
    split at hop
    · rename_i a ha
      obtain ⟨y, hy, he⟩ := Option.map_eq_some_iff.mp hop
      simp only [Prod.mk.injEq] at he; obtain ⟨rfl, rfl⟩ := he
      obtain ⟨u, e1, e2⟩ := ld (P := P) hS hρ (hρ x a ha) hy
      exact M1 (o := o) hS e1 e2
    · cases hop
  ·
    rename_i t x f ho
    simp only [ho]
    obtain ⟨a, ha, hop⟩ := Option.bind_eq_some_iff.mp hop
    obtain ⟨y, hy, he⟩ := Option.map_eq_some_iff.mp hop
    simp only [Prod.mk.injEq] at he; obtain ⟨rfl, rfl⟩ := he
    obtain ⟨u, e1, e2⟩ := fj (P := P) hS (hρ x a ha) hy
    exact M1 (o := o) hS e1 e2
  ·
    rename_i t x f ho
    simp only [ho]
    obtain ⟨a, ha, hop⟩ := Option.bind_eq_some_iff.mp hop
    obtain ⟨y, hy, he⟩ := Option.map_eq_some_iff.mp hop
    simp only [Prod.mk.injEq] at he; obtain ⟨rfl, rfl⟩ := he
    obtain ⟨u, e1, e2⟩ := kW (P := P) (hρ x a ha) hy
    exact M1 (o := o) hS e1 e2
  ·
    rename_i t x ix ho
    simp only [ho]
    split at hop
    · rename_i a b ha hb
      obtain ⟨y, hy, he⟩ := Option.map_eq_some_iff.mp hop
      simp only [Prod.mk.injEq] at he; obtain ⟨rfl, rfl⟩ := he
      obtain ⟨u, e1, e2⟩ := fk (P := P) hS (hρ x a ha) (hρ ix b hb) hy
      exact M1 (o := o) hS e1 e2
    · cases hop
  ·
    rename_i t x ix ho
    simp only [ho]
    split at hop
    · rename_i a b ha hb
      obtain ⟨y, hy, he⟩ := Option.map_eq_some_iff.mp hop
      simp only [Prod.mk.injEq] at he; obtain ⟨rfl, rfl⟩ := he
      obtain ⟨u, e1, e2⟩ := kV (P := P) (hρ x a ha) (hρ ix b hb) hy
      exact M1 (o := o) hS e1 e2
    · cases hop
  ·
    rename_i t i ho
    simp only [ho]
    split at hop
    · rename_i vs hv
      obtain ⟨y, hy, he⟩ := Option.map_eq_some_iff.mp hop
      simp only [Prod.mk.injEq] at he; obtain ⟨rfl, rfl⟩ := he
      have hx := hρ t _ hv
      generalize hq : ρ t = u at hx
      cases hx with
      | tup _ us hl hr =>
        have hi : i < us.size := by have := m6 hy; omega
        exact .pure hS (v := us[i]) (by simp [Sem.run_bind, hq, Instr.extract, hi]) (hr i y _ hy (by simp [hi]))
    · cases hop
  ·
    rename_i c ho
    simp only [ho]
    split at hop
    · rename_i b hb
      obtain ⟨xs, hxs, hop⟩ := Option.bind_eq_some_iff.mp hop
      obtain ⟨v1, v2⟩ := aO hρ hxs
      obtain ⟨consts, hrun⟩ : ∃ consts, (do let d ← resolve ρ c o.type; invoke d.target d.args : Sem Next).run P w = (builtin b c.argTypes o.type consts (c.args.map ρ)).run P w :=
        ⟨_, by simp only [resolve, hb, Sem.run_bind, Sem.run_pure, Result.andThen_ok, invoke]; rfl⟩
      have hv0 : bM ι h w xs (c.args.map ρ) := ⟨v1, v2⟩
      suffices hX : ey P G ι h w (builtin b c.argTypes o.type consts (c.args.map ρ)) r h' by
        obtain ⟨v, w', ι', a1, a2, a3, a4⟩ := hX
        exact ⟨v, w', ι', by rw [hrun]; exact a1, a2, a3, a4⟩
      generalize c.args.map ρ = vs at hv0 ⊢
      generalize c.argTypes = ats at hop ⊢
      exact iy hS hv0 hop
    · cases hop
  · cases hop
end
end
section
structure Sim (P : Program) (G : Nat → Option (List PV)) (ι : Nat → Nat × Nat) (s : St) (a : Act) (w : World) : Prop where
  hS : SimH P G ι s.heap w
  fr : ∀ (k : Nat) x, s.fr k = some x → ∃ v, a.tmps[k]? = some v ∧ VRel ι s.heap w x v
  nt : a.tmps.size = s.nt
  df : a.defers = []
section
variable {P : Program} {G : Nat → Option (List PV)} {rl : List String} {ι ι' ι0 : Nat → Nat × Nat} {h h' h0 : Heap} {w w' w0 : World} {n0 : Nat} {s : St} {a : Act} {ops : Array Oper}
theorem Sim.eval (hs : Sim P G ι s a w) {x : Operand} {v : AV} (hx : r4 G s x = some v) : VRel ι s.heap w v (a.eval x) := by
  cases x with
  | tmp t =>
    obtain ⟨u, h1, h2⟩ := hs.fr t v hx
    simpa [Act.eval, h1] using h2
  | const u => exact mQ hx
  | global g =>
    obtain ⟨cells, hg, rfl⟩ := Option.map_eq_some_iff.mp hx
    exact .pin _ _ _ (hs.hS.gr g cells hg)
  | func f =>
    simp only [r4] at hx
    cases hx
    exact .fn _ _ _ rfl fun i x v hx _ => by simp at hx
theorem Sim.put (hs : Sim P G ι s a w) (hS : SimH P G ι' h' w') (he : Evo s.heap.length ι s.heap w ι' h' w') (dst : Option Nat) {r : AV} {v : Value} (hr : VRel ι' h' w' r v) :
    Sim P G ι' ({ s with heap := h' }.put dst r) (a.put dst v) w' := by
  cases dst with
  | none => exact ⟨hS, fun k x hx => by obtain ⟨u, h1, h2⟩ := hs.fr k x hx; exact ⟨u, h1, h2.evo he⟩, hs.nt, hs.df⟩
  | some d =>
    simp only [St.put, Act.put]
    split
    · rename_i hd
      refine ⟨hS, fun k x hx => ?_, by simp [hs.nt], hs.df⟩
      simp only [upd] at hx
      split at hx
      · rename_i hk; subst hk
        cases hx
        exact ⟨v, by simp [hs.nt, hd], hr⟩
      · rename_i hk
        obtain ⟨u, h1, h2⟩ := hs.fr k x hx
        exact ⟨u, by rw [Array.getElem?_setIfInBounds_ne (fun e => hk e.symm)]; exact h1, h2.evo he⟩
    · rename_i hd
      refine ⟨hS, fun k x hx => ?_, by simp [hs.nt], hs.df⟩
      obtain ⟨u, h1, h2⟩ := hs.fr k x hx
      have hk : d ≠ k := by
        intro e; subst e
        have := hs.nt
        have hlt : d < a.tmps.size := by
          rcases Nat.lt_or_ge d a.tmps.size with h | h
          · exact h
          · simp [Array.getElem?_eq_none h] at h1
        simp at hd; omega
      exact ⟨u, by rw [Array.getElem?_setIfInBounds_ne hk]; exact h1, h2.evo he⟩
theorem Sim.put0 (hs : Sim P G ι s a w) (dst : Option Nat) : Sim P G ι (s.put dst .undef) (a.put dst undef) w :=
  hs.put hs.hS (.refl (Nat.le_refl _)) dst iQ
theorem St.put_heap (s : St) (d : Option Nat) (v : AV) : (s.put d v).heap = s.heap := by
  cases d <;> simp only [St.put] <;> (try split) <;> rfl
theorem qN {o : Oper} {f : Operand} {args : Array Operand} {ats : Array TypeId} {ρ : Operand → Value} {g : FuncId} {caps : Array Value} (ho : o.op = .call ⟨.value f, args, ats⟩) (hf : ρ f = .func (.func g) #[] caps) (hg : j5 P g) (w : World) :
    (execOp ρ o).run P w = .ok (.enter g (args.map ρ ++ caps)) w := by
  obtain ⟨fn, c, h1, h2, h3⟩ := hg
  have h3' : ¬ fn.name = "runtime.NumGoroutine" := by simpa using h3
  simp [execOp, ho, resolve, Deferred.ofValue, hf, invoke, callFunc, Sem.run_bind, h1, h2, h3']
theorem jS {xs ys : List AV} {vs us : Array Value} (h1 : bM ι h w xs vs) (h2 : xs.length = vs.size → bM ι h w ys us) : bM ι h w (xs ++ ys) (vs ++ us) := by
  obtain ⟨a1, a2⟩ := h1
  obtain ⟨b1, b2⟩ := h2 a1
  refine ⟨by simp [a1, b1], fun i x v hx hv => ?_⟩
  by_cases hi : i < xs.length
  · rw [List.getElem?_append_left hi] at hx
    rw [Array.getElem?_append_left (by omega)] at hv
    exact a2 i x v hx hv
  · rw [List.getElem?_append_right (by omega)] at hx
    rw [Array.getElem?_append_right (by omega), ← a1] at hv
    exact b2 _ x v hx hv
theorem VRel.fn_inv {f : FuncId} {cells : List AV} {v : Value} (hx : VRel ι h w (.fn f cells) v) : ∃ vs, v = .func (.func f) #[] vs ∧ bM ι h w cells vs := by
  cases hx with
  | fn _ _ vs hl hv => exact ⟨vs, rfl, hl, hv⟩
theorem aP {o : Oper} {f : Operand} {args : Array Operand} (h : z5 o = some (f, args)) : ∃ ats, o.op = .call ⟨.value f, args, ats⟩ := by
  unfold z5 at h
  split at h
  · rename_i f' args' ats ho
    cases h
    exact ⟨ats, ho⟩
  · cases h
theorem lg {o : Oper} {K : St → Prop} {K' : Act → World → Prop} {Q' : Exit → Act → World → Prop} (hs : Sim P G ι s a w) (he : Evo n0 ι0 h0 w0 ι s.heap w)
    (hK : ∀ s' ι' a' w', K s' → Sim P G ι' s' a' w' → Evo n0 ι0 h0 w0 ι' s'.heap w' → K' a' w') (hx : P9 P G rl o K s) : o.wp P a w K' Q' := by
  unfold P9 at hx
  cases hq : z5 o with
  | some q =>
    obtain ⟨f, args⟩ := q
    obtain ⟨ats, ho⟩ := aP hq
    simp only [hq] at hx
    split at hx
    · rename_i g caps xs hf hargs
      obtain ⟨hg, hc⟩ := hx
      obtain ⟨vs, e1, e2⟩ := (hs.eval hf).fn_inv
      unfold Oper.wp
      rw [qN ho e1 hg w]
      simp only [Oper.upon]
      refine (hc ι w _ hs.hS (jS (aO (fun x a hx => hs.eval hx) hargs) fun _ => e2)).mono ?_
      rintro e w' ⟨v, r, h', ι', rfl, hk, hS', hr, he'⟩
      exact hK _ ι' _ w' hk (hs.put hS' he' o.dst hr) (by rw [St.put_heap]; exact he.trans he' he.len)
    · exact hx.elim
  | none =>
    simp only [hq] at hx
    split at hx
    · rename_i r h' hop
      obtain ⟨v, w', ι', hrun, hS', hr, he'⟩ := pC hs.hS (fun x a hx => hs.eval hx) hop
      have := hK _ ι' _ w' hx (hs.put hS' he' o.dst hr) (by rw [St.put_heap]; exact he.trans he' he.len)
      unfold Oper.wp
      rcases hrun with hrun | ⟨hrun, rfl⟩
      · rw [hrun]; exact this
      · rw [hrun]; exact this
    · exact hx.elim
theorem mV (hs : Sim P G ι s a w) {j : Nat} {g : Bool} (hg : Y6 ops s j = some (.p (.bool g))) : yielded ops a.tmps j = some g := by
  obtain ⟨d, hd, hv⟩ := Option.bind_eq_some_iff.mp hg
  obtain ⟨u, h1, h2⟩ := hs.fr d _ hv
  have := h2.bool_inv; subst this
  simp [yielded, hd, h1]
theorem lh (hs : Sim P G ι s a w) {j : Nat} (hg : Y6 ops s j = some (.tup [])) : yielded ops a.tmps j = none := by
  obtain ⟨d, hd, hv⟩ := Option.bind_eq_some_iff.mp hg
  obtain ⟨u, h1, h2⟩ := hs.fr d _ hv
  cases h2 with
  | tup _ vs hl _ => simp [yielded, hd, h1]
theorem iU (hs : Sim P G ι s a w) {o : Oper} {b : Bool} (hb : H9 ops o s = some b) : Region.wanted o (yielded ops a.tmps) = b := by
  unfold H9 at hb
  unfold Region.wanted
  split at hb
  · rename_i hg; cases hb; simp [hg]
  · rename_i j want hg
    simp only [hg]
    split at hb
    · rename_i g hga
      cases hb
      rw [mV hs hga]
      cases g <;> cases want <;> rfl
    · rename_i hga
      cases hb
      rw [lh hs hga]
      cases want <;> rfl
    · cases hb
theorem W8 {o : Oper} {K : St → Prop} {K' : Act → World → Prop} {Q' : Exit → Act → World → Prop} (hs : Sim P G ι s a w) (he : Evo n0 ι0 h0 w0 ι s.heap w)
    (hK : ∀ s' ι' a' w', K s' → Sim P G ι' s' a' w' → Evo n0 ι0 h0 w0 ι' s'.heap w' → K' a' w') (hx : aop P G rl ops o K s) :
    if Region.wanted o (yielded ops a.tmps) then o.wp P a w K' Q' ∨ (o.asks P a w ∧ LetsOut Q') else K' (a.put o.dst undef) w := by
  unfold aop at hx
  split at hx
  case h_2 => exact hx.elim
  rename_i b hb
  rw [iU hs hb]
  cases b with
  | true =>
    simp only [if_true]
    exact .inl (lg hs he hK (hx.1 rfl))
  | false =>
    simp only [Bool.false_eq_true, if_false]
    exact hK _ ι _ w (hx.2 rfl) (hs.put0 o.dst) (by rw [St.put_heap]; exact he)
theorem fS {K : St → Prop} {Q' : Exit → Act → World → Prop} (hK : ∀ s' ι' a' w', K s' → Sim P G ι' s' a' w' → Evo n0 ι0 h0 w0 ι' s'.heap w' → Q' .normal a' w') :
    ∀ (l : List Oper) (s : St) (ι : Nat → Nat × Nat) (a : Act) (w : World), Sim P G ι s a w → Evo n0 ι0 h0 w0 ι s.heap w → q9 P G rl ops K l s → wpList P ops Q' l a w
  | [], s, ι, a, w, hs, he, h => hK s ι a w h hs he
  | o :: rest, s, ι, a, w, hs, he, h => by
    unfold wpList
    exact W8 (K := q9 P G rl ops K rest) (K' := wpList P ops Q' rest) hs he (fun s' ι' a' w' hk hs' he' => fS hK rest s' ι' a' w' hs' he' hk) h
end
end
section
section
variable {P : Program} {G : Nat → Option (List PV)} {rl : List String} {ops : Array Oper} {md : Region.Mode}
theorem O1 {ρ ρ' : Operand → Option AV} : ∀ {l : List Operand}, (∀ x ∈ l, ρ x = ρ' x) → F9 ρ l = F9 ρ' l
  | [], _ => rfl
  | x :: r, h => by simp only [F9]; rw [h x (by simp), O1 (l := r) (fun y hy => h y (by simp [hy]))]
theorem iV {o : Oper} {ρ ρ' : Operand → Option AV} {h : Heap} (hc : ∀ x ∈ o.op.operands, ρ x = ρ' x) : opA P rl o ρ h = opA P rl o ρ' h := by
  obtain ⟨dst, op, type, pos, after, guard⟩ := o
  simp only at hc
  cases op with
  | move x => simp only [opA]; rw [hc x (by simp [Op.operands])]
  | assign x => simp only [opA]; rw [hc x (by simp [Op.operands])]
  | pick c x y => simp only [opA]; rw [hc c (by simp [Op.operands]), hc x (by simp [Op.operands]), hc y (by simp [Op.operands])]
  | alloc t => rfl
  | box t x => simp only [opA]; rw [hc x (by simp [Op.operands])]
  | build t ps =>
    have : (ps.toList.map fun q => (q.1, ρ q.2)) = (ps.toList.map fun q => (q.1, ρ' q.2)) := List.map_congr_left fun q hq => by
      rw [hc q.2 (by simp only [Op.operands, List.mem_toArray, List.mem_map]; exact ⟨q, hq, rfl⟩)]
    simp only [opA, this]
  | buildSlice t n ps =>
    have : (ps.toList.map fun q => (q.1, ρ q.2)) = (ps.toList.map fun q => (q.1, ρ' q.2)) := List.map_congr_left fun q hq => by
      rw [hc q.2 (by simp only [Op.operands, List.mem_toArray, List.mem_map]; exact ⟨q, hq, rfl⟩)]
    simp only [opA, this]
  | makeSlice t l c => simp only [opA]; rw [hc l (by simp [Op.operands]), hc c (by simp [Op.operands])]
  | load t x => simp only [opA]; rw [hc x (by simp [Op.operands])]
  | store t x y => simp only [opA]; rw [hc x (by simp [Op.operands]), hc y (by simp [Op.operands])]
  | nilCheck x => simp only [opA]; rw [hc x (by simp [Op.operands])]
  | binOp b t x y yt => simp only [opA]; rw [hc x (by simp [Op.operands]), hc y (by simp [Op.operands])]
  | unOp u t x => simp only [opA]; rw [hc x (by simp [Op.operands])]
  | convert a b x => simp only [opA]; rw [hc x (by simp [Op.operands])]
  | makeFunc fn first captured =>
    have : F9 ρ captured.toList = F9 ρ' captured.toList := O1 fun x hx => hc x (by simp only [Op.operands, Array.mem_append]; exact .inr (by simpa using hx))
    cases fn <;> simp only [opA, this]
  | slice t x lo hi mx =>
    have h1 : ρ x = ρ' x := hc x (by simp [Op.operands])
    have h2 : lo.map ρ = lo.map ρ' := by cases lo with
      | none => rfl
      | some l => simp [hc l (by simp [Op.operands])]
    have h3 : hi.map ρ = hi.map ρ' := by cases hi with
      | none => rfl
      | some l => simp [hc l (by simp [Op.operands])]
    simp only [opA, h1, h2, h3]
  | fieldAddr t x f => simp only [opA]; rw [hc x (by simp [Op.operands])]
  | field t x f => simp only [opA]; rw [hc x (by simp [Op.operands])]
  | indexAddr t x y => simp only [opA]; rw [hc x (by simp [Op.operands]), hc y (by simp [Op.operands])]
  | index t x y => simp only [opA]; rw [hc x (by simp [Op.operands]), hc y (by simp [Op.operands])]
  | extract x i => simp only [opA]; rw [hc x (by simp [Op.operands])]
  | call c =>
    have : F9 ρ c.args.toList = F9 ρ' c.args.toList := O1 fun x hx => hc x (by simp only [Op.operands, Call.operands, Array.mem_append]; exact .inr (by simpa using hx))
    simp only [opA, this]
  | _ => rfl
def AQ (P : Program) (G : Nat → Option (List PV)) (rl : List String) (o : Oper) (s : St) (v : AV) : Prop :=
  match z5 o with
  | some (f, args) => ∃ g caps xs, r4 G s f = some (.fn g caps) ∧ F9 (r4 G s) args.toList = some xs ∧ j5 P g ∧ f9 P G g (xs ++ caps) s.heap fun r' h' => r' = v ∧ h' = s.heap
  | none => opA P rl o (r4 G s) s.heap = some (v, s.heap)
def C0 (P : Program) (G : Nat → Option (List PV)) (rl : List String) (ops : Array Oper) (o : Oper) (v : AV) (s : St) : Prop :=
  (H9 ops o s = some true ∧ AQ P G rl o s v) ∨ (H9 ops o s = some false ∧ v = .undef)
theorem fT {o : Oper} {K : St → Prop} {s : St} : bY P G rl o K s ↔ ∃ v, AQ P G rl o s v ∧ K (s.put o.dst v) := by
  unfold bY AQ
  cases hq : z5 o with
  | some q =>
    obtain ⟨f, args⟩ := q
    dsimp only
    split
    · rename_i g caps xs hf hx
      constructor
      · rintro ⟨he, r, hc, hk⟩
        exact ⟨r, ⟨g, caps, xs, hf, hx, he, hc⟩, hk⟩
      · rintro ⟨r, ⟨g', caps', xs', hf', hx', he, hc⟩, hk⟩
        rw [hf] at hf'; cases hf'
        rw [hx] at hx'; cases hx'
        exact ⟨he, r, hc, hk⟩
    · rename_i hn
      constructor
      · exact fun h => h.elim
      · rintro ⟨r, ⟨g', caps', xs', hf', hx', he, hc⟩, hk⟩
        exact (hn _ _ _ hf' hx').elim
  | none =>
    dsimp only
    cases hop : opA P rl o (r4 G s) s.heap with
    | none =>
      constructor
      · exact fun h => h.elim
      · rintro ⟨v, hv, hk⟩; cases hv
    | some q =>
      obtain ⟨r, h'⟩ := q
      constructor
      · rintro ⟨rfl, hk⟩; exact ⟨r, rfl, hk⟩
      · rintro ⟨v, hv, hk⟩
        simp only [Option.some.injEq, Prod.mk.injEq] at hv
        obtain ⟨rfl, rfl⟩ := hv
        exact ⟨rfl, hk⟩
theorem s7 {o : Oper} {K : St → Prop} {s : St} : aG P G rl ops o K s ↔ ∃ v, C0 P G rl ops o v s ∧ K (s.put o.dst v) := by
  unfold aG C0
  cases hw : H9 ops o s with
  | none =>
    constructor
    · exact fun h => h.elim
    · rintro ⟨v, ⟨h1, h2⟩ | ⟨h1, rfl⟩, h3⟩ <;> cases h1
  | some b =>
    dsimp only
    cases b with
    | true =>
      constructor
      · rintro ⟨h1, _⟩
        obtain ⟨v, h3, h4⟩ := fT.mp (h1 rfl)
        exact ⟨v, .inl ⟨rfl, h3⟩, h4⟩
      · rintro ⟨v, ⟨_, h2⟩ | ⟨h1, _⟩, h3⟩
        · exact ⟨fun _ => fT.mpr ⟨v, h2, h3⟩, fun e => (by cases e)⟩
        · cases h1
    | false =>
      constructor
      · rintro ⟨_, h2⟩
        exact ⟨.undef, .inr ⟨rfl, rfl⟩, h2 rfl⟩
      · rintro ⟨v, ⟨h1, _⟩ | ⟨_, rfl⟩, h3⟩
        · cases h1
        · exact ⟨fun e => (by cases e), fun _ => h3⟩
theorem iW {s : St} {d : Option Nat} {v : AV} {x : Operand} (h : ∀ t, d = some t → x ≠ .tmp t) : r4 G (s.put d v) x = r4 G s x := by
  cases x with
  | tmp t =>
    cases d with
    | none => rfl
    | some d =>
      have hne : t ≠ d := fun e => h d rfl (by rw [e])
      simp only [r4, St.put]
      split
      · simp [upd, hne]
      · rfl
  | _ => rfl
theorem tL {s : St} {d : Option Nat} {v : AV} {t : Nat} (h : ∀ e, d = some e → e ≠ t) : (s.put d v).fr t = s.fr t := by
  cases d with
  | none => rfl
  | some d =>
    have hne : t ≠ d := fun e => h d rfl e.symm
    simp only [St.put]
    split
    · simp [upd, hne]
    · rfl
theorem li {o : Oper} {x : Operand} {t : Nat} (hx : x ∈ o.op.operands) (ht : x = .tmp t) : t ∈ o.looksAt ops := by
  subst ht
  simp only [Oper.looksAt, List.mem_append, List.mem_filterMap]
  exact .inl ⟨.tmp t, by simpa using hx, rfl⟩
theorem tM {o : Oper} {s : St} {d : Option Nat} {u v : AV} (hd : ∀ t, d = some t → t ∉ o.looksAt ops) : AQ P G rl o (s.put d u) v ↔ AQ P G rl o s v := by
  have hev : ∀ x ∈ o.op.operands, r4 G (s.put d u) x = r4 G s x := fun x hx => iW fun t ht e => hd t ht (li hx e)
  unfold AQ
  cases hq : z5 o with
  | some q =>
    obtain ⟨f, args⟩ := q
    obtain ⟨ats, ho⟩ := aP hq
    rw [ho] at hev
    have h1 : r4 G (s.put d u) f = r4 G s f := hev f (by simp [Op.operands, Call.operands])
    have h2 : F9 (r4 G (s.put d u)) args.toList = F9 (r4 G s) args.toList := O1 fun x hx => hev x (by simp only [Op.operands, Call.operands, Array.mem_append]; exact .inr (by simpa using hx))
    dsimp only
    rw [h1, h2, St.put_heap]
  | none =>
    dsimp only
    rw [iV hev, St.put_heap]
theorem iX {o : Oper} {s : St} {d : Option Nat} {u : AV} (hd : ∀ t, d = some t → t ∉ o.looksAt ops) : H9 ops o (s.put d u) = H9 ops o s := by
  unfold H9
  cases hg : o.guard with
  | none => rfl
  | some q =>
    obtain ⟨j, want⟩ := q
    have : Y6 ops (s.put d u) j = Y6 ops s j := by
      unfold Y6
      cases hq : (ops[j]?).bind (·.dst) with
      | none => rfl
      | some t =>
        simp only [Option.bind_some]
        refine tL fun e he heq => hd e he ?_
        simp [Oper.looksAt, hg, hq, heq]
    simp only [this]
theorem D7 {o : Oper} {s : St} {d : Option Nat} {u v : AV} (hd : ∀ t, d = some t → t ∉ o.looksAt ops) : C0 P G rl ops o v (s.put d u) ↔ C0 P G rl ops o v s := by
  unfold C0
  rw [iX hd, tM hd]
theorem St.put_comm (s : St) {x y : Option Nat} (v u : AV) (h : ∀ d, x = some d → y ≠ some d) : (s.put x v).put y u = (s.put y u).put x v := by
  cases x with
  | none => rfl
  | some d =>
    cases y with
    | none => rfl
    | some e =>
      have hne : d ≠ e := fun he => h d rfl (he ▸ rfl)
      simp only [St.put]
      by_cases h1 : d < s.nt <;> by_cases h2 : e < s.nt <;> simp only [h1, h2, if_true, if_false]
      congr 1
      funext k
      simp only [upd]
      by_cases k1 : k = d <;> by_cases k2 : k = e <;> simp_all
def iz (P : Program) (G : Nat → Option (List PV)) (rl : List String) (ops : Array Oper) (i : Nat) (K : St → Prop) (s : St) : Prop :=
  match ops[i]? with
  | none => K s
  | some o => aG P G rl ops o K s
theorem pD {i : Nat} {s : St} {K K' : St → Prop} (h : ∀ s, K s → K' s) (hh : iz P G rl ops i K s) : iz P G rl ops i K' s := by
  unfold iz at *
  split
  · exact h _ (by simpa [*] using hh)
  · rename_i o ho
    simp only [ho] at hh
    obtain ⟨v, h1, h2⟩ := s7.mp hh
    exact s7.mpr ⟨v, h1, h _ h2⟩
def iY (P : Program) (G : Nat → Option (List PV)) (rl : List String) (md : Region.Mode) (ops : Array Oper) (Q : St → Prop) : Nat → Array Bool → St → Prop
  | 0, listed, s => Region.ready md ops listed = [] ∧ Q s
  | fuel + 1, listed, s =>
    (Region.ready md ops listed = [] → Q s) ∧
    ∀ i ∈ Region.ready md ops listed, iz P G rl ops i (iY P G rl md ops Q fuel (listed.setIfInBounds i true)) s
theorem qO {j : Nat} {oi oj : Oper} {v : AV} (hj : ops[j]? = some oj) (hap : oi.apart ops oj = true) {K : St → Prop} {s : St}
    (hy : C0 P G rl ops oi v s) (h : iz P G rl ops j K (s.put oi.dst v)) :
    iz P G rl ops j (fun s' => C0 P G rl ops oi v s' ∧ K (s'.put oi.dst v)) s := by
  obtain ⟨h1, h2, h3⟩ := Oper.apart_spec hap
  unfold iz at *
  simp only [hj] at *
  obtain ⟨u, hu, hk⟩ := s7.mp h
  refine s7.mpr ⟨u, (D7 h1).mp hu, (D7 h3).mpr hy, ?_⟩
  rw [← St.put_comm s v u h2]
  exact hk
theorem ll {Q : St → Prop} {i : Nat} {oi : Oper} {v : AV} (hi : ops[i]? = some oi) :
    ∀ (fuel : Nat) (listed : Array Bool) (s : St),
      (∀ j oj, ops[j]? = some oj → j ≠ i → listed.getD j true = false → (∀ e ∈ oj.after, Region.binds md e = true → e.on ≠ i) → oi.apart ops oj = true) →
      i ∈ Region.ready md ops listed → C0 P G rl ops oi v s →
      iY P G rl md ops Q fuel (listed.setIfInBounds i true) (s.put oi.dst v) → iY P G rl md ops Q (fuel + 1) listed s := by
  have step : ∀ {K : St → Prop} {s : St}, C0 P G rl ops oi v s → K (s.put oi.dst v) → iz P G rl ops i K s := by
    intro K s hy hk
    unfold iz
    simp only [hi]
    exact s7.mpr ⟨v, hy, hk⟩
  intro fuel
  induction fuel with
  | zero =>
    intro listed s _ hr hy H
    refine ⟨fun h => (by rw [h] at hr; cases hr), fun j hj => ?_⟩
    by_cases hji : j = i
    · subst hji; exact step hy H
    · have := ready_mono hj hji
      rw [H.1] at this
      cases this
  | succ fuel ih =>
    intro listed s hfree hr hy H
    refine ⟨fun h => (by rw [h] at hr; cases hr), fun j hj => ?_⟩
    by_cases hji : j = i
    · subst hji; exact step hy H
    · have h1 := H.2 j (ready_mono hj hji)
      obtain ⟨hjun, oj, hoj, hall⟩ := mem_ready.1 hj
      have hnot : ∀ e ∈ oj.after, Region.binds md e = true → e.on ≠ i := fun e he hb heq => by
        have h1 := hall e he hb
        have h0 := (mem_ready.1 hr).1
        rw [heq] at h1
        rcases Nat.lt_or_ge i listed.size with h' | h'
        · simp [h'] at h0 h1; rw [h0] at h1; cases h1
        · simp [Array.getElem?_eq_none h'] at h1
      have h2 := qO hoj (hfree j oj hoj hji hjun hnot) hy h1
      have hfree' : ∀ k ok, ops[k]? = some ok → k ≠ i → (listed.setIfInBounds j true).getD k true = false →
          (∀ e ∈ ok.after, Region.binds md e = true → e.on ≠ i) → oi.apart ops ok = true := fun k ok hk hki hun hno => by
        refine hfree k ok hk hki ?_ hno
        by_cases hjk : j = k
        · subst hjk; exact hjun
        · rw [getD_set_ne true hjk] at hun; exact hun
      refine pD (fun s' h3 => ih (listed.setIfInBounds j true) s' hfree' (ready_mono hr (Ne.symm hji)) h3.1 ?_) h2
      rw [Array.setIfInBounds_comm _ _ hji]
      exact h3.2
theorem iZ {Q : St → Prop} : ∀ (l : List Oper) (k : Nat) (listed : Array Bool) (s : St), (∀ j, l[j]? = ops[k + j]?) →
    Region.lexFrom md ops l.length k listed = true → m7 P G rl ops Q l s → iY P G rl md ops Q l.length listed s
  | [], _, _, _, _, hB, h => ⟨by simpa [Region.lexFrom] using hB, h⟩
  | o :: l, k, listed, s, hl, hB, h => by
    have h0 : ops[k]? = some o := by simpa using (hl 0).symm
    simp only [List.length_cons, Region.lexFrom, Bool.and_eq_true] at hB
    obtain ⟨⟨hr, hf⟩, hB'⟩ := hB
    obtain ⟨v, hy, hK⟩ := s7.mp h
    exact ll h0 l.length listed s (Region.free_spec h0 hf) (by simpa using hr) hy
      (iZ l (k + 1) _ _ (fun j => by have := hl (j + 1); simpa [Nat.add_assoc, Nat.add_comm 1 j] using this) hB' hK)
def I1 (o : Oper) : Bool := match o.op with | .alloc _ | .box _ _ | .store _ _ _ => true | .call ⟨.value _, _, _⟩ => o.type == 0 | .call ⟨.builtin .append, _, _⟩ => true | _ => false
def r6 (o : Oper) : Bool := (match o.op with | .alloc _ => true | _ => false) && o.guard.isNone
def St.ext (s : St) (L : Heap) : St := ⟨s.fr, s.nt, s.heap ++ L⟩
theorem oI (s : St) (d : Option Nat) (v : AV) (L : Heap) : (s.put d v).ext L = (s.ext L).put d v := by
  cases d with
  | none => rfl
  | some d => by_cases h : d < s.nt <;> simp [St.put, St.ext, h]
theorem su (s : St) (L M : Heap) : (s.ext L).ext M = s.ext (L ++ M) := by simp only [St.ext, List.append_assoc]
theorem sv (s : St) : s.ext [] = s := by simp only [St.ext, List.append_nil]
def dA (P : Program) (G : Nat → Option (List PV)) (rl : List String) (ops : Array Oper) (o : Oper) (v : AV) (s : St) : Prop := ∀ L, C0 P G rl ops o v (s.ext L)
theorem dA.put {o : Oper} {s : St} {d : Option Nat} {u v : AV} (h : dA P G rl ops o v s) (hd : ∀ t, d = some t → t ∉ o.looksAt ops) : dA P G rl ops o v (s.put d u) := fun L => by
  rw [oI]; exact (D7 hd).mpr (h L)
theorem dA.ext {o : Oper} {s : St} {v : AV} (h : dA P G rl ops o v s) (M : Heap) : dA P G rl ops o v (s.ext M) := fun L => by
  rw [su]; exact h _
theorem dA.now {o : Oper} {s : St} {v : AV} (h : dA P G rl ops o v s) : C0 P G rl ops o v s := by
  have := h []; rwa [sv] at this
def jT (P : Program) (G : Nat → Option (List PV)) (rl : List String) (ops : Array Oper) (o : Oper) (K : St → Prop) (s : St) : Prop := if I1 o = true then aop P G rl ops o K s else aG P G rl ops o K s
def fU (P : Program) (G : Nat → Option (List PV)) (rl : List String) (ops : Array Oper) (i : Nat) (K : St → Prop) (s : St) : Prop :=
  match ops[i]? with
  | none => K s
  | some o => jT P G rl ops o K s
theorem lm {K K' : St → Prop} {o : Oper} {s : St} (hk : ∀ s, K s → K' s) (h : P9 P G rl o K s) : P9 P G rl o K' s := by
  unfold P9 at *
  cases hc : z5 o with
  | some q =>
    obtain ⟨f, args⟩ := q
    simp only [hc] at h ⊢
    split at h
    · exact ⟨h.1, fun ι w vs hS hv => (h.2 ι w vs hS hv).mono fun e w' ⟨v, r, h', ι', e1, e2, e3⟩ => ⟨v, r, h', ι', e1, hk _ e2, e3⟩⟩
    · exact h
  | none =>
    simp only [hc] at h ⊢
    split at h
    · exact hk _ h
    · exact h
theorem R4 {o : Oper} (he : I1 o = true) {K K' : St → Prop} {s : St} (h : ∀ s, K s → K' s) (hh : aop P G rl ops o K s) : aop P G rl ops o K' s := by
  unfold aop at *
  split at hh
  · exact ⟨fun e => lm h (hh.1 e), fun e => h _ (hh.2 e)⟩
  · exact hh.elim
theorem pE {o : Oper} {K K' : St → Prop} {s : St} (h : ∀ s, K s → K' s) (hh : jT P G rl ops o K s) : jT P G rl ops o K' s := by
  unfold jT at *
  split
  · rename_i he; rw [if_pos he] at hh; exact R4 he h hh
  · rename_i he
    rw [if_neg he] at hh
    obtain ⟨v, h1, h2⟩ := s7.mp hh
    exact s7.mpr ⟨v, h1, h _ h2⟩
theorem pF {i : Nat} {s : St} {K K' : St → Prop} (h : ∀ s, K s → K' s) (hh : fU P G rl ops i K s) : fU P G rl ops i K' s := by
  unfold fU at *
  split
  · exact h _ (by simpa [*] using hh)
  · rename_i o ho
    simp only [ho] at hh
    exact pE h hh
def ja (P : Program) (G : Nat → Option (List PV)) (rl : List String) (md : Region.Mode) (ops : Array Oper) (Q : St → Prop) : Nat → Array Bool → St → Prop
  | 0, listed, s => Region.ready md ops listed = [] ∧ Q s
  | fuel + 1, listed, s =>
    (Region.ready md ops listed = [] → Q s) ∧
    ∀ i ∈ Region.ready md ops listed, fU P G rl ops i (ja P G rl md ops Q fuel (listed.setIfInBounds i true)) s
theorem jb {o : Oper} (ha : r6 o = true) {K : St → Prop} {s : St} : aop P G rl ops o K s ↔ ∃ z, (∀ ρ, opA P rl o ρ s.heap = some (.ptr s.heap.length 0 0, s.heap ++ [z])) ∧ K ((s.ext [z]).put o.dst (.ptr s.heap.length 0 0)) := by
  obtain ⟨dst, op, type, pos, after, guard⟩ := o
  simp only [r6, Bool.and_eq_true, Option.isNone_iff_eq_none] at ha
  obtain ⟨h1, rfl⟩ := ha
  cases op with
  | alloc t =>
    unfold aop H9
    dsimp only
    unfold P9 z5
    dsimp only
    simp only [opA]
    constructor
    · rintro ⟨h, _⟩
      have h := h trivial
      split at h
      · rename_i r h' e
        split at e
        · rename_i z et
          split at e
          · cases e
          · rename_i hz
            cases e
            exact ⟨_, fun _ => by rw [if_neg hz], h⟩
        · cases e
      · exact h.elim
    · rintro ⟨z, hz, hk⟩
      refine ⟨fun _ => ?_, fun e => by cases e⟩
      rw [hz (r4 G s)]
      exact hk
  | _ => simp at h1
theorem qP {j : Nat} {oi oj : Oper} {v : AV} (hj : ops[j]? = some oj) (hap : oi.apart ops oj = true) (hq : I1 oj = true → r6 oj = true) {K : St → Prop} {s : St}
    (hy : dA P G rl ops oi v s) (h : fU P G rl ops j K (s.put oi.dst v)) :
    fU P G rl ops j (fun s' => dA P G rl ops oi v s' ∧ K (s'.put oi.dst v)) s := by
  obtain ⟨h1, h2, h3⟩ := Oper.apart_spec hap
  unfold fU at *
  simp only [hj] at *
  unfold jT at *
  split
  · rename_i he
    rw [if_pos he] at h
    obtain ⟨z, hz, hk⟩ := (jb (hq he)).mp h
    rw [St.put_heap] at hz hk
    refine (jb (hq he)).mpr ⟨z, hz, (hy.ext [z]).put h3, ?_⟩
    rw [oI, ← St.put_comm _ _ _ h2] at *
    exact hk
  · rename_i he
    rw [if_neg he] at h
    obtain ⟨u, hu, hk⟩ := s7.mp h
    refine s7.mpr ⟨u, (D7 h1).mp hu, hy.put h3, ?_⟩
    rw [← St.put_comm s v u h2]
    exact hk
theorem lp {Q : St → Prop} {i : Nat} {oi : Oper} {v : AV} (hi : ops[i]? = some oi) (hq : I1 oi = false) :
    ∀ (fuel : Nat) (listed : Array Bool) (s : St),
      (∀ j oj, ops[j]? = some oj → j ≠ i → listed.getD j true = false → (∀ e ∈ oj.after, Region.binds md e = true → e.on ≠ i) → oi.apart ops oj = true ∧ (I1 oj = true → r6 oj = true)) →
      i ∈ Region.ready md ops listed → dA P G rl ops oi v s →
      ja P G rl md ops Q fuel (listed.setIfInBounds i true) (s.put oi.dst v) → ja P G rl md ops Q (fuel + 1) listed s := by
  have step : ∀ {K : St → Prop} {s : St}, dA P G rl ops oi v s → K (s.put oi.dst v) → fU P G rl ops i K s := by
    intro K s hy hk
    unfold fU
    simp only [hi]
    unfold jT
    rw [if_neg (by rw [hq]; decide)]
    exact s7.mpr ⟨v, hy.now, hk⟩
  intro fuel
  induction fuel with
  | zero =>
    intro listed s _ hr hy H
    refine ⟨fun h => (by rw [h] at hr; cases hr), fun j hj => ?_⟩
    by_cases hji : j = i
    · subst hji; exact step hy H
    · have := ready_mono hj hji
      rw [H.1] at this
      cases this
  | succ fuel ih =>
    intro listed s hfree hr hy H
    refine ⟨fun h => (by rw [h] at hr; cases hr), fun j hj => ?_⟩
    by_cases hji : j = i
    · subst hji; exact step hy H
    · have h1 := H.2 j (ready_mono hj hji)
      obtain ⟨hjun, oj, hoj, hall⟩ := mem_ready.1 hj
      have hnot : ∀ e ∈ oj.after, Region.binds md e = true → e.on ≠ i := fun e he hb heq => by
        have h1 := hall e he hb
        have h0 := (mem_ready.1 hr).1
        rw [heq] at h1
        rcases Nat.lt_or_ge i listed.size with h' | h'
        · simp [h'] at h0 h1; rw [h0] at h1; cases h1
        · simp [Array.getElem?_eq_none h'] at h1
      obtain ⟨g1, g2⟩ := hfree j oj hoj hji hjun hnot
      have h2 := qP hoj g1 g2 hy h1
      have hfree' : ∀ k ok, ops[k]? = some ok → k ≠ i → (listed.setIfInBounds j true).getD k true = false →
          (∀ e ∈ ok.after, Region.binds md e = true → e.on ≠ i) → oi.apart ops ok = true ∧ (I1 ok = true → r6 ok = true) := fun k ok hk hki hun hno => by
        refine hfree k ok hk hki ?_ hno
        by_cases hjk : j = k
        · subst hjk; exact hjun
        · rw [getD_set_ne true hjk] at hun; exact hun
      refine pF (fun s' h3 => ih (listed.setIfInBounds j true) s' hfree' (ready_mono hr (Ne.symm hji)) h3.1 ?_) h2
      rw [Array.setIfInBounds_comm _ _ hji]
      exact h3.2
def qQ (md : Region.Mode) (ops : Array Oper) (listed : Array Bool) (i : Nat) : Bool :=
  (List.range ops.size).all fun j => j == i || listed.getD j true || match ops[j]? with
    | some oj => oj.after.any (fun e => Region.binds md e && e.on == i) || (!I1 oj || r6 oj)
    | none => true
theorem mW {i : Nat} {listed : Array Bool} (h : qQ md ops listed i = true) (j : Nat) (oj : Oper)
    (hj : ops[j]? = some oj) (hne : j ≠ i) (hun : listed.getD j true = false) (hno : ∀ e ∈ oj.after, Region.binds md e = true → e.on ≠ i) : I1 oj = true → r6 oj = true := by
  simp only [qQ, List.all_eq_true, List.mem_range] at h
  have h1 := h j (Array.getElem?_eq_some_iff.1 hj).1
  simp only [hj, Bool.or_eq_true, beq_iff_eq, hne, false_or, hun, Bool.false_eq_true] at h1
  rcases h1 with h1 | h1
  · obtain ⟨e, he, hb⟩ := Array.any_eq_true'.1 h1
    simp only [Bool.and_eq_true, beq_iff_eq] at hb
    exact absurd hb.2 (hno e he hb.1)
  · intro he
    rw [he] at h1
    simpa using h1
def n7 (P : Program) (G : Nat → Option (List PV)) (rl : List String) (ops : Array Oper) (Q : St → Prop) : List Oper → St → Prop
  | [], s => Q s
  | o :: rest, s => if I1 o = true then aop P G rl ops o (n7 P G rl ops Q rest) s else ∃ v, dA P G rl ops o v s ∧ n7 P G rl ops Q rest (s.put o.dst v)
def mX (md : Region.Mode) (ops : Array Oper) : Nat → Nat → Array Bool → Bool
  | 0, _, listed => (Region.ready md ops listed).isEmpty
  | n + 1, k, listed =>
    (match ops[k]? with
      | none => false
      | some o => if I1 o then Region.ready md ops listed == [k] else (Region.ready md ops listed).contains k && (Region.free md ops listed k && qQ md ops listed k)) && mX md ops n (k + 1) (listed.setIfInBounds k true)
theorem dB {Q : St → Prop} : ∀ (l : List Oper) (k : Nat) (listed : Array Bool) (s : St), (∀ j, l[j]? = ops[k + j]?) →
    mX md ops l.length k listed = true → n7 P G rl ops Q l s → ja P G rl md ops Q l.length listed s
  | [], _, _, _, _, hB, h => ⟨by simpa [mX] using hB, h⟩
  | o :: l, k, listed, s, hl, hB, h => by
    have h0 : ops[k]? = some o := by simpa using (hl 0).symm
    have hl' : ∀ j, l[j]? = ops[k + 1 + j]? := fun j => by have := hl (j + 1); simpa [Nat.add_assoc, Nat.add_comm 1 j] using this
    simp only [List.length_cons, mX, h0, Bool.and_eq_true] at hB
    obtain ⟨hr, hB'⟩ := hB
    unfold n7 at h
    split at h
    · rename_i he
      rw [if_pos he] at hr
      have hr := beq_iff_eq.mp hr
      refine ⟨fun e => (by rw [hr] at e; cases e), fun i hi => ?_⟩
      rw [hr] at hi
      have : i = k := by simpa using hi
      subst this
      unfold fU
      simp only [h0]
      unfold jT
      rw [if_pos he]
      exact R4 he (fun s' hs' => dB l (i + 1) _ s' hl' hB' hs') h
    · rename_i he
      rw [if_neg he] at hr
      simp only [Bool.and_eq_true] at hr
      obtain ⟨hr, hf, hg⟩ := hr
      obtain ⟨v, hy, hK⟩ := h
      exact lp h0 (by simpa using he) l.length listed s (fun j oj a1 a2 a3 a4 => ⟨Region.free_spec h0 hf j oj a1 a2 a3 a4, mW hg j oj a1 a2 a3 a4⟩) (by simpa using hr) hy
        (dB l (k + 1) _ _ hl' hB' hK)
def y3 (ops : Array Oper) (k : Nat) : Nat := ((ops.toList.take k).filter r6).length
def St.setB (s : St) (b : Nat) (z : List PV) : St := ⟨s.fr, s.nt, s.heap.set b (some ⟨1, z.map .p⟩)⟩
def u9 (P : Program) (o : Oper) : Option (List PV) :=
  match o.op with
  | .alloc t => (match l7 P t with
    | some ⟨_, _, _, some z⟩ => if z = [] then none else some z
    | _ => none)
  | _ => none
def mZ (P : Program) (o : Oper) (b : Nat) (K : St → Prop) (s : St) : Prop :=
  ∃ z, u9 P o = some z ∧ s.heap[b]? = some (some ⟨0, []⟩) ∧ K ((s.setB b z).put o.dst (.ptr b 1 0))
def fo (P : Program) (G : Nat → Option (List PV)) (rl : List String) (ops : Array Oper) (base i : Nat) (o : Oper) (K : St → Prop) (s : St) : Prop :=
  if r6 o = true then mZ P o (base + y3 ops i) K s else if I1 o = true then aop P G rl ops o K s else aG P G rl ops o K s
def W1 (P : Program) (G : Nat → Option (List PV)) (rl : List String) (ops : Array Oper) (base i : Nat) (K : St → Prop) (s : St) : Prop :=
  match ops[i]? with
  | none => K s
  | some o => fo P G rl ops base i o K s
section
variable {base r : Nat}
theorem pG {i : Nat} {o : Oper} {K K' : St → Prop} {s : St} (h : ∀ s, K s → K' s) (hh : fo P G rl ops base i o K s) : fo P G rl ops base i o K' s := by
  unfold fo at *
  split
  · rename_i ha; rw [if_pos ha] at hh; obtain ⟨z, h1, h2, h3⟩ := hh; exact ⟨z, h1, h2, h _ h3⟩
  · rename_i ha
    rw [if_neg ha] at hh
    split
    · rename_i he; rw [if_pos he] at hh; exact R4 he h hh
    · rename_i he
      rw [if_neg he] at hh
      obtain ⟨v, h1, h2⟩ := s7.mp hh
      exact s7.mpr ⟨v, h1, h _ h2⟩
theorem pH {i : Nat} {s : St} {K K' : St → Prop} (h : ∀ s, K s → K' s) (hh : W1 P G rl ops base i K s) : W1 P G rl ops base i K' s := by
  unfold W1 at *
  split
  · exact h _ (by simpa [*] using hh)
  · rename_i o ho
    simp only [ho] at hh
    exact pG h hh
def W9 (P : Program) (G : Nat → Option (List PV)) (rl : List String) (md : Region.Mode) (ops : Array Oper) (base : Nat) (Q : St → Prop) : Nat → Array Bool → St → Prop
  | 0, listed, s => Region.ready md ops listed = [] ∧ Q s
  | fuel + 1, listed, s =>
    (Region.ready md ops listed = [] → Q s) ∧
    ∀ i ∈ Region.ready md ops listed, W1 P G rl ops base i (W9 P G rl md ops base Q fuel (listed.setIfInBounds i true)) s
theorem aR {Q : St → Prop} {i : Nat} (En : St → Prop) (T : St → St) (C : Nat → Oper → Prop) (D : Nat → Bool) (hstep : ∀ (s : St) (K : St → Prop), En s → K (T s) → W1 P G rl ops base i K s)
    (hcomm : ∀ j oj, ops[j]? = some oj → C j oj → ∀ (s : St) (K : St → Prop), En s → W1 P G rl ops base j K (T s) → W1 P G rl ops base j (fun s' => En s' ∧ K (T s')) s)
    (hD : ∀ j oj, ops[j]? = some oj → D j = true → ∃ e ∈ oj.after, Region.binds md e = true ∧ (e.on = i ∨ D e.on = true)) :
    ∀ (fuel : Nat) (listed : Array Bool) (s : St),
      (∀ j oj, ops[j]? = some oj → j ≠ i → listed.getD j true = false → D j = false → C j oj) → (∀ d, D d = true → listed.getD d false = false) →
      i ∈ Region.ready md ops listed → En s →
      W9 P G rl md ops base Q fuel (listed.setIfInBounds i true) (T s) → W9 P G rl md ops base Q (fuel + 1) listed s := by
  intro fuel
  induction fuel with
  | zero =>
    intro listed s _ _ hr hy H
    refine ⟨fun h => (by rw [h] at hr; cases hr), fun j hj => ?_⟩
    by_cases hji : j = i
    · subst hji; exact hstep _ _ hy H
    · have := ready_mono hj hji
      rw [H.1] at this
      cases this
  | succ fuel ih =>
    intro listed s hfree hinv hr hy H
    refine ⟨fun h => (by rw [h] at hr; cases hr), fun j hj => ?_⟩
    by_cases hji : j = i
    · subst hji; exact hstep _ _ hy H
    · have h1 := H.2 j (ready_mono hj hji)
      obtain ⟨hjun, oj, hoj, hall⟩ := mem_ready.1 hj
      have hDj : D j = false := by
        cases hd : D j with
        | false => rfl
        | true =>
          exfalso
          obtain ⟨e, he, hb, hor⟩ := hD j oj hoj hd
          have h1 := hall e he hb
          rcases hor with heq | heq
          · have h0 := (mem_ready.1 hr).1
            rw [heq] at h1
            rcases Nat.lt_or_ge i listed.size with h' | h'
            · simp [h'] at h0 h1; rw [h0] at h1; cases h1
            · simp [Array.getElem?_eq_none h'] at h1
          · rw [hinv _ heq] at h1; cases h1
      have h2 := hcomm j oj hoj (hfree j oj hoj hji hjun hDj) s _ hy h1
      have hfree' : ∀ k ok, ops[k]? = some ok → k ≠ i → (listed.setIfInBounds j true).getD k true = false → D k = false → C k ok := fun k ok hk hki hun hno => by
        refine hfree k ok hk hki ?_ hno
        by_cases hjk : j = k
        · subst hjk; exact hjun
        · rw [getD_set_ne true hjk] at hun; exact hun
      have hinv' : ∀ d, D d = true → (listed.setIfInBounds j true).getD d false = false := fun d hd => by
        have hjd : j ≠ d := fun e => by subst e; rw [hDj] at hd; cases hd
        rw [getD_set_ne false hjd]; exact hinv d hd
      refine pH (fun s' h3 => ih (listed.setIfInBounds j true) s' hfree' hinv' (ready_mono hr (Ne.symm hji)) h3.1 ?_) h2
      rw [Array.setIfInBounds_comm _ _ hji]
      exact h3.2
theorem cG (s : St) (d : Option Nat) (v : AV) (b : Nat) (z : List PV) : (s.put d v).setB b z = (s.setB b z).put d v := by
  cases d with
  | none => rfl
  | some d => by_cases h : d < s.nt <;> simp [St.put, St.setB, h]
theorem pJ (s : St) (b c : Nat) (z y : List PV) (h : b ≠ c) : (s.setB b z).setB c y = (s.setB c y).setB b z := by
  simp only [St.setB, List.set_comm _ _ h]
def zsB (P : Program) (ops : Array Oper) : List (List PV) := (ops.toList.filter r6).map fun o => (u9 P o).getD []
def qR (P : Program) (ops : Array Oper) (r : Nat) (R : Heap) : Prop :=
  R.length = r ∧ ∀ (j : Nat) (z : List PV), (zsB P ops)[j]? = some z → R[j]? = some (some ⟨0, []⟩) ∨ R[j]? = some (some ⟨1, z.map .p⟩)
def aH (P : Program) (ops : Array Oper) (base r : Nat) (s : St) : Prop := s.heap.length = base + r ∧ qR P ops r (s.heap.drop base)
def aU (P : Program) (G : Nat → Option (List PV)) (rl : List String) (ops : Array Oper) (base r : Nat) (o : Oper) (v : AV) (s : St) : Prop :=
  ∀ R : Heap, qR P ops r R → C0 P G rl ops o v ⟨s.fr, s.nt, s.heap.take base ++ R⟩
def S3 (P : Program) (G : Nat → Option (List PV)) (rl : List String) (ops : Array Oper) (o : Oper) (v : AV) (s : St) : Prop := ∀ H : Heap, C0 P G rl ops o v ⟨s.fr, s.nt, H⟩
theorem jU (s : St) (d : Option Nat) (u : AV) (X : Heap) : (⟨(s.put d u).fr, (s.put d u).nt, X⟩ : St) = (⟨s.fr, s.nt, X⟩ : St).put d u := by
  cases d with
  | none => rfl
  | some d => by_cases h : d < s.nt <;> simp [St.put, h]
theorem lq {α : Type} (q : α → Bool) : ∀ (l : List α) (k : Nat) (o : α), l[k]? = some o → q o = true → (l.filter q)[((l.take k).filter q).length]? = some o := by
  intro l k o hk hq
  have hlt : k < l.length := m6 hk
  have e : l = l.take k ++ (o :: l.drop (k + 1)) := by
    have := List.drop_eq_getElem_cons hlt
    have ho : l[k] = o := by rw [List.getElem?_eq_getElem hlt] at hk; simpa using hk
    rw [← ho, ← this, List.take_append_drop]
  conv => lhs; arg 1; rw [e, List.filter_append]
  rw [List.getElem?_append_right (Nat.le_refl _), Nat.sub_self, List.filter_cons_of_pos hq]
  rfl
theorem sw {k : Nat} {o : Oper} {z : List PV} (ho : ops[k]? = some o) (ha : r6 o = true) (hz : u9 P o = some z) : (zsB P ops)[y3 ops k]? = some z := by
  have ho' : ops.toList[k]? = some o := by rw [Array.getElem?_toList]; exact ho
  have := lq r6 ops.toList k o ho' ha
  unfold zsB y3
  rw [List.getElem?_map, this]
  simp [hz]
theorem qR.fill {R : Heap} (h : qR P ops r R) {k : Nat} {o : Oper} {z : List PV} (ho : ops[k]? = some o) (ha : r6 o = true) (hz : u9 P o = some z) (hlt : y3 ops k < R.length) : qR P ops r (R.set (y3 ops k) (some ⟨1, z.map .p⟩)) := by
  refine ⟨by rw [List.length_set]; exact h.1, fun j y hy => ?_⟩
  by_cases e : y3 ops k = j
  · subst e
    rw [sw ho ha hz] at hy
    cases hy
    exact .inr (by rw [List.getElem?_set_self hlt])
  · rw [List.getElem?_set_ne e]; exact h.2 j y hy
theorem aH.put {s : St} {d : Option Nat} {u : AV} (h : aH P ops base r s) : aH P ops base r (s.put d u) := by
  unfold aH; rw [St.put_heap]; exact h
theorem aH.fill {s : St} (h : aH P ops base r s) {k : Nat} {o : Oper} {z : List PV} (ho : ops[k]? = some o) (ha : r6 o = true) (hz : u9 P o = some z) (hb : s.heap[base + y3 ops k]? = some (some ⟨0, []⟩)) : aH P ops base r (s.setB (base + y3 ops k) z) := by
  have hlt : base + y3 ops k < s.heap.length := m6 hb
  refine ⟨by simp only [St.setB, List.length_set]; exact h.1, ?_⟩
  simp only [St.setB]
  rw [List.drop_set, if_neg (by omega), Nat.add_sub_cancel_left]
  exact h.2.fill ho ha hz (by rw [List.length_drop]; omega)
theorem aH.now {o : Oper} {s : St} {v : AV} (h : aH P ops base r s) (hs : aU P G rl ops base r o v s) : C0 P G rl ops o v s := by
  have := hs (s.heap.drop base) h.2
  rwa [List.take_append_drop] at this
theorem aH.start {fr : Nat → Option AV} {nt : Nat} {hp : Heap} (hr : (zsB P ops).length = r) : aH P ops hp.length r ⟨fr, nt, hp ++ List.replicate r (some ⟨0, []⟩)⟩ := by
  refine ⟨by simp, by simp, fun j z hz => .inl ?_⟩
  have : j < r := by rw [← hr]; exact m6 hz
  simp [this]
theorem aU.put {o : Oper} {s : St} {d : Option Nat} {u v : AV} (h : aU P G rl ops base r o v s) (hd : ∀ t, d = some t → t ∉ o.looksAt ops) : aU P G rl ops base r o v (s.put d u) :=
  fun R hR => by rw [jU, St.put_heap]; exact (D7 hd).mpr (h R hR)
theorem aU.setB {o : Oper} {s : St} {v : AV} (h : aU P G rl ops base r o v s) {b : Nat} (hb : base ≤ b) (z : List PV) : aU P G rl ops base r o v (s.setB b z) := fun R hR => by
  have : (s.setB b z).heap.take base = s.heap.take base := by simp only [St.setB]; exact List.take_set_of_le hb
  rw [this]; exact h R hR
theorem S3.put {o : Oper} {s : St} {d : Option Nat} {u v : AV} (h : S3 P G rl ops o v s) (hd : ∀ t, d = some t → t ∉ o.looksAt ops) : S3 P G rl ops o v (s.put d u) :=
  fun H => by rw [jU]; exact (D7 hd).mpr (h H)
def y5 (o : Oper) : Bool := match o.op with | .extract _ _ | .move _ | .assign _ | .pick _ _ _ | .nilCheck _ | .fieldAddr _ _ _ => true | _ => false
theorem lr {o : Oper} (hf : y5 o = true) {ρ : Operand → Option AV} {H H' : Heap} {v : AV} (h : opA P rl o ρ H = some (v, H)) : opA P rl o ρ H' = some (v, H') := by
  obtain ⟨dst, op, type, pos, after, guard⟩ := o
  cases op with
  | extract t i =>
    simp only [opA] at *
    split at h
    · rename_i vs ht
      obtain ⟨x, hx, he⟩ := Option.map_eq_some_iff.mp h
      cases he
      rw [hx]; rfl
    · cases h
  | move x =>
    simp only [opA] at *
    obtain ⟨y, hy, he⟩ := Option.map_eq_some_iff.mp h
    cases he
    rw [hy]; rfl
  | assign x =>
    simp only [opA] at *
    obtain ⟨y, hy, he⟩ := Option.map_eq_some_iff.mp h
    cases he
    rw [hy]; rfl
  | pick c a b =>
    simp only [opA] at *
    split at h
    · rename_i t x y _ _ _
      cases h; rfl
    · cases h
  | nilCheck x =>
    simp only [opA] at *
    split at h
    · cases h; rfl
    · cases h; rfl
    · cases h
  | fieldAddr t x f =>
    simp only [opA] at *
    obtain ⟨a, ha, he⟩ := Option.bind_eq_some_iff.mp h
    obtain ⟨y, hy, he⟩ := Option.map_eq_some_iff.mp he
    cases he
    rw [ha]
    have : N3 P H' t a f = N3 P H t a f := rfl
    simp only [Option.bind_some, this, hy, Option.map_some]
  | _ => cases hf
theorem jV {o : Oper} (hf : y5 o = true) {fr : Nat → Option AV} {nt : Nat} {H H' : Heap} {v : AV} (h : C0 P G rl ops o v ⟨fr, nt, H⟩) : C0 P G rl ops o v ⟨fr, nt, H'⟩ := by
  have hc : z5 o = none := by
    unfold y5 at hf; unfold z5
    split <;> simp_all
  rcases h with ⟨h1, h2⟩ | h
  · refine .inl ⟨h1, ?_⟩
    unfold AQ at *
    rw [hc] at *
    exact lr hf h2
  · exact .inr h
theorem pK {j : Nat} {oi oj : Oper} {v : AV} (hj : ops[j]? = some oj) (hap : oi.apart ops oj = true) (s : St) (K : St → Prop)
    (hy : S3 P G rl ops oi v s) (h : W1 P G rl ops base j K (s.put oi.dst v)) :
    W1 P G rl ops base j (fun s' => S3 P G rl ops oi v s' ∧ K (s'.put oi.dst v)) s := by
  obtain ⟨h1, h2, h3⟩ := Oper.apart_spec hap
  have hev : ∀ x ∈ oj.op.operands, r4 G (s.put oi.dst v) x = r4 G s x := fun x hx => iW fun t ht e => h1 t ht (li hx e)
  unfold W1 at *
  simp only [hj] at *
  unfold fo at *
  split
  · rename_i ha
    rw [if_pos ha] at h
    obtain ⟨z, hz, hb, hk⟩ := h
    rw [St.put_heap] at hb
    refine ⟨z, hz, hb, S3.put (s := s.setB _ z) hy h3, ?_⟩
    rw [cG, St.put_comm _ _ _ h2] at hk
    exact hk
  · rename_i ha
    rw [if_neg ha] at h
    split
    · rename_i he
      rw [if_pos he] at h
      unfold aop at *
      rw [iX h1] at h
      split at h
      · rename_i b hb
        refine ⟨fun e => ?_, fun e => ⟨hy.put h3, ?_⟩⟩
        · have h := h.1 e
          unfold P9 at h ⊢
          cases hcn : z5 oj with
          | some q =>
            obtain ⟨f, args⟩ := q
            obtain ⟨ats, ho⟩ := aP hcn
            rw [ho] at hev
            have e1 : r4 G (s.put oi.dst v) f = r4 G s f := hev f (by simp [Op.operands, Call.operands])
            have e2 : F9 (r4 G (s.put oi.dst v)) args.toList = F9 (r4 G s) args.toList := O1 fun x hx => hev x (by simp only [Op.operands, Call.operands, Array.mem_append]; exact .inr (by simpa using hx))
            rw [hcn] at h
            dsimp only at h ⊢
            rw [e1, e2, St.put_heap] at h
            split at h
            · refine ⟨h.1, fun ι w vs hS hv => (h.2 ι w vs hS hv).mono fun e w' ⟨v', r, h', ι', q1, q2, q3⟩ => ⟨v', r, h', ι', q1, ⟨S3.put (s := ⟨s.fr, s.nt, h'⟩) hy h3, ?_⟩, q3⟩⟩
              dsimp only at q2
              rw [jU, St.put_comm _ _ _ h2] at q2
              exact q2
            · exact h.elim
          | none =>
            rw [hcn] at h
            dsimp only at h ⊢
            rw [iV hev, St.put_heap] at h
            split at h
            · rename_i u h' hop
              refine ⟨S3.put (s := ⟨s.fr, s.nt, h'⟩) hy h3, ?_⟩
              rw [jU, St.put_comm _ _ _ h2] at h
              exact h
            · exact h.elim
        · have h := h.2 e
          rw [St.put_comm _ _ _ h2] at h
          exact h
      · exact h.elim
    · rename_i he
      rw [if_neg he] at h
      obtain ⟨u, hu, hk⟩ := s7.mp h
      refine s7.mpr ⟨u, (D7 h1).mp hu, hy.put h3, ?_⟩
      rw [← St.put_comm s v u h2]
      exact hk
theorem na {j : Nat} {oi oj : Oper} {v : AV} (hj : ops[j]? = some oj) (hap : oi.apart ops oj = true) (hq : I1 oj = true → r6 oj = true) (s : St) (K : St → Prop)
    (hy : aH P ops base r s ∧ aU P G rl ops base r oi v s) (h : W1 P G rl ops base j K (s.put oi.dst v)) :
    W1 P G rl ops base j (fun s' => (aH P ops base r s' ∧ aU P G rl ops base r oi v s') ∧ K (s'.put oi.dst v)) s := by
  obtain ⟨h1, h2, h3⟩ := Oper.apart_spec hap
  unfold W1 at *
  simp only [hj] at h ⊢
  unfold fo at *
  split
  · rename_i ha
    rw [if_pos ha] at h
    obtain ⟨z, hz, hb, hk⟩ := h
    rw [St.put_heap] at hb
    refine ⟨z, hz, hb, ⟨(hy.1.fill hj ha hz hb).put, (hy.2.setB (Nat.le_add_right _ _) z).put h3⟩, ?_⟩
    rw [cG, St.put_comm _ _ _ h2] at hk
    exact hk
  · rename_i ha
    rw [if_neg ha] at h
    split
    · rename_i he; exact absurd (hq he) ha
    · rename_i he
      rw [if_neg he] at h
      obtain ⟨u, hu, hk⟩ := s7.mp h
      refine s7.mpr ⟨u, (D7 h1).mp hu, ⟨hy.1.put, hy.2.put h3⟩, ?_⟩
      rw [← St.put_comm s v u h2]
      exact hk
theorem nb {i j : Nat} {oi oj : Oper} {z : List PV} (hj : ops[j]? = some oj) (hap : oi.apart ops oj = true) (ha : r6 oj = true) (hne : y3 ops j ≠ y3 ops i) (s : St) (K : St → Prop)
    (hy : s.heap[base + y3 ops i]? = some (some ⟨0, []⟩)) (h : W1 P G rl ops base j K ((s.setB (base + y3 ops i) z).put oi.dst (.ptr (base + y3 ops i) 1 0))) :
    W1 P G rl ops base j (fun s' => s'.heap[base + y3 ops i]? = some (some ⟨0, []⟩) ∧ K ((s'.setB (base + y3 ops i) z).put oi.dst (.ptr (base + y3 ops i) 1 0))) s := by
  obtain ⟨h1, h2, h3⟩ := Oper.apart_spec hap
  have hn : base + y3 ops i ≠ base + y3 ops j := by omega
  unfold W1 at *
  simp only [hj] at *
  unfold fo at *
  rw [if_pos ha] at *
  obtain ⟨y, hz, hb, hk⟩ := h
  rw [St.put_heap] at hb
  simp only [St.setB, List.getElem?_set_ne hn] at hb
  refine ⟨y, hz, hb, ?_, ?_⟩
  · rw [St.put_heap]
    simp only [St.setB, List.getElem?_set_ne hn.symm]
    exact hy
  · rw [cG, pJ _ _ _ _ _ hn, St.put_comm _ _ _ h2, ← cG] at hk
    exact hk
def sx (md : Region.Mode) (ops : Array Oper) (i : Nat) (D : List Nat) : List Nat :=
  (List.range ops.size).filter fun j => match ops[j]? with
    | some oj => oj.after.any fun e => Region.binds md e && (e.on == i || D.contains e.on)
    | none => false
def nc (md : Region.Mode) (ops : Array Oper) (i : Nat) : Nat → List Nat
  | 0 => []
  | n + 1 => sx md ops i (nc md ops i n)
def Y9 (md : Region.Mode) (ops : Array Oper) (listed : Array Bool) (i : Nat) (D : List Nat) (ok : Nat → Oper → Bool) : Bool :=
  (D.all fun d => listed.getD d false == false && match ops[d]? with
    | some od => od.after.any fun e => Region.binds md e && (e.on == i || D.contains e.on)
    | none => true) &&
  (List.range ops.size).all fun j => j == i || listed.getD j true || D.contains j || match ops[j]? with
    | some oj => ok j oj
    | none => true
theorem cb {i : Nat} {listed : Array Bool} {D : List Nat} {ok : Nat → Oper → Bool} (h : Y9 md ops listed i D ok = true) (j : Nat) (oj : Oper) (hj : ops[j]? = some oj) (hd : D.contains j = true) :
    ∃ e ∈ oj.after, Region.binds md e = true ∧ (e.on = i ∨ D.contains e.on = true) := by
  simp only [Y9, Bool.and_eq_true, List.all_eq_true] at h
  have h1 := (h.1 j (by simpa using hd)).2
  simp only [hj] at h1
  obtain ⟨e, he, hb⟩ := Array.any_eq_true'.1 h1
  simp only [Bool.and_eq_true, Bool.or_eq_true, beq_iff_eq] at hb
  exact ⟨e, he, hb.1, hb.2⟩
theorem ce {i : Nat} {listed : Array Bool} {D : List Nat} {ok : Nat → Oper → Bool} (h : Y9 md ops listed i D ok = true) (d : Nat) (hd : D.contains d = true) : listed.getD d false = false := by
  simp only [Y9, Bool.and_eq_true, List.all_eq_true] at h
  exact beq_iff_eq.mp (h.1 d (by simpa using hd)).1
theorem dC {i : Nat} {listed : Array Bool} {D : List Nat} {ok : Nat → Oper → Bool} (h : Y9 md ops listed i D ok = true) (j : Nat) (oj : Oper) (hj : ops[j]? = some oj) (hne : j ≠ i) (hun : listed.getD j true = false) (hd : D.contains j = false) : ok j oj = true := by
  simp only [Y9, Bool.and_eq_true, List.all_eq_true, List.mem_range] at h
  have h1 := h.2 j (Array.getElem?_eq_some_iff.1 hj).1
  simp only [hj, Bool.or_eq_true, beq_iff_eq, hne, false_or, hun, hd, Bool.false_eq_true] at h1
  exact h1
def okA (ops : Array Oper) (i : Nat) (oi : Oper) (j : Nat) (oj : Oper) : Bool := oi.apart ops oj && (r6 oj && y3 ops j != y3 ops i)
def okQ (ops : Array Oper) (oi : Oper) (_ : Nat) (oj : Oper) : Bool := oi.apart ops oj && (!I1 oj || r6 oj)
def okF (ops : Array Oper) (oi : Oper) (_ : Nat) (oj : Oper) : Bool := oi.apart ops oj
theorem qS {i j : Nat} {oi oj : Oper} (h : okA ops i oi j oj = true) : oi.apart ops oj = true ∧ r6 oj = true ∧ y3 ops j ≠ y3 ops i := by
  simpa [okA] using h
theorem qT {j : Nat} {oi oj : Oper} (h : okQ ops oi j oj = true) : oi.apart ops oj = true ∧ (I1 oj = true → r6 oj = true) := by
  simp only [okQ, Bool.and_eq_true, Bool.or_eq_true] at h
  refine ⟨h.1, fun he => ?_⟩
  rcases h.2 with h1 | h1
  · rw [he] at h1; cases h1
  · exact h1
theorem qU {j : Nat} {oi oj : Oper} (h : okF ops oi j oj = true) : oi.apart ops oj = true := h
def q8 (P : Program) (G : Nat → Option (List PV)) (rl : List String) (ops : Array Oper) (Q : St → Prop) : List Nat → St → Prop
  | [], s => Q s
  | k :: rest, s => match ops[k]? with
    | none => False
    | some o => if I1 o = true then r6 o = false ∧ aop P G rl ops o (q8 P G rl ops Q rest) s
      else y5 o = true ∧ ∃ v, S3 P G rl ops o v s ∧ q8 P G rl ops Q rest (s.put o.dst v)
def r5 (P : Program) (G : Nat → Option (List PV)) (rl : List String) (ops : Array Oper) (fs : List Nat) (base r : Nat) (Q : St → Prop) : List Nat → St → Prop
  | [], s => Q s
  | k :: rest, s => match ops[k]? with
    | none => False
    | some o => if r6 o = true then mZ P o (base + y3 ops k) (r5 P G rl ops fs base r Q rest) s
      else if I1 o = true then q8 P G rl ops Q (k :: rest) s
      else if (y5 o || fs.contains k) = true then ∃ v, S3 P G rl ops o v s ∧ r5 P G rl ops fs base r Q rest (s.put o.dst v)
      else ∃ v, aU P G rl ops base r o v s ∧ r5 P G rl ops fs base r Q rest (s.put o.dst v)
def dD (md : Region.Mode) (ops : Array Oper) (fs : List Nat) : List Nat → Array Bool → Bool
  | [], listed => (Region.ready md ops listed).isEmpty
  | k :: rest, listed =>
    (match ops[k]? with
      | none => false
      | some o => if r6 o then (Region.ready md ops listed).contains k && Y9 md ops listed k (nc md ops k ops.size) (okA ops k o)
        else if I1 o then Region.ready md ops listed == [k]
        else (Region.ready md ops listed).contains k && Y9 md ops listed k (nc md ops k ops.size) (if (y5 o || fs.contains k) = true then okF ops o else okQ ops o)) && dD md ops fs rest (listed.setIfInBounds k true)
theorem fV {Q : St → Prop} {k : Nat} {o : Oper} {v : AV} (h0 : ops[k]? = some o) (ha : ¬ r6 o = true) (he : ¬ I1 o = true) {n : Nat} {listed : Array Bool} {s : St}
    (hr : (Region.ready md ops listed).contains k = true) (hf : Y9 md ops listed k (nc md ops k ops.size) (okF ops o) = true) (hy : S3 P G rl ops o v s)
    (h : W9 P G rl md ops base Q n (listed.setIfInBounds k true) (s.put o.dst v)) : W9 P G rl md ops base Q (n + 1) listed s := by
  refine aR (i := k) (S3 P G rl ops o v) (fun s => s.put o.dst v) (fun j oj => o.apart ops oj = true) (fun j => (nc md ops k ops.size).contains j) (fun s K hs hK => ?_)
    (fun j oj hj hc s K hs hK => pK hj hc s K hs hK) (cb hf) n listed s (fun j oj a1 a2 a3 a4 => qU (dC hf j oj a1 a2 a3 a4)) (ce hf) (by simpa using hr) hy h
  unfold W1
  simp only [h0]
  unfold fo
  rw [if_neg ha, if_neg he]
  exact s7.mpr ⟨v, hs s.heap, hK⟩
theorem nd {Q : St → Prop} {k : Nat} {o : Oper} (h0 : ops[k]? = some o) (ha : ¬ r6 o = true) (he : I1 o = true) {n : Nat} {listed : Array Bool} {s : St}
    (hr : (Region.ready md ops listed == [k]) = true) (h : aop P G rl ops o (W9 P G rl md ops base Q n (listed.setIfInBounds k true)) s) : W9 P G rl md ops base Q (n + 1) listed s := by
  have hr := beq_iff_eq.mp hr
  refine ⟨fun e => (by rw [hr] at e; cases e), fun i hi => ?_⟩
  rw [hr] at hi
  have : i = k := by simpa using hi
  subst this
  unfold W1
  simp only [h0]
  unfold fo
  rw [if_neg ha, if_pos he]
  exact h
theorem cg {Q : St → Prop} {fs : List Nat} : ∀ (l : List Nat) (listed : Array Bool) (s : St), dD md ops fs l listed = true → q8 P G rl ops Q l s → W9 P G rl md ops base Q l.length listed s
  | [], listed, s, hB, h => ⟨by simpa [dD] using hB, h⟩
  | k :: rest, listed, s, hB, h => by
    simp only [dD, Bool.and_eq_true] at hB
    obtain ⟨hr, hB'⟩ := hB
    unfold q8 at h
    split at h
    · exact h.elim
    · rename_i o h0
      simp only [h0] at hr
      split at h
      · rename_i he
        obtain ⟨ha, h⟩ := h
        rw [if_neg (by rw [ha]; decide), if_pos he] at hr
        exact nd h0 (by rw [ha]; decide) he hr (R4 he (fun s' hs' => cg rest _ s' hB' hs') h)
      · rename_i he
        obtain ⟨hh, v, hy, hK⟩ := h
        have ha : ¬ r6 o = true := by
          unfold y5 at hh; unfold r6
          split at hh <;> simp_all
        rw [if_neg ha, if_neg he] at hr
        simp only [Bool.and_eq_true, hh, Bool.true_or, if_true] at hr
        exact fV h0 ha he hr.1 hr.2 hy (cg rest _ _ hB' hK)
theorem br {Q : St → Prop} {fs : List Nat} : ∀ (l : List Nat) (listed : Array Bool) (s : St), dD md ops fs l listed = true → aH P ops base r s → r5 P G rl ops fs base r Q l s → W9 P G rl md ops base Q l.length listed s
  | [], listed, s, hB, _, h => ⟨by simpa [dD] using hB, h⟩
  | k :: rest, listed, s, hB, hi, h => by
    have hB0 := hB
    simp only [dD, Bool.and_eq_true] at hB
    obtain ⟨hr, hB'⟩ := hB
    unfold r5 at h
    split at h
    · exact h.elim
    · rename_i o h0
      simp only [h0] at hr
      split at h
      · rename_i ha
        rw [if_pos ha] at hr
        simp only [Bool.and_eq_true] at hr
        obtain ⟨hr, hf⟩ := hr
        obtain ⟨z, hz, hb, hk⟩ := h
        refine aR (i := k) (fun s => s.heap[base + y3 ops k]? = some (some ⟨0, []⟩)) (fun s => (s.setB (base + y3 ops k) z).put o.dst (.ptr (base + y3 ops k) 1 0))
          (fun j oj => o.apart ops oj = true ∧ r6 oj = true ∧ y3 ops j ≠ y3 ops k) (fun j => (nc md ops k ops.size).contains j) (fun s K hs hK => ?_) (fun j oj hj hc s K hs hK => nb hj hc.1 hc.2.1 hc.2.2 s K hs hK) (cb hf) rest.length listed s
          (fun j oj a1 a2 a3 a4 => qS (dC hf j oj a1 a2 a3 a4)) (ce hf) (by simpa using hr) hb (br rest _ _ hB' (hi.fill h0 ha hz hb).put hk)
        unfold W1
        simp only [h0]
        unfold fo
        rw [if_pos ha]
        exact ⟨z, hz, hs, hK⟩
      · rename_i ha
        split at h
        · exact cg (k :: rest) listed s hB0 h
        · rename_i he
          rw [if_neg ha, if_neg he] at hr
          simp only [Bool.and_eq_true] at hr
          obtain ⟨hr, hf⟩ := hr
          split at h
          · rename_i hh
            rw [if_pos hh] at hf
            obtain ⟨v, hy, hK⟩ := h
            exact fV h0 ha he hr hf hy (br rest _ _ hB' hi.put hK)
          · rename_i hh
            rw [if_neg hh] at hf
            obtain ⟨v, hy, hK⟩ := h
            refine aR (i := k) (fun s => aH P ops base r s ∧ aU P G rl ops base r o v s) (fun s => s.put o.dst v) (fun j oj => o.apart ops oj = true ∧ (I1 oj = true → r6 oj = true)) (fun j => (nc md ops k ops.size).contains j) (fun s K hs hK => ?_)
              (fun j oj hj hc s K hs hK => na hj hc.1 hc.2 s K hs hK) (cb hf) rest.length listed s (fun j oj a1 a2 a3 a4 => qT (dC hf j oj a1 a2 a3 a4)) (ce hf) (by simpa using hr) ⟨hi, hy⟩ (br rest _ _ hB' hi.put hK)
            unfold W1
            simp only [h0]
            unfold fo
            rw [if_neg ha, if_neg he]
            exact s7.mpr ⟨v, hs.1.now hs.2, hK⟩
end
section
variable {ι ι0 : Nat → Nat × Nat} {h0 : Heap} {w w0 : World} {n0 : Nat} {s : St} {a : Act}
theorem ls {o : Oper} {K : St → Prop} (hx : bY P G rl o K s) : P9 P G rl o K s := by
  unfold bY at hx
  unfold P9
  cases hq : z5 o with
  | some q =>
    obtain ⟨f, args⟩ := q
    simp only [hq] at hx ⊢
    split at hx
    · rename_i g caps xs hf hxs
      obtain ⟨he, r, hc, hk⟩ := hx
      refine ⟨he, fun ι w vs hS hv => (hc ι w vs hS hv).mono ?_⟩
      rintro e w' ⟨v, r', h', ι', e1, ⟨rfl, rfl⟩, e2⟩
      exact ⟨v, _, _, ι', e1, hk, e2⟩
    · exact hx.elim
  | none =>
    simp only [hq] at hx ⊢
    split at hx
    · obtain ⟨rfl, hk⟩ := hx
      exact hk
    · exact hx.elim
theorem fW {o : Oper} {K : St → Prop} (hx : aG P G rl ops o K s) : aop P G rl ops o K s := by
  unfold aG at hx
  unfold aop
  split at hx
  · exact ⟨fun e => ls (hx.1 e), hx.2⟩
  · exact hx.elim
theorem aW {Q : St → Prop} {Q' : Exit → Act → World → Prop} (hK : ∀ s' ι' a' w', Q s' → Sim P G ι' s' a' w' → Evo n0 ι0 h0 w0 ι' s'.heap w' → Q' .normal a' w') :
    ∀ (fuel : Nat) (listed : Array Bool) (s : St) (ι : Nat → Nat × Nat) (a : Act) (w : World), Sim P G ι s a w → Evo n0 ι0 h0 w0 ι s.heap w →
      iY P G rl md ops Q fuel listed s → wpAny P md ops Q' fuel listed a w
  | 0, _, s, ι, a, w, hs, he, h => ⟨h.1, hK s ι a w h.2 hs he⟩
  | fuel + 1, listed, s, ι, a, w, hs, he, h => by
    refine ⟨fun h0 => hK s ι a w (h.1 h0) hs he, fun i hi => ?_⟩
    have h1 := h.2 i hi
    unfold iz at h1
    unfold wpOp
    split
    · rename_i ho; simp only [ho] at h1; exact aW hK fuel _ s ι a w hs he h1
    · rename_i o ho
      simp only [ho] at h1
      exact W8 (rl := rl) (K := iY P G rl md ops Q fuel (listed.setIfInBounds i true)) hs he (fun s' ι' a' w' hk hs' he' => aW hK fuel _ s' ι' a' w' hs' he' hk) (fW h1)
theorem qV {o : Oper} {K : St → Prop} (hx : jT P G rl ops o K s) : aop P G rl ops o K s := by
  unfold jT at hx
  split at hx
  · exact hx
  · exact fW hx
theorem aX {Q : St → Prop} {Q' : Exit → Act → World → Prop} (hK : ∀ s' ι' a' w', Q s' → Sim P G ι' s' a' w' → Evo n0 ι0 h0 w0 ι' s'.heap w' → Q' .normal a' w') :
    ∀ (fuel : Nat) (listed : Array Bool) (s : St) (ι : Nat → Nat × Nat) (a : Act) (w : World), Sim P G ι s a w → Evo n0 ι0 h0 w0 ι s.heap w →
      ja P G rl md ops Q fuel listed s → wpAny P md ops Q' fuel listed a w
  | 0, _, s, ι, a, w, hs, he, h => ⟨h.1, hK s ι a w h.2 hs he⟩
  | fuel + 1, listed, s, ι, a, w, hs, he, h => by
    refine ⟨fun h0 => hK s ι a w (h.1 h0) hs he, fun i hi => ?_⟩
    have h1 := h.2 i hi
    unfold fU at h1
    unfold wpOp
    split
    · rename_i ho; simp only [ho] at h1; exact aX hK fuel _ s ι a w hs he h1
    · rename_i o ho
      simp only [ho] at h1
      exact W8 (rl := rl) (K := ja P G rl md ops Q fuel (listed.setIfInBounds i true)) hs he (fun s' ι' a' w' hk hs' he' => aX hK fuel _ s' ι' a' w' hs' he' hk) (qV h1)
theorem Sim.drew (hs : Sim P G ι s a w) : Sim P G ι s a { w with drawn := w.drawn + 1 } ∧ Evo s.heap.length ι s.heap w ι s.heap { w with drawn := w.drawn + 1 } := by
  obtain ⟨h1, h2⟩ := hs.hS.drew
  exact ⟨⟨h1, fun k x hx => by obtain ⟨v, p1, p2⟩ := hs.fr k x hx; exact ⟨v, p1, p2.evo h2⟩, hs.nt, hs.df⟩, h2⟩
theorem nf {id : Nat} {Q : St → Prop} {Q' : Exit → Act → World → Prop} (hm : P.follows .mixedOrders = true) (hK : ∀ s' ι' a' w', Q s' → Sim P G ι' s' a' w' → Evo n0 ι0 h0 w0 ι' s'.heap w' → Q' .normal a' w')
    (hs : Sim P G ι s a w) (he : Evo n0 ι0 h0 w0 ι s.heap w) (hB : Region.lexB .any ops = true) (h : m7 P G rl ops Q ops.toList s) : (Code.region id ops true).wp P Q' a w := by
  simp only [Region.lexB, Bool.and_eq_true] at hB
  obtain ⟨d1, d2⟩ := hs.drew
  refine wp_region_any hm (aW (rl := rl) hK _ _ s ι a _ d1 (he.trans d2 he.len) ?_)
  have := iZ (P := P) (G := G) (rl := rl) (md := .any) (Q := Q) ops.toList 0 (Array.replicate ops.size false) s (by simp) (by simpa using hB.2) h
  simpa using this
theorem lu {id : Nat} {Q : St → Prop} {Q' : Exit → Act → World → Prop} (hm : P.follows .mixedOrders = true) (hK : ∀ s' ι' a' w', Q s' → Sim P G ι' s' a' w' → Evo n0 ι0 h0 w0 ι' s'.heap w' → Q' .normal a' w')
    (hs : Sim P G ι s a w) (he : Evo n0 ι0 h0 w0 ι s.heap w) (hB : mX .any ops ops.size 0 (Array.replicate ops.size false) = true) (h : n7 P G rl ops Q ops.toList s) : (Code.region id ops true).wp P Q' a w := by
  obtain ⟨d1, d2⟩ := hs.drew
  refine wp_region_any hm (aX (rl := rl) hK _ _ s ι a _ d1 (he.trans d2 he.len) ?_)
  have := dB (P := P) (G := G) (rl := rl) (md := .any) (Q := Q) ops.toList 0 (Array.replicate ops.size false) s (by simp) (by simpa using hB) h
  simpa using this
theorem qW {b : Nat} {z : List PV} {o : Oper} {ρ : Operand → Value} {ι : Nat → Nat × Nat} {h : Heap} {w : World} (hS : SimH P G ι h w) (hz : u9 P o = some z) (hb : h[b]? = some (some ⟨0, []⟩)) : ey P G ι h w (execOp ρ o) (.ptr b 1 0) (h.set b (some ⟨1, z.map .p⟩)) := by
  obtain ⟨dst, op, type, pos, after, guard⟩ := o
  unfold u9 at hz
  cases op with
  | alloc t =>
    dsimp only at hz
    split at hz
    · rename_i kk s1 b1 z' ht
      split at hz
      · cases hz
      · rename_i hne
        cases hz
        obtain ⟨zv, hzr, hzl, hzv⟩ := cF ht rfl
        have hlt : b < h.length := m6 hb
        obtain ⟨q1, q2⟩ := hS.upd (h' := h.set b (some ⟨1, z.map .p⟩)) (ι' := fun i => if i = b then (w.heap.size, 0) else ι i) (w' := w.alloc (.cells zv.cells t)) b ⟨1, z.map .p⟩ w.heap.size 0 zv.cells t
          (.inr ⟨hlt, ⟨_, hb, Nat.zero_le _⟩, rfl⟩) (fun i => rfl) (.inl (Nat.le_refl _)) (by simpa using hne) (heap_alloc_new w _) (by simp [hzl]) (fun j x hx => by
            have hj : j < z.length := by have := m6 hx; simpa using this
            refine ⟨zv.cells[j]'(by omega), by rw [Nat.zero_add]; simp [show j < zv.cells.size by omega], ?_⟩
            simp only [List.getElem?_map, Option.map_eq_some_iff] at hx
            obtain ⟨y, hy, rfl⟩ := hx
            exact .p _ _ (hzv w _ j y _ hy (by simp [show j < zv.cells.size by omega])))
          (by simp) (fun k hk _ => by first | exact heap_alloc_old _ _ hk | exact heap_alloc_old _ _ _ hk) (fun bk hq hgg => by rw [hb] at hq; cases hq; cases hgg) rfl rfl rfl
        have hl : C6 (h.set b (some ⟨1, z.map .p⟩)) b 1 := ⟨⟨1, z.map .p⟩, by simp [hlt], rfl⟩
        have hp := jP (ι := fun i => if i = b then (w.heap.size, 0) else ι i) (w := w.alloc (.cells zv.cells t)) hl 0
        refine K5 (w' := w.alloc (.cells zv.cells t)) ?_ q1 (by simpa using hp) q2
        simp [Instr.alloc, Sem.run_bind, hzr w, newVar, newRow]
    · cases hz
  | _ => cases hz
theorem jW {o : Oper} {b : Nat} {K : St → Prop} {K' : Act → World → Prop} {Q' : Exit → Act → World → Prop} (ha : r6 o = true) (hs : Sim P G ι s a w) (he : Evo n0 ι0 h0 w0 ι s.heap w)
    (hK : ∀ s' ι' a' w', K s' → Sim P G ι' s' a' w' → Evo n0 ι0 h0 w0 ι' s'.heap w' → K' a' w') (hx : mZ P o b K s) :
    if Region.wanted o (yielded ops a.tmps) then o.wp P a w K' Q' ∨ (o.asks P a w ∧ LetsOut Q') else K' (a.put o.dst undef) w := by
  obtain ⟨z, hz, hb, hk⟩ := hx
  have hw : H9 ops o s = some true := by
    simp only [r6, Bool.and_eq_true, Option.isNone_iff_eq_none] at ha
    unfold H9; rw [ha.2]
  rw [iU hs hw]
  simp only [if_true]
  left
  obtain ⟨v, w', ι', hrun, hS', hr, he'⟩ := qW (ρ := fun x => a.eval x) hs.hS hz hb
  have := hK _ ι' _ w' hk (hs.put hS' he' o.dst hr) (by rw [St.put_heap]; exact he.trans he' he.len)
  unfold Oper.wp
  rcases hrun with hrun | ⟨hrun, rfl⟩
  · rw [hrun]; exact this
  · rw [hrun]; exact this
theorem O2 {base : Nat} {Q : St → Prop} {Q' : Exit → Act → World → Prop} (hK : ∀ s' ι' a' w', Q s' → Sim P G ι' s' a' w' → Evo n0 ι0 h0 w0 ι' s'.heap w' → Q' .normal a' w') :
    ∀ (fuel : Nat) (listed : Array Bool) (s : St) (ι : Nat → Nat × Nat) (a : Act) (w : World), Sim P G ι s a w → Evo n0 ι0 h0 w0 ι s.heap w →
      W9 P G rl md ops base Q fuel listed s → wpAny P md ops Q' fuel listed a w
  | 0, _, s, ι, a, w, hs, he, h => ⟨h.1, hK s ι a w h.2 hs he⟩
  | fuel + 1, listed, s, ι, a, w, hs, he, h => by
    refine ⟨fun h0 => hK s ι a w (h.1 h0) hs he, fun i hi => ?_⟩
    have h1 := h.2 i hi
    unfold W1 at h1
    unfold wpOp
    split
    · rename_i ho; simp only [ho] at h1; exact O2 hK fuel _ s ι a w hs he h1
    · rename_i o ho
      simp only [ho] at h1
      unfold fo at h1
      split at h1
      · rename_i ha
        exact jW (K := W9 P G rl md ops base Q fuel (listed.setIfInBounds i true)) ha hs he (fun s' ι' a' w' hk hs' he' => O2 hK fuel _ s' ι' a' w' hs' he' hk) h1
      · split at h1
        · exact W8 (rl := rl) (K := W9 P G rl md ops base Q fuel (listed.setIfInBounds i true)) hs he (fun s' ι' a' w' hk hs' he' => O2 hK fuel _ s' ι' a' w' hs' he' hk) h1
        · exact W8 (rl := rl) (K := W9 P G rl md ops base Q fuel (listed.setIfInBounds i true)) hs he (fun s' ι' a' w' hk hs' he' => O2 hK fuel _ s' ι' a' w' hs' he' hk) (fW h1)
theorem lw {id base r : Nat} {ord fs : List Nat} {Q : St → Prop} {Q' : Exit → Act → World → Prop} (hm : P.follows .mixedOrders = true) (hK : ∀ s' ι' a' w', Q s' → Sim P G ι' s' a' w' → Evo n0 ι0 h0 w0 ι' s'.heap w' → Q' .normal a' w')
    (hs : Sim P G ι s a w) (he : Evo n0 ι0 h0 w0 ι s.heap w) (hl : ord.length = ops.size) (hB : dD .any ops fs ord (Array.replicate ops.size false) = true) (hi : aH P ops base r s) (h : r5 P G rl ops fs base r Q ord s) : (Code.region id ops true).wp P Q' a w := by
  obtain ⟨d1, d2⟩ := hs.drew
  have := br (P := P) (G := G) (rl := rl) (md := .any) (Q := Q) (base := base) (r := r) ord (Array.replicate ops.size false) s hB hi h
  rw [hl] at this
  exact wp_region_any hm (O2 (rl := rl) hK _ _ s ι a _ d1 (he.trans d2 he.len) this)
end
end
def t5 (P : Program) (G : Nat → Option (List PV)) (h0 : Heap) (s s' : St) : Prop :=
  ∀ ι a w ι0 w0, SimH P G ι0 h0 w0 → Sim P G ι s a w → Evo h0.length ι0 h0 w0 ι s.heap w → ∃ ι', Sim P G ι' s' a w ∧ Evo h0.length ι0 h0 w0 ι' s'.heap w
def O3 (K : St → Prop) (Q : Exit → St → Prop) : Exit → St → Prop
  | .normal, s => K s
  | e, s => Q e s
def W2 (id : Nat) (Q : Exit → St → Prop) : Exit → St → Prop
  | .exit i, s => if i = id then Q .normal s else Q (.exit i) s
  | e, s => Q e s
section
variable (P : Program) (G : Nat → Option (List PV)) (rl : List String) (h0 : Heap)
def eE (v : Option AV) (X Y : Prop) : Prop :=
  match v with
  | some (.p (.bool t)) => (t = true → X) ∧ (t = false → Y)
  | _ => False
def awp : Code → (Exit → St → Prop) → St → Prop
  | .skip, Q, s => Q .normal s
  | .label _, Q, s => Q .normal s
  | .region _ ops draw, Q, s =>
    if draw then (Region.lexB .any ops = true ∧ m7 P G rl ops (Q .normal) ops.toList s) ∨ (mX .any ops ops.size 0 (Array.replicate ops.size false) = true ∧ n7 P G rl ops (Q .normal) ops.toList s) ∨
      (∃ s1 base r ord fs, t5 P G h0 s s1 ∧ ord.length = ops.size ∧ dD .any ops fs ord (Array.replicate ops.size false) = true ∧ aH P ops base r s1 ∧ r5 P G rl ops fs base r (Q .normal) ord s1)
    else q9 P G rl ops (Q .normal) ops.toList s
  | .seq a b, Q, s => ∃ J : St → Prop, awp a (O3 (fun s' => ∃ s1, t5 P G h0 s' s1 ∧ J s1) Q) s ∧ ∀ s1, J s1 → awp b Q s1
  | .cond c x y, Q, s => eE (r4 G s c) (awp x Q s) (awp y Q s)
  | .block id c, Q, s => awp c (W2 id Q) s
  | .loop c, Q, s => ∃ I : Nat → St → Prop, (∃ n s1, t5 P G h0 s s1 ∧ I n s1) ∧ ∀ n s, I n s → awp c (O3 (fun s' => ∃ m s1, m < n ∧ t5 P G h0 s' s1 ∧ I m s1) Q) s
  | .exit id, Q, s => Q (.exit id) s
  | .ret, Q, s => Q .ret s
  | _, _, _ => False
end
end
section
theorem pL {P : Program} {Q : Exit → Act → World → Prop} {c : Code} (I : Nat → Act → World → Prop)
    (round : ∀ n a w, I n a w → c.wp P (Exit.then (fun a' w' => ∃ m, m < n ∧ I m a' w') Q) a w) (n : Nat) (a : Act) (w : World) (h₀ : I n a w) : (Code.loop c).wp P Q a w := by
  intro b k cs
  have key : ∀ n a w, I n a w →
      ∃ e a' w', Q e a' w' ∧ Arrives P (lone (b.at a (.code c :: .inLoop c :: k)) cs w) b k cs e a' w' := by
    intro n
    induction n using Nat.strongRecOn with
    | _ n ih =>
      intro a w hI
      obtain ⟨e, a₁, w₁, hq, harr⟩ := round n a w hI b (.inLoop c :: k) cs
      cases e with
      | normal =>
        obtain ⟨m, hlt, hI₁⟩ := hq
        obtain ⟨e₂, a₂, w₂, hq₂, harr₂⟩ := ih m hlt a₁ w₁ hI₁
        exact ⟨e₂, a₂, w₂, hq₂, .of_steps (Steps.trans harr (.one step_inLoop)) harr₂⟩
      | exit id => exact ⟨_, a₁, w₁, hq, .pass (x := .inLoop c) rfl (fun _ _ => .inl (by simp)) harr⟩
      | goto l => exact ⟨_, a₁, w₁, hq, .pass (x := .inLoop c) rfl (fun _ _ => .inl (by simp)) harr⟩
      | ret => exact ⟨_, a₁, w₁, hq, .pass (x := .inLoop c) rfl (fun _ _ => .inl (by simp)) harr⟩
      | panic ch => exact ⟨_, a₁, w₁, hq, .pass (x := .inLoop c) rfl (fun _ _ => .inl (by simp)) harr⟩
      | outgrown => exact ⟨_, a₁, w₁, hq, .pass (x := .inLoop c) rfl (fun _ _ => .inl (by simp)) harr⟩
  obtain ⟨e, a', w', hq, harr⟩ := key n a w h₀
  exact ⟨e, a', w', hq, .of_steps (.one step_loop) harr⟩
section
variable {P : Program} {G : Nat → Option (List PV)} {rl : List String} {ι ι' ι0 : Nat → Nat × Nat} {h h' h0 : Heap} {w w' w0 : World} {n0 : Nat} {s : St} {a : Act}
def uK (P : Program) (G : Nat → Option (List PV)) (ι0 : Nat → Nat × Nat) (h0 : Heap) (w0 : World) (Q : Exit → St → Prop) : Exit → Act → World → Prop :=
  fun e a w => ∃ s ι, Q e s ∧ Sim P G ι s a w ∧ Evo h0.length ι0 h0 w0 ι s.heap w
theorem jc (hm : P.follows .mixedOrders = true) (hS0 : SimH P G ι0 h0 w0) : ∀ (c : Code) (Q : Exit → St → Prop) (s : St) (ι : Nat → Nat × Nat) (a : Act) (w : World), Sim P G ι s a w → Evo h0.length ι0 h0 w0 ι s.heap w →
    awp P G rl h0 c Q s → c.wp P (uK P G ι0 h0 w0 Q) a w := by
  intro c
  induction c with
  | skip => intro Q s ι a w hs he h; exact wp_skip ⟨s, ι, h, hs, he⟩
  | label l => intro Q s ι a w hs he h; exact wp_label ⟨s, ι, h, hs, he⟩
  | region id ops draw =>
    intro Q s ι a w hs he h
    unfold awp at h
    split at h
    · rename_i hd; subst hd
      rcases h with h | h | ⟨s1, base, r, ord, fs, hg, hl, hB, hi, hr⟩
      · exact nf hm (fun s' ι' a' w' hq hs' he' => ⟨s', ι', hq, hs', he'⟩) hs he h.1 h.2
      · exact lu hm (fun s' ι' a' w' hq hs' he' => ⟨s', ι', hq, hs', he'⟩) hs he h.1 h.2
      · obtain ⟨ι1, hs1, he1⟩ := hg ι a w ι0 w0 hS0 hs he
        exact lw hm (fun s' ι' a' w' hq hs' he' => ⟨s', ι', hq, hs', he'⟩) hs1 he1 hl hB hi hr
    · rename_i hd
      have : draw = false := by simpa using hd
      subst this
      exact wp_region_list (fS (fun s' ι' a' w' hq hs' he' => ⟨s', ι', hq, hs', he'⟩) ops.toList s ι a w hs he h)
  | seq x y ihx ihy =>
    intro Q s ι a w hs he ⟨J, h, hJ⟩
    refine wp_seq (wp_mono (ihx _ s ι a w hs he h) fun e a' w' ⟨s', ι', hq, hs', he'⟩ => ?_)
    cases e with
    | normal =>
      obtain ⟨s1, hg, hj⟩ := hq
      obtain ⟨ι1, hs1, he1⟩ := hg ι' a' w' ι0 w0 hS0 hs' he'
      exact ihy Q s1 ι1 a' w' hs1 he1 (hJ s1 hj)
    | _ => exact ⟨s', ι', hq, hs', he'⟩
  | cond c x y ihx ihy =>
    intro Q s ι a w hs he h
    unfold awp eE at h
    split at h
    · rename_i t ht
      have := (hs.eval ht).bool_inv
      refine wp_cond_split this (fun e => ihx Q s ι a w hs he (h.1 e)) (fun e => ihy Q s ι a w hs he (h.2 e))
    · exact h.elim
  | block id c ih =>
    intro Q s ι a w hs he h
    refine wp_block (wp_mono (ih _ s ι a w hs he h) fun e a' w' ⟨s', ι', hq, hs', he'⟩ => ?_)
    cases e with
    | exit i =>
      simp only [Exit.inBlock]
      simp only [W2] at hq
      split
      · rename_i hi; simp only [hi, if_true] at hq; exact ⟨s', ι', hq, hs', he'⟩
      · rename_i hi; simp only [hi, if_false] at hq; exact ⟨s', ι', hq, hs', he'⟩
    | _ => exact ⟨s', ι', hq, hs', he'⟩
  | loop c ih =>
    intro Q s ι a w hs he ⟨I, ⟨n, s1, hg, hn⟩, hr⟩
    obtain ⟨ι1, hs1, he1⟩ := hg ι a w ι0 w0 hS0 hs he
    refine pL (fun n a w => ∃ s ι, I n s ∧ Sim P G ι s a w ∧ Evo h0.length ι0 h0 w0 ι s.heap w) (fun n a w ⟨s, ι, hi, hs, he⟩ => ?_) n a w ⟨s1, ι1, hn, hs1, he1⟩
    refine wp_mono (ih _ s ι a w hs he (hr n s hi)) fun e a' w' ⟨s', ι', hq, hs', he'⟩ => ?_
    cases e with
    | normal =>
      obtain ⟨m, s2, hlt, hg2, hm⟩ := hq
      obtain ⟨ι2, hs2, he2⟩ := hg2 ι' a' w' ι0 w0 hS0 hs' he'
      exact ⟨m, hlt, s2, ι2, hm, hs2, he2⟩
    | _ => exact ⟨s', ι', hq, hs', he'⟩
  | exit id => intro Q s ι a w hs he h; exact wp_exit ⟨s, ι, h, hs, he⟩
  | ret => intro Q s ι a w hs he h; exact wp_ret ⟨s, ι, h, hs, he⟩
  | _ => intros; contradiction
def K6 (P : Program) (s : St) : ResultVar → Option AV
  | .tmp t => s.fr t
  | .cell a t => (s.fr a).bind fun x => aL P s.heap t x
def S4 (P : Program) (s : St) : List ResultVar → Option (List AV)
  | [] => some []
  | r :: rest => match K6 P s r, S4 P s rest with
    | some x, some xs => some (x :: xs)
    | _, _ => none
def Q6 (P : Program) (s : St) (rs : List ResultVar) : Option AV :=
  match S4 P s rs with
  | some [x] => some x
  | some xs => some (.tup xs)
  | none => none
def fX (tmps : Array Value) : ResultVar → Sem Value
  | .tmp t => Pure.pure (tmps.getD t undef)
  | .cell a t => do loadVar t (← asAddr (tmps.getD a undef))
theorem ng (fn : Func) (tmps : Array Value) : results fn tmps = (do let vs ← fn.results.mapM (fX tmps); Pure.pure (if h : vs.size = 1 then vs[0] else .tuple vs)) := by
  unfold results
  congr 1
theorem lx (hs : Sim P G ι s a w) {r : ResultVar} {x : AV} (hx : K6 P s r = some x) :
    ∃ v, (fX a.tmps r).run P w = .ok v w ∧ VRel ι s.heap w x v := by
  cases r with
  | tmp t =>
    obtain ⟨v, h1, h2⟩ := hs.fr t x hx
    exact ⟨v, by simp [fX, h1], h2⟩
  | cell b t =>
    obtain ⟨y, hy, hl⟩ := Option.bind_eq_some_iff.mp hx
    obtain ⟨v, h1, h2⟩ := hs.fr b y hy
    obtain ⟨u, e1, e2⟩ := fM (P := P) hs.hS h2 hl
    refine ⟨u, ?_, e2⟩
    have hv : a.tmps.getD b undef = v := by simp [h1]
    simp only [fX, hv, Sem.run_bind]
    unfold aL at hl
    cases h2 with
    | ptr b g off A hb hg hlv =>
      split at hl
      · rename_i i b' g' off' ht hq
        cases hq
        obtain ⟨cells, hb', _⟩ := Option.bind_eq_some_iff.mp hl
        have := hlv (A4 hb')
        subst this
        simpa [Instr.loadAt, Instr.sureAddr, asAddr] using e1
      · rename_i hq; cases hq
      · cases hl
    | pin cells blk off hv => simpa [Instr.loadAt, Instr.sureAddr, asAddr] using e1
    | p => simp at hl
    | agg => simp at hl
    | tup => simp at hl
    | fn => simp at hl
    | ref => simp at hl
theorem fY (hs : Sim P G ι s a w) : ∀ (rs : List ResultVar) (xs : List AV), S4 P s rs = some xs →
    ∃ vs : List Value, (rs.mapM (fX a.tmps)).run P w = .ok vs w ∧ xs.length = vs.length ∧
      ∀ (i : Nat) x v, xs[i]? = some x → vs[i]? = some v → VRel ι s.heap w x v
  | [], xs, h => by cases h; exact ⟨[], rfl, rfl, fun i x v hx => by simp at hx⟩
  | r :: rest, xs, h => by
    simp only [S4] at h
    split at h
    · rename_i x xs' h1 h2
      cases h
      obtain ⟨v, e1, e2⟩ := lx hs h1
      obtain ⟨vs, p1, p2, p3⟩ := fY hs rest xs' h2
      refine ⟨v :: vs, ?_, by simp [p2], fun i y u hy hu => ?_⟩
      · simp only [List.mapM_cons, Sem.run_bind]
        rw [e1]
        simp only [Result.andThen_ok]
        rw [p1]
        rfl
      · cases i with
        | zero => simp at hy hu; rw [← hy, ← hu]; exact e2
        | succ i => simp at hy hu; exact p3 i y u hy hu
    · cases h
theorem fZ (hs : Sim P G ι s a w) {fn : Func} {x : AV} (hx : Q6 P s fn.results.toList = some x) : ∃ v, (results fn a.tmps).run P w = .ok v w ∧ VRel ι s.heap w x v := by
  unfold Q6 at hx
  cases hl : S4 P s fn.results.toList with
  | none => simp [hl] at hx
  | some xs =>
    obtain ⟨vs, p1, p2, p3⟩ := fY hs _ xs hl
    have hrun : (results fn a.tmps).run P w = .ok (if h : vs.toArray.size = 1 then vs.toArray[0] else .tuple vs.toArray) w := by
      rw [ng, Array.mapM_eq_mapM_toList]
      simp only [Sem.run_bind, Sem.run_map]
      rw [p1]
      rfl
    refine ⟨_, hrun, ?_⟩
    simp only [hl] at hx
    split at hx
    · rename_i y hy
      cases hx
      cases hy
      have h1 : vs.length = 1 := by simpa using p2.symm
      simp only [List.size_toArray, h1, dite_true]
      exact p3 0 x _ rfl (by simp [h1])
    · rename_i xs' hne hy
      cases hy
      cases hx
      have h1 : ¬ vs.length = 1 := by
        intro e
        have : xs.length = 1 := by omega
        obtain ⟨y, hy⟩ := List.length_eq_one_iff.mp this
        exact hne y (by rw [hy])
      simp only [List.size_toArray, h1, dite_false]
      exact .tup _ _ (by simpa using p2) fun i x v hx hv => p3 i x v hx (by simpa using hv)
    · rename_i hq; cases hq
end
end
end Go.Proofs.YtjpphhcimpclpaaGreatDoor.AM
