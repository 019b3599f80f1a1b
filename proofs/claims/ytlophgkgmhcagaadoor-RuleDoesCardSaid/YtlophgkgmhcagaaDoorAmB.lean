/- The abstract machine, part B: what operations and code do to abstract states. Definitions alone. -/
import Derived.Test.YtlophgkgmhcagaaDoorAmA
set_option linter.unusedVariables false
namespace Go.Proofs.YtlophgkgmhcagaaDoor.AM
open Go

inductive TK where
  | int (k : IntKind)
  | bool
  | str
  | slice (e : Nat)
  | array (n e : Nat)
  | struct (fs : List (Nat × Nat × Nat))
  | ptr
  | func
  | other
  deriving Inhabited

structure TI where
  k : TK
  size : Nat
  bytes : Nat
  zero : Option (List PV)

def inR (k : IntKind) (n : Int) : Bool := decide (k.min ≤ n) && decide (n ≤ k.max)

/-- A constant of one cell. -/
def constPV : Value → Option PV
  | .int k n => if inR k n then some (.int k n) else none
  | .bool b => some (.bool b)
  | .string s => if s.size ≤ 1000000 then some (.str s) else none
  | .slice none 0 0 => some .nils
  | .pointer none => some .nilp
  | .nilFunc => some .nilf
  | _ => none

def constPVs : List Value → Option (List PV)
  | [] => some []
  | v :: r => match constPV v, constPVs r with
    | some x, some xs => some (x :: xs)
    | _, _ => none

def constA : Value → Option AV
  | .agg cs => (constPVs cs.toList).map fun l => .agg (l.map .p)
  | .tuple vs => if vs.size = 0 then some .undef else none
  | v => (constPV v).map .p

def kindOf (P : Program) : TypeDesc → TK
  | .int k => .int k
  | .bool => .bool
  | .string => .str
  | .slice e => .slice e
  | .array n e => .array n e
  | .struct fs => .struct (fs.toList.map fun f => (f.offset, P.cellsOf f.type, f.type))
  | .pointer _ => .ptr
  | .func .. => .func
  | _ => .other

def tinfo (P : Program) (t : Nat) : Option TI :=
  match P.info? t, P.underlying t with
  | some i, some d => some ⟨kindOf P d, i.size, i.bytes, i.zero.bind fun v => constPVs v.cells.toList⟩
  | _, _ => none

def TI.isAgg (i : TI) : Bool := match i.k with | .struct _ | .array _ _ => true | _ => false

/-- A frame with one slot more. -/
def upd (fr : Nat → Option AV) (d : Nat) (v : AV) : Nat → Option AV := fun k => if k = d then some v else fr k

structure St where
  fr : Nat → Option AV
  nt : Nat
  heap : Heap

def St.put (s : St) (dst : Option Nat) (v : AV) : St :=
  match dst with
  | some d => if d < s.nt then { s with fr := upd s.fr d v } else s
  | none => s

def evalA (G : Nat → Option (List PV)) (s : St) : Operand → Option AV
  | .tmp t => s.fr t
  | .const v => constA v
  | .global g => (G g).map .pin
  | .func f => some (.fn f [])

def AV.scalar : AV → Bool
  | .agg _ | .tup _ => false
  | _ => true

def cellsA : AV → Option (List AV)
  | .agg cs => if cs.all AV.scalar then some cs else none
  | .tup _ => none
  | x => some [x]

def pvs : List AV → Option (List PV)
  | [] => some []
  | .p x :: r => (pvs r).map (x :: ·)
  | _ :: _ => none

def chunk {α : Type} (sz : Nat) : Nat → List α → List (List α)
  | 0, _ => []
  | n + 1, l => l.take sz :: chunk sz n (l.drop sz)

def selA (t : Bool) (x y : AV) : AV :=
  match x, y with
  | .p (.bool a), .p (.bool c) => .p (.bool (bif t then a else c))
  | _, _ => bif t then x else y

/-- Cells laid over cells, from a place on. -/
def over {α : Type} : List α → Nat → List α → List α
  | c, _, [] => c
  | c, k, v :: r => over (c.set k v) (k + 1) r

def fillA (place : Nat → Option (Nat × Nat)) : List AV → List (Nat × Option AV) → Option (List AV)
  | cells, [] => some cells
  | cells, (i, x) :: rest =>
    match place i, x.bind cellsA with
    | some (off, size), some cs => if cs.length = size ∧ off + cs.length ≤ cells.length then fillA place (over cells off cs) rest else none
    | _, _ => none

def cmpInt (op : BinOp) (a b : Int) : Option Bool :=
  match op with
  | .eql => some (a == b)
  | .neq => some (a != b)
  | .lss => some (decide (a < b))
  | .leq => some (decide (a ≤ b))
  | .gtr => some (decide (b < a))
  | .geq => some (decide (b ≤ a))
  | _ => none

def opBin (op : BinOp) (x y : AV) : Option AV :=
  match x, y with
  | .p (.int k a), .p (.int k' b) =>
    if k = k' then
      match op with
      | .add => some (.p (.int k (k.wrap (a + b))))
      | .sub => some (.p (.int k (k.wrap (a - b))))
      | .mul => some (.p (.int k (k.wrap (a * b))))
      | .quo => if b = 0 then none else some (.p (.int k (k.wrap (a.tdiv b))))
      | .rem => if b = 0 then none else if inR k (a.tmod b) then some (.p (.int k (a.tmod b))) else none
      | _ => (cmpInt op a b).map AV.b
    else none
  | _, _ => none

/-- Equality of the cells of arrays of numbers (true) or truths (false). -/
def eqCells : Bool → List AV → List AV → Option Bool
  | _, [], [] => some true
  | true, .p (.int k a) :: r, .p (.int k' b) :: r' => if k = k' then (eqCells true r r').map (fun c => (a == b) && c) else none
  | false, .p (.bool a) :: r, .p (.bool b) :: r' => (eqCells false r r').map (fun c => (a == b) && c)
  | _, _, _ => none

/-- Equality and its contrary, where the type says what is compared. -/
def eqA (P : Program) (t : Nat) (x y : AV) : Option Bool :=
  match x, y with
  | .p (.bool a), .p (.bool b) => match tinfo P t with
    | some ⟨.bool, _, _, _⟩ => some (a == b)
    | _ => none
  | .p .nilp, .p .nilp => match tinfo P t with | some ⟨.ptr, _, _, _⟩ => some true | _ => none
  | .p .nilf, .p .nilf => match tinfo P t with | some ⟨.func, _, _, _⟩ => some true | _ => none
  | .fn _ _, .p .nilf => match tinfo P t with | some ⟨.func, _, _, _⟩ => some false | _ => none
  | .agg xs, .agg ys =>
    match tinfo P t with
    | some ⟨.array n e, _, _, _⟩ =>
      if n = xs.length ∧ P.eqGuardType P.depth t = false then
        match tinfo P e with
        | some ⟨.int _, 1, _, _⟩ => eqCells true xs ys
        | some ⟨.bool, 1, _, _⟩ => eqCells false xs ys
        | _ => none
      else none
    | _ => none
  | _, _ => none

def binA (P : Program) (op : BinOp) (t : Nat) (x y : AV) : Option AV :=
  match opBin op x y with
  | some r => some r
  | none =>
    match op with
    | .eql => (eqA P t x y).map AV.b
    | .neq => (eqA P t x y).map fun b => AV.b (!b)
    | _ => none

def unA (op : UnOp) (x : AV) : Option AV :=
  match op, x with
  | .neg, .p (.int k n) => some (.p (.int k (k.wrap (0 - n))))
  | .not, .p (.bool b) => some (.b (!b))
  | _, _ => none

def blkAt (h : Heap) (b g : Nat) : Option (List AV) :=
  match h[b]? with
  | some (some bk) => if bk.g = g then some bk.cells else none
  | _ => none

/-- A variable of so many cells out of cells. -/
def takeA (i : TI) (cells : List AV) : Option AV :=
  if i.isAgg then if i.size ≤ cells.length then some (.agg (cells.take i.size)) else none
  else match cells with
    | x :: _ => some x
    | [] => none

def loadA (P : Program) (h : Heap) (t : Nat) (x : AV) : Option AV :=
  match tinfo P t, x with
  | some i, .ptr b g off => (blkAt h b g).bind fun cells => takeA i (cells.drop off)
  | some i, .pin cells => takeA i (cells.map .p)
  | _, _ => none

def storeA (P : Program) (h : Heap) (t : Nat) (a x : AV) : Option Heap :=
  match tinfo P t, a, cellsA x with
  | some i, .ptr b g off, some cs =>
    (blkAt h b g).bind fun cells => if cs.length = i.size ∧ off + cs.length ≤ cells.length then some (h.set b (some ⟨g, over cells off cs⟩)) else none
  | _, _, _ => none

def fieldAddrA (P : Program) (h : Heap) (t : Nat) (x : AV) (f : Nat) : Option AV :=
  match tinfo P t with
  | some ⟨.struct fs, _, _, _⟩ =>
    match fs[f]? with
    | some (o, s, _) =>
      if s = 0 then none else
      match x with
      | .ptr b g off => if (blkAt h b g).isSome then some (.ptr b g (off + o)) else none
      | .pin cells => some (.pin (cells.drop o))
      | _ => none
    | none => none
  | _ => none

def sizeA (P : Program) (t : Nat) : Nat := match tinfo P t with | some i => i.size | none => 0

def indexAddrA (P : Program) (h : Heap) (t : Nat) (x ix : AV) : Option AV :=
  match tinfo P t, ix with
  | some ⟨.array n e, _, _, _⟩, .p (.int _ i) =>
    if 0 ≤ i ∧ i < n ∧ sizeA P e ≠ 0 then
      match x with
      | .ptr b g off => if (blkAt h b g).isSome then some (.ptr b g (off + i.toNat * sizeA P e)) else none
      | .pin cells => some (.pin (cells.drop (i.toNat * sizeA P e)))
      | _ => none
    else none
  | some ⟨.slice e, _, _, _⟩, .p (.int _ i) =>
    match x with
    | .p (.sl rows) => if 0 ≤ i then match rows[i.toNat]? with
        | some row => if row.length = sizeA P e ∧ sizeA P e ≠ 0 then some (.pin row) else none
        | none => none
      else none
    | .ref b g off sz len => if 0 ≤ i ∧ i < len ∧ sz = sizeA P e ∧ sz ≠ 0 ∧ (blkAt h b g).isSome then some (.ptr b g (off + i.toNat * sz)) else none
    | _ => none
  | _, _ => none

def indexA (P : Program) (t : Nat) (x ix : AV) : Option AV :=
  match tinfo P t, x, ix with
  | some ⟨.array n e, _, _, _⟩, .agg cells, .p (.int _ i) =>
    if 0 ≤ i ∧ i < n then (tinfo P e).bind fun ie => takeA ie (cells.drop (i.toNat * ie.size)) else none
  | _, _, _ => none

def fieldA (P : Program) (t : Nat) (x : AV) (f : Nat) : Option AV :=
  match tinfo P t, x with
  | some ⟨.struct fs, _, _, _⟩, .agg cells => match fs[f]? with
    | some (o, _, ft) => (tinfo P ft).bind fun i => takeA i (cells.drop o)
    | none => none
  | _, _ => none

def boundA (x : Option (Option AV)) (dflt : Nat) : Option Nat :=
  match x with
  | none => some dflt
  | some (some (.p (.int _ i))) => if 0 ≤ i then some i.toNat else none
  | _ => none

def sliceA (P : Program) (h : Heap) (t : Nat) (x : AV) (lo hi : Option (Option AV)) : Option AV :=
  match tinfo P t with
  | some ⟨.array n e, _, _, _⟩ =>
    match x, boundA lo 0, boundA hi n with
    | .ptr b g off, some l, some m => (blkAt h b g).bind fun cells => if l ≤ m ∧ m ≤ n ∧ l < n ∧ n ≤ 16777216 ∧ sizeA P e ≠ 0 ∧ off + n * sizeA P e ≤ cells.length then some (.ref b g (off + l * sizeA P e) (sizeA P e) (m - l)) else none
    | _, _, _ => none
  | some ⟨.slice e, _, _, _⟩ =>
    match x with
    | .p (.sl rows) => match boundA lo 0, boundA hi rows.length with
      | some l, some m => if l ≤ m ∧ m ≤ rows.length ∧ sizeA P e ≠ 0 ∧ rows.all (fun r => r.length == sizeA P e) then some (.p (.sl ((rows.drop l).take (m - l)))) else none
      | _, _ => none
    | .p .nils => match boundA lo 0, boundA hi 0 with
      | some l, some m => if l = 0 ∧ m = 0 ∧ sizeA P e ≠ 0 then some (.p .nils) else none
      | _, _ => none
    | .ref b g off sz len => match boundA lo 0, boundA hi len with
      | some l, some m => if l ≤ m ∧ m ≤ len ∧ sz = sizeA P e ∧ sz ≠ 0 ∧ (blkAt h b g).isSome then some (.ref b g (off + l * sz) sz (m - l)) else none
      | _, _ => none
    | _ => none
  | _ => none

def lenA : AV → Option Nat
  | .p (.sl rows) => some rows.length
  | .p .nils => some 0
  | .p (.str s) => some s.size
  | .ref _ _ _ _ len => some len
  | _ => none

/-- The cells of what is appended. -/
def srcCells (h : Heap) (sz : Nat) : AV → Option (List AV)
  | .p (.sl rows) => if rows.all (fun r => r.length == sz) then some ((rows.flatMap id).map .p) else none
  | .p .nils => some []
  | .ref b g off sz' len => if sz' = sz then (blkAt h b g).bind fun cells => if off + len * sz ≤ cells.length ∧ ((cells.drop off).take (len * sz)).all AV.scalar then some ((cells.drop off).take (len * sz)) else none else none
  | _ => none

def maxCount : Nat := 16777216

def appendA (P : Program) (h : Heap) (t : Nat) (x y : AV) : Option (AV × Heap) :=
  match tinfo P t with
  | some ⟨.slice e, _, _, _⟩ =>
    match tinfo P e, lenA y with
    | some ie, some k =>
      if ie.size = 0 ∨ ie.bytes > 1048576 ∨ (ie.zero.map List.length) ≠ some ie.size then none else
      match srcCells h ie.size y with
      | none => none
      | some cs =>
        match x with
        | .p .nils => if k = 0 then some (.p .nils, h) else if k ≤ maxCount then some (.ref h.length 0 0 ie.size k, h ++ [some ⟨0, cs⟩]) else none
        | .ref b g off sz len =>
          (blkAt h b g).bind fun cells =>
            if sz = ie.size ∧ cells.length = off + len * sz ∧ len + k ≤ maxCount ∧ k ≠ 0 then some (.ref b (g + 1) 0 sz (len + k), h.set b (some ⟨g + 1, cells.drop off ++ cs⟩)) else none
        | _ => none
    | _, _ => none
  | _ => none

def builtinA (P : Program) (b : Builtin) (argTypes : List Nat) (args : List AV) (h : Heap) : Option (AV × Heap) :=
  match b, argTypes, args with
  | .len, [t], [x] => match tinfo P t with
    | some ⟨.slice _, _, _, _⟩ => (match x with | .p (.str _) => (none : Option Nat) | y => lenA y).map fun n : Nat => (.i n, h)
    | some ⟨.str, _, _, _⟩ => match x with | .p (.str s) => some (.i s.size, h) | _ => none
    | some ⟨.array n _, _, _, _⟩ => if n ≤ 1000000 then some (.i n, h) else none
    | _ => none
  | .append, [t, u], [x, y] => if t = u then appendA P h t x y else none
  | .max, _, [.p (.int k a), .p (.int k' c)] => if k = k' then some (.p (.int k (if a < c then c else a)), h) else none
  | .min, _, [.p (.int k a), .p (.int k' c)] => if k = k' then some (.p (.int k (if c < a then c else a)), h) else none
  | _, _, _ => none

def evals (ρ : Operand → Option AV) : List Operand → Option (List AV)
  | [] => some []
  | x :: r => match ρ x, evals ρ r with
    | some v, some vs => some (v :: vs)
    | _, _ => none

/-- An operation that is no call of a function. 'rl': slice literals that are written later (by their place in the text). -/
def opA (P : Program) (rl : List String) (o : Oper) (ρ : Operand → Option AV) (h : Heap) : Option (AV × Heap) :=
  match o.op with
  | .move x | .assign x => (ρ x).map (·, h)
  | .pick c a b => match ρ c, ρ a, ρ b with
    | some (.p (.bool t)), some x, some y => some (selA t x y, h)
    | _, _, _ => none
  | .alloc t => match tinfo P t with
    | some ⟨_, _, _, some z⟩ => if z = [] then none else some (.ptr h.length 0 0, h ++ [some ⟨0, z.map .p⟩])
    | _ => none
  | .box t x => match (ρ x).bind cellsA with
    | some cs => if cs.isEmpty then none else some (.ptr h.length 0 0, h ++ [some ⟨0, cs⟩])
    | none => none
  | .build t parts => match tinfo P t with
    | some ⟨.struct fs, _, _, some z⟩ => if fs.all (fun f => f.2.1 != 0) then (fillA (fun i => (fs[i]?).map fun f => (f.1, f.2.1)) (z.map .p) (parts.toList.map fun q => (q.1, ρ q.2))).map fun cs => (.agg cs, h) else none
    | some ⟨.array _ e, _, _, some z⟩ => if sizeA P e ≠ 0 then (fillA (fun i => some (i * sizeA P e, sizeA P e)) (z.map .p) (parts.toList.map fun q => (q.1, ρ q.2))).map fun cs => (.agg cs, h) else none
    | _ => none
  | .buildSlice t len parts => match tinfo P t with
    | some ⟨.slice e, _, _, _⟩ => match tinfo P e with
      | some ⟨_, size, _, some z⟩ =>
        if len * size ≤ 10000 ∧ z.length = size ∧ size ≠ 0 then
          match fillA (fun i => some (i * size, size)) ((List.replicate len (z.map .p)).flatMap id) (parts.toList.map fun q => (q.1, ρ q.2)) with
          | some cs =>
            if len = 0 then some (.p (.sl []), h)
            else if rl.contains o.pos then some (.ref h.length 0 0 size len, h ++ [some ⟨0, cs⟩])
            else (pvs cs).map fun l => (.p (.sl (chunk size len l)), h)
          | none => none
        else none
      | _ => none
    | _ => none
  | .makeSlice t l c => match tinfo P t, ρ l, ρ c with
    | some ⟨.slice e, _, _, _⟩, some (.p (.int _ n)), some (.p (.int _ m)) =>
      match tinfo P e with
      | some ⟨_, size, bytes, some z⟩ =>
        if 0 ≤ n ∧ n = m ∧ n ≤ 16777216 ∧ bytes ≤ 1048576 ∧ z.length = size ∧ size ≠ 0 then
          if n = 0 then some (.p (.sl []), h) else some (.ref h.length 0 0 size n.toNat, h ++ [some ⟨0, (List.replicate n.toNat (z.map .p)).flatMap id⟩])
        else none
      | _ => none
    | _, _, _ => none
  | .load t a => (ρ a).bind fun x => (loadA P h t x).map (·, h)
  | .store t a x => match ρ a, ρ x with
    | some a, some x => (storeA P h t a x).map (AV.undef, ·)
    | _, _ => none
  | .nilCheck x => match ρ x with
    | some (.ptr b g off) => if (blkAt h b g).isSome then some (.ptr b g off, h) else none
    | some (.pin cells) => some (.pin cells, h)
    | _ => none
  | .binOp op t x y _ => match ρ x, ρ y with
    | some x, some y => (binA P op t x y).map (·, h)
    | _, _ => none
  | .unOp op _ x => (ρ x).bind fun x => (unA op x).map (·, h)
  | .convert src dst x => match tinfo P src, tinfo P dst, ρ x with
    | some ⟨.int k, _, _, _⟩, some ⟨.int k', _, _, _⟩, some (.p (.int k'' n)) => if k = k' ∧ k'' = k then some (.p (.int k n), h) else some (.p (.int k' (k'.wrap n)), h)
    | _, _, _ => none
  | .makeFunc (.func f) first captured => if first.size = 0 then (evals ρ captured.toList).map fun vs => (.fn f vs, h) else none
  | .slice t x lo hi mx => match mx, ρ x with
    | none, some x => (sliceA P h t x (lo.map ρ) (hi.map ρ)).map (·, h)
    | _, _ => none
  | .fieldAddr t x f => (ρ x).bind fun x => (fieldAddrA P h t x f).map (·, h)
  | .field t x f => (ρ x).bind fun x => (fieldA P t x f).map (·, h)
  | .indexAddr t x ix => match ρ x, ρ ix with
    | some x, some ix => (indexAddrA P h t x ix).map (·, h)
    | _, _ => none
  | .index t x ix => match ρ x, ρ ix with
    | some x, some ix => (indexA P t x ix).map (·, h)
    | _, _ => none
  | .extract t i => match ρ t with
    | some (.tup vs) => (vs[i]?).map (·, h)
    | _ => none
  | .call c => match c.callee with
    | .builtin b => (evals ρ c.args.toList).bind fun xs => builtinA P b c.argTypes.toList xs h
    | _ => none
  | _ => none

structure SimH (P : Program) (G : Nat → Option (List PV)) (ι : Nat → Nat × Nat) (h : Heap) (w : World) : Prop where
  hr : HRel ι h w
  gr : ∀ g cells, G g = some cells → PinRel w (own ι h) cells g 0

def VRels (ι : Nat → Nat × Nat) (h : Heap) (w : World) (xs : List AV) (vs : Array Value) : Prop :=
  xs.length = vs.size ∧ ∀ (i : Nat) x v, xs[i]? = some x → vs[i]? = some v → VRel ι h w x v

/-- A call, as seen by whoever knows abstract heaps. -/
def ACalls (P : Program) (G : Nat → Option (List PV)) (f : FuncId) (args : List AV) (h : Heap) (K : AV → Heap → Prop) : Prop :=
  ∀ ι w vs, SimH P G ι h w → VRels ι h w args vs → Calls P f vs w fun e w' => ∃ v r h' ι', e = .returned v ∧ K r h' ∧ SimH P G ι' h' w' ∧ VRel ι' h' w' r v ∧ Evo h.length ι h w ι' h' w'

/-- The functions that can be entered. -/
def Enters (P : Program) (f : FuncId) : Prop := ∃ fn c, P.funcs[f]? = some fn ∧ fn.body = some c ∧ (fn.name == "runtime.NumGoroutine") = false

/-- The function and the arguments of a call of a function. -/
def callOf (o : Oper) : Option (Operand × Array Operand) :=
  match o.op with
  | .call ⟨.value f, args, _⟩ => some (f, args)
  | _ => none

section
variable (P : Program) (G : Nat → Option (List PV)) (rl : List String)

def aexec (o : Oper) (K : St → Prop) (s : St) : Prop :=
  match callOf o with
  | some (f, args) =>
    match evalA G s f, evals (evalA G s) args.toList with
    | some (.fn g caps), some xs => Enters P g ∧ ACalls P G g (xs ++ caps) s.heap fun r h' => K ({ s with heap := h' }.put o.dst r)
    | _, _ => False
  | none =>
    match opA P rl o (evalA G s) s.heap with
    | some (r, h') => K ({ s with heap := h' }.put o.dst r)
    | none => False

def guardA (ops : Array Oper) (s : St) (j : Nat) : Option AV := ((ops[j]?).bind (·.dst)).bind s.fr

/-- Is it carried out? -/
def wantA (ops : Array Oper) (o : Oper) (s : St) : Option Bool :=
  match o.guard with
  | none => some true
  | some (j, want) =>
    match guardA ops s j with
    | some (.p (.bool g)) => some (g == want)
    | some (.tup []) => some false
    | _ => none

def aop (ops : Array Oper) (o : Oper) (K : St → Prop) (s : St) : Prop :=
  match wantA ops o s with
  | some b => (b = true → aexec P G rl o K s) ∧ (b = false → K (s.put o.dst .undef))
  | none => False

def aops (ops : Array Oper) (K : St → Prop) : List Oper → St → Prop
  | [], s => K s
  | o :: rest, s => aop P G rl ops o (aops ops K rest) s

/-- An operation that leaves the abstract heap alone, and has one answer. -/
def aquiet (o : Oper) (K : St → Prop) (s : St) : Prop :=
  match callOf o with
  | some (f, args) =>
    match evalA G s f, evals (evalA G s) args.toList with
    | some (.fn g caps), some xs => Enters P g ∧ ∃ r, ACalls P G g (xs ++ caps) s.heap (fun r' h' => r' = r ∧ h' = s.heap) ∧ K (s.put o.dst r)
    | _, _ => False
  | none =>
    match opA P rl o (evalA G s) s.heap with
    | some (r, h') => h' = s.heap ∧ K (s.put o.dst r)
    | none => False

def aqop (ops : Array Oper) (o : Oper) (K : St → Prop) (s : St) : Prop :=
  match wantA ops o s with
  | some b => (b = true → aquiet P G rl o K s) ∧ (b = false → K (s.put o.dst .undef))
  | none => False

def aqops (ops : Array Oper) (K : St → Prop) : List Oper → St → Prop
  | [], s => K s
  | o :: rest, s => aqop P G rl ops o (aqops ops K rest) s

end
end Go.Proofs.YtlophgkgmhcagaaDoor.AM
