/- The abstract machine, part M: what is handed back lasts; calls. -/
import Derived.Test.YtlophgkgmhcagaaDoorAmL
set_option linter.unusedVariables false
set_option linter.unusedSimpArgs false
namespace Go.Proofs.YtlophgkgmhcagaaDoor.AM
open Go

mutual
/-- A value that lasts, out of blocks from number n on (which nobody will write any more). -/
def pur (h : Heap) (n : Nat) : Nat → AV → Option PV
  | _, .p .nils => some (.sl [])
  | _, .p x => some x
  | fuel + 1, .ref b g off sz len =>
    if len = 0 then some (.sl []) else
    match blkAt h b g with
    | some cells => if n ≤ b ∧ off + len * sz ≤ cells.length then (purs h n fuel ((cells.drop off).take (len * sz))).map fun l => .sl (chunk sz len l) else none
    | none => none
  | _, _ => none
def purs (h : Heap) (n : Nat) : Nat → List AV → Option (List PV)
  | _, [] => some []
  | fuel, x :: r => match pur h n fuel x, purs h n fuel r with
    | some y, some ys => some (y :: ys)
    | _, _ => none
end

def lastA (h : Heap) (n : Nat) : AV → Option AV
  | .agg cells => (purs h n 5 cells).map fun l => .agg (l.map .p)
  | .ptr b g off => if b < n then some (.ptr b g off) else none
  | x => (pur h n 5 x).map .p

def lastAs (h : Heap) (n : Nat) : List AV → Option (List AV)
  | [] => some []
  | x :: r => match lastA h n x, lastAs h n r with
    | some y, some ys => some (y :: ys)
    | _, _ => none

def lastV (h : Heap) (n : Nat) : AV → Option AV
  | .tup vs => (lastAs h n vs).map .tup
  | x => lastA h n x

/-- Known by whoever knows the first n blocks. -/
inductive AVlt (n : Nat) : AV → Prop where
  | p (x : PV) : AVlt n (.p x)
  | agg (cells : List AV) (h : ∀ x ∈ cells, AVlt n x) : AVlt n (.agg cells)
  | tup (cells : List AV) (h : ∀ x ∈ cells, AVlt n x) : AVlt n (.tup cells)
  | fn (f : FuncId) (cells : List AV) (h : ∀ x ∈ cells, AVlt n x) : AVlt n (.fn f cells)
  | ref (b g off sz len : Nat) (h : b < n) : AVlt n (.ref b g off sz len)
  | ptr (b g off : Nat) (h : b < n) : AVlt n (.ptr b g off)
  | pin (cells : List PV) : AVlt n (.pin cells)

section
variable {P : Program} {G : Nat → Option (List PV)} {rl : List String} {ι ι' ι0 : Nat → Nat × Nat} {h h' h0 h1 : Heap} {w w' w0 : World} {n n0 : Nat} {s : St} {a : Act}

theorem take_get {α : Type} {l : List α} {n b : Nat} {x : α} (hx : (l.take n)[b]? = some x) : b < n ∧ l[b]? = some x := by
  rw [List.getElem?_take] at hx
  split at hx
  · exact ⟨by assumption, hx⟩
  · cases hx

theorem own_take {k : Nat} (ho : own ι (h.take n) k) : own ι h k := by
  obtain ⟨b, bk, h1, h2, h3⟩ := ho
  exact ⟨b, bk, (take_get h1).2, h2, h3⟩

theorem VRel.lt {x : AV} {v : Value} (hx : VRel ι h w x v) : AVlt h.length x := by
  induction hx with
  | p x v hx => exact .p x
  | agg cells vs hl hv ih =>
    refine .agg _ fun x hx => ?_
    obtain ⟨i, hi, rfl⟩ := List.getElem_of_mem hx
    exact ih i cells[i] (vs[i]'(by omega)) (by simp) (by simp)
  | tup cells vs hl hv ih =>
    refine .tup _ fun x hx => ?_
    obtain ⟨i, hi, rfl⟩ := List.getElem_of_mem hx
    exact ih i cells[i] (vs[i]'(by omega)) (by simp) (by simp)
  | fn f cells vs hl hv ih =>
    refine .fn _ _ fun x hx => ?_
    obtain ⟨i, hi, rfl⟩ := List.getElem_of_mem hx
    exact ih i cells[i] (vs[i]'(by omega)) (by simp) (by simp)
  | ref b g off sz len A c hn hb hg hv => exact .ref _ _ _ _ _ hb
  | ptr b g off A hb hg hv => exact .ptr _ _ _ hb
  | pin cells blk off hv => exact .pin _

theorem VRel.take {x : AV} {v : Value} (hx : VRel ι h w x v) (hn : n ≤ h.length) (hl : AVlt n x) : VRel ι (h.take n) w x v := by
  have hlen : (h.take n).length = n := by simp; omega
  induction hx with
  | p x v hx => exact .p _ _ (hx.mono (Nat.le_refl _) fun k _ ho => ⟨rfl, fun e => ho (own_take e)⟩)
  | agg cells vs hl' hv ih => cases hl with | agg _ hc => exact .agg _ _ hl' fun i x v hx hv' => ih i x v hx hv' (hc x (List.mem_of_getElem? hx))
  | tup cells vs hl' hv ih => cases hl with | tup _ hc => exact .tup _ _ hl' fun i x v hx hv' => ih i x v hx hv' (hc x (List.mem_of_getElem? hx))
  | fn f cells vs hl' hv ih => cases hl with | fn _ _ hc => exact .fn _ _ _ hl' fun i x v hx hv' => ih i x v hx hv' (hc x (List.mem_of_getElem? hx))
  | ref b g off sz len A c hn' hb hg hv =>
    cases hl with
    | ref _ _ _ _ _ hb' =>
      refine .ref _ _ _ _ _ _ _ hn' (by omega) (fun bk hq => hg bk (take_get hq).2) fun ⟨bk, hq, e⟩ => ?_
      rcases hv ⟨bk, (take_get hq).2, e⟩ with hz | ⟨hA, hle, ⟨bk0, q0, hne⟩, hcs⟩
      · exact .inl hz
      · exact .inr ⟨hA, hle, ⟨bk0, by rw [List.getElem?_take, if_pos hb']; exact q0, hne⟩, hcs⟩
  | ptr b g off A hb hg hv =>
    cases hl with
    | ptr _ _ _ hb' => exact .ptr _ _ _ _ (by omega) (fun bk hq => hg bk (take_get hq).2) fun ⟨bk, hq, e⟩ => hv ⟨bk, (take_get hq).2, e⟩
  | pin cells blk off hv => exact .pin _ _ _ (hv.mono (Nat.le_refl _) fun k _ ho => ⟨rfl, fun e => ho (own_take e)⟩)

/-- Blocks from n on are let go. -/
theorem SimH.take (hS : SimH P G ι h w) (hn : n ≤ h.length) (hlt : ∀ (b : Nat) (bk : Blk), (h.take n)[b]? = some (some bk) → ∀ x ∈ bk.cells, AVlt n x) : SimH P G ι (h.take n) w := by
  refine ⟨⟨fun b bk hb hne => ?_, fun b b' bk bk' q1 q2 n1 n2 e => hS.hr.inj b b' bk bk' (take_get q1).2 (take_get q2).2 n1 n2 e⟩, fun g cells hg => (hS.gr g cells hg).mono (Nat.le_refl _) fun k _ ho => ⟨rfl, fun e => ho (own_take e)⟩⟩
  obtain ⟨c, ty, hc, hl, hv⟩ := hS.hr.blk b bk (take_get hb).2 hne
  refine ⟨c, ty, hc, hl, fun j x hx => ?_⟩
  obtain ⟨v, p1, p2⟩ := hv j x hx
  exact ⟨v, p1, p2.take hn (hlt b bk hb x (List.mem_of_getElem? hx))⟩

theorem Evo.take (he : Evo n ι0 h0 w0 ι h w) (hn : n ≤ n0) : Evo n ι0 h0 w0 ι (h.take n0) w where
  size := he.size
  keep := fun k hk ho => ⟨(he.keep k hk ho).1, fun e => (he.keep k hk ho).2 (own_take e)⟩
  len := by have := he.len; simp; omega
  gens := fun b bk' hb hq => he.gens b bk' hb (take_get hq).2
  os := he.os
  output := he.output
  tape := he.tape

theorem pur_step {fuel : Nat} {x : AV} {y : PV} (hx : pur h n fuel x = some y) : (∃ z, x = .p z ∧ (z = .nils ∧ y = .sl [] ∨ y = z)) ∨
    ∃ b g off sz len fuel', x = .ref b g off sz len ∧ fuel = fuel' + 1 ∧ ((len = 0 ∧ y = .sl []) ∨ ∃ cells l, len ≠ 0 ∧ blkAt h b g = some cells ∧ n ≤ b ∧ off + len * sz ≤ cells.length ∧ purs h n fuel' ((cells.drop off).take (len * sz)) = some l ∧ y = .sl (chunk sz len l)) := by
  cases x with
  | p z => 
    cases z <;> cases fuel <;> simp only [pur, Option.some.injEq] at hx <;> subst hx <;> exact .inl ⟨_, rfl, by simp⟩
  | ref b g off sz len =>
    cases fuel with
    | zero => simp [pur] at hx
    | succ fuel =>
      simp only [pur] at hx
      refine .inr ⟨b, g, off, sz, len, fuel, rfl, rfl, ?_⟩
      split at hx
      · rename_i hz; cases hx; exact .inl ⟨hz, rfl⟩
      · rename_i hz
        split at hx
        · rename_i cells hb
          split at hx
          · rename_i hc
            obtain ⟨l, hl, rfl⟩ := Option.map_eq_some_iff.mp hx
            exact .inr ⟨cells, l, hz, hb, hc.1, hc.2, hl, rfl⟩
          · cases hx
        · cases hx
  | agg => cases fuel <;> simp [pur] at hx
  | ptr => cases fuel <;> simp [pur] at hx
  | pin => cases fuel <;> simp [pur] at hx
  | fn => cases fuel <;> simp [pur] at hx
  | tup => cases fuel <;> simp [pur] at hx

theorem purs_get : ∀ {fuel : Nat} {l : List AV} {ys : List PV}, purs h n fuel l = some ys → ys.length = l.length ∧ ∀ (i : Nat) x y, l[i]? = some x → ys[i]? = some y → pur h n fuel x = some y
  | fuel, [], ys, hq => by simp only [purs, Option.some.injEq] at hq; subst hq; simp
  | fuel, x :: r, ys, hq => by
    simp only [purs] at hq
    split at hq
    · rename_i y ys' h1 h2
      cases hq
      obtain ⟨l1, l2⟩ := purs_get h2
      refine ⟨by simp [l1], fun i u v hu hv => ?_⟩
      cases i with
      | zero => simp at hu hv; rw [← hu, ← hv]; exact h1
      | succ i => simp at hu hv; exact l2 i u v hu hv
    · cases hq

theorem pur_sound (hS : SimH P G ι h w) : ∀ (fuel : Nat) (x : AV) (y : PV) (v : Value), pur h n fuel x = some y → VRel ι h w x v → PRel w (own ι (h.take n)) y v := by
  intro fuel
  induction fuel with
  | zero =>
    intro x y v hp hx
    rcases pur_step hp with ⟨z, rfl, ⟨rfl, rfl⟩ | rfl⟩ | ⟨b, g, off, sz, len, fuel', _, hf, _⟩
    · have := hx.nils_inv; subst this; exact .slz _ _
    · exact hx.pv.mono (Nat.le_refl _) fun k _ ho => ⟨rfl, fun e => ho (own_take e)⟩
    · omega
  | succ fuel ih =>
    intro x y v hp hx
    rcases pur_step hp with ⟨z, rfl, ⟨rfl, rfl⟩ | rfl⟩ | ⟨b, g, off, sz, len, fuel', rfl, hf, ⟨rfl, rfl⟩ | ⟨cells, l, hz, hb, hnb, hle, hl, rfl⟩⟩
    · have := hx.nils_inv; subst this; exact .slz _ _
    · exact hx.pv.mono (Nat.le_refl _) fun k _ ho => ⟨rfl, fun e => ho (own_take e)⟩
    · cases hx with
      | ref _ _ _ _ _ A c hn' hb hg hv => exact .slz _ _
    · have : fuel' = fuel := by omega
      subst this
      obtain ⟨A, c, rfl, hn', hcase⟩ := hx.ref_inv (blkAt_live hb)
      rcases hcase with ⟨h0, _⟩ | ⟨rfl, hlc, ⟨bk, hbk, hne⟩, cs, ty, fr, hcs, hcap⟩
      · exact absurd h0 hz
      · obtain ⟨l1, l2⟩ := purs_get hl
        have hbk' := blkAt_some hb
        rw [hbk'] at hbk; cases hbk
        refine prel_chunk l sz len c _ _ (by rw [l1, List.length_take, List.length_drop]; omega) hlc hn' ?_ (lt_of_heap hcs) fun j y hy => ?_
        · rintro ⟨b', bk', q1, q2, q3⟩
          obtain ⟨q4, q5⟩ := take_get q1
          have := hS.hr.inj b' b bk' _ q5 hbk' q2 hne q3
          omega
        · have hj := getElem?_lt hy
          have hj' : j < ((cells.drop off).take (len * sz)).length := by omega
          obtain ⟨u, hu1, hu2⟩ := ((place_of_blk hS hb).drop off) j _ (by
            have h1 : ((cells.drop off).take (len * sz))[j]? = some (((cells.drop off).take (len * sz))[j]) := List.getElem?_eq_getElem hj'
            rw [List.getElem?_take] at h1
            split at h1
            · exact h1
            · cases h1)
          exact ⟨u, hu1, ih _ y u (l2 j _ y (List.getElem?_eq_getElem hj') hy) hu2⟩

theorem lastA_sound (hS : SimH P G ι h w) (hn : n ≤ h.length) {x y : AV} {v : Value} (hp : lastA h n x = some y) (hx : VRel ι h w x v) : VRel ι (h.take n) w y v := by
  unfold lastA at hp
  split at hp
  · rename_i cells
    obtain ⟨l, hl, rfl⟩ := Option.map_eq_some_iff.mp hp
    obtain ⟨l1, l2⟩ := purs_get hl
    obtain ⟨vs, rfl, e1, e2⟩ := hx.agg_inv
    refine .agg _ _ (by simp; omega) fun i x v hx hv => ?_
    simp only [List.getElem?_map, Option.map_eq_some_iff] at hx
    obtain ⟨z, hz, rfl⟩ := hx
    have hi : i < cells.length := by have := getElem?_lt hz; omega
    exact .p _ _ (pur_sound hS 5 _ z v (l2 i cells[i] z (List.getElem?_eq_getElem hi) hz) (e2 i cells[i] v (List.getElem?_eq_getElem hi) hv))
  · rename_i b g off
    split at hp
    · rename_i hb
      cases hp
      exact hx.take hn (.ptr _ _ _ hb)
    · cases hp
  · obtain ⟨z, hz, rfl⟩ := Option.map_eq_some_iff.mp hp
    exact .p _ _ (pur_sound hS 5 _ z v hz hx)

theorem lastAs_get : ∀ {l : List AV} {ys : List AV}, lastAs h n l = some ys → ys.length = l.length ∧ ∀ (i : Nat) x y, l[i]? = some x → ys[i]? = some y → lastA h n x = some y
  | [], ys, hq => by cases hq; simp
  | x :: r, ys, hq => by
    simp only [lastAs] at hq
    split at hq
    · rename_i y ys' h1 h2
      cases hq
      obtain ⟨l1, l2⟩ := lastAs_get h2
      refine ⟨by simp [l1], fun i u v hu hv => ?_⟩
      cases i with
      | zero => simp at hu hv; rw [← hu, ← hv]; exact h1
      | succ i => simp at hu hv; exact l2 i u v hu hv
    · cases hq

theorem lastV_sound (hS : SimH P G ι h w) (hn : n ≤ h.length) {x y : AV} {v : Value} (hp : lastV h n x = some y) (hx : VRel ι h w x v) : VRel ι (h.take n) w y v := by
  unfold lastV at hp
  split at hp
  · rename_i cells
    obtain ⟨l, hl, rfl⟩ := Option.map_eq_some_iff.mp hp
    obtain ⟨l1, l2⟩ := lastAs_get hl
    cases hx with
    | tup _ vs e1 e2 =>
      refine .tup _ _ (by omega) fun i x v hx hv => ?_
      have hi : i < cells.length := by have := getElem?_lt hx; omega
      exact lastA_sound hS hn (l2 i cells[i] x (List.getElem?_eq_getElem hi) hx) (e2 i cells[i] v (List.getElem?_eq_getElem hi) hv)
  · exact lastA_sound hS hn hp hx

/-- The state in which a function begins. -/
def entry (args : List AV) (nt : Nat) (h : Heap) : St := ⟨fun k => args[k]?, nt, h⟩

/-- What is asked of the end of a function: the first n blocks are kept. -/
def Fin (P : Program) (rs : List ResultVar) (n : Nat) (h : Heap) (K : AV → Heap → Prop) (s : St) : Prop :=
  h.length ≤ n ∧ n ≤ s.heap.length ∧ ∃ r r', resA P s rs = some r ∧ lastV s.heap n r = some r' ∧
    (∀ (b : Nat) (bk : Blk), (s.heap.take n)[b]? = some (some bk) → h[b]? = some (some bk) ∨ ∀ x ∈ bk.cells, AVlt n x) ∧ K r' (s.heap.take n)

theorem AVlt.mono {x : AV} {m : Nat} (hx : AVlt n x) (hm : n ≤ m) : AVlt m x := by
  induction hx with
  | p x => exact .p x
  | agg cells h ih => exact .agg _ ih
  | tup cells h ih => exact .tup _ ih
  | fn f cells h ih => exact .fn _ _ ih
  | ref b g off sz len h => exact .ref _ _ _ _ _ (by omega)
  | ptr b g off h => exact .ptr _ _ _ (by omega)
  | pin cells => exact .pin _

theorem heap_lt (hS : SimH P G ι h w) {b : Nat} {bk : Blk} (hb : h[b]? = some (some bk)) : ∀ x ∈ bk.cells, AVlt h.length x := by
  intro x hx
  have hne : bk.cells ≠ [] := List.ne_nil_of_mem hx
  obtain ⟨c, ty, _, _, hv⟩ := hS.hr.blk b bk hb hne
  obtain ⟨i, hi, rfl⟩ := List.getElem_of_mem hx
  obtain ⟨v, _, p2⟩ := hv i _ (List.getElem?_eq_getElem hi)
  exact p2.lt

theorem acalls_intro (hm : P.follows .mixedOrders = true) {f : FuncId} {fn : Func} {c : Code} (hf : P.funcs[f]? = some fn) (hb : fn.body = some c) {args : List AV} {K : AV → Heap → Prop}
    (hnt : args.length ≤ fn.ntmps) (n : Nat)
    (H : awp P G rl h c (fun e s => (e = .normal ∨ e = .ret) ∧ Fin P fn.results.toList n h K s) (entry args fn.ntmps h)) : ACalls P G f args h K := by
  intro ι w vs hS hv
  refine calls_of_wp hf hb ?_
  have hs : Sim P G ι (entry args fn.ntmps h) { tmps := vs ++ Array.replicate (fn.ntmps - vs.size) undef, defers := [] } w := by
    refine ⟨hS, fun k x hx => ?_, ?_, rfl⟩
    · have hk : k < args.length := getElem?_lt hx
      have hk' : k < vs.size := by rw [← hv.1]; exact hk
      exact ⟨vs[k], by rw [Array.getElem?_append_left hk']; simp, hv.2 k x _ hx (by simp)⟩
    · have := hv.1
      simp [entry]; omega
  refine wp_mono (awp_sound hm hS c _ _ ι _ w hs (.refl (Nat.le_refl h.length)) H) fun e a w' ⟨s', ι', ⟨he, hn1, hn2, r, r', hr, hl, hlt, hk⟩, hs', hev⟩ => ?_
  obtain ⟨v, hrun, hrv⟩ := resA_sound hs' hr
  have hpost : a.defers = [] ∧ ∃ v, (results fn a.tmps).run P w' = .ok v w' ∧ ∃ v1 r h' ι', Ending.returned v = .returned v1 ∧ K r h' ∧ SimH P G ι' h' w' ∧ VRel ι' h' w' r v1 ∧ Evo h.length ι h w ι' h' w' := by
    refine ⟨hs'.df, v, hrun, v, r', s'.heap.take n, ι', rfl, hk, hs'.hS.take hn2 (fun b bk hb x hx => ?_), lastV_sound hs'.hS hn2 hl hrv, hev.take hn1⟩
    rcases hlt b bk hb with hq | hq
    · exact (heap_lt hS hq x hx).mono hn1
    · exact hq x hx
  rcases he with rfl | rfl <;> exact hpost

theorem ACalls.mono {f : FuncId} {args : List AV} {K K' : AV → Heap → Prop} (hc : ACalls P G f args h K) (hk : ∀ r h', K r h' → K' r h') : ACalls P G f args h K' :=
  fun ι w vs hS hv => (hc ι w vs hS hv).mono fun e w' ⟨v, r, h', ι', e1, e2, e3⟩ => ⟨v, r, h', ι', e1, hk _ _ e2, e3⟩

/-! ### Ghost steps -/

theorem Ghost.refl : Ghost P G h0 s s := fun ι a w ι0 w0 _ hs he => ⟨ι, hs, he⟩

theorem Ghost.trans {s' s'' : St} (h1 : Ghost P G h0 s s') (h2 : Ghost P G h0 s' s'') : Ghost P G h0 s s'' := fun ι a w ι0 w0 hS hs he =>
  let ⟨ι', hs', he'⟩ := h1 ι a w ι0 w0 hS hs he
  h2 ι' a w ι0 w0 hS hs' he'

/-- Slots are forgotten; the heap's end is let go. -/
theorem Ghost.le {s' : St} (hnt : s'.nt = s.nt) (m : Nat) (hm : h0.length ≤ m) (hm2 : m ≤ s.heap.length) (hh : s'.heap = s.heap.take m) (hf : ∀ k x, s'.fr k = some x → s.fr k = some x ∧ AVlt m x)
    (hb : ∀ (b : Nat) (bk : Blk), (s.heap.take m)[b]? = some (some bk) → h0[b]? = some (some bk) ∨ ∀ x ∈ bk.cells, AVlt m x) : Ghost P G h0 s s' := by
  intro ι a w ι0 w0 hS hs he
  refine ⟨ι, ⟨?_, fun k x hx => ?_, by rw [hnt]; exact hs.nt, hs.df⟩, ?_⟩
  · rw [hh]
    refine hs.hS.take hm2 fun b bk hq x hx => ?_
    rcases hb b bk hq with h1 | h1
    · exact (heap_lt hS h1 x hx).mono hm
    · exact h1 x hx
  · obtain ⟨h1, h2⟩ := hf k x hx
    obtain ⟨v, p1, p2⟩ := hs.fr k x h1
    exact ⟨v, p1, by rw [hh]; exact p2.take hm2 h2⟩
  · rw [hh]; exact he.take hm

/-- Slots are forgotten. -/
theorem Ghost.forget {s' : St} (hnt : s'.nt = s.nt) (hh : s'.heap = s.heap) (hf : ∀ k x, s'.fr k = some x → s.fr k = some x) : Ghost P G h0 s s' :=
  fun ι a w ι0 w0 hS hs he => ⟨ι, ⟨by rw [hh]; exact hs.hS, fun k x hx => by rw [hh]; exact hs.fr k x (hf k x hx), by rw [hnt]; exact hs.nt, hs.df⟩, by rw [hh]; exact he⟩

theorem liveAt_app {b g : Nat} {bk : Option Blk} (hb : b < h.length) : liveAt (h ++ [bk]) b g ↔ liveAt h b g := by
  unfold liveAt; rw [List.getElem?_append_left hb]

theorem own_virt {k : Nat} {g : Nat} : own ι (h ++ [some ⟨g, []⟩]) k ↔ own ι h k := by
  constructor
  · rintro ⟨b, bk, h1, h2, h3⟩
    rcases Nat.lt_or_ge b h.length with hl | hl
    · rw [List.getElem?_append_left hl] at h1; exact ⟨b, bk, h1, h2, h3⟩
    · rw [List.getElem?_append_right hl] at h1
      cases hq : b - h.length with
      | zero => rw [hq] at h1; simp at h1; subst h1; exact absurd rfl h2
      | succ i => rw [hq] at h1; simp at h1
  · rintro ⟨b, bk, h1, h2, h3⟩
    exact ⟨b, bk, by rw [List.getElem?_append_left (getElem?_lt h1)]; exact h1, h2, h3⟩

theorem VRel.virt {x : AV} {v : Value} {g : Nat} (hx : VRel ι h w x v) : VRel ι (h ++ [some ⟨g, []⟩]) w x v := by
  induction hx with
  | p x v hx => exact .p _ _ (hx.mono (Nat.le_refl _) fun k _ ho => ⟨rfl, fun e => ho (own_virt.mp e)⟩)
  | agg cells vs hl hv ih => exact .agg _ _ hl ih
  | tup cells vs hl hv ih => exact .tup _ _ hl ih
  | fn f cells vs hl hv ih => exact .fn _ _ _ hl ih
  | ref b g off sz len A c hn hb hg hv =>
    refine .ref _ _ _ _ _ _ _ hn (by simp; omega) (fun bk hq => hg bk (by rwa [List.getElem?_append_left hb] at hq)) fun hl => ?_
    rcases hv ((liveAt_app hb).mp hl) with hz | ⟨hA, hle, ⟨bk0, q0, hne⟩, hcs⟩
    · exact .inl hz
    · exact .inr ⟨hA, hle, ⟨bk0, by rw [List.getElem?_append_left hb]; exact q0, hne⟩, hcs⟩
  | ptr b g off A hb hg hv => exact .ptr _ _ _ _ (by simp; omega) (fun bk hq => hg bk (by rwa [List.getElem?_append_left hb] at hq)) fun hl => hv ((liveAt_app hb).mp hl)
  | pin cells blk off hv => exact .pin _ _ _ (hv.mono (Nat.le_refl _) fun k _ ho => ⟨rfl, fun e => ho (own_virt.mp e)⟩)

/-- A nil slice is told as a block of ours that is still empty. -/
theorem Ghost.adopt (k sz : Nat) (hk : s.fr k = some (.p .nils)) : Ghost P G h0 s { s with fr := upd s.fr k (.ref s.heap.length 0 0 sz 0), heap := s.heap ++ [some ⟨0, []⟩] } := by
  intro ι a w ι0 w0 hS hs he
  refine ⟨ι, ⟨⟨⟨fun b bk hb hne => ?_, fun b b' bk bk' q1 q2 n1 n2 e => ?_⟩, fun g cells hg => (hs.hS.gr g cells hg).mono (Nat.le_refl _) fun k _ ho => ⟨rfl, fun e => ho (own_virt.mp e)⟩⟩, fun j x hx => ?_, hs.nt, hs.df⟩, ?_⟩
  · have hl : b < s.heap.length := by
      rcases Nat.lt_or_ge b s.heap.length with hl | hl
      · exact hl
      · rw [List.getElem?_append_right hl] at hb
        cases hq : b - s.heap.length with
        | zero => rw [hq] at hb; simp at hb; subst hb; exact absurd rfl hne
        | succ i => rw [hq] at hb; simp at hb
    rw [List.getElem?_append_left hl] at hb
    obtain ⟨c, ty, hc, hlc, hv⟩ := hs.hS.hr.blk b bk hb hne
    exact ⟨c, ty, hc, hlc, fun j x hx => by obtain ⟨v, p1, p2⟩ := hv j x hx; exact ⟨v, p1, p2.virt⟩⟩
  · have hl : ∀ (b : Nat) (bk : Blk), (s.heap ++ [some ⟨0, []⟩])[b]? = some (some bk) → bk.cells ≠ [] → s.heap[b]? = some (some bk) := by
      intro b bk hb hne
      rcases Nat.lt_or_ge b s.heap.length with hl | hl
      · rwa [List.getElem?_append_left hl] at hb
      · rw [List.getElem?_append_right hl] at hb
        cases hq : b - s.heap.length with
        | zero => rw [hq] at hb; simp at hb; subst hb; exact absurd rfl hne
        | succ i => rw [hq] at hb; simp at hb
    exact hs.hS.hr.inj b b' bk bk' (hl b bk q1 n1) (hl b' bk' q2 n2) n1 n2 e
  · simp only [upd] at hx
    split at hx
    · rename_i hj; subst hj
      cases hx
      obtain ⟨v, p1, p2⟩ := hs.fr j _ hk
      have := p2.nils_inv; subst this
      exact ⟨_, p1, .ref _ _ _ _ _ _ _ (by omega) (by simp) (fun bk hq => Nat.zero_le _) fun _ => .inl ⟨rfl, rfl⟩⟩
    · obtain ⟨v, p1, p2⟩ := hs.fr j x hx
      exact ⟨v, p1, p2.virt⟩
  · refine ⟨he.size, fun j hj ho => ⟨(he.keep j hj ho).1, fun e => (he.keep j hj ho).2 (own_virt.mp e)⟩, by have := he.len; simp; omega, fun b bk' hb hq => ?_, he.os, he.output, he.tape⟩
    have hl : b < s.heap.length := Nat.lt_of_lt_of_le hb he.len
    rw [List.getElem?_append_left hl] at hq
    exact he.gens b bk' hb hq

/-- A block is laid by. -/
theorem Ghost.lay : Ghost P G h0 s ⟨s.fr, s.nt, s.heap ++ [some ⟨0, []⟩]⟩ := by
  intro ι a w ι0 w0 hS hs he
  have hlo : ∀ (b : Nat) (bk : Blk), (s.heap ++ [some ⟨0, []⟩])[b]? = some (some bk) → bk.cells ≠ [] → s.heap[b]? = some (some bk) := by
    intro b bk hb hne
    rcases Nat.lt_or_ge b s.heap.length with hl | hl
    · rwa [List.getElem?_append_left hl] at hb
    · rw [List.getElem?_append_right hl] at hb
      cases hq : b - s.heap.length with
      | zero => rw [hq] at hb; simp at hb; subst hb; exact absurd rfl hne
      | succ i => rw [hq] at hb; simp at hb
  refine ⟨ι, ⟨⟨⟨fun b bk hb hne => ?_, fun b b' bk bk' q1 q2 n1 n2 e => hs.hS.hr.inj b b' bk bk' (hlo b bk q1 n1) (hlo b' bk' q2 n2) n1 n2 e⟩,
    fun g cells hg => (hs.hS.gr g cells hg).mono (Nat.le_refl _) fun k _ ho => ⟨rfl, fun e => ho (own_virt.mp e)⟩⟩, fun j x hx => ?_, hs.nt, hs.df⟩, ?_⟩
  · obtain ⟨c, ty, hc, hlc, hv⟩ := hs.hS.hr.blk b bk (hlo b bk hb hne) hne
    exact ⟨c, ty, hc, hlc, fun j x hx => by obtain ⟨v, p1, p2⟩ := hv j x hx; exact ⟨v, p1, p2.virt⟩⟩
  · obtain ⟨v, p1, p2⟩ := hs.fr j x hx
    exact ⟨v, p1, p2.virt⟩
  · refine ⟨he.size, fun j hj ho => ⟨(he.keep j hj ho).1, fun e => (he.keep j hj ho).2 (own_virt.mp e)⟩, by have := he.len; simp; omega, fun b bk' hb hq => ?_, he.os, he.output, he.tape⟩
    have hl : b < s.heap.length := Nat.lt_of_lt_of_le hb he.len
    rw [List.getElem?_append_left hl] at hq
    exact he.gens b bk' hb hq

theorem Ghost.res : ∀ r : Nat, Ghost P G h0 s ⟨s.fr, s.nt, s.heap ++ List.replicate r (some ⟨0, []⟩)⟩
  | 0 => by simp only [List.replicate_zero, List.append_nil]; exact .refl
  | r + 1 => by
    refine (Ghost.res r).trans ?_
    rw [List.replicate_succ', ← List.append_assoc]
    exact Ghost.lay

/-! ### Control -/

theorem thenA_mono {K K' : St → Prop} {Q Q' : Exit → St → Prop} (hk : ∀ s, K s → K' s) (hq : ∀ e s, Q e s → Q' e s) : ∀ e s, thenA K Q e s → thenA K' Q' e s := by
  intro e s h
  cases e <;> first | exact hk _ h | exact hq _ _ h

theorem blockA_mono {id : Nat} {Q Q' : Exit → St → Prop} (hq : ∀ e s, Q e s → Q' e s) : ∀ e s, blockA id Q e s → blockA id Q' e s := by
  intro e s h
  cases e with
  | exit i =>
    simp only [blockA] at *
    split at h
    · rename_i hi; rw [if_pos hi]; exact hq _ _ h
    · rename_i hi; rw [if_neg hi]; exact hq _ _ h
  | _ => exact hq _ _ h

theorem aexec_mono {K K' : St → Prop} {o : Oper} (hk : ∀ s, K s → K' s) (h : aexec P G rl o K s) : aexec P G rl o K' s := by
  unfold aexec at *
  cases hc : callOf o with
  | some q =>
    obtain ⟨f, args⟩ := q
    simp only [hc] at h ⊢
    split at h
    · exact ⟨h.1, h.2.mono fun r h' hh => hk _ hh⟩
    · exact h
  | none =>
    simp only [hc] at h ⊢
    split at h
    · exact hk _ h
    · exact h

theorem aops_mono {K K' : St → Prop} {ops : Array Oper} (hk : ∀ s, K s → K' s) : ∀ (l : List Oper) (s : St), aops P G rl ops K l s → aops P G rl ops K' l s
  | [], s, h => hk _ h
  | o :: r, s, h => by
    simp only [aops, aop] at *
    split at h
    · exact ⟨fun e => aexec_mono (aops_mono hk r) (h.1 e), fun e => aops_mono hk r _ (h.2 e)⟩
    · exact h

theorem arunT_mono {K K' : St → Prop} {ops : Array Oper} (hk : ∀ s, K s → K' s) : ∀ (l : List Nat) (s : St), arunT P G rl ops K l s → arunT P G rl ops K' l s
  | [], s, h => hk s h
  | k :: rest, s, h => by
    unfold arunT at *
    split at h
    · exact h.elim
    · rename_i o ho
      (try simp only [ho])
      split at h
      · rename_i he; rw [if_pos he]; exact ⟨h.1, aopE_mono he (arunT_mono hk rest) h.2⟩
      · rename_i he; rw [if_neg he]; obtain ⟨hh, v, h1, h2⟩ := h; exact ⟨hh, v, h1, arunT_mono hk rest _ h2⟩

theorem arun_mono {K K' : St → Prop} {ops : Array Oper} {base r : Nat} (hk : ∀ s, K s → K' s) : ∀ (l : List Nat) (s : St), arun P G rl ops base r K l s → arun P G rl ops base r K' l s
  | [], s, h => hk s h
  | k :: rest, s, h => by
    unfold arun at *
    split at h
    · exact h.elim
    · rename_i o ho
      (try simp only [ho])
      split at h
      · rename_i ha; rw [if_pos ha]; obtain ⟨z, h1, h2, h3⟩ := h; exact ⟨z, h1, h2, arun_mono hk rest _ h3⟩
      · rename_i ha
        rw [if_neg ha]
        split at h
        · rename_i he; rw [if_pos he]; exact arunT_mono hk _ _ h
        · rename_i he
          rw [if_neg he]
          split at h
          · rename_i hh; rw [if_pos hh]; obtain ⟨v, h1, h2⟩ := h; exact ⟨v, h1, arun_mono hk rest _ h2⟩
          · rename_i hh; rw [if_neg hh]; obtain ⟨v, h1, h2⟩ := h; exact ⟨v, h1, arun_mono hk rest _ h2⟩

theorem aeops_mono {K K' : St → Prop} {ops : Array Oper} (hk : ∀ s, K s → K' s) : ∀ (l : List Oper) (s : St), aeops P G rl ops K l s → aeops P G rl ops K' l s
  | [], s, h => hk s h
  | o :: r, s, h => by
    unfold aeops at *
    split at h
    · rename_i he; rw [if_pos he]; exact aopE_mono he (aeops_mono hk r) h
    · rename_i he; rw [if_neg he]; obtain ⟨v, h1, h2⟩ := h; exact ⟨v, h1, aeops_mono hk r _ h2⟩

theorem aqops_mono {K K' : St → Prop} {ops : Array Oper} (hk : ∀ s, K s → K' s) : ∀ (l : List Oper) (s : St), aqops P G rl ops K l s → aqops P G rl ops K' l s
  | [], s, h => hk _ h
  | o :: r, s, h => by
    obtain ⟨v, h1, h2⟩ := aqop_iff.mp h
    exact aqop_iff.mpr ⟨v, h1, aqops_mono hk r _ h2⟩

theorem awp_mono : ∀ (c : Code) (Q Q' : Exit → St → Prop) (s : St), (∀ e s, Q e s → Q' e s) → awp P G rl h0 c Q s → awp P G rl h0 c Q' s := by
  intro c
  induction c with
  | skip => intro Q Q' s hq h; exact hq _ _ h
  | label l => intro Q Q' s hq h; exact hq _ _ h
  | region id ops draw =>
    intro Q Q' s hq h
    unfold awp at *
    cases draw with
    | true => exact h.imp (fun h => ⟨h.1, aqops_mono (fun s hh => hq _ _ hh) _ _ h.2⟩) (fun h => h.imp (fun h => ⟨h.1, aeops_mono (fun s hh => hq _ _ hh) _ _ h.2⟩) fun ⟨s1, base, r, ord, h1, h2, h3, hi, h4⟩ => ⟨s1, base, r, ord, h1, h2, h3, hi, arun_mono (fun s hh => hq _ _ hh) _ _ h4⟩)
    | false => exact aops_mono (fun s hh => hq _ _ hh) _ _ h
  | seq a b iha ihb =>
    intro Q Q' s hq ⟨J, h1, h2⟩
    exact ⟨J, iha _ _ s (thenA_mono (fun _ h => h) hq) h1, fun s1 hj => ihb _ _ s1 hq (h2 s1 hj)⟩
  | cond c x y ihx ihy =>
    intro Q Q' s hq h
    change condA (evalA G s c) (awp P G rl h0 x Q s) (awp P G rl h0 y Q s) at h
    change condA (evalA G s c) (awp P G rl h0 x Q' s) (awp P G rl h0 y Q' s)
    have h1 := ihx Q Q' s hq
    have h2 := ihy Q Q' s hq
    revert h
    generalize evalA G s c = v
    intro h
    unfold condA at *
    split at h
    · exact ⟨fun e => h1 (h.1 e), fun e => h2 (h.2 e)⟩
    · exact h.elim
  | block id c ih =>
    intro Q Q' s hq h
    exact ih _ _ s (blockA_mono hq) h
  | loop c ih =>
    intro Q Q' s hq ⟨I, h1, h2⟩
    exact ⟨I, h1, fun n s hi => ih _ _ s (thenA_mono (fun _ h => h) hq) (h2 n s hi)⟩
  | exit id => intro Q Q' s hq h; exact hq _ _ h
  | ret => intro Q Q' s hq h; exact hq _ _ h
  | _ => intro Q Q' s hq h; exact h

theorem awp_seq {x y : Code} {Q : Exit → St → Prop} (h : awp P G rl h0 x (thenA (fun s' => awp P G rl h0 y Q s') Q) s) : awp P G rl h0 (.seq x y) Q s :=
  ⟨awp P G rl h0 y Q, awp_mono _ _ _ _ (thenA_mono (fun s hh => ⟨s, .refl, hh⟩) fun _ _ hh => hh) h, fun _ h => h⟩

theorem awp_seq_k {x y : Code} {Q : Exit → St → Prop} (h : ∀ K : St → Prop, (∀ s, awp P G rl h0 y Q s → K s) → awp P G rl h0 x (thenA K Q) s) : awp P G rl h0 (.seq x y) Q s :=
  awp_seq (h _ fun _ h => h)

theorem awp_region {id : Nat} {ops : Array Oper} {Q : Exit → St → Prop} (h : aops P G rl ops (Q .normal) ops.toList s) : awp P G rl h0 (.region id ops false) Q s := h

theorem awp_draw {id : Nat} {ops : Array Oper} {Q : Exit → St → Prop} (hB : Region.lexB .any ops = true) (h : aqops P G rl ops (Q .normal) ops.toList s) : awp P G rl h0 (.region id ops true) Q s := .inl ⟨hB, h⟩

theorem upd_same (fr : Nat → Option AV) (d : Nat) (v : AV) : upd fr d v d = some v := by simp [upd]
theorem awp_drawR {id : Nat} {ops : Array Oper} {Q : Exit → St → Prop} {fr : Nat → Option AV} {nt : Nat} {hp : Heap} (ord : List Nat) (r : Nat) (hl : ord.length = ops.size) (hr : (zsB P ops).length = r) (hB : lexR .any ops ord (Array.replicate ops.size false) = true)
    (h : arun P G rl ops hp.length r (Q .normal) ord ⟨fr, nt, hp ++ List.replicate r (some ⟨0, []⟩)⟩) : awp P G rl h0 (.region id ops true) Q ⟨fr, nt, hp⟩ :=
  .inr (.inr ⟨_, hp.length, r, ord, Ghost.res (s := ⟨fr, nt, hp⟩) r, hl, hB, InvR.start hr, h⟩)
theorem arun_nil {ops : Array Oper} {base r : Nat} {K : St → Prop} (h : K s) : arun P G rl ops base r K [] s := h
theorem arunT_nil {ops : Array Oper} {K : St → Prop} (h : K s) : arunT P G rl ops K [] s := h
theorem arun_tail {ops : Array Oper} {base r k : Nat} {K0 : St → Prop} {o : Oper} {rest : List Nat} (ho : ops.toList[k]? = some o) (ha : allocB o = false) (he : effB o = true) (h : arunT P G rl ops K0 (k :: rest) s) : arun P G rl ops base r K0 (k :: rest) s := by
  have ho : ops[k]? = some o := by rw [← Array.getElem?_toList]; exact ho
  unfold arun; simp only [ho]; rw [if_neg (by rw [ha]; decide), if_pos he]; exact h
theorem arun_eff {ops : Array Oper} {k : Nat} {K0 : St → Prop} {o : Oper} {rest : List Nat} (ho : ops.toList[k]? = some o) (ha : allocB o = false) (he : effB o = true) (h : ∀ K : St → Prop, (∀ s, arunT P G rl ops K0 rest s → K s) → aop P G rl ops o K s) : arunT P G rl ops K0 (k :: rest) s := by
  have ho : ops[k]? = some o := by rw [← Array.getElem?_toList]; exact ho
  unfold arunT; simp only [ho]; rw [if_pos he]; exact ⟨ha, h _ fun _ h => h⟩
theorem arun_alloc {ops : Array Oper} {r k d nt : Nat} {K0 : St → Prop} {o : Oper} {rest : List Nat} {fr : Nat → Option AV} {hp R : Heap} {z : List PV} (ho : ops.toList[k]? = some o) (ha : allocB o = true) (hz : zeroB P o = some z) (hd : o.dst = some d) (hlt : d < nt)
    (hs : R[slotB ops k]? = some (some ⟨0, []⟩)) (h : arun P G rl ops hp.length r K0 rest ⟨upd fr d (.ptr (hp.length + slotB ops k) 1 0), nt, hp ++ R.set (slotB ops k) (some ⟨1, z.map .p⟩)⟩) : arun P G rl ops hp.length r K0 (k :: rest) ⟨fr, nt, hp ++ R⟩ := by
  have ho : ops[k]? = some o := by rw [← Array.getElem?_toList]; exact ho
  unfold arun
  simp only [ho]
  rw [if_pos ha]
  refine ⟨z, hz, by rw [List.getElem?_append_right (by omega)]; rw [show hp.length + slotB ops k - hp.length = slotB ops k by omega]; exact hs, ?_⟩
  rw [hd]
  simp only [St.put, St.setB, hlt, if_true]
  rw [List.set_append_right _ _ (by omega), show hp.length + slotB ops k - hp.length = slotB ops k by omega]
  exact h
theorem heapFree_not {o : Oper} (hf : heapFree o = true) : ¬ allocB o = true ∧ ¬ effB o = true := by
  constructor
  · unfold heapFree at hf; unfold allocB
    split at hf <;> simp_all
  · unfold heapFree at hf; unfold effB
    split at hf <;> simp_all
theorem free_stab {ops : Array Oper} {d nt : Nat} {o : Oper} {fr : Nat → Option AV} {H : Heap} {v : AV} (hf : heapFree o = true) (hd : o.dst = some d) (hlt : d < nt)
    (hv : ∀ (K : St → Prop), (∀ (fr' : Nat → Option AV) (nt' : Nat) (hp' : Heap), K ⟨upd fr' d v, nt', hp'⟩) → aqop P G rl ops o K ⟨fr, nt, H⟩) : StabF P G rl ops o v ⟨fr, nt, H⟩ := fun H' => by
  obtain ⟨u, hy, hk⟩ := aqop_iff.mp (hv (fun s' => s'.fr d = some v) (fun fr' _ _ => upd_same fr' d v))
  rw [hd] at hk
  simp only [St.put, hlt, if_true, upd] at hk
  cases hk
  exact YieldsA_free hf hy
theorem arunT_f {ops : Array Oper} {k d nt : Nat} {K0 : St → Prop} {o : Oper} {rest : List Nat} {fr : Nat → Option AV} {H : Heap} {v : AV} (ho : ops.toList[k]? = some o) (hf : heapFree o = true) (hd : o.dst = some d) (hlt : d < nt)
    (hv : ∀ (K : St → Prop), (∀ (fr' : Nat → Option AV) (nt' : Nat) (hp' : Heap), K ⟨upd fr' d v, nt', hp'⟩) → aqop P G rl ops o K ⟨fr, nt, H⟩) (h : arunT P G rl ops K0 rest ⟨upd fr d v, nt, H⟩) : arunT P G rl ops K0 (k :: rest) ⟨fr, nt, H⟩ := by
  have ho : ops[k]? = some o := by rw [← Array.getElem?_toList]; exact ho
  unfold arunT
  simp only [ho]
  rw [if_neg (heapFree_not hf).2]
  refine ⟨hf, v, free_stab hf hd hlt hv, ?_⟩
  rw [hd]; simp only [St.put, hlt, if_true]; exact h
theorem arun_f {ops : Array Oper} {base r k d nt : Nat} {K0 : St → Prop} {o : Oper} {rest : List Nat} {fr : Nat → Option AV} {H : Heap} {v : AV} (ho : ops.toList[k]? = some o) (hf : heapFree o = true) (hd : o.dst = some d) (hlt : d < nt)
    (hv : ∀ (K : St → Prop), (∀ (fr' : Nat → Option AV) (nt' : Nat) (hp' : Heap), K ⟨upd fr' d v, nt', hp'⟩) → aqop P G rl ops o K ⟨fr, nt, H⟩) (h : arun P G rl ops base r K0 rest ⟨upd fr d v, nt, H⟩) : arun P G rl ops base r K0 (k :: rest) ⟨fr, nt, H⟩ := by
  have ho : ops[k]? = some o := by rw [← Array.getElem?_toList]; exact ho
  unfold arun
  simp only [ho]
  rw [if_neg (heapFree_not hf).1, if_neg (heapFree_not hf).2, if_pos hf]
  refine ⟨v, free_stab hf hd hlt hv, ?_⟩
  rw [hd]; simp only [St.put, hlt, if_true]; exact h
theorem arun_allocj {ops : Array Oper} {r k d nt : Nat} {K0 : St → Prop} {o : Oper} {rest : List Nat} {fr : Nat → Option AV} {hp R : Heap} {z : List PV} (j : Nat) (hj : slotB ops k = j) (ho : ops.toList[k]? = some o) (ha : allocB o = true) (hd : o.dst = some d) (hlt : d < nt)
    (hs : R[j]? = some (some ⟨0, []⟩)) (hz : zeroB P o = some z) (h : arun P G rl ops hp.length r K0 rest ⟨upd fr d (.ptr (hp.length + j) 1 0), nt, hp ++ R.set j (some ⟨1, z.map .p⟩)⟩) : arun P G rl ops hp.length r K0 (k :: rest) ⟨fr, nt, hp ++ R⟩ := by
  subst hj; exact arun_alloc ho ha hz hd hlt hs h
theorem arun_q {ops : Array Oper} {r k d nt : Nat} {K0 : St → Prop} {o : Oper} {rest : List Nat} {fr : Nat → Option AV} {hp R : Heap} {v : AV} (ho : ops.toList[k]? = some o) (he : effB o = false) (hh : heapFree o = false) (hd : o.dst = some d) (hlt : d < nt)
    (hv : ∀ (R' : Heap) (K : St → Prop), (∀ (fr' : Nat → Option AV) (nt' : Nat) (hp' : Heap), K ⟨upd fr' d v, nt', hp'⟩) → aqop P G rl ops o K ⟨fr, nt, hp ++ R'⟩) (h : arun P G rl ops hp.length r K0 rest ⟨upd fr d v, nt, hp ++ R⟩) : arun P G rl ops hp.length r K0 (k :: rest) ⟨fr, nt, hp ++ R⟩ := by
  have ho : ops[k]? = some o := by rw [← Array.getElem?_toList]; exact ho
  unfold arun
  simp only [ho]
  have ha : ¬ allocB o = true := by
    intro e
    unfold allocB at e
    unfold effB at he
    simp only [Bool.and_eq_true] at e
    split at he
    · cases he
    · cases he
    · cases he
    · rename_i h1 _ _
      revert e
      split
      · rename_i t ht; exact fun _ => h1 t ht
      · intro e; exact absurd e.1 (by decide)
  rw [if_neg ha, if_neg (by rw [he]; decide), if_neg (by rw [hh]; decide)]
  refine ⟨v, fun R' hR' => ?_, ?_⟩
  · obtain ⟨u, hy, hk⟩ := aqop_iff.mp (hv R' (fun s' => s'.fr d = some v) (fun fr' _ _ => upd_same fr' d v))
    rw [hd] at hk
    simp only [St.put, hlt, if_true, upd] at hk
    cases hk
    have : (hp ++ R).take hp.length = hp := by simp
    simp only [this]
    exact hy
  · rw [hd]
    simp only [St.put, hlt, if_true]
    exact h
theorem awp_drawE {id : Nat} {ops : Array Oper} {Q : Exit → St → Prop} (hB : lexE .any ops ops.size 0 (Array.replicate ops.size false) = true) (h : aeops P G rl ops (Q .normal) ops.toList s) : awp P G rl h0 (.region id ops true) Q s := .inr (.inl ⟨hB, h⟩)
theorem aeops_nil {ops : Array Oper} {K : St → Prop} (h : K s) : aeops P G rl ops K [] s := h
theorem aeops_eff {ops : Array Oper} {K0 : St → Prop} {o : Oper} {rest : List Oper} (he : effB o = true) (h : ∀ K : St → Prop, (∀ s, aeops P G rl ops K0 rest s → K s) → aop P G rl ops o K s) : aeops P G rl ops K0 (o :: rest) s := by
  unfold aeops; rw [if_pos he]; exact h _ fun _ h => h
theorem aeops_q {ops : Array Oper} {K0 : St → Prop} {o : Oper} {rest : List Oper} {d nt : Nat} {v : AV} {fr : Nat → Option AV} {hp : Heap} (he : effB o = false) (hd : o.dst = some d) (hlt : d < nt)
    (hv : ∀ (L : Heap) (K : St → Prop), (∀ (fr' : Nat → Option AV) (nt' : Nat) (hp' : Heap), K ⟨upd fr' d v, nt', hp'⟩) → aqop P G rl ops o K ⟨fr, nt, hp ++ L⟩) (h : aeops P G rl ops K0 rest ⟨upd fr d v, nt, hp⟩) : aeops P G rl ops K0 (o :: rest) ⟨fr, nt, hp⟩ := by
  unfold aeops
  rw [if_neg (by rw [he]; decide)]
  refine ⟨v, fun L => ?_, ?_⟩
  · obtain ⟨u, hy, hk⟩ := aqop_iff.mp (hv L (fun s' => s'.fr d = some v) (fun fr' _ _ => upd_same fr' d v))
    rw [hd] at hk
    simp only [St.put, hlt, if_true, upd] at hk
    cases hk
    exact hy
  · rw [hd]
    simp only [St.put, hlt, if_true]
    exact h
theorem aops_nil {ops : Array Oper} {K : St → Prop} (h : K s) : aops P G rl ops K [] s := h
theorem aqops_nil {ops : Array Oper} {K : St → Prop} (h : K s) : aqops P G rl ops K [] s := h

theorem aops_k {ops : Array Oper} {K0 : St → Prop} {o : Oper} {rest : List Oper} (h : ∀ K : St → Prop, (∀ s, aops P G rl ops K0 rest s → K s) → aop P G rl ops o K s) : aops P G rl ops K0 (o :: rest) s :=
  h _ fun _ h => h
theorem aqops_k {ops : Array Oper} {K0 : St → Prop} {o : Oper} {rest : List Oper} (h : ∀ K : St → Prop, (∀ s, aqops P G rl ops K0 rest s → K s) → aqop P G rl ops o K s) : aqops P G rl ops K0 (o :: rest) s :=
  h _ fun _ h => h

theorem awp_cond {c : Operand} {x y : Code} {Q : Exit → St → Prop} {t : Bool} (hc : evalA G s c = some (.b t)) (h1 : t = true → awp P G rl h0 x Q s) (h2 : t = false → awp P G rl h0 y Q s) : awp P G rl h0 (.cond c x y) Q s := by
  change condA (evalA G s c) _ _
  rw [hc]
  exact ⟨h1, h2⟩

theorem awp_block {id : Nat} {c : Code} {Q : Exit → St → Prop} (h : awp P G rl h0 c (blockA id Q) s) : awp P G rl h0 (.block id c) Q s := h
theorem awp_exit {id : Nat} {Q : Exit → St → Prop} (h : Q (.exit id) s) : awp P G rl h0 (.exit id) Q s := h
theorem awp_ret {Q : Exit → St → Prop} (h : Q .ret s) : awp P G rl h0 .ret Q s := h
theorem awp_skip {Q : Exit → St → Prop} (h : Q .normal s) : awp P G rl h0 .skip Q s := h
theorem awp_label {l : Nat} {Q : Exit → St → Prop} (h : Q .normal s) : awp P G rl h0 (.label l) Q s := h

@[simp] theorem thenA_normal {K : St → Prop} {Q : Exit → St → Prop} : thenA K Q .normal s = K s := rfl
@[simp] theorem thenA_exit {K : St → Prop} {Q : Exit → St → Prop} {i : Nat} : thenA K Q (.exit i) s = Q (.exit i) s := rfl
@[simp] theorem thenA_ret {K : St → Prop} {Q : Exit → St → Prop} : thenA K Q .ret s = Q .ret s := rfl
@[simp] theorem blockA_normal {id : Nat} {Q : Exit → St → Prop} : blockA id Q .normal s = Q .normal s := rfl
@[simp] theorem blockA_exit {id i : Nat} {Q : Exit → St → Prop} : blockA id Q (.exit i) s = if i = id then Q .normal s else Q (.exit i) s := rfl
@[simp] theorem blockA_ret {id : Nat} {Q : Exit → St → Prop} : blockA id Q .ret s = Q .ret s := rfl

theorem bt_true (b : Bool) : (b == true) = b := by cases b <;> rfl
theorem bt_false (b : Bool) : (b == false) = !b := by cases b <;> rfl
theorem upd_get (fr : Nat → Option AV) (d : Nat) (v : AV) (k : Nat) : upd fr d v k = if k = d then some v else fr k := rfl
theorem get_app (L : Heap) (i : Nat) : (h ++ L)[h.length + i]? = L[i]? := by rw [List.getElem?_append_right (by omega)]; congr 1; omega
theorem get_app0 (L : Heap) : (h ++ L)[h.length]? = L[0]? := by rw [List.getElem?_append_right (by omega)]; congr 1; omega
theorem set_app (L : Heap) (i : Nat) (x : Option Blk) : (h ++ L).set (h.length + i) x = h ++ L.set i x := by rw [List.set_append_right _ _ (by omega)]; congr 2; omega
theorem set_app0 (L : Heap) (x : Option Blk) : (h ++ L).set h.length x = h ++ L.set 0 x := by rw [List.set_append_right _ _ (by omega)]; congr 2; omega
theorem take_app (L : Heap) : (h ++ L).take h.length = h := by simp

/-- What is known is told otherwise, ahead of a piece of code. -/
theorem awp_ghost {x : Code} {Q : Exit → St → Prop} {s' : St} (hg : Ghost P G h0 s s') (h : awp P G rl h0 x Q s') : awp P G rl h0 (.seq (.label 0) x) Q s :=
  ⟨fun s1 => s1 = s', ⟨s', hg, rfl⟩, fun s1 e => by subst e; exact h⟩

/-- A cut: what stands behind the first part is proved once, from what is said of the state there. -/
theorem awp_cut {x y : Code} {Q : Exit → St → Prop} (J : St → Prop) (h : awp P G rl h0 x (thenA (fun s' => ∃ s1, Ghost P G h0 s' s1 ∧ J s1) Q) s) (hJ : ∀ s1, J s1 → awp P G rl h0 y Q s1) : awp P G rl h0 (.seq x y) Q s :=
  ⟨J, h, hJ⟩

theorem awp_loop {c : Code} {Q : Exit → St → Prop} (I : Nat → St → Prop) (n : Nat) (s1 : St) (hg : Ghost P G h0 s s1) (hi : I n s1)
    (hr : ∀ n s, I n s → awp P G rl h0 c (thenA (fun s' => ∃ m s1, m < n ∧ Ghost P G h0 s' s1 ∧ I m s1) Q) s) : awp P G rl h0 (.loop c) Q s :=
  ⟨I, ⟨n, s1, hg, hi⟩, hr⟩

/-- The end of a function that changes no block that it was given. -/
def FinP (P : Program) (rs : List ResultVar) (h : Heap) (K : AV → Prop) (s : St) : Prop :=
  match resA P s rs with
  | some r => match lastV s.heap h.length r with
    | some r' => s.heap.take h.length = h ∧ h.length ≤ s.heap.length ∧ K r'
    | none => False
  | none => False

theorem FinP.fin {rs : List ResultVar} {K : AV → Prop} (hf : FinP P rs h K s) : Fin P rs h.length h (fun r h' => K r ∧ h' = h) s := by
  unfold FinP at hf
  split at hf
  · rename_i r hr
    split at hf
    · rename_i r' hr'
      obtain ⟨h1, h2, h3⟩ := hf
      exact ⟨Nat.le_refl _, h2, r, r', hr, hr', fun b bk hb => .inl (by rwa [h1] at hb), h3, h1⟩
    · exact hf.elim
  · exact hf.elim

/-- What is asked of a function that only reads. -/
def EndP (P : Program) (rs : List ResultVar) (h : Heap) (K : AV → Prop) : Exit → St → Prop
  | .normal, s => FinP P rs h K s
  | .ret, s => FinP P rs h K s
  | _, _ => False

theorem acalls_pure (hm : P.follows .mixedOrders = true) {f : FuncId} {fn : Func} {c : Code} (hf : P.funcs[f]? = some fn) (hb : fn.body = some c) {args : List AV} {K : AV → Prop} {rs : List ResultVar} {nt : Nat}
    (hrs : fn.results.toList = rs) (hn : fn.ntmps = nt) (hnt : args.length ≤ nt) (H : awp P G rl h c (EndP P rs h K) (entry args nt h)) : ACalls P G f args h (fun r h' => K r ∧ h' = h) := by
  subst hrs; subst hn
  refine acalls_intro (rl := rl) hm hf hb hnt h.length (awp_mono _ _ _ _ (fun e s hh => ?_) H)
  cases e with
  | normal => exact ⟨.inl rfl, FinP.fin hh⟩
  | ret => exact ⟨.inr rfl, FinP.fin hh⟩
  | _ => exact hh.elim

/-- The end of a function that may change blocks that it was given. -/
def FinH (P : Program) (rs : List ResultVar) (h : Heap) (K : AV → Heap → Prop) (s : St) : Prop :=
  match resA P s rs with
  | some r => match lastV s.heap h.length r with
    | some r' => h.length ≤ s.heap.length ∧ (∀ (b : Nat) (bk : Blk), (s.heap.take h.length)[b]? = some (some bk) → h[b]? = some (some bk) ∨ ∀ x ∈ bk.cells, AVlt h.length x) ∧ K r' (s.heap.take h.length)
    | none => False
  | none => False

def EndH (P : Program) (rs : List ResultVar) (h : Heap) (K : AV → Heap → Prop) : Exit → St → Prop
  | .normal, s => FinH P rs h K s
  | .ret, s => FinH P rs h K s
  | _, _ => False

theorem acalls_heap (hm : P.follows .mixedOrders = true) {f : FuncId} {fn : Func} {c : Code} (hf : P.funcs[f]? = some fn) (hb : fn.body = some c) {args : List AV} {K : AV → Heap → Prop} {rs : List ResultVar} {nt : Nat}
    (hrs : fn.results.toList = rs) (hn : fn.ntmps = nt) (hnt : args.length ≤ nt) (H : awp P G rl h c (EndH P rs h K) (entry args nt h)) : ACalls P G f args h K := by
  subst hrs; subst hn
  have key : ∀ s, FinH P fn.results.toList h K s → Fin P fn.results.toList h.length h K s := by
    intro s hf
    unfold FinH at hf
    split at hf
    · rename_i r hr
      split at hf
      · rename_i r' hr'
        obtain ⟨h1, h2, h3⟩ := hf
        exact ⟨Nat.le_refl _, h1, r, r', hr, hr', h2, h3⟩
      · exact hf.elim
    · exact hf.elim
  refine acalls_intro (rl := rl) hm hf hb hnt h.length (awp_mono _ _ _ _ (fun e s hh => ?_) H)
  cases e with
  | normal => exact ⟨.inl rfl, key _ hh⟩
  | ret => exact ⟨.inr rfl, key _ hh⟩
  | _ => exact hh.elim

/-- The end of a function that makes blocks for whoever called it, or changes some: all is kept. -/
def FinK (P : Program) (rs : List ResultVar) (h : Heap) (K : AV → Heap → Prop) (s : St) : Prop :=
  h.length ≤ s.heap.length ∧ match resA P s rs with
  | some r => K r s.heap
  | none => False

theorem Sim.evoKeep (hm : P.follows .mixedOrders = true) {f : FuncId} {fn : Func} {c : Code} (hf : P.funcs[f]? = some fn) (hb : fn.body = some c) {args : List AV} {K : AV → Heap → Prop}
    (hnt : args.length ≤ fn.ntmps)
    (H : awp P G rl h c (fun e s => (e = .normal ∨ e = .ret) ∧ FinK P fn.results.toList h K s) (entry args fn.ntmps h)) : ACalls P G f args h K := by
  intro ι w vs hS hv
  refine calls_of_wp hf hb ?_
  have hs : Sim P G ι (entry args fn.ntmps h) { tmps := vs ++ Array.replicate (fn.ntmps - vs.size) undef, defers := [] } w := by
    refine ⟨hS, fun k x hx => ?_, ?_, rfl⟩
    · have hk : k < args.length := getElem?_lt hx
      have hk' : k < vs.size := by rw [← hv.1]; exact hk
      exact ⟨vs[k], by rw [Array.getElem?_append_left hk']; simp, hv.2 k x _ hx (by simp)⟩
    · have := hv.1
      simp [entry]; omega
  refine wp_mono (awp_sound hm hS c _ _ ι _ w hs (.refl (Nat.le_refl h.length)) H) fun e a w' ⟨s', ι', ⟨he, hn1, hr⟩, hs', hev⟩ => ?_
  split at hr
  case h_2 => exact hr.elim
  rename_i r hr'
  obtain ⟨v, hrun, hrv⟩ := resA_sound hs' hr'
  have hpost : a.defers = [] ∧ ∃ v, (results fn a.tmps).run P w' = .ok v w' ∧ ∃ v1 r h' ι', Ending.returned v = .returned v1 ∧ K r h' ∧ SimH P G ι' h' w' ∧ VRel ι' h' w' r v1 ∧ Evo h.length ι h w ι' h' w' :=
    ⟨hs'.df, v, hrun, v, r, s'.heap, ι', rfl, hr, hs'.hS, hrv, hev⟩
  rcases he with rfl | rfl <;> exact hpost

end
end Go.Proofs.YtlophgkgmhcagaaDoor.AM
