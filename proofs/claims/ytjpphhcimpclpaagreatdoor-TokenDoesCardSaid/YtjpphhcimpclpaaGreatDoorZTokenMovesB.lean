/- Proved here, in parts, for one law: contracts of the functions that the laws call, and the plain facts behind them. Conditions: none. -/
import Derived.Test.YtjpphhcimpclpaaGreatDoorZTokenMovesA
import Derived.Test.YtjpphhcimpclpaaGreatDoorProg
import Derived.KernelRfl
import Derived.IntWalk
set_option linter.unusedVariables false
set_option linter.unusedSimpArgs false
set_option linter.defProp false
set_option maxRecDepth 4000
set_option maxHeartbeats 4000000
namespace Go.Proofs.YtjpphhcimpclpaaGreatDoor.AM
open Go Go.Proofs
section
mutual
def pur (h : Heap) (n : Nat) : Nat → AV → Option PV
  | _, .p .nils => some (.sl [])
  | _, .p x => some x
  | fuel + 1, .ref b g off sz len =>
    if len = 0 then some (.sl []) else
    match t4 h b g with
    | some cells => if n ≤ b ∧ off + len * sz ≤ cells.length then (I2 h n fuel ((cells.drop off).take (len * sz))).map fun l => .sl (B5 sz len l) else none
    | none => none
  | _, _ => none
def I2 (h : Heap) (n : Nat) : Nat → List AV → Option (List PV)
  | _, [] => some []
  | fuel, x :: r => match pur h n fuel x, I2 h n fuel r with
    | some y, some ys => some (y :: ys)
    | _, _ => none
end
def D8 (h : Heap) (n : Nat) : AV → Option AV
  | .agg cells => (I2 h n 5 cells).map fun l => .agg (l.map .p)
  | .ptr b g off => if b < n then some (.ptr b g off) else none
  | x => (pur h n 5 x).map .p
def D3 (h : Heap) (n : Nat) : List AV → Option (List AV)
  | [] => some []
  | x :: r => match D8 h n x, D3 h n r with
    | some y, some ys => some (y :: ys)
    | _, _ => none
def F2 (h : Heap) (n : Nat) : AV → Option AV
  | .tup vs => (D3 h n vs).map .tup
  | x => D8 h n x
inductive AVlt (n : Nat) : AV → Prop where
  | p (x : PV) : AVlt n (.p x)
  | agg (cells : List AV) (h : ∀ x ∈ cells, AVlt n x) : AVlt n (.agg cells)
  | tup (cells : List AV) (h : ∀ x ∈ cells, AVlt n x) : AVlt n (.tup cells)
  | fn (f : FuncId) (cells : List AV) (h : ∀ x ∈ cells, AVlt n x) : AVlt n (.fn f cells)
  | ref (b g off sz len : Nat) (h : b < n) : AVlt n (.ref b g off sz len)
  | ptr (b g off : Nat) (h : b < n) : AVlt n (.ptr b g off)
  | pin (cells : List PV) : AVlt n (.pin cells)
section
variable {P : Program} {G : Nat → Option (List PV)} {rl : List String} {ι ι' ι0 : Nat → Nat × Nat} {h h' h0 h1 : Heap} {w w' w0 : World} {n n0 : Nat} {s : St} {a : Act}
theorem I7 {α : Type} {l : List α} {n b : Nat} {x : α} (hx : (l.take n)[b]? = some x) : b < n ∧ l[b]? = some x := by
  rw [List.getElem?_take] at hx
  split at hx
  · exact ⟨by assumption, hx⟩
  · cases hx
theorem X0 {k : Nat} (ho : own ι (h.take n) k) : own ι h k := by
  obtain ⟨b, bk, h1, h2, h3⟩ := ho
  exact ⟨b, bk, (I7 h1).2, h2, h3⟩
theorem VRel.lt {x : AV} {v : Value} (hx : VRel ι h w x v) : AVlt h.length x := by
  induction hx with
  | p x v hx => exact .p x
  | agg cells vs hl hv ih =>
    refine .agg _ fun x hx => ?_
    obtain ⟨i, hi, rfl⟩ := List.getElem_of_mem hx
    exact ih i cells[i] (vs[i]'(by omega)) (by simp) (by simp)
  | tup cells vs hl hv ih =>
    refine .tup _ fun x hx => ?_
    obtain ⟨i, hi, rfl⟩ := List.getElem_of_mem hx
    exact ih i cells[i] (vs[i]'(by omega)) (by simp) (by simp)
  | fn f cells vs hl hv ih =>
    refine .fn _ _ fun x hx => ?_
    obtain ⟨i, hi, rfl⟩ := List.getElem_of_mem hx
    exact ih i cells[i] (vs[i]'(by omega)) (by simp) (by simp)
  | ref b g off sz len A c hn hb hg hv => exact .ref _ _ _ _ _ hb
  | ptr b g off A hb hg hv => exact .ptr _ _ _ hb
  | pin cells blk off hv => exact .pin _
theorem VRel.take {x : AV} {v : Value} (hx : VRel ι h w x v) (hn : n ≤ h.length) (hl : AVlt n x) : VRel ι (h.take n) w x v := by
  have hlen : (h.take n).length = n := by simp; omega
  induction hx with
  | p x v hx => exact .p _ _ (hx.mono (Nat.le_refl _) fun k _ ho => ⟨rfl, fun e => ho (X0 e)⟩)
  | agg cells vs hl' hv ih => cases hl with | agg _ hc => exact .agg _ _ hl' fun i x v hx hv' => ih i x v hx hv' (hc x (List.mem_of_getElem? hx))
  | tup cells vs hl' hv ih => cases hl with | tup _ hc => exact .tup _ _ hl' fun i x v hx hv' => ih i x v hx hv' (hc x (List.mem_of_getElem? hx))
  | fn f cells vs hl' hv ih => cases hl with | fn _ _ hc => exact .fn _ _ _ hl' fun i x v hx hv' => ih i x v hx hv' (hc x (List.mem_of_getElem? hx))
  | ref b g off sz len A c hn' hb hg hv =>
    cases hl with
    | ref _ _ _ _ _ hb' =>
      refine .ref _ _ _ _ _ _ _ hn' (by omega) (fun bk hq => hg bk (I7 hq).2) fun ⟨bk, hq, e⟩ => ?_
      rcases hv ⟨bk, (I7 hq).2, e⟩ with hz | ⟨hA, hle, ⟨bk0, q0, hne⟩, hcs⟩
      · exact .inl hz
      · exact .inr ⟨hA, hle, ⟨bk0, by rw [List.getElem?_take, if_pos hb']; exact q0, hne⟩, hcs⟩
  | ptr b g off A hb hg hv =>
    cases hl with
    | ptr _ _ _ hb' => exact .ptr _ _ _ _ (by omega) (fun bk hq => hg bk (I7 hq).2) fun ⟨bk, hq, e⟩ => hv ⟨bk, (I7 hq).2, e⟩
  | pin cells blk off hv => exact .pin _ _ _ (hv.mono (Nat.le_refl _) fun k _ ho => ⟨rfl, fun e => ho (X0 e)⟩)
theorem SimH.take (hS : SimH P G ι h w) (hn : n ≤ h.length) (hlt : ∀ (b : Nat) (bk : Blk), (h.take n)[b]? = some (some bk) → ∀ x ∈ bk.cells, AVlt n x) : SimH P G ι (h.take n) w := by
  refine ⟨⟨fun b bk hb hne => ?_, fun b b' bk bk' q1 q2 n1 n2 e => hS.hr.inj b b' bk bk' (I7 q1).2 (I7 q2).2 n1 n2 e⟩, fun g cells hg => (hS.gr g cells hg).mono (Nat.le_refl _) fun k _ ho => ⟨rfl, fun e => ho (X0 e)⟩⟩
  obtain ⟨c, ty, hc, hl, hv⟩ := hS.hr.blk b bk (I7 hb).2 hne
  refine ⟨c, ty, hc, hl, fun j x hx => ?_⟩
  obtain ⟨v, p1, p2⟩ := hv j x hx
  exact ⟨v, p1, p2.take hn (hlt b bk hb x (List.mem_of_getElem? hx))⟩
theorem Evo.take (he : Evo n ι0 h0 w0 ι h w) (hn : n ≤ n0) : Evo n ι0 h0 w0 ι (h.take n0) w where
  size := he.size
  keep := fun k hk ho => ⟨(he.keep k hk ho).1, fun e => (he.keep k hk ho).2 (X0 e)⟩
  len := by have := he.len; simp; omega
  gens := fun b bk' hb hq => he.gens b bk' hb (I7 hq).2
  os := he.os
  output := he.output
  tape := he.tape
theorem ly {fuel : Nat} {x : AV} {y : PV} (hx : pur h n fuel x = some y) : (∃ z, x = .p z ∧ (z = .nils ∧ y = .sl [] ∨ y = z)) ∨
    ∃ b g off sz len fuel', x = .ref b g off sz len ∧ fuel = fuel' + 1 ∧ ((len = 0 ∧ y = .sl []) ∨ ∃ cells l, len ≠ 0 ∧ t4 h b g = some cells ∧ n ≤ b ∧ off + len * sz ≤ cells.length ∧ I2 h n fuel' ((cells.drop off).take (len * sz)) = some l ∧ y = .sl (B5 sz len l)) := by
  cases x with
  | p z =>
    cases z <;> cases fuel <;> simp only [pur, Option.some.injEq] at hx <;> subst hx <;> exact .inl ⟨_, rfl, by simp⟩
  | ref b g off sz len =>
    cases fuel with
    | zero => simp [pur] at hx
    | succ fuel =>
      simp only [pur] at hx
      refine .inr ⟨b, g, off, sz, len, fuel, rfl, rfl, ?_⟩
      split at hx
      · rename_i hz; cases hx; exact .inl ⟨hz, rfl⟩
      · rename_i hz
        split at hx
        · rename_i cells hb
          split at hx
          · rename_i hc
            obtain ⟨l, hl, rfl⟩ := Option.map_eq_some_iff.mp hx
            exact .inr ⟨cells, l, hz, hb, hc.1, hc.2, hl, rfl⟩
          · cases hx
        · cases hx
  | agg => cases fuel <;> simp [pur] at hx
  | ptr => cases fuel <;> simp [pur] at hx
  | pin => cases fuel <;> simp [pur] at hx
  | fn => cases fuel <;> simp [pur] at hx
  | tup => cases fuel <;> simp [pur] at hx
theorem ga : ∀ {fuel : Nat} {l : List AV} {ys : List PV}, I2 h n fuel l = some ys → ys.length = l.length ∧ ∀ (i : Nat) x y, l[i]? = some x → ys[i]? = some y → pur h n fuel x = some y
  | fuel, [], ys, hq => by simp only [I2, Option.some.injEq] at hq; subst hq; simp
  | fuel, x :: r, ys, hq => by
    simp only [I2] at hq
    split at hq
    · rename_i y ys' h1 h2
      cases hq
      obtain ⟨l1, l2⟩ := ga h2
      refine ⟨by simp [l1], fun i u v hu hv => ?_⟩
      cases i with
      | zero => simp at hu hv; rw [← hu, ← hv]; exact h1
      | succ i => simp at hu hv; exact l2 i u v hu hv
    · cases hq
theorem jd (hS : SimH P G ι h w) : ∀ (fuel : Nat) (x : AV) (y : PV) (v : Value), pur h n fuel x = some y → VRel ι h w x v → PRel w (own ι (h.take n)) y v := by
  intro fuel
  induction fuel with
  | zero =>
    intro x y v hp hx
    rcases ly hp with ⟨z, rfl, ⟨rfl, rfl⟩ | rfl⟩ | ⟨b, g, off, sz, len, fuel', _, hf, _⟩
    · have := hx.nils_inv; subst this; exact .slz _ _
    · exact hx.pv.mono (Nat.le_refl _) fun k _ ho => ⟨rfl, fun e => ho (X0 e)⟩
    · omega
  | succ fuel ih =>
    intro x y v hp hx
    rcases ly hp with ⟨z, rfl, ⟨rfl, rfl⟩ | rfl⟩ | ⟨b, g, off, sz, len, fuel', rfl, hf, ⟨rfl, rfl⟩ | ⟨cells, l, hz, hb, hnb, hle, hl, rfl⟩⟩
    · have := hx.nils_inv; subst this; exact .slz _ _
    · exact hx.pv.mono (Nat.le_refl _) fun k _ ho => ⟨rfl, fun e => ho (X0 e)⟩
    · cases hx with
      | ref _ _ _ _ _ A c hn' hb hg hv => exact .slz _ _
    · have : fuel' = fuel := by omega
      subst this
      obtain ⟨A, c, rfl, hn', hcase⟩ := hx.ref_inv (A4 hb)
      rcases hcase with ⟨h0, _⟩ | ⟨rfl, hlc, ⟨bk, hbk, hne⟩, cs, ty, fr, hcs, hcap⟩
      · exact absurd h0 hz
      · obtain ⟨l1, l2⟩ := ga hl
        have hbk' := E3 hb
        rw [hbk'] at hbk; cases hbk
        refine fL l sz len c _ _ (by rw [l1, List.length_take, List.length_drop]; omega) hlc hn' ?_ (J7 hcs) fun j y hy => ?_
        · rintro ⟨b', bk', q1, q2, q3⟩
          obtain ⟨q4, q5⟩ := I7 q1
          have := hS.hr.inj b' b bk' _ q5 hbk' q2 hne q3
          omega
        · have hj := m6 hy
          have hj' : j < ((cells.drop off).take (len * sz)).length := by omega
          obtain ⟨u, hu1, hu2⟩ := ((Q4 hS hb).drop off) j _ (by
            have h1 : ((cells.drop off).take (len * sz))[j]? = some (((cells.drop off).take (len * sz))[j]) := List.getElem?_eq_getElem hj'
            rw [List.getElem?_take] at h1
            split at h1
            · exact h1
            · cases h1)
          exact ⟨u, hu1, ih _ y u (l2 j _ y (List.getElem?_eq_getElem hj') hy) hu2⟩
theorem eG (hS : SimH P G ι h w) (hn : n ≤ h.length) {x y : AV} {v : Value} (hp : D8 h n x = some y) (hx : VRel ι h w x v) : VRel ι (h.take n) w y v := by
  unfold D8 at hp
  split at hp
  · rename_i cells
    obtain ⟨l, hl, rfl⟩ := Option.map_eq_some_iff.mp hp
    obtain ⟨l1, l2⟩ := ga hl
    obtain ⟨vs, rfl, e1, e2⟩ := hx.agg_inv
    refine .agg _ _ (by simp; omega) fun i x v hx hv => ?_
    simp only [List.getElem?_map, Option.map_eq_some_iff] at hx
    obtain ⟨z, hz, rfl⟩ := hx
    have hi : i < cells.length := by have := m6 hz; omega
    exact .p _ _ (jd hS 5 _ z v (l2 i cells[i] z (List.getElem?_eq_getElem hi) hz) (e2 i cells[i] v (List.getElem?_eq_getElem hi) hv))
  · rename_i b g off
    split at hp
    · rename_i hb
      cases hp
      exact hx.take hn (.ptr _ _ _ hb)
    · cases hp
  · obtain ⟨z, hz, rfl⟩ := Option.map_eq_some_iff.mp hp
    exact .p _ _ (jd hS 5 _ z v hz hx)
theorem gb : ∀ {l : List AV} {ys : List AV}, D3 h n l = some ys → ys.length = l.length ∧ ∀ (i : Nat) x y, l[i]? = some x → ys[i]? = some y → D8 h n x = some y
  | [], ys, hq => by cases hq; simp
  | x :: r, ys, hq => by
    simp only [D3] at hq
    split at hq
    · rename_i y ys' h1 h2
      cases hq
      obtain ⟨l1, l2⟩ := gb h2
      refine ⟨by simp [l1], fun i u v hu hv => ?_⟩
      cases i with
      | zero => simp at hu hv; rw [← hu, ← hv]; exact h1
      | succ i => simp at hu hv; exact l2 i u v hu hv
    · cases hq
theorem lz (hS : SimH P G ι h w) (hn : n ≤ h.length) {x y : AV} {v : Value} (hp : F2 h n x = some y) (hx : VRel ι h w x v) : VRel ι (h.take n) w y v := by
  unfold F2 at hp
  split at hp
  · rename_i cells
    obtain ⟨l, hl, rfl⟩ := Option.map_eq_some_iff.mp hp
    obtain ⟨l1, l2⟩ := gb hl
    cases hx with
    | tup _ vs e1 e2 =>
      refine .tup _ _ (by omega) fun i x v hx hv => ?_
      have hi : i < cells.length := by have := m6 hx; omega
      exact eG hS hn (l2 i cells[i] x (List.getElem?_eq_getElem hi) hx) (e2 i cells[i] v (List.getElem?_eq_getElem hi) hv)
  · exact eG hS hn hp hx
def aY (args : List AV) (nt : Nat) (h : Heap) : St := ⟨fun k => args[k]?, nt, h⟩
def Fin (P : Program) (rs : List ResultVar) (n : Nat) (h : Heap) (K : AV → Heap → Prop) (s : St) : Prop :=
  h.length ≤ n ∧ n ≤ s.heap.length ∧ ∃ r r', Q6 P s rs = some r ∧ F2 s.heap n r = some r' ∧
    (∀ (b : Nat) (bk : Blk), (s.heap.take n)[b]? = some (some bk) → h[b]? = some (some bk) ∨ ∀ x ∈ bk.cells, AVlt n x) ∧ K r' (s.heap.take n)
theorem AVlt.mono {x : AV} {m : Nat} (hx : AVlt n x) (hm : n ≤ m) : AVlt m x := by
  induction hx with
  | p x => exact .p x
  | agg cells h ih => exact .agg _ ih
  | tup cells h ih => exact .tup _ ih
  | fn f cells h ih => exact .fn _ _ ih
  | ref b g off sz len h => exact .ref _ _ _ _ _ (by omega)
  | ptr b g off h => exact .ptr _ _ _ (by omega)
  | pin cells => exact .pin _
theorem oJ (hS : SimH P G ι h w) {b : Nat} {bk : Blk} (hb : h[b]? = some (some bk)) : ∀ x ∈ bk.cells, AVlt h.length x := by
  intro x hx
  have hne : bk.cells ≠ [] := List.ne_nil_of_mem hx
  obtain ⟨c, ty, _, _, hv⟩ := hS.hr.blk b bk hb hne
  obtain ⟨i, hi, rfl⟩ := List.getElem_of_mem hx
  obtain ⟨v, _, p2⟩ := hv i _ (List.getElem?_eq_getElem hi)
  exact p2.lt
theorem Z0 (hm : P.follows .mixedOrders = true) {f : FuncId} {fn : Func} {c : Code} (hf : P.funcs[f]? = some fn) (hb : fn.body = some c) {args : List AV} {K : AV → Heap → Prop}
    (hnt : args.length ≤ fn.ntmps) (n : Nat)
    (H : awp P G rl h c (fun e s => (e = .normal ∨ e = .ret) ∧ Fin P fn.results.toList n h K s) (aY args fn.ntmps h)) : f9 P G f args h K := by
  intro ι w vs hS hv
  refine calls_of_wp hf hb ?_
  have hs : Sim P G ι (aY args fn.ntmps h) { tmps := vs ++ Array.replicate (fn.ntmps - vs.size) undef, defers := [] } w := by
    refine ⟨hS, fun k x hx => ?_, ?_, rfl⟩
    · have hk : k < args.length := m6 hx
      have hk' : k < vs.size := by rw [← hv.1]; exact hk
      exact ⟨vs[k], by rw [Array.getElem?_append_left hk']; simp, hv.2 k x _ hx (by simp)⟩
    · have := hv.1
      simp [aY]; omega
  refine wp_mono (jc hm hS c _ _ ι _ w hs (.refl (Nat.le_refl h.length)) H) fun e a w' ⟨s', ι', ⟨he, hn1, hn2, r, r', hr, hl, hlt, hk⟩, hs', hev⟩ => ?_
  obtain ⟨v, hrun, hrv⟩ := fZ hs' hr
  have hpost : a.defers = [] ∧ ∃ v, (results fn a.tmps).run P w' = .ok v w' ∧ ∃ v1 r h' ι', Ending.returned v = .returned v1 ∧ K r h' ∧ SimH P G ι' h' w' ∧ VRel ι' h' w' r v1 ∧ Evo h.length ι h w ι' h' w' := by
    refine ⟨hs'.df, v, hrun, v, r', s'.heap.take n, ι', rfl, hk, hs'.hS.take hn2 (fun b bk hb x hx => ?_), lz hs'.hS hn2 hl hrv, hev.take hn1⟩
    rcases hlt b bk hb with hq | hq
    · exact (oJ hS hq x hx).mono hn1
    · exact hq x hx
  rcases he with rfl | rfl <;> exact hpost
theorem f9.mono {f : FuncId} {args : List AV} {K K' : AV → Heap → Prop} (hc : f9 P G f args h K) (hk : ∀ r h', K r h' → K' r h') : f9 P G f args h K' :=
  fun ι w vs hS hv => (hc ι w vs hS hv).mono fun e w' ⟨v, r, h', ι', e1, e2, e3⟩ => ⟨v, r, h', ι', e1, hk _ _ e2, e3⟩
theorem t5.refl : t5 P G h0 s s := fun ι a w ι0 w0 _ hs he => ⟨ι, hs, he⟩
theorem t5.trans {s' s'' : St} (h1 : t5 P G h0 s s') (h2 : t5 P G h0 s' s'') : t5 P G h0 s s'' := fun ι a w ι0 w0 hS hs he =>
  let ⟨ι', hs', he'⟩ := h1 ι a w ι0 w0 hS hs he
  h2 ι' a w ι0 w0 hS hs' he'
theorem t5.le {s' : St} (hnt : s'.nt = s.nt) (m : Nat) (hm : h0.length ≤ m) (hm2 : m ≤ s.heap.length) (hh : s'.heap = s.heap.take m) (hf : ∀ k x, s'.fr k = some x → s.fr k = some x ∧ AVlt m x)
    (hb : ∀ (b : Nat) (bk : Blk), (s.heap.take m)[b]? = some (some bk) → h0[b]? = some (some bk) ∨ ∀ x ∈ bk.cells, AVlt m x) : t5 P G h0 s s' := by
  intro ι a w ι0 w0 hS hs he
  refine ⟨ι, ⟨?_, fun k x hx => ?_, by rw [hnt]; exact hs.nt, hs.df⟩, ?_⟩
  · rw [hh]
    refine hs.hS.take hm2 fun b bk hq x hx => ?_
    rcases hb b bk hq with h1 | h1
    · exact (oJ hS h1 x hx).mono hm
    · exact h1 x hx
  · obtain ⟨h1, h2⟩ := hf k x hx
    obtain ⟨v, p1, p2⟩ := hs.fr k x h1
    exact ⟨v, p1, by rw [hh]; exact p2.take hm2 h2⟩
  · rw [hh]; exact he.take hm
theorem gd {b g : Nat} {bk : Option Blk} (hb : b < h.length) : C6 (h ++ [bk]) b g ↔ C6 h b g := by
  unfold C6; rw [List.getElem?_append_left hb]
theorem X1 {k : Nat} {g : Nat} : own ι (h ++ [some ⟨g, []⟩]) k ↔ own ι h k := by
  constructor
  · rintro ⟨b, bk, h1, h2, h3⟩
    rcases Nat.lt_or_ge b h.length with hl | hl
    · rw [List.getElem?_append_left hl] at h1; exact ⟨b, bk, h1, h2, h3⟩
    · rw [List.getElem?_append_right hl] at h1
      cases hq : b - h.length with
      | zero => rw [hq] at h1; simp at h1; subst h1; exact absurd rfl h2
      | succ i => rw [hq] at h1; simp at h1
  · rintro ⟨b, bk, h1, h2, h3⟩
    exact ⟨b, bk, by rw [List.getElem?_append_left (m6 h1)]; exact h1, h2, h3⟩
theorem VRel.virt {x : AV} {v : Value} {g : Nat} (hx : VRel ι h w x v) : VRel ι (h ++ [some ⟨g, []⟩]) w x v := by
  induction hx with
  | p x v hx => exact .p _ _ (hx.mono (Nat.le_refl _) fun k _ ho => ⟨rfl, fun e => ho (X1.mp e)⟩)
  | agg cells vs hl hv ih => exact .agg _ _ hl ih
  | tup cells vs hl hv ih => exact .tup _ _ hl ih
  | fn f cells vs hl hv ih => exact .fn _ _ _ hl ih
  | ref b g off sz len A c hn hb hg hv =>
    refine .ref _ _ _ _ _ _ _ hn (by simp; omega) (fun bk hq => hg bk (by rwa [List.getElem?_append_left hb] at hq)) fun hl => ?_
    rcases hv ((gd hb).mp hl) with hz | ⟨hA, hle, ⟨bk0, q0, hne⟩, hcs⟩
    · exact .inl hz
    · exact .inr ⟨hA, hle, ⟨bk0, by rw [List.getElem?_append_left hb]; exact q0, hne⟩, hcs⟩
  | ptr b g off A hb hg hv => exact .ptr _ _ _ _ (by simp; omega) (fun bk hq => hg bk (by rwa [List.getElem?_append_left hb] at hq)) fun hl => hv ((gd hb).mp hl)
  | pin cells blk off hv => exact .pin _ _ _ (hv.mono (Nat.le_refl _) fun k _ ho => ⟨rfl, fun e => ho (X1.mp e)⟩)
theorem t5.adopt (k sz : Nat) (hk : s.fr k = some (.p .nils)) : t5 P G h0 s { s with fr := upd s.fr k (.ref s.heap.length 0 0 sz 0), heap := s.heap ++ [some ⟨0, []⟩] } := by
  intro ι a w ι0 w0 hS hs he
  refine ⟨ι, ⟨⟨⟨fun b bk hb hne => ?_, fun b b' bk bk' q1 q2 n1 n2 e => ?_⟩, fun g cells hg => (hs.hS.gr g cells hg).mono (Nat.le_refl _) fun k _ ho => ⟨rfl, fun e => ho (X1.mp e)⟩⟩, fun j x hx => ?_, hs.nt, hs.df⟩, ?_⟩
  · have hl : b < s.heap.length := by
      rcases Nat.lt_or_ge b s.heap.length with hl | hl
      · exact hl
      · rw [List.getElem?_append_right hl] at hb
        cases hq : b - s.heap.length with
        | zero => rw [hq] at hb; simp at hb; subst hb; exact absurd rfl hne
        | succ i => rw [hq] at hb; simp at hb
    rw [List.getElem?_append_left hl] at hb
    obtain ⟨c, ty, hc, hlc, hv⟩ := hs.hS.hr.blk b bk hb hne
    exact ⟨c, ty, hc, hlc, fun j x hx => by obtain ⟨v, p1, p2⟩ := hv j x hx; exact ⟨v, p1, p2.virt⟩⟩
  · have hl : ∀ (b : Nat) (bk : Blk), (s.heap ++ [some ⟨0, []⟩])[b]? = some (some bk) → bk.cells ≠ [] → s.heap[b]? = some (some bk) := by
      intro b bk hb hne
      rcases Nat.lt_or_ge b s.heap.length with hl | hl
      · rwa [List.getElem?_append_left hl] at hb
      · rw [List.getElem?_append_right hl] at hb
        cases hq : b - s.heap.length with
        | zero => rw [hq] at hb; simp at hb; subst hb; exact absurd rfl hne
        | succ i => rw [hq] at hb; simp at hb
    exact hs.hS.hr.inj b b' bk bk' (hl b bk q1 n1) (hl b' bk' q2 n2) n1 n2 e
  · simp only [upd] at hx
    split at hx
    · rename_i hj; subst hj
      cases hx
      obtain ⟨v, p1, p2⟩ := hs.fr j _ hk
      have := p2.nils_inv; subst this
      exact ⟨_, p1, .ref _ _ _ _ _ _ _ (by omega) (by simp) (fun bk hq => Nat.zero_le _) fun _ => .inl ⟨rfl, rfl⟩⟩
    · obtain ⟨v, p1, p2⟩ := hs.fr j x hx
      exact ⟨v, p1, p2.virt⟩
  · refine ⟨he.size, fun j hj ho => ⟨(he.keep j hj ho).1, fun e => (he.keep j hj ho).2 (X1.mp e)⟩, by have := he.len; simp; omega, fun b bk' hb hq => ?_, he.os, he.output, he.tape⟩
    have hl : b < s.heap.length := Nat.lt_of_lt_of_le hb he.len
    rw [List.getElem?_append_left hl] at hq
    exact he.gens b bk' hb hq
theorem t5.lay : t5 P G h0 s ⟨s.fr, s.nt, s.heap ++ [some ⟨0, []⟩]⟩ := by
  intro ι a w ι0 w0 hS hs he
  have hlo : ∀ (b : Nat) (bk : Blk), (s.heap ++ [some ⟨0, []⟩])[b]? = some (some bk) → bk.cells ≠ [] → s.heap[b]? = some (some bk) := by
    intro b bk hb hne
    rcases Nat.lt_or_ge b s.heap.length with hl | hl
    · rwa [List.getElem?_append_left hl] at hb
    · rw [List.getElem?_append_right hl] at hb
      cases hq : b - s.heap.length with
      | zero => rw [hq] at hb; simp at hb; subst hb; exact absurd rfl hne
      | succ i => rw [hq] at hb; simp at hb
  refine ⟨ι, ⟨⟨⟨fun b bk hb hne => ?_, fun b b' bk bk' q1 q2 n1 n2 e => hs.hS.hr.inj b b' bk bk' (hlo b bk q1 n1) (hlo b' bk' q2 n2) n1 n2 e⟩,
    fun g cells hg => (hs.hS.gr g cells hg).mono (Nat.le_refl _) fun k _ ho => ⟨rfl, fun e => ho (X1.mp e)⟩⟩, fun j x hx => ?_, hs.nt, hs.df⟩, ?_⟩
  · obtain ⟨c, ty, hc, hlc, hv⟩ := hs.hS.hr.blk b bk (hlo b bk hb hne) hne
    exact ⟨c, ty, hc, hlc, fun j x hx => by obtain ⟨v, p1, p2⟩ := hv j x hx; exact ⟨v, p1, p2.virt⟩⟩
  · obtain ⟨v, p1, p2⟩ := hs.fr j x hx
    exact ⟨v, p1, p2.virt⟩
  · refine ⟨he.size, fun j hj ho => ⟨(he.keep j hj ho).1, fun e => (he.keep j hj ho).2 (X1.mp e)⟩, by have := he.len; simp; omega, fun b bk' hb hq => ?_, he.os, he.output, he.tape⟩
    have hl : b < s.heap.length := Nat.lt_of_lt_of_le hb he.len
    rw [List.getElem?_append_left hl] at hq
    exact he.gens b bk' hb hq
theorem t5.res : ∀ r : Nat, t5 P G h0 s ⟨s.fr, s.nt, s.heap ++ List.replicate r (some ⟨0, []⟩)⟩
  | 0 => by simp only [List.replicate_zero, List.append_nil]; exact .refl
  | r + 1 => by
    refine (t5.res r).trans ?_
    rw [List.replicate_succ', ← List.append_assoc]
    exact t5.lay
theorem ci {K K' : St → Prop} {Q Q' : Exit → St → Prop} (hk : ∀ s, K s → K' s) (hq : ∀ e s, Q e s → Q' e s) : ∀ e s, O3 K Q e s → O3 K' Q' e s := by
  intro e s h
  cases e <;> first | exact hk _ h | exact hq _ _ h
theorem lA {id : Nat} {Q Q' : Exit → St → Prop} (hq : ∀ e s, Q e s → Q' e s) : ∀ e s, W2 id Q e s → W2 id Q' e s := by
  intro e s h
  cases e with
  | exit i =>
    simp only [W2] at *
    split at h
    · rename_i hi; rw [if_pos hi]; exact hq _ _ h
    · rename_i hi; rw [if_neg hi]; exact hq _ _ h
  | _ => exact hq _ _ h
theorem nh {K K' : St → Prop} {o : Oper} (hk : ∀ s, K s → K' s) (h : P9 P G rl o K s) : P9 P G rl o K' s := by
  unfold P9 at *
  cases hc : z5 o with
  | some q =>
    obtain ⟨f, args⟩ := q
    simp only [hc] at h ⊢
    split at h
    · exact ⟨h.1, h.2.mono fun r h' hh => hk _ hh⟩
    · exact h
  | none =>
    simp only [hc] at h ⊢
    split at h
    · exact hk _ h
    · exact h
theorem dE {K K' : St → Prop} {ops : Array Oper} (hk : ∀ s, K s → K' s) : ∀ (l : List Oper) (s : St), q9 P G rl ops K l s → q9 P G rl ops K' l s
  | [], s, h => hk _ h
  | o :: r, s, h => by
    simp only [q9, aop] at *
    split at h
    · exact ⟨fun e => nh (dE hk r) (h.1 e), fun e => dE hk r _ (h.2 e)⟩
    · exact h
theorem cj {K K' : St → Prop} {ops : Array Oper} (hk : ∀ s, K s → K' s) : ∀ (l : List Nat) (s : St), q8 P G rl ops K l s → q8 P G rl ops K' l s
  | [], s, h => hk s h
  | k :: rest, s, h => by
    unfold q8 at *
    split at h
    · exact h.elim
    · rename_i o ho
      (try simp only [ho])
      split at h
      · rename_i he; rw [if_pos he]; exact ⟨h.1, R4 he (cj hk rest) h.2⟩
      · rename_i he; rw [if_neg he]; obtain ⟨hh, v, h1, h2⟩ := h; exact ⟨hh, v, h1, cj hk rest _ h2⟩
theorem bu {K K' : St → Prop} {ops : Array Oper} {fs : List Nat} {base r : Nat} (hk : ∀ s, K s → K' s) : ∀ (l : List Nat) (s : St), r5 P G rl ops fs base r K l s → r5 P G rl ops fs base r K' l s
  | [], s, h => hk s h
  | k :: rest, s, h => by
    unfold r5 at *
    split at h
    · exact h.elim
    · rename_i o ho
      (try simp only [ho])
      split at h
      · rename_i ha; rw [if_pos ha]; obtain ⟨z, h1, h2, h3⟩ := h; exact ⟨z, h1, h2, bu hk rest _ h3⟩
      · rename_i ha
        rw [if_neg ha]
        split at h
        · rename_i he; rw [if_pos he]; exact cj hk _ _ h
        · rename_i he
          rw [if_neg he]
          split at h
          · rename_i hh; rw [if_pos hh]; obtain ⟨v, h1, h2⟩ := h; exact ⟨v, h1, bu hk rest _ h2⟩
          · rename_i hh; rw [if_neg hh]; obtain ⟨v, h1, h2⟩ := h; exact ⟨v, h1, bu hk rest _ h2⟩
theorem ck {K K' : St → Prop} {ops : Array Oper} (hk : ∀ s, K s → K' s) : ∀ (l : List Oper) (s : St), n7 P G rl ops K l s → n7 P G rl ops K' l s
  | [], s, h => hk s h
  | o :: r, s, h => by
    unfold n7 at *
    split at h
    · rename_i he; rw [if_pos he]; exact R4 he (ck hk r) h
    · rename_i he; rw [if_neg he]; obtain ⟨v, h1, h2⟩ := h; exact ⟨v, h1, ck hk r _ h2⟩
theorem gf {K K' : St → Prop} {ops : Array Oper} (hk : ∀ s, K s → K' s) : ∀ (l : List Oper) (s : St), m7 P G rl ops K l s → m7 P G rl ops K' l s
  | [], s, h => hk _ h
  | o :: r, s, h => by
    obtain ⟨v, h1, h2⟩ := s7.mp h
    exact s7.mpr ⟨v, h1, gf hk r _ h2⟩
theorem gh : ∀ (c : Code) (Q Q' : Exit → St → Prop) (s : St), (∀ e s, Q e s → Q' e s) → awp P G rl h0 c Q s → awp P G rl h0 c Q' s := by
  intro c
  induction c with
  | skip => intro Q Q' s hq h; exact hq _ _ h
  | label l => intro Q Q' s hq h; exact hq _ _ h
  | region id ops draw =>
    intro Q Q' s hq h
    unfold awp at *
    cases draw with
    | true => exact h.imp (fun h => ⟨h.1, gf (fun s hh => hq _ _ hh) _ _ h.2⟩) (fun h => h.imp (fun h => ⟨h.1, ck (fun s hh => hq _ _ hh) _ _ h.2⟩) fun ⟨s1, base, r, ord, fs, h1, h2, h3, hi, h4⟩ => ⟨s1, base, r, ord, fs, h1, h2, h3, hi, bu (fun s hh => hq _ _ hh) _ _ h4⟩)
    | false => exact dE (fun s hh => hq _ _ hh) _ _ h
  | seq a b iha ihb =>
    intro Q Q' s hq ⟨J, h1, h2⟩
    exact ⟨J, iha _ _ s (ci (fun _ h => h) hq) h1, fun s1 hj => ihb _ _ s1 hq (h2 s1 hj)⟩
  | cond c x y ihx ihy =>
    intro Q Q' s hq h
    change eE (r4 G s c) (awp P G rl h0 x Q s) (awp P G rl h0 y Q s) at h
    change eE (r4 G s c) (awp P G rl h0 x Q' s) (awp P G rl h0 y Q' s)
    have h1 := ihx Q Q' s hq
    have h2 := ihy Q Q' s hq
    revert h
    generalize r4 G s c = v
    intro h
    unfold eE at *
    split at h
    · exact ⟨fun e => h1 (h.1 e), fun e => h2 (h.2 e)⟩
    · exact h.elim
  | block id c ih =>
    intro Q Q' s hq h
    exact ih _ _ s (lA hq) h
  | loop c ih =>
    intro Q Q' s hq ⟨I, h1, h2⟩
    exact ⟨I, h1, fun n s hi => ih _ _ s (ci (fun _ h => h) hq) (h2 n s hi)⟩
  | exit id => intro Q Q' s hq h; exact hq _ _ h
  | ret => intro Q Q' s hq h; exact hq _ _ h
  | _ => intro Q Q' s hq h; exact h
theorem sy {x y : Code} {Q : Exit → St → Prop} (h : awp P G rl h0 x (O3 (fun s' => awp P G rl h0 y Q s') Q) s) : awp P G rl h0 (.seq x y) Q s :=
  ⟨awp P G rl h0 y Q, gh _ _ _ _ (ci (fun s hh => ⟨s, .refl, hh⟩) fun _ _ hh => hh) h, fun _ h => h⟩
theorem b6 {x y : Code} {Q : Exit → St → Prop} (h : ∀ K : St → Prop, (∀ s, awp P G rl h0 y Q s → K s) → awp P G rl h0 x (O3 K Q) s) : awp P G rl h0 (.seq x y) Q s :=
  sy (h _ fun _ h => h)
theorem a9 {id : Nat} {ops : Array Oper} {Q : Exit → St → Prop} (h : q9 P G rl ops (Q .normal) ops.toList s) : awp P G rl h0 (.region id ops false) Q s := h
theorem j4 {id : Nat} {ops : Array Oper} {Q : Exit → St → Prop} (hB : Region.lexB .any ops = true) (h : m7 P G rl ops (Q .normal) ops.toList s) : awp P G rl h0 (.region id ops true) Q s := .inl ⟨hB, h⟩
theorem cH (fr : Nat → Option AV) (d : Nat) (v : AV) : upd fr d v d = some v := by simp [upd]
theorem p6 {id : Nat} {ops : Array Oper} {Q : Exit → St → Prop} {fr : Nat → Option AV} {nt : Nat} {hp : Heap} (ord : List Nat) (r : Nat) (hl : ord.length = ops.size) (hr : (zsB P ops).length = r) {fs : List Nat} (hB : dD .any ops fs ord (Array.replicate ops.size false) = true)
    (h : r5 P G rl ops fs hp.length r (Q .normal) ord ⟨fr, nt, hp ++ List.replicate r (some ⟨0, []⟩)⟩) : awp P G rl h0 (.region id ops true) Q ⟨fr, nt, hp⟩ :=
  .inr (.inr ⟨_, hp.length, r, ord, fs, t5.res (s := ⟨fr, nt, hp⟩) r, hl, hB, aH.start hr, h⟩)
theorem o5 {ops : Array Oper} {fs : List Nat} {base r : Nat} {K : St → Prop} (h : K s) : r5 P G rl ops fs base r K [] s := h
theorem m9 {ops : Array Oper} {K : St → Prop} (h : K s) : q8 P G rl ops K [] s := h
theorem n5 {ops : Array Oper} {fs : List Nat} {base r k : Nat} {K0 : St → Prop} {o : Oper} {rest : List Nat} (ho : ops.toList[k]? = some o) (ha : r6 o = false) (he : I1 o = true) (h : q8 P G rl ops K0 (k :: rest) s) : r5 P G rl ops fs base r K0 (k :: rest) s := by
  have ho : ops[k]? = some o := by rw [← Array.getElem?_toList]; exact ho
  unfold r5; simp only [ho]; rw [if_neg (by rw [ha]; decide), if_pos he]; exact h
theorem o6 {ops : Array Oper} {k : Nat} {K0 : St → Prop} {o : Oper} {rest : List Nat} (ho : ops.toList[k]? = some o) (ha : r6 o = false) (he : I1 o = true) (h : ∀ K : St → Prop, (∀ s, q8 P G rl ops K0 rest s → K s) → aop P G rl ops o K s) : q8 P G rl ops K0 (k :: rest) s := by
  have ho : ops[k]? = some o := by rw [← Array.getElem?_toList]; exact ho
  unfold q8; simp only [ho]; rw [if_pos he]; exact ⟨ha, h _ fun _ h => h⟩
theorem gi {ops : Array Oper} {fs : List Nat} {r k d nt : Nat} {K0 : St → Prop} {o : Oper} {rest : List Nat} {fr : Nat → Option AV} {hp R : Heap} {z : List PV} (ho : ops.toList[k]? = some o) (ha : r6 o = true) (hz : u9 P o = some z) (hd : o.dst = some d) (hlt : d < nt)
    (hs : R[y3 ops k]? = some (some ⟨0, []⟩)) (h : r5 P G rl ops fs hp.length r K0 rest ⟨upd fr d (.ptr (hp.length + y3 ops k) 1 0), nt, hp ++ R.set (y3 ops k) (some ⟨1, z.map .p⟩)⟩) : r5 P G rl ops fs hp.length r K0 (k :: rest) ⟨fr, nt, hp ++ R⟩ := by
  have ho : ops[k]? = some o := by rw [← Array.getElem?_toList]; exact ho
  unfold r5
  simp only [ho]
  rw [if_pos ha]
  refine ⟨z, hz, by rw [List.getElem?_append_right (by omega)]; rw [show hp.length + y3 ops k - hp.length = y3 ops k by omega]; exact hs, ?_⟩
  rw [hd]
  simp only [St.put, St.setB, hlt, if_true]
  rw [List.set_append_right _ _ (by omega), show hp.length + y3 ops k - hp.length = y3 ops k by omega]
  exact h
theorem Z1 {o : Oper} (hf : y5 o = true) : ¬ r6 o = true ∧ ¬ I1 o = true := by
  constructor
  · unfold y5 at hf; unfold r6
    split at hf <;> simp_all
  · unfold y5 at hf; unfold I1
    split at hf <;> simp_all
theorem je {ops : Array Oper} {d nt : Nat} {o : Oper} {fr : Nat → Option AV} {H : Heap} {v : AV} (hf : y5 o = true) (hd : o.dst = some d) (hlt : d < nt)
    (hv : ∀ (K : St → Prop), (∀ (fr' : Nat → Option AV) (nt' : Nat) (hp' : Heap), K ⟨upd fr' d v, nt', hp'⟩) → aG P G rl ops o K ⟨fr, nt, H⟩) : S3 P G rl ops o v ⟨fr, nt, H⟩ := fun H' => by
  obtain ⟨u, hy, hk⟩ := s7.mp (hv (fun s' => s'.fr d = some v) (fun fr' _ _ => cH fr' d v))
  rw [hd] at hk
  simp only [St.put, hlt, if_true, upd] at hk
  cases hk
  exact jV hf hy
theorem r8 {ops : Array Oper} {k d nt : Nat} {K0 : St → Prop} {o : Oper} {rest : List Nat} {fr : Nat → Option AV} {H : Heap} {v : AV} (ho : ops.toList[k]? = some o) (hf : y5 o = true) (hd : o.dst = some d) (hlt : d < nt)
    (hv : ∀ (K : St → Prop), (∀ (fr' : Nat → Option AV) (nt' : Nat) (hp' : Heap), K ⟨upd fr' d v, nt', hp'⟩) → aG P G rl ops o K ⟨fr, nt, H⟩) (h : q8 P G rl ops K0 rest ⟨upd fr d v, nt, H⟩) : q8 P G rl ops K0 (k :: rest) ⟨fr, nt, H⟩ := by
  have ho : ops[k]? = some o := by rw [← Array.getElem?_toList]; exact ho
  unfold q8
  simp only [ho]
  rw [if_neg (Z1 hf).2]
  refine ⟨hf, v, je hf hd hlt hv, ?_⟩
  rw [hd]; simp only [St.put, hlt, if_true]; exact h
theorem t8 {ops : Array Oper} {fs : List Nat} {base r k d nt : Nat} {K0 : St → Prop} {o : Oper} {rest : List Nat} {fr : Nat → Option AV} {H : Heap} {v : AV} (ho : ops.toList[k]? = some o) (hf : y5 o = true) (hd : o.dst = some d) (hlt : d < nt)
    (hv : ∀ (K : St → Prop), (∀ (fr' : Nat → Option AV) (nt' : Nat) (hp' : Heap), K ⟨upd fr' d v, nt', hp'⟩) → aG P G rl ops o K ⟨fr, nt, H⟩) (h : r5 P G rl ops fs base r K0 rest ⟨upd fr d v, nt, H⟩) : r5 P G rl ops fs base r K0 (k :: rest) ⟨fr, nt, H⟩ := by
  have ho : ops[k]? = some o := by rw [← Array.getElem?_toList]; exact ho
  unfold r5
  simp only [ho]
  rw [if_neg (Z1 hf).1, if_neg (Z1 hf).2, if_pos (by rw [hf]; rfl)]
  refine ⟨v, je hf hd hlt hv, ?_⟩
  rw [hd]; simp only [St.put, hlt, if_true]; exact h
theorem i3 {ops : Array Oper} {fs : List Nat} {r k d nt : Nat} {K0 : St → Prop} {o : Oper} {rest : List Nat} {fr : Nat → Option AV} {hp R : Heap} {z : List PV} (j : Nat) (hj : y3 ops k = j) (ho : ops.toList[k]? = some o) (ha : r6 o = true) (hd : o.dst = some d) (hlt : d < nt)
    (hs : R[j]? = some (some ⟨0, []⟩)) (hz : u9 P o = some z) (h : r5 P G rl ops fs hp.length r K0 rest ⟨upd fr d (.ptr (hp.length + j) 1 0), nt, hp ++ R.set j (some ⟨1, z.map .p⟩)⟩) : r5 P G rl ops fs hp.length r K0 (k :: rest) ⟨fr, nt, hp ++ R⟩ := by
  subst hj; exact gi ho ha hz hd hlt hs h
theorem t9 {ops : Array Oper} {fs : List Nat} {r k d nt : Nat} {K0 : St → Prop} {o : Oper} {rest : List Nat} {fr : Nat → Option AV} {hp R : Heap} {v : AV} (ho : ops.toList[k]? = some o) (he : I1 o = false) (hh : (y5 o || fs.contains k) = false) (hd : o.dst = some d) (hlt : d < nt)
    (hv : ∀ (R' : Heap) (K : St → Prop), (∀ (fr' : Nat → Option AV) (nt' : Nat) (hp' : Heap), K ⟨upd fr' d v, nt', hp'⟩) → aG P G rl ops o K ⟨fr, nt, hp ++ R'⟩) (h : r5 P G rl ops fs hp.length r K0 rest ⟨upd fr d v, nt, hp ++ R⟩) : r5 P G rl ops fs hp.length r K0 (k :: rest) ⟨fr, nt, hp ++ R⟩ := by
  have ho : ops[k]? = some o := by rw [← Array.getElem?_toList]; exact ho
  unfold r5
  simp only [ho]
  have ha : ¬ r6 o = true := by
    intro e
    unfold r6 at e
    unfold I1 at he
    simp only [Bool.and_eq_true] at e
    cases hop : o.op <;> simp_all
  rw [if_neg ha, if_neg (by rw [he]; decide), if_neg (by rw [hh]; decide)]
  refine ⟨v, fun R' hR' => ?_, ?_⟩
  · obtain ⟨u, hy, hk⟩ := s7.mp (hv R' (fun s' => s'.fr d = some v) (fun fr' _ _ => cH fr' d v))
    rw [hd] at hk
    simp only [St.put, hlt, if_true, upd] at hk
    cases hk
    have : (hp ++ R).take hp.length = hp := by simp
    simp only [this]
    exact hy
  · rw [hd]
    simp only [St.put, hlt, if_true]
    exact h
theorem tN {ops : Array Oper} {fs : List Nat} {r k d nt : Nat} {K0 : St → Prop} {o : Oper} {rest : List Nat} {fr : Nat → Option AV} {hp R : Heap} {v : AV} (ho : ops.toList[k]? = some o) (he : I1 o = false) (hf : fs.contains k = true) (hd : o.dst = some d) (hlt : d < nt)
    (hv : ∀ (H : Heap) (K : St → Prop), (∀ (fr' : Nat → Option AV) (nt' : Nat) (hp' : Heap), K ⟨upd fr' d v, nt', hp'⟩) → aG P G rl ops o K ⟨fr, nt, H⟩) (h : r5 P G rl ops fs hp.length r K0 rest ⟨upd fr d v, nt, hp ++ R⟩) : r5 P G rl ops fs hp.length r K0 (k :: rest) ⟨fr, nt, hp ++ R⟩ := by
  have ho : ops[k]? = some o := by rw [← Array.getElem?_toList]; exact ho
  unfold r5
  simp only [ho]
  have ha : ¬ r6 o = true := by
    intro e
    unfold r6 at e
    unfold I1 at he
    simp only [Bool.and_eq_true] at e
    cases hop : o.op <;> simp_all
  rw [if_neg ha, if_neg (by rw [he]; decide), if_pos (by rw [hf, Bool.or_true])]
  refine ⟨v, fun H => ?_, ?_⟩
  · obtain ⟨u, hy, hk⟩ := s7.mp (hv H (fun s' => s'.fr d = some v) (fun fr' _ _ => cH fr' d v))
    rw [hd] at hk
    simp only [St.put, hlt, if_true, upd] at hk
    cases hk
    exact hy
  · rw [hd]
    simp only [St.put, hlt, if_true]
    exact h
theorem v5 {id : Nat} {ops : Array Oper} {Q : Exit → St → Prop} (hB : mX .any ops ops.size 0 (Array.replicate ops.size false) = true) (h : n7 P G rl ops (Q .normal) ops.toList s) : awp P G rl h0 (.region id ops true) Q s := .inr (.inl ⟨hB, h⟩)
theorem v6 {ops : Array Oper} {K : St → Prop} (h : K s) : n7 P G rl ops K [] s := h
theorem v7 {ops : Array Oper} {K0 : St → Prop} {o : Oper} {rest : List Oper} (he : I1 o = true) (h : ∀ K : St → Prop, (∀ s, n7 P G rl ops K0 rest s → K s) → aop P G rl ops o K s) : n7 P G rl ops K0 (o :: rest) s := by
  unfold n7; rw [if_pos he]; exact h _ fun _ h => h
theorem B4 {ops : Array Oper} {K0 : St → Prop} {o : Oper} {rest : List Oper} {d nt : Nat} {v : AV} {fr : Nat → Option AV} {hp : Heap} (he : I1 o = false) (hd : o.dst = some d) (hlt : d < nt)
    (hv : ∀ (L : Heap) (K : St → Prop), (∀ (fr' : Nat → Option AV) (nt' : Nat) (hp' : Heap), K ⟨upd fr' d v, nt', hp'⟩) → aG P G rl ops o K ⟨fr, nt, hp ++ L⟩) (h : n7 P G rl ops K0 rest ⟨upd fr d v, nt, hp⟩) : n7 P G rl ops K0 (o :: rest) ⟨fr, nt, hp⟩ := by
  unfold n7
  rw [if_neg (by rw [he]; decide)]
  refine ⟨v, fun L => ?_, ?_⟩
  · obtain ⟨u, hy, hk⟩ := s7.mp (hv L (fun s' => s'.fr d = some v) (fun fr' _ _ => cH fr' d v))
    rw [hd] at hk
    simp only [St.put, hlt, if_true, upd] at hk
    cases hk
    exact hy
  · rw [hd]
    simp only [St.put, hlt, if_true]
    exact h
theorem c8 {ops : Array Oper} {K : St → Prop} (h : K s) : q9 P G rl ops K [] s := h
theorem b8 {ops : Array Oper} {K : St → Prop} (h : K s) : m7 P G rl ops K [] s := h
theorem d8 {ops : Array Oper} {K0 : St → Prop} {o : Oper} {rest : List Oper} (h : ∀ K : St → Prop, (∀ s, q9 P G rl ops K0 rest s → K s) → aop P G rl ops o K s) : q9 P G rl ops K0 (o :: rest) s :=
  h _ fun _ h => h
theorem d6 {ops : Array Oper} {K0 : St → Prop} {o : Oper} {rest : List Oper} (h : ∀ K : St → Prop, (∀ s, m7 P G rl ops K0 rest s → K s) → aG P G rl ops o K s) : m7 P G rl ops K0 (o :: rest) s :=
  h _ fun _ h => h
theorem lB {c : Operand} {x y : Code} {Q : Exit → St → Prop} {t : Bool} (hc : r4 G s c = some (.b t)) (h1 : t = true → awp P G rl h0 x Q s) (h2 : t = false → awp P G rl h0 y Q s) : awp P G rl h0 (.cond c x y) Q s := by
  change eE (r4 G s c) _ _
  rw [hc]
  exact ⟨h1, h2⟩
theorem b7 {id : Nat} {c : Code} {Q : Exit → St → Prop} (h : awp P G rl h0 c (W2 id Q) s) : awp P G rl h0 (.block id c) Q s := h
theorem c9 {id : Nat} {Q : Exit → St → Prop} (h : Q (.exit id) s) : awp P G rl h0 (.exit id) Q s := h
theorem d7 {Q : Exit → St → Prop} (h : Q .ret s) : awp P G rl h0 .ret Q s := h
theorem d4 {Q : Exit → St → Prop} (h : Q .normal s) : awp P G rl h0 .skip Q s := h
@[simp] theorem cI {K : St → Prop} {Q : Exit → St → Prop} : O3 K Q .normal s = K s := rfl
@[simp] theorem gj {K : St → Prop} {Q : Exit → St → Prop} {i : Nat} : O3 K Q (.exit i) s = Q (.exit i) s := rfl
@[simp] theorem jf {K : St → Prop} {Q : Exit → St → Prop} : O3 K Q .ret s = Q .ret s := rfl
@[simp] theorem bQ {id : Nat} {Q : Exit → St → Prop} : W2 id Q .normal s = Q .normal s := rfl
@[simp] theorem eH {id i : Nat} {Q : Exit → St → Prop} : W2 id Q (.exit i) s = if i = id then Q .normal s else Q (.exit i) s := rfl
@[simp] theorem gm {id : Nat} {Q : Exit → St → Prop} : W2 id Q .ret s = Q .ret s := rfl
theorem oK (b : Bool) : (b == true) = b := by cases b <;> rfl
theorem lC (b : Bool) : (b == false) = !b := by cases b <;> rfl
theorem U9 (fr : Nat → Option AV) (d : Nat) (v : AV) (k : Nat) : upd fr d v k = if k = d then some v else fr k := rfl
theorem q7 (L : Heap) (i : Nat) : (h ++ L)[h.length + i]? = L[i]? := by rw [List.getElem?_append_right (by omega)]; congr 1; omega
theorem cJ (L : Heap) : (h ++ L)[h.length]? = L[0]? := by rw [List.getElem?_append_right (by omega)]; congr 1; omega
theorem cK (L : Heap) (i : Nat) (x : Option Blk) : (h ++ L).set (h.length + i) x = h ++ L.set i x := by rw [List.set_append_right _ _ (by omega)]; congr 2; omega
theorem qX (L : Heap) (x : Option Blk) : (h ++ L).set h.length x = h ++ L.set 0 x := by rw [List.set_append_right _ _ (by omega)]; congr 2; omega
theorem qY (L : Heap) : (h ++ L).take h.length = h := by simp
theorem jX {x y : Code} {Q : Exit → St → Prop} (J : St → Prop) (h : awp P G rl h0 x (O3 (fun s' => ∃ s1, t5 P G h0 s' s1 ∧ J s1) Q) s) (hJ : ∀ s1, J s1 → awp P G rl h0 y Q s1) : awp P G rl h0 (.seq x y) Q s :=
  ⟨J, h, hJ⟩
theorem aZ {c : Code} {Q : Exit → St → Prop} (I : Nat → St → Prop) (n : Nat) (s1 : St) (hg : t5 P G h0 s s1) (hi : I n s1)
    (hr : ∀ n s, I n s → awp P G rl h0 c (O3 (fun s' => ∃ m s1, m < n ∧ t5 P G h0 s' s1 ∧ I m s1) Q) s) : awp P G rl h0 (.loop c) Q s :=
  ⟨I, ⟨n, s1, hg, hi⟩, hr⟩
def bK (P : Program) (rs : List ResultVar) (h : Heap) (K : AV → Prop) (s : St) : Prop :=
  match Q6 P s rs with
  | some r => match F2 s.heap h.length r with
    | some r' => s.heap.take h.length = h ∧ h.length ≤ s.heap.length ∧ K r'
    | none => False
  | none => False
theorem bK.fin {rs : List ResultVar} {K : AV → Prop} (hf : bK P rs h K s) : Fin P rs h.length h (fun r h' => K r ∧ h' = h) s := by
  unfold bK at hf
  split at hf
  · rename_i r hr
    split at hf
    · rename_i r' hr'
      obtain ⟨h1, h2, h3⟩ := hf
      exact ⟨Nat.le_refl _, h2, r, r', hr, hr', fun b bk hb => .inl (by rwa [h1] at hb), h3, h1⟩
    · exact hf.elim
  · exact hf.elim
def lD (P : Program) (rs : List ResultVar) (h : Heap) (K : AV → Prop) : Exit → St → Prop
  | .normal, s => bK P rs h K s
  | .ret, s => bK P rs h K s
  | _, _ => False
theorem d9 (hm : P.follows .mixedOrders = true) {f : FuncId} {fn : Func} {c : Code} (hf : P.funcs[f]? = some fn) (hb : fn.body = some c) {args : List AV} {K : AV → Prop} {rs : List ResultVar} {nt : Nat}
    (hrs : fn.results.toList = rs) (hn : fn.ntmps = nt) (hnt : args.length ≤ nt) (H : awp P G rl h c (lD P rs h K) (aY args nt h)) : f9 P G f args h (fun r h' => K r ∧ h' = h) := by
  subst hrs; subst hn
  refine Z0 (rl := rl) hm hf hb hnt h.length (gh _ _ _ _ (fun e s hh => ?_) H)
  cases e with
  | normal => exact ⟨.inl rfl, bK.fin hh⟩
  | ret => exact ⟨.inr rfl, bK.fin hh⟩
  | _ => exact hh.elim
def y1 (P : Program) (rs : List ResultVar) (h : Heap) (K : AV → Heap → Prop) (s : St) : Prop :=
  match Q6 P s rs with
  | some r => match F2 s.heap h.length r with
    | some r' => h.length ≤ s.heap.length ∧ (∀ (b : Nat) (bk : Blk), (s.heap.take h.length)[b]? = some (some bk) → h[b]? = some (some bk) ∨ ∀ x ∈ bk.cells, AVlt h.length x) ∧ K r' (s.heap.take h.length)
    | none => False
  | none => False
def y8 (P : Program) (rs : List ResultVar) (h : Heap) (K : AV → Heap → Prop) : Exit → St → Prop
  | .normal, s => y1 P rs h K s
  | .ret, s => y1 P rs h K s
  | _, _ => False
theorem j8 (hm : P.follows .mixedOrders = true) {f : FuncId} {fn : Func} {c : Code} (hf : P.funcs[f]? = some fn) (hb : fn.body = some c) {args : List AV} {K : AV → Heap → Prop} {rs : List ResultVar} {nt : Nat}
    (hrs : fn.results.toList = rs) (hn : fn.ntmps = nt) (hnt : args.length ≤ nt) (H : awp P G rl h c (y8 P rs h K) (aY args nt h)) : f9 P G f args h K := by
  subst hrs; subst hn
  have key : ∀ s, y1 P fn.results.toList h K s → Fin P fn.results.toList h.length h K s := by
    intro s hf
    unfold y1 at hf
    split at hf
    · rename_i r hr
      split at hf
      · rename_i r' hr'
        obtain ⟨h1, h2, h3⟩ := hf
        exact ⟨Nat.le_refl _, h1, r, r', hr, hr', h2, h3⟩
      · exact hf.elim
    · exact hf.elim
  refine Z0 (rl := rl) hm hf hb hnt h.length (gh _ _ _ _ (fun e s hh => ?_) H)
  cases e with
  | normal => exact ⟨.inl rfl, key _ hh⟩
  | ret => exact ⟨.inr rfl, key _ hh⟩
  | _ => exact hh.elim
def tP (P : Program) (rs : List ResultVar) (h : Heap) (K : AV → Heap → Prop) (s : St) : Prop :=
  h.length ≤ s.heap.length ∧ match Q6 P s rs with
  | some r => K r s.heap
  | none => False
theorem Sim.evoKeep (hm : P.follows .mixedOrders = true) {f : FuncId} {fn : Func} {c : Code} (hf : P.funcs[f]? = some fn) (hb : fn.body = some c) {args : List AV} {K : AV → Heap → Prop}
    (hnt : args.length ≤ fn.ntmps)
    (H : awp P G rl h c (fun e s => (e = .normal ∨ e = .ret) ∧ tP P fn.results.toList h K s) (aY args fn.ntmps h)) : f9 P G f args h K := by
  intro ι w vs hS hv
  refine calls_of_wp hf hb ?_
  have hs : Sim P G ι (aY args fn.ntmps h) { tmps := vs ++ Array.replicate (fn.ntmps - vs.size) undef, defers := [] } w := by
    refine ⟨hS, fun k x hx => ?_, ?_, rfl⟩
    · have hk : k < args.length := m6 hx
      have hk' : k < vs.size := by rw [← hv.1]; exact hk
      exact ⟨vs[k], by rw [Array.getElem?_append_left hk']; simp, hv.2 k x _ hx (by simp)⟩
    · have := hv.1
      simp [aY]; omega
  refine wp_mono (jc hm hS c _ _ ι _ w hs (.refl (Nat.le_refl h.length)) H) fun e a w' ⟨s', ι', ⟨he, hn1, hr⟩, hs', hev⟩ => ?_
  split at hr
  case h_2 => exact hr.elim
  rename_i r hr'
  obtain ⟨v, hrun, hrv⟩ := fZ hs' hr'
  have hpost : a.defers = [] ∧ ∃ v, (results fn a.tmps).run P w' = .ok v w' ∧ ∃ v1 r h' ι', Ending.returned v = .returned v1 ∧ K r h' ∧ SimH P G ι' h' w' ∧ VRel ι' h' w' r v1 ∧ Evo h.length ι h w ι' h' w' :=
    ⟨hs'.df, v, hrun, v, r, s'.heap, ι', rfl, hr, hs'.hS, hrv, hev⟩
  rcases he with rfl | rfl <;> exact hpost
end
end
section
mutual
def y6 (m : Nat) : AV → Prop
  | .p _ => True
  | .agg l => q6 m l
  | .tup l => q6 m l
  | .fn _ l => q6 m l
  | .ref b _ _ _ _ => b < m
  | .ptr b _ _ => b < m
  | .pin _ => True
def q6 (m : Nat) : List AV → Prop
  | [] => True
  | x :: r => y6 m x ∧ q6 m r
end
mutual
theorem oL {m : Nat} : ∀ (x : AV), y6 m x → AVlt m x
  | .p _, _ => .p _
  | .agg l, h => .agg l (M2 l (by simpa [y6] using h))
  | .tup l, h => .tup l (M2 l (by simpa [y6] using h))
  | .fn f l, h => .fn f l (M2 l (by simpa [y6] using h))
  | .ref b g o s l, h => .ref b g o s l (by simpa [y6] using h)
  | .ptr b g o, h => .ptr b g o (by simpa [y6] using h)
  | .pin c, _ => .pin c
theorem M2 {m : Nat} : ∀ (l : List AV), q6 m l → ∀ x ∈ l, AVlt m x
  | [], _ => fun x hx => by simp at hx
  | y :: r, h => fun x hx => by
    simp only [q6] at h
    rcases List.mem_cons.mp hx with e | e
    · rw [e]; exact oL y h.1
    · exact M2 r h.2 x e
end
def frL : List (Nat × AV) → Nat → Option AV
  | [], _ => none
  | (d, v) :: r, k => if k = d then some v else frL r k
def S5 (s : St) (m : Nat) : List (Nat × AV) → Prop
  | [] => True
  | (k, x) :: r => s.fr k = some x ∧ y6 m x ∧ S5 s m r
def A6 (m : Nat) : List (Option Blk) → Prop
  | [] => True
  | none :: r => A6 m r
  | some bk :: r => q6 m bk.cells ∧ A6 m r
theorem dF {s : St} {m : Nat} : ∀ {l : List (Nat × AV)}, S5 s m l → ∀ k x, frL l k = some x → s.fr k = some x ∧ AVlt m x
  | [], _, k, x, h => by simp [frL] at h
  | (d, v) :: r, hk, k, x, h => by
    simp only [S5] at hk
    simp only [frL] at h
    split at h
    · rename_i e
      cases h
      rw [e]
      exact ⟨hk.1, oL _ hk.2.1⟩
    · exact dF hk.2.2 k x h
theorem Z2 {m : Nat} : ∀ {l : List (Option Blk)}, A6 m l → ∀ (i : Nat) bk, l[i]? = some (some bk) → ∀ x ∈ bk.cells, AVlt m x
  | [], _, i, bk, h => by simp at h
  | none :: r, hk, i, bk, h => by
    simp only [A6] at hk
    cases i with
    | zero => simp at h
    | succ i => exact Z2 hk i bk (by simpa using h)
  | some b :: r, hk, i, bk, h => by
    simp only [A6] at hk
    cases i with
    | zero => simp at h; subst h; exact M2 _ hk.1
    | succ i => exact Z2 hk.2 i bk (by simpa using h)
section
variable {P : Program} {G : Nat → Option (List PV)} {rl : List String} {h : Heap}
def Sub (h : Heap) (s : St) (l : List (Nat × AV)) (L : List (Option Blk)) (nt : Nat) : Prop :=
  s.nt = nt ∧ (∃ L', s.heap = h ++ (L ++ L')) ∧ S5 s (h.length + L.length) l ∧ A6 (h.length + L.length) L
theorem Sub.ghost {s : St} {l : List (Nat × AV)} {L : List (Option Blk)} {nt : Nat} (hs : Sub h s l L nt) : t5 P G h s ⟨frL l, nt, h ++ L⟩ := by
  obtain ⟨h1, ⟨L', h2⟩, h3, h4⟩ := hs
  have ht : s.heap.take (h.length + L.length) = h ++ L := by rw [h2, ← List.append_assoc, List.take_left' (by simp)]
  refine t5.le h1.symm (h.length + L.length) (by omega) (by rw [h2]; simp only [List.length_append]; omega) ht.symm (fun k x hx => dF h3 k x hx) fun b bk hb => ?_
  rw [ht] at hb
  by_cases hlt : b < h.length
  · left; rwa [List.getElem?_append_left hlt] at hb
  · right
    rw [List.getElem?_append_right (by omega)] at hb
    exact Z2 h4 _ bk hb
theorem s5 {c : Code} {Q : Exit → St → Prop} {s : St} (N nt : Nat) (l : Nat → List (Nat × AV)) (L : Nat → List (Option Blk)) (p : Nat → Prop) (hi : Sub h s (l 0) (L 0) nt) (hp : p 0)
    (hb : ∀ i, i ≤ N → p i → ∀ K : St → Prop, (∀ s', (i < N ∧ p (i + 1) ∧ Sub h s' (l (i + 1)) (L (i + 1)) nt) → K s') → awp P G rl h c (O3 K Q) ⟨frL (l i), nt, h ++ L i⟩) : awp P G rl h (.loop c) Q s := by
  refine aZ (fun n s => ∃ i, i ≤ N ∧ p i ∧ n = N - i ∧ s = ⟨frL (l i), nt, h ++ L i⟩) N _ hi.ghost ⟨0, Nat.zero_le _, hp, rfl, rfl⟩ fun n s hI => ?_
  obtain ⟨i, h1, h2, rfl, rfl⟩ := hI
  exact hb i h1 h2 _ fun s' hs => ⟨N - (i + 1), _, by omega, hs.2.2.ghost, i + 1, by omega, hs.2.1, rfl, rfl⟩
theorem Sub.ghostH {H : Heap} {s : St} {l : List (Nat × AV)} {L : List (Option Blk)} {nt : Nat} (hl : H.length = h.length)
    (hc : ∀ (b : Nat) (bk : Blk), H[b]? = some (some bk) → h[b]? = some (some bk) ∨ q6 h.length bk.cells) (hs : Sub H s l L nt) : t5 P G h s ⟨frL l, nt, H ++ L⟩ := by
  obtain ⟨h1, ⟨L', h2⟩, h3, h4⟩ := hs
  have ht : s.heap.take (H.length + L.length) = H ++ L := by rw [h2, ← List.append_assoc, List.take_left' (by simp)]
  refine t5.le h1.symm (H.length + L.length) (by omega) (by rw [h2]; simp only [List.length_append]; omega) ht.symm (fun k x hx => dF h3 k x hx) fun b bk hb => ?_
  rw [ht] at hb
  by_cases hlt : b < H.length
  · rw [List.getElem?_append_left hlt] at hb
    rcases hc b bk hb with hb | hb
    · exact .inl hb
    · exact .inr fun x hx => (M2 _ hb x hx).mono (by omega)
  · right
    rw [List.getElem?_append_right (by omega)] at hb
    exact Z2 h4 _ bk hb
theorem S6 {c : Code} {Q : Exit → St → Prop} {s : St} (N nt : Nat) (H : Nat → Heap) (l : Nat → List (Nat × AV)) (L : Nat → List (Option Blk)) (p : Nat → Prop)
    (hH : ∀ i, (H i).length = h.length ∧ ∀ (b : Nat) (bk : Blk), (H i)[b]? = some (some bk) → h[b]? = some (some bk) ∨ q6 h.length bk.cells) (hi : Sub (H 0) s (l 0) (L 0) nt) (hp : p 0)
    (hb : ∀ i, i ≤ N → p i → ∀ K : St → Prop, (∀ s', (i < N ∧ p (i + 1) ∧ Sub (H (i + 1)) s' (l (i + 1)) (L (i + 1)) nt) → K s') → awp P G rl h c (O3 K Q) ⟨frL (l i), nt, H i ++ L i⟩) : awp P G rl h (.loop c) Q s := by
  refine aZ (fun n s => ∃ i, i ≤ N ∧ p i ∧ n = N - i ∧ s = ⟨frL (l i), nt, H i ++ L i⟩) N _ (hi.ghostH (hH 0).1 (hH 0).2) ⟨0, Nat.zero_le _, hp, rfl, rfl⟩ fun n s hI => ?_
  obtain ⟨i, h1, h2, rfl, rfl⟩ := hI
  exact hb i h1 h2 _ fun s' hs => ⟨N - (i + 1), _, by omega, hs.2.2.ghostH (hH (i + 1)).1 (hH (i + 1)).2, i + 1, by omega, hs.2.1, rfl, rfl⟩
theorem gn {x y : Code} {Q : Exit → St → Prop} {s : St} (nt : Nat) (l : List (Nat × AV)) (L : List (Option Blk)) (p : Prop) (h1 : ∀ K : St → Prop, (∀ s', (p ∧ Sub h s' l L nt) → K s') → awp P G rl h x (O3 K Q) s)
    (h2 : p → awp P G rl h y Q ⟨frL l, nt, h ++ L⟩) : awp P G rl h (.seq x y) Q s :=
  jX (fun s1 => p ∧ s1 = ⟨frL l, nt, h ++ L⟩) (h1 _ fun s' hs => ⟨_, hs.2.ghost, hs.1, rfl⟩) fun s1 e => by obtain ⟨hp, rfl⟩ := e; exact h2 hp
end
end
section
theorem sA (n : Int) : inR .i64 n = (decide (-9223372036854775808 ≤ n) && decide (n ≤ 9223372036854775807)) := rfl
theorem sB (n : Int) : inR .u64 n = (decide (0 ≤ n) && decide (n ≤ 18446744073709551615)) := rfl
theorem sC (n : Int) : inR .u32 n = (decide (0 ≤ n) && decide (n ≤ 4294967295)) := rfl
theorem sD (n : Int) : inR .i32 n = (decide (-2147483648 ≤ n) && decide (n ≤ 2147483647)) := rfl
theorem tQ (n : Int) : inR .u8 n = (decide (0 ≤ n) && decide (n ≤ 255)) := rfl
def ni (w : Bool) (v : AV) : AV := if w = true then v else .undef
theorem pM (v : AV) : ni true v = v := rfl
theorem nj (v : AV) : ni false v = .undef := rfl
theorem pN (x y : AV) : iv true x y = x := by unfold iv; split <;> rfl
theorem nl (x y : AV) : iv false x y = y := by unfold iv; split <;> rfl
theorem sE (t x : Bool) : iv t (.b true) (ni (!t) (.b x)) = .b (t || x) := by cases t <;> rfl
theorem qZ (t x : Bool) : iv (!t) (.b true) (ni t (.b x)) = .b (!t || x) := by cases t <;> rfl
theorem ra (t x : Bool) : iv t (ni t (.b x)) (.b false) = .b (t && x) := by cases t <;> rfl
def jY : Option AV → Bool → Option Bool
  | some (.p (.bool g)), want => some (g == want)
  | some (.tup []), _ => some false
  | _, _ => none
theorem rb (g want : Bool) : jY (some (.p (.bool g))) want = some (g == want) := rfl
theorem rd (want : Bool) : jY (some (.tup [])) want = some false := rfl
theorem re (u x want : Bool) : jY (some (ni u (.p (.bool x)))) want = some (u && (x == want)) := by cases u <;> rfl
theorem rf (ops : Array Oper) (o : Oper) (s : St) : H9 ops o s = match o.guard with | none => some true | some (j, want) => jY (Y6 ops s j) want := by
  unfold H9
  cases o.guard with
  | none => rfl
  | some q =>
    obtain ⟨j, want⟩ := q
    dsimp only
    generalize Y6 ops s j = g
    cases g with
    | none => rfl
    | some v =>
      cases v with
      | p x => cases x <;> rfl
      | tup l => cases l <;> rfl
      | _ => rfl
theorem sF (t : Bool) (X Y : Prop) : eE (some (.p (.bool t))) X Y = ((t = true → X) ∧ (t = false → Y)) := rfl
theorem g8 {K : St → Prop} {X : Prop} {b : Bool} {fr : Nat → Option AV} {nt d : Nat} {hp : Heap} {v : AV} (hv : b = true → K ⟨upd fr d v, nt, hp⟩ → X) (hk : K ⟨upd fr d (ni b v), nt, hp⟩) : (b = true → X) ∧ (b = false → K ⟨upd fr d (.tup []), nt, hp⟩) := by
  cases b with
  | true => exact ⟨fun _ => hv rfl hk, fun h => (by cases h)⟩
  | false => exact ⟨fun h => (by cases h), fun _ => hk⟩
section
variable {P : Program} {G : Nat → Option (List PV)} {rl : List String} {ops : Array Oper} {o : Oper} {K : St → Prop} {s : St}
theorem b5 {h0 : Heap} {c : Operand} {x y : Code} {Q : Exit → St → Prop} (h : ∀ A B : Prop, (awp P G rl h0 x Q s → A) → (awp P G rl h0 y Q s → B) → eE (r4 G s c) A B) : awp P G rl h0 (.cond c x y) Q s :=
  h _ _ id id
end
end
section
def SS := And.intro (And.intro (And.intro (And.intro (And.intro (And.intro (And.intro (@aop.eq_1) (And.intro (@Y6.eq_1) (@P9.eq_1))) (And.intro (@bY.eq_1) (And.intro (@aG.eq_1) (@z5.eq_1)))) (And.intro (And.intro (@opA.eq_1) (And.intro (@r4.eq_1) (@r4.eq_2))) (And.intro (And.intro (@r4.eq_3) (@r4.eq_4)) (And.intro (@F9.eq_1) (@F9.eq_2))))) (And.intro (And.intro (And.intro (@dv.eq_1) (And.intro (@dv.eq_2) (@dv.eq_3))) (And.intro (@J4.eq_1) (And.intro (@J4.eq_2) (@J4.eq_3)))) (And.intro (And.intro (@J4.eq_4) (And.intro (@J4.eq_5) (@J4.eq_6))) (And.intro (And.intro (@J4.eq_7) (@L9.eq_1)) (And.intro (@L9.eq_2) (@sA)))))) (And.intro (And.intro (And.intro (And.intro (@sB) (And.intro (@sC) (@sD))) (And.intro (@tQ) (And.intro (@Option.map_some.{0, 0}) (@Option.map_none.{0, 0})))) (And.intro (And.intro (@Option.bind_some.{0, 0}) (And.intro (@Option.bind_none.{0, 0}) (@St.put.eq_1))) (And.intro (And.intro (@St.put.eq_2) (@U9)) (And.intro (@cI) (@gj))))) (And.intro (And.intro (And.intro (@jf) (And.intro (@bQ) (@eH))) (And.intro (@gm) (And.intro (@aK.eq_1) (@aK.eq_2)))) (And.intro (And.intro (@aK.eq_3) (And.intro (@AV.scalar.eq_1) (@AV.scalar.eq_2))) (And.intro (And.intro (@AV.scalar.eq_3) (@pu.eq_1)) (And.intro (@pu.eq_2) (@pu.eq_3))))))) (And.intro (And.intro (And.intro (And.intro (And.intro (@cA.eq_1) (And.intro (@cA.eq_2) (@cA.eq_3))) (And.intro (@cA.eq_4) (And.intro (@cA.eq_5) (@cA.eq_6)))) (And.intro (And.intro (@cA.eq_7) (And.intro (@Y5.eq_1) (@Y5.eq_2))) (And.intro (And.intro (@Y5.eq_3) (@Y5.eq_4)) (And.intro (@Y5.eq_5) (@Y5.eq_6))))) (And.intro (And.intro (And.intro (@Y5.eq_7) (And.intro (@eqA.eq_1) (@eqA.eq_2))) (And.intro (@eqA.eq_3) (And.intro (@eqA.eq_4) (@eqA.eq_5)))) (And.intro (And.intro (@eqA.eq_6) (And.intro (@unA.eq_1) (@unA.eq_2))) (And.intro (And.intro (@unA.eq_3) (@t4.eq_1)) (And.intro (@P8.eq_1) (@P8.eq_2)))))) (And.intro (And.intro (And.intro (And.intro (@TI.isAgg.eq_1) (And.intro (@N3.eq_1) (@s8.eq_1))) (And.intro (@dw.eq_1) (And.intro (@dw.eq_2) (@dw.eq_3)))) (And.intro (And.intro (@dw.eq_4) (And.intro (@dw.eq_5) (@M0.eq_1))) (And.intro (And.intro (@M0.eq_2) (@M0.eq_3)) (And.intro (@M0.eq_4) (@M0.eq_5))))) (And.intro (And.intro (And.intro (@M0.eq_6) (And.intro (@fz.eq_1) (@S2.eq_1))) (And.intro (And.intro (@S2.eq_2) (@S2.eq_3)) (And.intro (@S2.eq_4) (@jN.eq_1)))) (And.intro (And.intro (@I0.eq_1) (And.intro (@I0.eq_2) (@I0.eq_3))) (And.intro (And.intro (@pN) (@nl)) (And.intro (@sE) (@qZ)))))))) (And.intro (And.intro (And.intro (And.intro (And.intro (And.intro (@ra) (And.intro (@pM) (@nj))) (And.intro (@decide_true) (And.intro (@decide_false) (@ne_eq.{1})))) (And.intro (And.intro (@ap.eq_1) (And.intro (@ap.eq_2) (@w9.eq_1))) (And.intro (And.intro (@w9.eq_2) (@pvs.eq_1)) (And.intro (@pvs.eq_2) (@pvs.eq_3))))) (And.intro (And.intro (And.intro (@B5.eq_1) (And.intro (@B5.eq_2) (@q7))) (And.intro (@cJ) (And.intro (@cK) (@qX)))) (And.intro (And.intro (@if_true.{1}) (And.intro (@if_false.{1}) (@ite_true.{1}))) (And.intro (And.intro (@ite_false.{1}) (@true_implies)) (And.intro (@false_implies) (@forall_const.{1})))))) (And.intro (And.intro (And.intro (And.intro (@and_true) (And.intro (@true_and) (@and_self))) (And.intro (@and_false) (And.intro (@false_and) (@List.getElem?_cons_zero.{0})))) (And.intro (And.intro (@List.getElem?_cons_succ.{0}) (And.intro (@List.getElem?_nil.{0}) (@List.map_cons.{0, 0}))) (And.intro (And.intro (@List.map_nil.{0, 0}) (@List.drop_succ_cons.{0})) (And.intro (@List.drop_zero.{0}) (@List.take_succ_cons.{0}))))) (And.intro (And.intro (And.intro (@List.take_zero.{0}) (And.intro (@List.length_cons.{0}) (@List.length_nil.{0}))) (And.intro (@List.cons_append.{0}) (And.intro (@List.nil_append.{0}) (@List.append_nil.{0})))) (And.intro (And.intro (@List.append_assoc.{0}) (And.intro (@List.all_cons.{0}) (@List.all_nil.{0}))) (And.intro (And.intro (@List.isEmpty_cons.{0}) (@List.set_cons_zero.{0})) (And.intro (@List.set_cons_succ.{0}) (@Bool.and_true))))))) (And.intro (And.intro (And.intro (And.intro (And.intro (@Bool.true_and) (And.intro (@Bool.false_eq_true) (@Bool.and_self))) (And.intro (@Option.isSome_some.{0}) (And.intro (@Option.some.injEq.{0}) (@Option.bind_map.{0, 0, 0})))) (And.intro (And.intro (@beq_self_eq_true.{0}) (And.intro (@not_true_eq_false) (@not_false_eq_true))) (And.intro (And.intro (@Bool.not_true) (@Bool.not_false)) (And.intro (@Nat.zero_le) (@Nat.add_zero))))) (And.intro (And.intro (And.intro (@Nat.zero_add) (And.intro (@Nat.lt_irrefl) (@List.length_append.{0}))) (And.intro (@cond_true.{1}) (And.intro (@cond_false.{1}) (@List.flatMap_cons.{0, 0})))) (And.intro (And.intro (@List.flatMap_nil.{0, 0}) (And.intro (@List.replicate.eq_1.{0}) (@List.replicate.eq_2.{0}))) (And.intro (And.intro (@id_eq.{1}) (@aY.eq_1)) (And.intro (@List.getElem?_toArray.{0}) (@oK)))))) (And.intro (And.intro (And.intro (And.intro (@lC) (And.intro (@Option.isSome_none.{0}) (@Bool.not_eq_true))) (And.intro (@Bool.not_eq_false) (And.intro (@eq_self.{1}) (@Bool.or_true)))) (And.intro (And.intro (@Bool.true_or) (And.intro (@Bool.or_false) (@Bool.false_or))) (And.intro (And.intro (@Bool.and_false) (@Bool.false_and)) (And.intro (@Bool.not_not) (@frL.eq_1))))) (And.intro (And.intro (And.intro (@frL.eq_2) (And.intro (@Int.toNat_natCast) (@Int.natCast_nonneg))) (And.intro (And.intro (@List.getElem?_map.{0, 0}) (@jM.eq_def)) (And.intro (@jL.eq_def) (@A3.eq_def)))) (And.intro (And.intro (@aL.eq_def) (And.intro (@jK.eq_def) (@rf))) (And.intro (And.intro (@rb) (@rd)) (And.intro (@re) (@sF))))))))
def S1 := And.intro SS (And.intro @AV.i.eq_1 (And.intro @AV.b.eq_1 (And.intro @AV.undef.eq_1 (And.intro @List.contains_nil.{0} @Bool.false_eq_true))))
theorem d5 {P : Program} {G : Nat → Option (List PV)} {rl : List String} {h0 : Heap} {s : St} {id : Nat} {ops : Array Oper} {Q : Exit → St → Prop} (h : m7 P G rl ops (Q .normal) ops.toList s) (hB : Region.lexB .any ops = true := by kernel_rfl) : awp P G rl h0 (.region id ops true) Q s := j4 hB h
def cndB := And.intro @cond_true.{1} @cond_false.{1}
def ENB := And.intro @lD.eq_1 (And.intro @lD.eq_2 (And.intro @lD.eq_3 (And.intro @bK.eq_1 (And.intro @Q6.eq_1 (And.intro @S4.eq_1 (And.intro @S4.eq_2 (And.intro @K6.eq_1 (And.intro @K6.eq_2 (And.intro @F2.eq_1 (And.intro @F2.eq_2 (And.intro @D8.eq_1 (And.intro @D8.eq_2 (And.intro @D8.eq_3 (And.intro @D3.eq_1 (And.intro @D3.eq_2 (And.intro @pur.eq_1 (And.intro @pur.eq_2 (And.intro @pur.eq_3 (And.intro @pur.eq_4 (And.intro @I2.eq_1 (And.intro @I2.eq_2 (And.intro @qY (And.intro @List.take_length.{0} (And.intro @Nat.le_add_right @Nat.le_refl))))))))))))))))))))))))
def KNB := And.intro @S5.eq_1 (And.intro @S5.eq_2 (And.intro @y6.eq_1 (And.intro @y6.eq_2 (And.intro @y6.eq_3 (And.intro @y6.eq_4 (And.intro @y6.eq_5 (And.intro @y6.eq_6 (And.intro @y6.eq_7 (And.intro @q6.eq_1 (And.intro @q6.eq_2 (And.intro @A6.eq_1 (And.intro @A6.eq_2 (And.intro @A6.eq_3 (And.intro @List.length_map.{0, 0} (And.intro @Int.natCast_zero (And.intro @AV.p.injEq (And.intro @PV.int.injEq (And.intro @PV.bool.injEq @PV.sl.injEq))))))))))))))))))
def NB := And.intro @cI (And.intro @gj (And.intro @jf (And.intro @bQ (And.intro @eH @gm))))
def BN := And.intro @Bool.not_not (And.intro @Bool.and_eq_true (And.intro @Bool.not_eq_eq_eq_not (And.intro @Bool.not_true (And.intro @Bool.not_false (And.intro @Bool.and_true (And.intro @Bool.true_and (And.intro @Bool.or_false (And.intro @Bool.false_or (And.intro @decide_true (And.intro @decide_false (And.intro @oK @lC)))))))))))
def BN2 := And.intro @Bool.not_eq_eq_eq_not (And.intro @Bool.not_true @Bool.not_false)
def BN3 := And.intro @decide_eq_true_eq (And.intro @decide_eq_false_iff_not (And.intro @beq_iff_eq.{0} (And.intro @bne_iff_ne.{0} (And.intro @beq_eq_false_iff_ne.{0} (And.intro @bne_eq_false_iff_eq.{0} (And.intro @ne_eq.{1} (And.intro @Bool.not_eq_eq_eq_not (And.intro @Bool.not_true (And.intro @Bool.not_false (And.intro @Bool.and_eq_true @Bool.or_eq_false_iff))))))))))
theorem b9 {P : Program} {G : Nat → Option (List PV)} {f : FuncId} {args : List AV} {h h0 : Heap} {r0 : AV} {K : AV → Heap → Prop} (hE : j5 P f) (hc : f9 P G f args h fun r h' => r = r0 ∧ h' = h0) (hk : K r0 h0) : j5 P f ∧ f9 P G f args h fun r h' => K r h' :=
  ⟨hE, hc.mono fun r h' e => by rw [e.1, e.2]; exact hk⟩
theorem c7 {P : Program} {G : Nat → Option (List PV)} {f : FuncId} {args : List AV} {h : Heap} {r0 : AV} {K : AV → Prop} (hE : j5 P f) (hc : f9 P G f args h fun r h' => r = r0 ∧ h' = h) (hk : K r0) : j5 P f ∧ ∃ r, f9 P G f args h (fun r' h' => r' = r ∧ h' = h) ∧ K r :=
  ⟨hE, r0, hc, hk⟩
end
section
set_option maxRecDepth 10000
theorem i6 : Tryz.prog.follows .mixedOrders = true := by kernel_rfl
theorem T2 : l7 Tryz.prog 2 = some ⟨.int .i64, 1, 8, some [.int .i64 0]⟩ := by kernel_rfl
theorem T3 : l7 Tryz.prog 3 = some ⟨.int .i64, 1, 8, some [.int .i64 0]⟩ := by kernel_rfl
theorem T4 : l7 Tryz.prog 4 = some ⟨.bool, 1, 1, some [.bool false]⟩ := by kernel_rfl
theorem T9 : l7 Tryz.prog 9 = some ⟨.str, 1, 16, some [.str ⟨#[]⟩]⟩ := by kernel_rfl
theorem T22 : l7 Tryz.prog 22 = some ⟨.slice 70, 1, 24, some [.nils]⟩ := by kernel_rfl
theorem T23 : l7 Tryz.prog 23 = some ⟨.slice 73, 1, 24, some [.nils]⟩ := by kernel_rfl
theorem T25 : l7 Tryz.prog 25 = some ⟨.struct [(0, 1, 22), (1, 1, 23)], 2, 48, some [.nils, .nils]⟩ := by kernel_rfl
theorem T26 : l7 Tryz.prog 26 = some ⟨.array 40 3, 40, 320, some [.int .i64 0, .int .i64 0, .int .i64 0, .int .i64 0, .int .i64 0, .int .i64 0, .int .i64 0, .int .i64 0, .int .i64 0, .int .i64 0, .int .i64 0, .int .i64 0, .int .i64 0, .int .i64 0, .int .i64 0, .int .i64 0, .int .i64 0, .int .i64 0, .int .i64 0, .int .i64 0, .int .i64 0, .int .i64 0, .int .i64 0, .int .i64 0, .int .i64 0, .int .i64 0, .int .i64 0, .int .i64 0, .int .i64 0, .int .i64 0, .int .i64 0, .int .i64 0, .int .i64 0, .int .i64 0, .int .i64 0, .int .i64 0, .int .i64 0, .int .i64 0, .int .i64 0, .int .i64 0]⟩ := by kernel_rfl
theorem T27 : l7 Tryz.prog 27 = some ⟨.array 4 3, 4, 32, some [.int .i64 0, .int .i64 0, .int .i64 0, .int .i64 0]⟩ := by kernel_rfl
theorem T29 : l7 Tryz.prog 29 = some ⟨.struct [(0, 40, 26), (40, 4, 27), (44, 4, 27), (48, 1, 3)], 49, 392, some [.int .i64 0, .int .i64 0, .int .i64 0, .int .i64 0, .int .i64 0, .int .i64 0, .int .i64 0, .int .i64 0, .int .i64 0, .int .i64 0, .int .i64 0, .int .i64 0, .int .i64 0, .int .i64 0, .int .i64 0, .int .i64 0, .int .i64 0, .int .i64 0, .int .i64 0, .int .i64 0, .int .i64 0, .int .i64 0, .int .i64 0, .int .i64 0, .int .i64 0, .int .i64 0, .int .i64 0, .int .i64 0, .int .i64 0, .int .i64 0, .int .i64 0, .int .i64 0, .int .i64 0, .int .i64 0, .int .i64 0, .int .i64 0, .int .i64 0, .int .i64 0, .int .i64 0, .int .i64 0, .int .i64 0, .int .i64 0, .int .i64 0, .int .i64 0, .int .i64 0, .int .i64 0, .int .i64 0, .int .i64 0, .int .i64 0]⟩ := by kernel_rfl
theorem T32 : l7 Tryz.prog 32 = some ⟨.struct [(0, 40, 26), (40, 4, 27), (44, 4, 27), (48, 1, 3)], 49, 392, some [.int .i64 0, .int .i64 0, .int .i64 0, .int .i64 0, .int .i64 0, .int .i64 0, .int .i64 0, .int .i64 0, .int .i64 0, .int .i64 0, .int .i64 0, .int .i64 0, .int .i64 0, .int .i64 0, .int .i64 0, .int .i64 0, .int .i64 0, .int .i64 0, .int .i64 0, .int .i64 0, .int .i64 0, .int .i64 0, .int .i64 0, .int .i64 0, .int .i64 0, .int .i64 0, .int .i64 0, .int .i64 0, .int .i64 0, .int .i64 0, .int .i64 0, .int .i64 0, .int .i64 0, .int .i64 0, .int .i64 0, .int .i64 0, .int .i64 0, .int .i64 0, .int .i64 0, .int .i64 0, .int .i64 0, .int .i64 0, .int .i64 0, .int .i64 0, .int .i64 0, .int .i64 0, .int .i64 0, .int .i64 0, .int .i64 0]⟩ := by kernel_rfl
theorem T34 : l7 Tryz.prog 34 = some ⟨.int .i64, 1, 8, some [.int .i64 0]⟩ := by kernel_rfl
theorem T38 : l7 Tryz.prog 38 = some ⟨.slice 79, 1, 24, some [.nils]⟩ := by kernel_rfl
theorem T40 : l7 Tryz.prog 40 = some ⟨.slice 61, 1, 24, some [.nils]⟩ := by kernel_rfl
theorem T46 : l7 Tryz.prog 46 = some ⟨.struct [(0, 1, 3), (1, 1, 3), (2, 1, 3)], 3, 24, some [.int .i64 0, .int .i64 0, .int .i64 0]⟩ := by kernel_rfl
theorem T50 : l7 Tryz.prog 50 = some ⟨.struct [(0, 49, 32), (49, 3, 46), (52, 1, 3)], 53, 424, some [.int .i64 0, .int .i64 0, .int .i64 0, .int .i64 0, .int .i64 0, .int .i64 0, .int .i64 0, .int .i64 0, .int .i64 0, .int .i64 0, .int .i64 0, .int .i64 0, .int .i64 0, .int .i64 0, .int .i64 0, .int .i64 0, .int .i64 0, .int .i64 0, .int .i64 0, .int .i64 0, .int .i64 0, .int .i64 0, .int .i64 0, .int .i64 0, .int .i64 0, .int .i64 0, .int .i64 0, .int .i64 0, .int .i64 0, .int .i64 0, .int .i64 0, .int .i64 0, .int .i64 0, .int .i64 0, .int .i64 0, .int .i64 0, .int .i64 0, .int .i64 0, .int .i64 0, .int .i64 0, .int .i64 0, .int .i64 0, .int .i64 0, .int .i64 0, .int .i64 0, .int .i64 0, .int .i64 0, .int .i64 0, .int .i64 0, .int .i64 0, .int .i64 0, .int .i64 0, .int .i64 0]⟩ := by kernel_rfl
theorem T53 : l7 Tryz.prog 53 = some ⟨.slice 3, 1, 24, some [.nils]⟩ := by kernel_rfl
theorem T57 : l7 Tryz.prog 57 = some ⟨.struct [(0, 1, 3), (1, 1, 3)], 2, 16, some [.int .i64 0, .int .i64 0]⟩ := by kernel_rfl
theorem T61 : l7 Tryz.prog 61 = some ⟨.struct [(0, 1, 3), (1, 1, 3), (2, 3, 46), (5, 49, 32)], 54, 432, some [.int .i64 0, .int .i64 0, .int .i64 0, .int .i64 0, .int .i64 0, .int .i64 0, .int .i64 0, .int .i64 0, .int .i64 0, .int .i64 0, .int .i64 0, .int .i64 0, .int .i64 0, .int .i64 0, .int .i64 0, .int .i64 0, .int .i64 0, .int .i64 0, .int .i64 0, .int .i64 0, .int .i64 0, .int .i64 0, .int .i64 0, .int .i64 0, .int .i64 0, .int .i64 0, .int .i64 0, .int .i64 0, .int .i64 0, .int .i64 0, .int .i64 0, .int .i64 0, .int .i64 0, .int .i64 0, .int .i64 0, .int .i64 0, .int .i64 0, .int .i64 0, .int .i64 0, .int .i64 0, .int .i64 0, .int .i64 0, .int .i64 0, .int .i64 0, .int .i64 0, .int .i64 0, .int .i64 0, .int .i64 0, .int .i64 0, .int .i64 0, .int .i64 0, .int .i64 0, .int .i64 0, .int .i64 0]⟩ := by kernel_rfl
theorem T63 : l7 Tryz.prog 63 = some ⟨.ptr, 1, 8, some [.nilp]⟩ := by kernel_rfl
theorem T65 : l7 Tryz.prog 65 = some ⟨.struct [(0, 1, 3)], 1, 8, some [.int .i64 0]⟩ := by kernel_rfl
theorem T66 : l7 Tryz.prog 66 = some ⟨.slice 68, 1, 24, some [.nils]⟩ := by kernel_rfl
theorem T68 : l7 Tryz.prog 68 = some ⟨.struct [(0, 1, 3), (1, 1, 3), (2, 1, 66)], 3, 40, some [.int .i64 0, .int .i64 0, .nils]⟩ := by kernel_rfl
theorem T70 : l7 Tryz.prog 70 = some ⟨.struct [(0, 1, 3), (1, 1, 3), (2, 3, 68)], 5, 56, some [.int .i64 0, .int .i64 0, .int .i64 0, .int .i64 0, .nils]⟩ := by kernel_rfl
theorem T73 : l7 Tryz.prog 73 = some ⟨.struct [(0, 1, 3), (1, 1, 3), (2, 1, 4), (3, 3, 68)], 6, 64, some [.int .i64 0, .int .i64 0, .bool false, .int .i64 0, .int .i64 0, .nils]⟩ := by kernel_rfl
theorem T79 : l7 Tryz.prog 79 = some ⟨.struct [(0, 1, 3), (1, 1, 3), (2, 3, 46)], 5, 40, some [.int .i64 0, .int .i64 0, .int .i64 0, .int .i64 0, .int .i64 0]⟩ := by kernel_rfl
theorem T80 : l7 Tryz.prog 80 = some ⟨.slice 83, 1, 24, some [.nils]⟩ := by kernel_rfl
theorem T83 : l7 Tryz.prog 83 = some ⟨.struct [(0, 5, 79), (5, 49, 29)], 54, 432, some [.int .i64 0, .int .i64 0, .int .i64 0, .int .i64 0, .int .i64 0, .int .i64 0, .int .i64 0, .int .i64 0, .int .i64 0, .int .i64 0, .int .i64 0, .int .i64 0, .int .i64 0, .int .i64 0, .int .i64 0, .int .i64 0, .int .i64 0, .int .i64 0, .int .i64 0, .int .i64 0, .int .i64 0, .int .i64 0, .int .i64 0, .int .i64 0, .int .i64 0, .int .i64 0, .int .i64 0, .int .i64 0, .int .i64 0, .int .i64 0, .int .i64 0, .int .i64 0, .int .i64 0, .int .i64 0, .int .i64 0, .int .i64 0, .int .i64 0, .int .i64 0, .int .i64 0, .int .i64 0, .int .i64 0, .int .i64 0, .int .i64 0, .int .i64 0, .int .i64 0, .int .i64 0, .int .i64 0, .int .i64 0, .int .i64 0, .int .i64 0, .int .i64 0, .int .i64 0, .int .i64 0, .int .i64 0]⟩ := by kernel_rfl
theorem T84 : l7 Tryz.prog 84 = some ⟨.ptr, 1, 8, some [.nilp]⟩ := by kernel_rfl
theorem T86 : l7 Tryz.prog 86 = some ⟨.struct [(0, 2, 25), (2, 49, 32), (51, 1, 40)], 52, 464, some [.nils, .nils, .int .i64 0, .int .i64 0, .int .i64 0, .int .i64 0, .int .i64 0, .int .i64 0, .int .i64 0, .int .i64 0, .int .i64 0, .int .i64 0, .int .i64 0, .int .i64 0, .int .i64 0, .int .i64 0, .int .i64 0, .int .i64 0, .int .i64 0, .int .i64 0, .int .i64 0, .int .i64 0, .int .i64 0, .int .i64 0, .int .i64 0, .int .i64 0, .int .i64 0, .int .i64 0, .int .i64 0, .int .i64 0, .int .i64 0, .int .i64 0, .int .i64 0, .int .i64 0, .int .i64 0, .int .i64 0, .int .i64 0, .int .i64 0, .int .i64 0, .int .i64 0, .int .i64 0, .int .i64 0, .int .i64 0, .int .i64 0, .int .i64 0, .int .i64 0, .int .i64 0, .int .i64 0, .int .i64 0, .int .i64 0, .int .i64 0, .nils]⟩ := by kernel_rfl
theorem T91 : l7 Tryz.prog 91 = some ⟨.func, 1, 8, some [.nilf]⟩ := by kernel_rfl
theorem T95 : l7 Tryz.prog 95 = some ⟨.slice 4, 1, 24, some [.nils]⟩ := by kernel_rfl
theorem T97 : l7 Tryz.prog 97 = some ⟨.slice 99, 1, 24, some [.nils]⟩ := by kernel_rfl
theorem T99 : l7 Tryz.prog 99 = some ⟨.struct [(0, 1, 3), (1, 1, 3)], 2, 16, some [.int .i64 0, .int .i64 0]⟩ := by kernel_rfl
theorem pO : l7 Tryz.prog 100 = some ⟨.func, 1, 8, some [.nilf]⟩ := by kernel_rfl
theorem fq : l7 Tryz.prog 101 = some ⟨.ptr, 1, 8, some [.nilp]⟩ := by kernel_rfl
theorem fu : l7 Tryz.prog 103 = some ⟨.struct [(0, 2, 25), (2, 49, 29), (51, 1, 80)], 52, 464, some [.nils, .nils, .int .i64 0, .int .i64 0, .int .i64 0, .int .i64 0, .int .i64 0, .int .i64 0, .int .i64 0, .int .i64 0, .int .i64 0, .int .i64 0, .int .i64 0, .int .i64 0, .int .i64 0, .int .i64 0, .int .i64 0, .int .i64 0, .int .i64 0, .int .i64 0, .int .i64 0, .int .i64 0, .int .i64 0, .int .i64 0, .int .i64 0, .int .i64 0, .int .i64 0, .int .i64 0, .int .i64 0, .int .i64 0, .int .i64 0, .int .i64 0, .int .i64 0, .int .i64 0, .int .i64 0, .int .i64 0, .int .i64 0, .int .i64 0, .int .i64 0, .int .i64 0, .int .i64 0, .int .i64 0, .int .i64 0, .int .i64 0, .int .i64 0, .int .i64 0, .int .i64 0, .int .i64 0, .int .i64 0, .int .i64 0, .int .i64 0, .nils]⟩ := by kernel_rfl
theorem jZ : l7 Tryz.prog 105 = some ⟨.ptr, 1, 8, some [.nilp]⟩ := by kernel_rfl
theorem gp : l7 Tryz.prog 106 = some ⟨.func, 1, 8, some [.nilf]⟩ := by kernel_rfl
theorem uL : l7 Tryz.prog 110 = some ⟨.func, 1, 8, some [.nilf]⟩ := by kernel_rfl
theorem sG : l7 Tryz.prog 113 = some ⟨.func, 1, 8, some [.nilf]⟩ := by kernel_rfl
theorem ux : l7 Tryz.prog 126 = some ⟨.struct [(0, 1, 3), (1, 1, 3)], 2, 16, some [.int .i64 0, .int .i64 0]⟩ := by kernel_rfl
theorem nm : l7 Tryz.prog 133 = some ⟨.struct [(0, 1, 3), (1, 1, 4), (2, 1, 3)], 3, 24, some [.int .i64 0, .bool false, .int .i64 0]⟩ := by kernel_rfl
theorem ka : l7 Tryz.prog 134 = some ⟨.struct [(0, 1, 3), (1, 1, 4), (2, 1, 3)], 3, 24, some [.int .i64 0, .bool false, .int .i64 0]⟩ := by kernel_rfl
theorem tR : l7 Tryz.prog 146 = some ⟨.struct [(0, 1, 9), (1, 1, 3), (2, 1, 3), (3, 1, 3)], 4, 40, some [.str ⟨#[]⟩, .int .i64 0, .int .i64 0, .int .i64 0]⟩ := by kernel_rfl
theorem tS : l7 Tryz.prog 147 = some ⟨.array 15 146, 60, 600, some [.str ⟨#[]⟩, .int .i64 0, .int .i64 0, .int .i64 0, .str ⟨#[]⟩, .int .i64 0, .int .i64 0, .int .i64 0, .str ⟨#[]⟩, .int .i64 0, .int .i64 0, .int .i64 0, .str ⟨#[]⟩, .int .i64 0, .int .i64 0, .int .i64 0, .str ⟨#[]⟩, .int .i64 0, .int .i64 0, .int .i64 0, .str ⟨#[]⟩, .int .i64 0, .int .i64 0, .int .i64 0, .str ⟨#[]⟩, .int .i64 0, .int .i64 0, .int .i64 0, .str ⟨#[]⟩, .int .i64 0, .int .i64 0, .int .i64 0, .str ⟨#[]⟩, .int .i64 0, .int .i64 0, .int .i64 0, .str ⟨#[]⟩, .int .i64 0, .int .i64 0, .int .i64 0, .str ⟨#[]⟩, .int .i64 0, .int .i64 0, .int .i64 0, .str ⟨#[]⟩, .int .i64 0, .int .i64 0, .int .i64 0, .str ⟨#[]⟩, .int .i64 0, .int .i64 0, .int .i64 0, .str ⟨#[]⟩, .int .i64 0, .int .i64 0, .int .i64 0, .str ⟨#[]⟩, .int .i64 0, .int .i64 0, .int .i64 0]⟩ := by kernel_rfl
theorem Q26 : Tryz.prog.eqGuardType Tryz.prog.depth 26 = false := by kernel_rfl
theorem W29 : iL Tryz.prog 29 49 = true := by kernel_rfl
theorem W32 : iL Tryz.prog 32 49 = true := by kernel_rfl
theorem W46 : iL Tryz.prog 46 3 = true := by kernel_rfl
theorem E6 : j5 Tryz.prog 6 := ⟨_, _, Tryz.func6, rfl, by kernel_rfl⟩
theorem E7 : j5 Tryz.prog 7 := ⟨_, _, Tryz.func7, rfl, by kernel_rfl⟩
theorem E8 : j5 Tryz.prog 8 := ⟨_, _, Tryz.func8, rfl, by kernel_rfl⟩
theorem E9 : j5 Tryz.prog 9 := ⟨_, _, Tryz.func9, rfl, by kernel_rfl⟩
theorem E10 : j5 Tryz.prog 10 := ⟨_, _, Tryz.func10, rfl, by kernel_rfl⟩
theorem E11 : j5 Tryz.prog 11 := ⟨_, _, Tryz.func11, rfl, by kernel_rfl⟩
theorem E12 : j5 Tryz.prog 12 := ⟨_, _, Tryz.func12, rfl, by kernel_rfl⟩
theorem E13 : j5 Tryz.prog 13 := ⟨_, _, Tryz.func13, rfl, by kernel_rfl⟩
theorem E14 : j5 Tryz.prog 14 := ⟨_, _, Tryz.func14, rfl, by kernel_rfl⟩
theorem E15 : j5 Tryz.prog 15 := ⟨_, _, Tryz.func15, rfl, by kernel_rfl⟩
theorem E16 : j5 Tryz.prog 16 := ⟨_, _, Tryz.func16, rfl, by kernel_rfl⟩
theorem E17 : j5 Tryz.prog 17 := ⟨_, _, Tryz.func17, rfl, by kernel_rfl⟩
theorem E18 : j5 Tryz.prog 18 := ⟨_, _, Tryz.func18, rfl, by kernel_rfl⟩
theorem E19 : j5 Tryz.prog 19 := ⟨_, _, Tryz.func19, rfl, by kernel_rfl⟩
theorem E20 : j5 Tryz.prog 20 := ⟨_, _, Tryz.func20, rfl, by kernel_rfl⟩
theorem E21 : j5 Tryz.prog 21 := ⟨_, _, Tryz.func21, rfl, by kernel_rfl⟩
theorem E22 : j5 Tryz.prog 22 := ⟨_, _, Tryz.func22, rfl, by kernel_rfl⟩
theorem E23 : j5 Tryz.prog 23 := ⟨_, _, Tryz.func23, rfl, by kernel_rfl⟩
theorem E24 : j5 Tryz.prog 24 := ⟨_, _, Tryz.func24, rfl, by kernel_rfl⟩
theorem E25 : j5 Tryz.prog 25 := ⟨_, _, Tryz.func25, rfl, by kernel_rfl⟩
theorem E26 : j5 Tryz.prog 26 := ⟨_, _, Tryz.func26, rfl, by kernel_rfl⟩
theorem E27 : j5 Tryz.prog 27 := ⟨_, _, Tryz.func27, rfl, by kernel_rfl⟩
theorem E28 : j5 Tryz.prog 28 := ⟨_, _, Tryz.func28, rfl, by kernel_rfl⟩
theorem E29 : j5 Tryz.prog 29 := ⟨_, _, Tryz.func29, rfl, by kernel_rfl⟩
theorem E30 : j5 Tryz.prog 30 := ⟨_, _, Tryz.func30, rfl, by kernel_rfl⟩
theorem E31 : j5 Tryz.prog 31 := ⟨_, _, Tryz.func31, rfl, by kernel_rfl⟩
theorem E32 : j5 Tryz.prog 32 := ⟨_, _, Tryz.func32, rfl, by kernel_rfl⟩
theorem E33 : j5 Tryz.prog 33 := ⟨_, _, Tryz.func33, rfl, by kernel_rfl⟩
theorem E34 : j5 Tryz.prog 34 := ⟨_, _, Tryz.func34, rfl, by kernel_rfl⟩
theorem E35 : j5 Tryz.prog 35 := ⟨_, _, Tryz.func35, rfl, by kernel_rfl⟩
theorem E36 : j5 Tryz.prog 36 := ⟨_, _, Tryz.func36, rfl, by kernel_rfl⟩
theorem E37 : j5 Tryz.prog 37 := ⟨_, _, Tryz.func37, rfl, by kernel_rfl⟩
theorem E38 : j5 Tryz.prog 38 := ⟨_, _, Tryz.func38, rfl, by kernel_rfl⟩
theorem E39 : j5 Tryz.prog 39 := ⟨_, _, Tryz.func39, rfl, by kernel_rfl⟩
theorem E40 : j5 Tryz.prog 40 := ⟨_, _, Tryz.func40, rfl, by kernel_rfl⟩
theorem E41 : j5 Tryz.prog 41 := ⟨_, _, Tryz.func41, rfl, by kernel_rfl⟩
theorem E42 : j5 Tryz.prog 42 := ⟨_, _, Tryz.func42, rfl, by kernel_rfl⟩
theorem E43 : j5 Tryz.prog 43 := ⟨_, _, Tryz.func43, rfl, by kernel_rfl⟩
theorem E44 : j5 Tryz.prog 44 := ⟨_, _, Tryz.func44, rfl, by kernel_rfl⟩
theorem E45 : j5 Tryz.prog 45 := ⟨_, _, Tryz.func45, rfl, by kernel_rfl⟩
theorem E46 : j5 Tryz.prog 46 := ⟨_, _, Tryz.func46, rfl, by kernel_rfl⟩
theorem E47 : j5 Tryz.prog 47 := ⟨_, _, Tryz.func47, rfl, by kernel_rfl⟩
theorem E48 : j5 Tryz.prog 48 := ⟨_, _, Tryz.func48, rfl, by kernel_rfl⟩
theorem E49 : j5 Tryz.prog 49 := ⟨_, _, Tryz.func49, rfl, by kernel_rfl⟩
theorem E50 : j5 Tryz.prog 50 := ⟨_, _, Tryz.func50, rfl, by kernel_rfl⟩
theorem E51 : j5 Tryz.prog 51 := ⟨_, _, Tryz.func51, rfl, by kernel_rfl⟩
theorem E52 : j5 Tryz.prog 52 := ⟨_, _, Tryz.func52, rfl, by kernel_rfl⟩
theorem E53 : j5 Tryz.prog 53 := ⟨_, _, Tryz.func53, rfl, by kernel_rfl⟩
theorem E54 : j5 Tryz.prog 54 := ⟨_, _, Tryz.func54, rfl, by kernel_rfl⟩
theorem E55 : j5 Tryz.prog 55 := ⟨_, _, Tryz.func55, rfl, by kernel_rfl⟩
theorem E56 : j5 Tryz.prog 56 := ⟨_, _, Tryz.func56, rfl, by kernel_rfl⟩
theorem E57 : j5 Tryz.prog 57 := ⟨_, _, Tryz.func57, rfl, by kernel_rfl⟩
theorem E58 : j5 Tryz.prog 58 := ⟨_, _, Tryz.func58, rfl, by kernel_rfl⟩
theorem E59 : j5 Tryz.prog 59 := ⟨_, _, Tryz.func59, rfl, by kernel_rfl⟩
theorem E60 : j5 Tryz.prog 60 := ⟨_, _, Tryz.func60, rfl, by kernel_rfl⟩
theorem E61 : j5 Tryz.prog 61 := ⟨_, _, Tryz.func61, rfl, by kernel_rfl⟩
theorem E62 : j5 Tryz.prog 62 := ⟨_, _, Tryz.func62, rfl, by kernel_rfl⟩
theorem E63 : j5 Tryz.prog 63 := ⟨_, _, Tryz.func63, rfl, by kernel_rfl⟩
theorem E64 : j5 Tryz.prog 64 := ⟨_, _, Tryz.func64, rfl, by kernel_rfl⟩
theorem E65 : j5 Tryz.prog 65 := ⟨_, _, Tryz.func65, rfl, by kernel_rfl⟩
theorem E66 : j5 Tryz.prog 66 := ⟨_, _, Tryz.func66, rfl, by kernel_rfl⟩
theorem E67 : j5 Tryz.prog 67 := ⟨_, _, Tryz.func67, rfl, by kernel_rfl⟩
theorem E68 : j5 Tryz.prog 68 := ⟨_, _, Tryz.func68, rfl, by kernel_rfl⟩
theorem E69 : j5 Tryz.prog 69 := ⟨_, _, Tryz.func69, rfl, by kernel_rfl⟩
theorem E70 : j5 Tryz.prog 70 := ⟨_, _, Tryz.func70, rfl, by kernel_rfl⟩
theorem E71 : j5 Tryz.prog 71 := ⟨_, _, Tryz.func71, rfl, by kernel_rfl⟩
theorem E72 : j5 Tryz.prog 72 := ⟨_, _, Tryz.func72, rfl, by kernel_rfl⟩
theorem E73 : j5 Tryz.prog 73 := ⟨_, _, Tryz.func73, rfl, by kernel_rfl⟩
theorem E74 : j5 Tryz.prog 74 := ⟨_, _, Tryz.func74, rfl, by kernel_rfl⟩
theorem E75 : j5 Tryz.prog 75 := ⟨_, _, Tryz.func75, rfl, by kernel_rfl⟩
theorem E76 : j5 Tryz.prog 76 := ⟨_, _, Tryz.func76, rfl, by kernel_rfl⟩
theorem E77 : j5 Tryz.prog 77 := ⟨_, _, Tryz.func77, rfl, by kernel_rfl⟩
theorem E78 : j5 Tryz.prog 78 := ⟨_, _, Tryz.func78, rfl, by kernel_rfl⟩
theorem E79 : j5 Tryz.prog 79 := ⟨_, _, Tryz.func79, rfl, by kernel_rfl⟩
theorem E80 : j5 Tryz.prog 80 := ⟨_, _, Tryz.func80, rfl, by kernel_rfl⟩
theorem E81 : j5 Tryz.prog 81 := ⟨_, _, Tryz.func81, rfl, by kernel_rfl⟩
theorem E82 : j5 Tryz.prog 82 := ⟨_, _, Tryz.func82, rfl, by kernel_rfl⟩
theorem E83 : j5 Tryz.prog 83 := ⟨_, _, Tryz.func83, rfl, by kernel_rfl⟩
theorem E84 : j5 Tryz.prog 84 := ⟨_, _, Tryz.func84, rfl, by kernel_rfl⟩
theorem E85 : j5 Tryz.prog 85 := ⟨_, _, Tryz.func85, rfl, by kernel_rfl⟩
theorem E86 : j5 Tryz.prog 86 := ⟨_, _, Tryz.func86, rfl, by kernel_rfl⟩
theorem E87 : j5 Tryz.prog 87 := ⟨_, _, Tryz.func87, rfl, by kernel_rfl⟩
theorem E88 : j5 Tryz.prog 88 := ⟨_, _, Tryz.func88, rfl, by kernel_rfl⟩
theorem E89 : j5 Tryz.prog 89 := ⟨_, _, Tryz.func89, rfl, by kernel_rfl⟩
theorem E90 : j5 Tryz.prog 90 := ⟨_, _, Tryz.func90, rfl, by kernel_rfl⟩
theorem E91 : j5 Tryz.prog 91 := ⟨_, _, Tryz.func91, rfl, by kernel_rfl⟩
theorem E92 : j5 Tryz.prog 92 := ⟨_, _, Tryz.func92, rfl, by kernel_rfl⟩
theorem E93 : j5 Tryz.prog 93 := ⟨_, _, Tryz.func93, rfl, by kernel_rfl⟩
theorem E94 : j5 Tryz.prog 94 := ⟨_, _, Tryz.func94, rfl, by kernel_rfl⟩
theorem E95 : j5 Tryz.prog 95 := ⟨_, _, Tryz.func95, rfl, by kernel_rfl⟩
theorem E96 : j5 Tryz.prog 96 := ⟨_, _, Tryz.func96, rfl, by kernel_rfl⟩
theorem E97 : j5 Tryz.prog 97 := ⟨_, _, Tryz.func97, rfl, by kernel_rfl⟩
theorem E98 : j5 Tryz.prog 98 := ⟨_, _, Tryz.func98, rfl, by kernel_rfl⟩
theorem E99 : j5 Tryz.prog 99 := ⟨_, _, Tryz.func99, rfl, by kernel_rfl⟩
theorem sH : j5 Tryz.prog 100 := ⟨_, _, Tryz.func100, rfl, by kernel_rfl⟩
theorem sI : j5 Tryz.prog 101 := ⟨_, _, Tryz.func101, rfl, by kernel_rfl⟩
theorem uy : j5 Tryz.prog 102 := ⟨_, _, Tryz.func102, rfl, by kernel_rfl⟩
theorem fv : j5 Tryz.prog 103 := ⟨_, _, Tryz.func103, rfl, by kernel_rfl⟩
theorem sJ : j5 Tryz.prog 104 := ⟨_, _, Tryz.func104, rfl, by kernel_rfl⟩
theorem sK : j5 Tryz.prog 105 := ⟨_, _, Tryz.func105, rfl, by kernel_rfl⟩
theorem sL : j5 Tryz.prog 106 := ⟨_, _, Tryz.func106, rfl, by kernel_rfl⟩
theorem fw : j5 Tryz.prog 107 := ⟨_, _, Tryz.func107, rfl, by kernel_rfl⟩
theorem uM : j5 Tryz.prog 108 := ⟨_, _, Tryz.func108, rfl, by kernel_rfl⟩
theorem sM : j5 Tryz.prog 109 := ⟨_, _, Tryz.func109, rfl, by kernel_rfl⟩
theorem uN : j5 Tryz.prog 110 := ⟨_, _, Tryz.func110, rfl, by kernel_rfl⟩
theorem uO : j5 Tryz.prog 111 := ⟨_, _, Tryz.func111, rfl, by kernel_rfl⟩
theorem uz : j5 Tryz.prog 112 := ⟨_, _, Tryz.func112, rfl, by kernel_rfl⟩
end
section
inductive Tm where
  | mk (op n : Int) (kids : List Tm)
namespace Tm
def op : Tm → Int | .mk o _ _ => o
def n : Tm → Int | .mk _ n _ => n
def kids : Tm → List Tm | .mk _ _ k => k
end Tm
def eT : Tm → List PV
  | .mk o n ks => [.int .i64 o, .int .i64 n, .sl (ks.map eT)]
theorem n8 (t : Tm) : eT t = [.int .i64 t.op, .int .i64 t.n, .sl (t.kids.map eT)] := by
  cases t; simp [eT, Tm.op, Tm.n, Tm.kids]
theorem Tm.kid_lt {t k : Tm} (h : k ∈ t.kids) : SizeOf.sizeOf k < SizeOf.sizeOf t := by
  cases t with
  | mk o n ks =>
    have := List.sizeOf_lt_of_mem h
    simp only [Tm.kids, Tm.mk.sizeOf_spec] at *
    omega
theorem Tm.ind {p : Tm → Prop} (h : ∀ t, (∀ k ∈ t.kids, p k) → p t) (t : Tm) : p t :=
  h t fun k hk => Tm.ind h k
termination_by SizeOf.sizeOf t
decreasing_by exact Tm.kid_lt hk
abbrev aT (t : Tm) : AV := .agg [.i t.op, .i t.n, .p (.sl (t.kids.map eT))]
inductive Tm.Ok : Nat → Tm → Prop where
  | mk (d : Nat) (t : Tm) (hk : t.kids.length ≤ 100) (h : ∀ k ∈ t.kids, Tm.Ok d k) : Tm.Ok (d + 1) t
theorem Tm.Ok.ind {p : Nat → Tm → Prop} (h : ∀ d t, t.kids.length ≤ 100 → (∀ k ∈ t.kids, Tm.Ok d k ∧ p d k) → p (d + 1) t) {d : Nat} {t : Tm} (ht : Tm.Ok d t) : p d t := by
  induction ht with
  | mk d t hk hh ih => exact h d t hk fun k hm => ⟨hh k hm, ih k hm⟩
def Tm.depth : Tm → Nat
  | .mk _ _ ks => (ks.map Tm.depth).foldl max 0 + 1
theorem Tm.depth_eq (t : Tm) : t.depth = (t.kids.map Tm.depth).foldl max 0 + 1 := by
  cases t; simp [Tm.depth, Tm.kids]
theorem cL {l : List Nat} {d : Nat} (h : ∀ x ∈ l, x ≤ d) : ∀ a, a ≤ d → l.foldl max a ≤ d := by
  induction l with
  | nil => intro a ha; exact ha
  | cons x r ih => intro a ha; exact ih (fun y hy => h y (by simp [hy])) _ (by have := h x (by simp); omega)
theorem Tm.Ok.depth_le {d : Nat} {t : Tm} (h : Tm.Ok d t) : t.depth ≤ d := by
  refine Tm.Ok.ind (p := fun d t => t.depth ≤ d) (fun d t hk hh => ?_) h
  rw [Tm.depth_eq]
  have := cL (l := t.kids.map Tm.depth) (d := d) (fun x hx => by
    obtain ⟨k, hm, rfl⟩ := List.mem_map.mp hx
    exact (hh k hm).2) 0 (Nat.zero_le _)
  omega
theorem W3 {l : List Tm} {i : Nat} {k : Tm} (h : l[i]? = some k) : (l.map eT)[i]? = some (eT k) := by simp [h]
def aq := And.intro T2 (And.intro T3 (And.intro T4 (And.intro T27 (And.intro T34 (And.intro T68 (And.intro nm (And.intro ka (And.intro tR tS))))))))
attribute [local irreducible] awp q9 m7
variable {G : Nat → Option (List PV)}
def inM (n : Int) : Bool := decide (-1099511627776 ≤ n) && decide (n ≤ 1099511627776)
theorem cl (n : Int) (h : Heap) : f9 Tryz.prog G 38 [.i n] h (fun r h' => r = .b (inM n) ∧ h' = h) := by
  refine d9 (rl := []) i6 Tryz.func38 rfl (rs := [.tmp 2]) rfl Tryz.ntmps38 (by simp) ?_
  repeat' (first | ((repeat ((fail_if_success (refine hK _ ?_)); clear hK K)); refine hK _ ?_; clear hK K) | ((first | refine d8 fun K1 p7 => ?_ | refine d6 fun K1 p7 => ?_ | refine b5 fun A B hA hB => ?_); simp only [S1, simprocAttr, aq]; first | refine p7 _ ?_; clear p7 K1 | ((first | refine hA ?_ | refine hB ?_); clear hA hB A B) | (refine g8 (v := ?_) (fun hg p8 => ?_) ?_; rotate_left; (focus (try ((try simp only [BN] at hg); simp only [S1, simprocAttr, aq, hg] at p8 ⊢)); first | exact p8); refine p7 _ ?_; clear p7 K1) | (((first | (refine ⟨fun hg => hA ?_, fun hg => hB ?_⟩ <;> clear hA hB A B) | refine ⟨fun hg => ?_, fun hg => ?_⟩) <;> (try simp only [BN2] at hg) <;> (try simp only [hg, cndB])) <;> (try (refine p7 _ ?_; clear p7 K1)) <;> (try simp only [BN3] at hg))) | refine b6 fun K hK => ?_ | ((first | apply c8 | apply b8 | apply a9 | refine d5 ?_ | apply b7 | apply c9 | apply d4 | apply d7); try simp only [NB, simprocAttr]))
  all_goals simp only [S1, simprocAttr, ENB, aq]
  all_goals simp [inM]
theorem pP (n : Int) (h : Heap) : f9 Tryz.prog G 109 [.i n] h (fun r h' => r = .i (if n < IntKind.i64.wrap (0 - n) then IntKind.i64.wrap (0 - n) else n) ∧ h' = h) := by
  refine d9 (rl := []) i6 Tryz.func109 rfl (rs := [.tmp 2]) rfl Tryz.ntmps109 (by simp) ?_
  repeat' (first | ((repeat ((fail_if_success (refine hK _ ?_)); clear hK K)); refine hK _ ?_; clear hK K) | ((first | refine d8 fun K1 p7 => ?_ | refine d6 fun K1 p7 => ?_ | refine b5 fun A B hA hB => ?_); simp only [S1, simprocAttr, aq]; first | refine p7 _ ?_; clear p7 K1 | ((first | refine hA ?_ | refine hB ?_); clear hA hB A B) | (((first | (refine ⟨fun hg => hA ?_, fun hg => hB ?_⟩ <;> clear hA hB A B) | refine ⟨fun hg => ?_, fun hg => ?_⟩) <;> (try simp only [BN2] at hg) <;> (try simp only [hg, cndB])) <;> (try (refine p7 _ ?_; clear p7 K1)) <;> (try simp only [BN3] at hg))) | refine b6 fun K hK => ?_ | ((first | apply c8 | apply b8 | apply a9 | refine d5 ?_ | apply b7 | apply c9 | apply d4 | apply d7); try simp only [NB, simprocAttr]))
  all_goals simp only [S1, simprocAttr, ENB, aq]
theorem nn (n : Int) (h : Heap) : f9 Tryz.prog G 103 [.i n] h (fun r h' => r = .i (if n < 0 then IntKind.i64.wrap (0 - n) else n) ∧ h' = h) := by
  refine d9 (rl := []) i6 Tryz.func103 rfl (rs := [.tmp 2]) rfl Tryz.ntmps103 (by simp) ?_
  repeat' (first | ((repeat ((fail_if_success (refine hK _ ?_)); clear hK K)); refine hK _ ?_; clear hK K) | ((first | refine d8 fun K1 p7 => ?_ | refine d6 fun K1 p7 => ?_ | refine b5 fun A B hA hB => ?_); simp only [S1, simprocAttr, aq]; first | refine p7 _ ?_; clear p7 K1 | ((first | refine hA ?_ | refine hB ?_); clear hA hB A B) | (((first | (refine ⟨fun hg => hA ?_, fun hg => hB ?_⟩ <;> clear hA hB A B) | refine ⟨fun hg => ?_, fun hg => ?_⟩) <;> (try simp only [BN2] at hg) <;> (try simp only [hg, cndB])) <;> (try (refine p7 _ ?_; clear p7 K1)) <;> (try simp only [BN3] at hg))) | refine b6 fun K hK => ?_ | ((first | apply c8 | apply b8 | apply a9 | refine d5 ?_ | apply b7 | apply c9 | apply d4 | apply d7); try simp only [NB, simprocAttr]))
  all_goals simp only [S1, simprocAttr, ENB, aq]
  all_goals simp [hg]
def ba (o : Int) : Int := if o < 3 then 0 else if o < 5 then 1 else 2
theorem gu (n : Int) (h : Heap) : f9 Tryz.prog G 104 [.i n] h (fun r h' => r = .i (ba n) ∧ h' = h) := by
  refine d9 (rl := []) i6 Tryz.func104 rfl (rs := [.tmp 2]) rfl Tryz.ntmps104 (by simp) ?_
  repeat' (first | ((repeat ((fail_if_success (refine hK _ ?_)); clear hK K)); refine hK _ ?_; clear hK K) | ((first | refine d8 fun K1 p7 => ?_ | refine d6 fun K1 p7 => ?_ | refine b5 fun A B hA hB => ?_); simp only [S1, simprocAttr, aq]; first | refine p7 _ ?_; clear p7 K1 | ((first | refine hA ?_ | refine hB ?_); clear hA hB A B) | (((first | (refine ⟨fun hg => hA ?_, fun hg => hB ?_⟩ <;> clear hA hB A B) | refine ⟨fun hg => ?_, fun hg => ?_⟩) <;> (try simp only [BN2] at hg) <;> (try simp only [hg, cndB])) <;> (try (refine p7 _ ?_; clear p7 K1)) <;> (try simp only [BN3] at hg))) | refine b6 fun K hK => ?_ | ((first | apply c8 | apply b8 | apply a9 | refine d5 ?_ | apply b7 | apply c9 | apply d4 | apply d7); try simp only [NB, simprocAttr]))
  all_goals simp only [S1, simprocAttr, ENB, aq]
  all_goals simp [ba, *]
theorem Z3 (n : Int) (h : Heap) : f9 Tryz.prog G 93 [.i n] h (fun r h' => r = .b (n == 4 || decide (10 ≤ n)) ∧ h' = h) := by
  refine d9 (rl := []) i6 Tryz.func93 rfl (rs := [.tmp 2]) rfl Tryz.ntmps93 (by simp) ?_
  repeat' (first | ((repeat ((fail_if_success (refine hK _ ?_)); clear hK K)); refine hK _ ?_; clear hK K) | ((first | refine d8 fun K1 p7 => ?_ | refine d6 fun K1 p7 => ?_ | refine b5 fun A B hA hB => ?_); simp only [S1, simprocAttr, aq]; first | refine p7 _ ?_; clear p7 K1 | ((first | refine hA ?_ | refine hB ?_); clear hA hB A B) | (refine g8 (v := ?_) (fun hg p8 => ?_) ?_; rotate_left; (focus (try ((try simp only [BN] at hg); simp only [S1, simprocAttr, aq, hg] at p8 ⊢)); first | exact p8); refine p7 _ ?_; clear p7 K1) | (((first | (refine ⟨fun hg => hA ?_, fun hg => hB ?_⟩ <;> clear hA hB A B) | refine ⟨fun hg => ?_, fun hg => ?_⟩) <;> (try simp only [BN2] at hg) <;> (try simp only [hg, cndB])) <;> (try (refine p7 _ ?_; clear p7 K1)) <;> (try simp only [BN3] at hg))) | refine b6 fun K hK => ?_ | ((first | apply c8 | apply b8 | apply a9 | refine d5 ?_ | apply b7 | apply c9 | apply d4 | apply d7); try simp only [NB, simprocAttr]))
  all_goals simp only [S1, simprocAttr, ENB, aq]
  all_goals simp [*]
end
section
def oM := And.intro T2 (And.intro T3 (And.intro T4 (And.intro T27 (And.intro T34 (And.intro T66 T68)))))
attribute [local irreducible] awp q9 m7
variable {G : Nat → Option (List PV)}
def eJ (ks : List Tm) (i : Nat) : Nat := ((ks.take i).map Tm.depth).foldl max 0
theorem rg {d : Nat} {ks : List Tm} (h : ∀ k ∈ ks, k.depth ≤ d) (i : Nat) : eJ ks i ≤ d := by
  unfold eJ
  exact cL (fun x hx => by
    obtain ⟨k, hm, rfl⟩ := List.mem_map.mp hx
    exact h k (List.mem_of_mem_take hm)) 0 (Nat.zero_le _)
theorem np {ks : List Tm} {i : Nat} {k : Tm} (h : ks[i]? = some k) : eJ ks (i + 1) = max (eJ ks i) k.depth := by
  unfold eJ
  rw [List.take_add_one, h]; simp
theorem lF {d : Nat} {t : Tm} (ht : Tm.Ok d t) (hd : d ≤ 200) (h : Heap) : f9 Tryz.prog G 98 [aT t] h (fun r h' => r = .i t.depth ∧ h' = h) := by
  revert hd h
  refine Tm.Ok.ind (p := fun d t => d ≤ 200 → ∀ h : Heap, f9 Tryz.prog G 98 [aT t] h (fun r h' => r = .i t.depth ∧ h' = h)) (fun d t hk ih hd h => ?_) ht
  have hdk : ∀ k ∈ t.kids, k.depth ≤ d := fun k hm => (ih k hm).1.depth_le
  refine d9 (rl := []) i6 Tryz.func98 rfl (rs := [.tmp 2]) rfl Tryz.ntmps98 (by simp) ?_
  repeat' (first | ((repeat ((fail_if_success (refine hK _ ?_)); clear hK K)); refine hK _ ?_; clear hK K) | ((first | refine d8 fun K1 p7 => ?_ | refine d6 fun K1 p7 => ?_ | refine b5 fun A B hA hB => ?_); simp only [S1, simprocAttr, oM]; first | refine p7 _ ?_; clear p7 K1 | ((first | refine hA ?_ | refine hB ?_); clear hA hB A B) | (((first | (refine ⟨fun hg => hA ?_, fun hg => hB ?_⟩ <;> clear hA hB A B) | refine ⟨fun hg => ?_, fun hg => ?_⟩) <;> (try simp only [BN2] at hg) <;> (try simp only [hg, cndB])) <;> (try (refine p7 _ ?_; clear p7 K1)) <;> (try simp only [BN3] at hg))) | refine b6 fun K hK => ?_ | ((first | apply c8 | apply b8 | apply a9 | refine d5 ?_ | apply b7 | apply c9 | apply d4 | apply d7); try simp only [NB, simprocAttr]))
  refine s5 t.kids.length 23 (fun i => [(10, .i i), (9, .i t.kids.length), (8, .p (.sl (t.kids.map eT))), (3, .i (eJ t.kids i))]) (fun i => []) (fun _ => True) ?_ trivial fun i hi _ K hK => ?_
  · (refine ⟨rfl, (by first | exact ⟨_, rfl⟩ | exact ⟨[], by simp⟩), ?_, ?_⟩ <;> simp only [S1, simprocAttr, KNB] <;> (try and_intros) <;> (try assumption) <;> (try trivial) <;> (try omega))
  · rcases Nat.lt_or_ge i t.kids.length with hlt | hge
    · obtain ⟨k, hk⟩ : ∃ k, t.kids[i]? = some k := ⟨_, List.getElem?_eq_getElem hlt⟩
      have hm := List.mem_of_getElem? hk
      have hrow := W3 hk
      have hc : (decide ((i : Int) < (t.kids.length : Int))) = true := by simp; omega
      have hw : IntKind.i64.wrap ((i : Int) + 1) = ((i + 1 : Nat) : Int) := by rw [IntWalk.i64_in _ (by omega)]; omega
      have hs := np hk
      repeat' (first | ((repeat ((fail_if_success (refine hK _ ?_)); clear hK K)); refine hK _ ?_; clear hK K) | ((first | refine d8 fun K1 p7 => ?_ | refine d6 fun K1 p7 => ?_ | refine b5 fun A B hA hB => ?_); simp only [S1, simprocAttr, oM, hrow, hc, hw, n8]; first | refine p7 _ ?_; clear p7 K1 | ((first | refine hA ?_ | refine hB ?_); clear hA hB A B) | ((first | apply b9 E98 | apply c7 E98); exact ((ih k hm).2 (by omega) _); refine p7 _ ?_; clear p7 K1) | (((first | (refine ⟨fun hg => hA ?_, fun hg => hB ?_⟩ <;> clear hA hB A B) | refine ⟨fun hg => ?_, fun hg => ?_⟩) <;> (try simp only [BN2] at hg) <;> (try simp only [hg, cndB])) <;> (try (refine p7 _ ?_; clear p7 K1)) <;> (try simp only [BN3] at hg))) | refine b6 fun K hK => ?_ | ((first | apply c8 | apply b8 | apply a9 | refine d5 ?_ | apply b7 | apply c9 | apply d4 | apply d7); try simp only [NB, simprocAttr]))
      all_goals refine ⟨hlt, trivial, ?_⟩
      all_goals (refine ⟨rfl, (by first | exact ⟨_, rfl⟩ | exact ⟨[], by simp⟩), ?_, ?_⟩ <;> simp only [S1, simprocAttr, KNB] <;> (try and_intros) <;> (try assumption) <;> (try trivial) <;> (try omega))
    · have hc : (decide ((i : Int) < (t.kids.length : Int))) = false := by simp; omega
      have hd := rg hdk t.kids.length
      have hw : IntKind.i64.wrap ((eJ t.kids t.kids.length : Int) + 1) = (t.depth : Int) := by
        rw [IntWalk.i64_in _ (by omega), Tm.depth_eq, eJ, List.take_length]; omega
      obtain rfl : i = t.kids.length := by omega
      repeat' (first | ((repeat ((fail_if_success (refine hK _ ?_)); clear hK K)); refine hK _ ?_; clear hK K) | ((first | refine d8 fun K1 p7 => ?_ | refine d6 fun K1 p7 => ?_ | refine b5 fun A B hA hB => ?_); simp only [S1, simprocAttr, oM, hc, hw]; first | refine p7 _ ?_; clear p7 K1 | ((first | refine hA ?_ | refine hB ?_); clear hA hB A B) | (((first | (refine ⟨fun hg => hA ?_, fun hg => hB ?_⟩ <;> clear hA hB A B) | refine ⟨fun hg => ?_, fun hg => ?_⟩) <;> (try simp only [BN2] at hg) <;> (try simp only [hg, cndB])) <;> (try (refine p7 _ ?_; clear p7 K1)) <;> (try simp only [BN3] at hg))) | refine b6 fun K hK => ?_ | ((first | apply c8 | apply b8 | apply a9 | refine d5 ?_ | apply b7 | apply c9 | apply d4 | apply d7); try simp only [NB, simprocAttr]))
      simp only [S1, simprocAttr, ENB, oM]
theorem lG {f : Tm → Bool} {l : List Tm} {i : Nat} {k : Tm} (hk : l[i]? = some k) (h : (l.take i).all f = true) (hf : f k = true) : (l.take (i + 1)).all f = true := by
  rw [List.take_add_one, hk]; simp only [List.all_append, h, Option.toList_some, List.all_cons, hf, List.all_nil, Bool.and_self]
theorem rh {f : Tm → Bool} {l : List Tm} {k : Tm} (hk : k ∈ l) (hf : f k = false) : l.all f = false := by
  cases h : l.all f with
  | false => rfl
  | true => rw [List.all_eq_true.mp h k hk] at hf; cases hf
def x8 (o : Int) : Bool := o == 4 || decide (10 ≤ o)
def E4 (o : Int) : Bool := o == 4 || decide (13 ≤ o)
def Tm.typed : Tm → Bool
  | .mk o _ ks => (ks.map Tm.typed).all id && ks.all fun k => x8 k.op == E4 o
def G7 (o : Int) (k : Tm) : Bool := (x8 k.op == E4 o) && k.typed
theorem Tm.typed_eq (t : Tm) : t.typed = t.kids.all (G7 t.op) := by
  cases t with
  | mk o n ks =>
    simp only [Tm.typed, Tm.op, Tm.kids, List.all_map, Function.id_comp]
    induction ks with
    | nil => rfl
    | cons k r ih =>
      rw [List.all_cons, List.all_cons, List.all_cons, ← ih]
      show _ = (((x8 k.op == E4 o) && k.typed) && _)
      ac_rfl
def z3 (o n : Int) (k : Nat) : Bool := decide (1 ≤ o) && decide (o ≤ 14) && decide ((k : Int) = ba o) && decide (0 ≤ n) && decide (o = 1 → n ≤ 1099511627776) && decide (o = 2 → n ≤ 3) && decide (2 < o → n = 0)
def Tm.form : Tm → Bool
  | .mk o n ks => z3 o n ks.length && (ks.map Tm.form).all id
theorem Tm.form_eq (t : Tm) : t.form = (z3 t.op t.n t.kids.length && t.kids.all Tm.form) := by cases t; simp only [Tm.form, Tm.op, Tm.n, Tm.kids, List.all_map, Function.id_comp]
theorem Q7 {ks : List Tm} {i : Nat} (h : i < ks.length) : decide ((i : Int) < (ks.length : Int)) = true := by simp; omega
theorem Z4 {ks : List Tm} : decide ((ks.length : Int) < (ks.length : Int)) = false := by simp
theorem M3 {ks : List Tm} {i : Nat} (hk : ks.length ≤ 100) (h : i < ks.length) : IntKind.i64.wrap ((i : Int) + 1) = ((i + 1 : Nat) : Int) := by rw [IntWalk.i64_in _ (by omega)]; omega
end
section
def au := And.intro T2 (And.intro T3 (And.intro T4 (And.intro T27 (And.intro T34 (And.intro T66 T68)))))
attribute [local irreducible] awp q9 m7
variable {G : Nat → Option (List PV)}
theorem lH {o : Int} {k : Tm} (hg : (!((k.op == 4 || decide (10 ≤ k.op)) == E4 o) || !k.typed) = true) : G7 o k = false := by
  revert hg; unfold G7 x8; generalize ((k.op == 4 || decide (10 ≤ k.op)) == E4 o) = a; generalize k.typed = b; cases a <;> cases b <;> simp
theorem kb {o : Int} {k : Tm} (hg : (k.op == 4 || decide (10 ≤ k.op)) = E4 o ∧ k.typed = true) : G7 o k = true := by
  unfold G7 x8; rw [hg.1, hg.2]; simp
theorem kc {d : Nat} {t : Tm} (ht : Tm.Ok d t) (h : Heap) : f9 Tryz.prog G 92 [aT t] h (fun r h' => r = .b t.typed ∧ h' = h) := by
  revert h
  refine Tm.Ok.ind (p := fun d t => ∀ h : Heap, f9 Tryz.prog G 92 [aT t] h (fun r h' => r = .b t.typed ∧ h' = h)) (fun d t hk ih h => ?_) ht
  rw [Tm.typed_eq]
  refine d9 (rl := []) i6 Tryz.func92 rfl (rs := [.tmp 2]) rfl Tryz.ntmps92 (by simp) ?_
  refine b6 fun K hK => ?_
  repeat' (first | ((first | refine c8 ?_ | refine b8 ?_); (try simp only [NB]); ((repeat ((fail_if_success (refine hK _ ?_)); clear hK K)); refine hK _ ?_; clear hK K)) | ((first | refine d8 fun K1 p7 => ?_ | refine d6 fun K1 p7 => ?_ | refine b5 fun A B hA hB => ?_); simp only [S1, simprocAttr, au]; first | (refine p7 _ ?_; clear p7 K1) | ((first | refine hA ?_ | refine hB ?_); clear hA hB A B) | (refine g8 (v := ?_) (fun hg p8 => ?_) ?_; rotate_left; (focus (try ((try simp only [BN] at hg); simp only [S1, simprocAttr, au, hg] at p8 ⊢)); first | exact p8); (refine p7 _ ?_; clear p7 K1)) | (((first | (refine ⟨fun hg => hA ?_, fun hg => hB ?_⟩ <;> clear hA hB A B) | refine ⟨fun hg => ?_, fun hg => ?_⟩) <;> (try simp only [BN2] at hg) <;> (try simp only [hg, cndB])) <;> (try (refine p7 _ ?_; clear p7 K1)) <;> (try simp only [BN3] at hg))) | (fail) | ((first | refine a9 ?_ | refine j4 (by kernel_rfl) ?_ | refine b7 ?_ | refine c9 ?_ | refine d4 ?_ | refine d7 ?_); try simp only [NB, simprocAttr]; (try ((repeat ((fail_if_success (refine hK _ ?_)); clear hK K)); refine hK _ ?_; clear hK K))))
  refine gn 32 [(1, .ptr h.length 0 0), (3, .b (E4 t.op))] [some ⟨0, [.i t.op, .i t.n, .p (.sl (t.kids.map eT))]⟩] True (fun K hK => ?_) fun ha => ?_
  · repeat' (first | ((first | refine c8 ?_ | refine b8 ?_); (try simp only [NB]); ((repeat ((fail_if_success (refine hK _ ?_)); clear hK K)); refine hK _ ?_; clear hK K)) | ((first | refine d8 fun K1 p7 => ?_ | refine d6 fun K1 p7 => ?_ | refine b5 fun A B hA hB => ?_); simp only [S1, simprocAttr, au]; first | (refine p7 _ ?_; clear p7 K1) | ((first | refine hA ?_ | refine hB ?_); clear hA hB A B) | (refine g8 (v := ?_) (fun hg p8 => ?_) ?_; rotate_left; (focus (try ((try simp only [BN] at hg); simp only [S1, simprocAttr, au, hg] at p8 ⊢)); first | exact p8); (refine p7 _ ?_; clear p7 K1)) | (((first | (refine ⟨fun hg => hA ?_, fun hg => hB ?_⟩ <;> clear hA hB A B) | refine ⟨fun hg => ?_, fun hg => ?_⟩) <;> (try simp only [BN2] at hg) <;> (try simp only [hg, cndB])) <;> (try (refine p7 _ ?_; clear p7 K1)) <;> (try simp only [BN3] at hg))) | (refine b6 (x := Code.region _ _ _) fun K hK => ?_) | ((first | refine a9 ?_ | refine j4 (by kernel_rfl) ?_ | refine b7 ?_ | refine c9 ?_ | refine d4 ?_ | refine d7 ?_); try simp only [NB, simprocAttr]; (try ((repeat ((fail_if_success (refine hK _ ?_)); clear hK K)); refine hK _ ?_; clear hK K))))
    all_goals exact ⟨trivial, by (refine ⟨rfl, (by first | exact ⟨_, rfl⟩ | exact ⟨[], by simp⟩), ?_, ?_⟩ <;> simp only [S1, simprocAttr, KNB] <;> (try and_intros) <;> (try assumption) <;> (try trivial) <;> (try omega)) <;> simp [E4, *]⟩
  refine b6 fun K hK => ?_
  repeat' (first | ((repeat ((fail_if_success (refine hK _ ?_)); clear hK K)); refine hK _ ?_; clear hK K) | ((first | refine d8 fun K1 p7 => ?_ | refine d6 fun K1 p7 => ?_ | refine b5 fun A B hA hB => ?_); simp only [S1, simprocAttr, au]; first | refine p7 _ ?_; clear p7 K1 | ((first | refine hA ?_ | refine hB ?_); clear hA hB A B) | (refine g8 (v := ?_) (fun hg p8 => ?_) ?_; rotate_left; (focus (try ((try simp only [BN] at hg); simp only [S1, simprocAttr, au, hg] at p8 ⊢)); first | exact p8); refine p7 _ ?_; clear p7 K1) | (((first | (refine ⟨fun hg => hA ?_, fun hg => hB ?_⟩ <;> clear hA hB A B) | refine ⟨fun hg => ?_, fun hg => ?_⟩) <;> (try simp only [BN2] at hg) <;> (try simp only [hg, cndB])) <;> (try (refine p7 _ ?_; clear p7 K1)) <;> (try simp only [BN3] at hg))) | refine b6 fun K hK => ?_ | ((first | apply c8 | apply b8 | apply a9 | refine d5 ?_ | apply b7 | apply c9 | apply d4 | apply d7); try simp only [NB, simprocAttr]))
  refine s5 t.kids.length 32 (fun i => [(17, .i i), (16, .i t.kids.length), (15, .p (.sl (t.kids.map eT))), (3, .b (E4 t.op))]) (fun i => []) (fun i => (t.kids.take i).all (G7 t.op) = true) ?_ rfl fun i hi hp K hK => ?_
  · (refine ⟨rfl, (by first | exact ⟨_, rfl⟩ | exact ⟨[], by simp⟩), ?_, ?_⟩ <;> simp only [S1, simprocAttr, KNB] <;> (try and_intros) <;> (try assumption) <;> (try trivial) <;> (try omega))
  rcases Nat.lt_or_ge i t.kids.length with hlt | hge
  · obtain ⟨k, hx⟩ : ∃ k, t.kids[i]? = some k := ⟨_, List.getElem?_eq_getElem hlt⟩
    have hm := List.mem_of_getElem? hx
    repeat' (first | ((repeat ((fail_if_success (refine hK _ ?_)); clear hK K)); refine hK _ ?_; clear hK K) | ((first | refine d8 fun K1 p7 => ?_ | refine d6 fun K1 p7 => ?_ | refine b5 fun A B hA hB => ?_); simp only [S1, simprocAttr, au, W3 hx, Q7 hlt, M3 hk hlt, n8]; first | refine p7 _ ?_; clear p7 K1 | ((first | refine hA ?_ | refine hB ?_); clear hA hB A B) | ((first | apply b9 E92 | apply c7 E92); exact ((ih k hm).2 _); refine p7 _ ?_; clear p7 K1) | ((first | apply b9 E93 | apply c7 E93); exact (Z3 _ _); refine p7 _ ?_; clear p7 K1) | (refine g8 (v := ?_) (fun hg p8 => ?_) ?_; rotate_left; (focus (try ((try simp only [BN] at hg); simp only [S1, simprocAttr, au, W3 hx, Q7 hlt, M3 hk hlt, n8, hg] at p8 ⊢)); first | exact p8 | ((first | apply b9 E92 | apply c7 E92); exact ((ih k hm).2 _); exact p8) | ((first | apply b9 E93 | apply c7 E93); exact (Z3 _ _); exact p8)); refine p7 _ ?_; clear p7 K1) | (((first | (refine ⟨fun hg => hA ?_, fun hg => hB ?_⟩ <;> clear hA hB A B) | refine ⟨fun hg => ?_, fun hg => ?_⟩) <;> (try simp only [BN2] at hg) <;> (try simp only [hg, cndB])) <;> (try (refine p7 _ ?_; clear p7 K1)) <;> (try simp only [BN3] at hg))) | refine b6 fun K hK => ?_ | ((first | apply c8 | apply b8 | apply a9 | refine d5 ?_ | apply b7 | apply c9 | apply d4 | apply d7); try simp only [NB, simprocAttr]))
    all_goals first
      | (refine ⟨hlt, lG hx hp ?_, ?_⟩
         · exact kb hg
         · (refine ⟨rfl, (by first | exact ⟨_, rfl⟩ | exact ⟨[], by simp⟩), ?_, ?_⟩ <;> simp only [S1, simprocAttr, KNB] <;> (try and_intros) <;> (try assumption) <;> (try trivial) <;> (try omega)))
      | (simp only [S1, simprocAttr, ENB, au]
         rw [rh (f := (G7 t.op)) hm (lH hg)]
         try simp)
  · obtain rfl : i = t.kids.length := by omega
    repeat' (first | ((repeat ((fail_if_success (refine hK _ ?_)); clear hK K)); refine hK _ ?_; clear hK K) | ((first | refine d8 fun K1 p7 => ?_ | refine d6 fun K1 p7 => ?_ | refine b5 fun A B hA hB => ?_); simp only [S1, simprocAttr, au, Z4]; first | refine p7 _ ?_; clear p7 K1 | ((first | refine hA ?_ | refine hB ?_); clear hA hB A B) | (refine g8 (v := ?_) (fun hg p8 => ?_) ?_; rotate_left; (focus (try ((try simp only [BN] at hg); simp only [S1, simprocAttr, au, Z4, hg] at p8 ⊢)); first | exact p8); refine p7 _ ?_; clear p7 K1) | (((first | (refine ⟨fun hg => hA ?_, fun hg => hB ?_⟩ <;> clear hA hB A B) | refine ⟨fun hg => ?_, fun hg => ?_⟩) <;> (try simp only [BN2] at hg) <;> (try simp only [hg, cndB])) <;> (try (refine p7 _ ?_; clear p7 K1)) <;> (try simp only [BN3] at hg))) | refine b6 fun K hK => ?_ | ((first | apply c8 | apply b8 | apply a9 | refine d5 ?_ | apply b7 | apply c9 | apply d4 | apply d7); try simp only [NB, simprocAttr]))
    simp only [S1, simprocAttr, ENB, au]
    rw [List.take_length] at hp
    simp [hp]
end
section
def gw := And.intro T2 (And.intro T3 (And.intro T4 (And.intro T27 (And.intro T34 (And.intro T66 (And.intro T68 sG))))))
attribute [local irreducible] awp q9 m7
variable {G : Nat → Option (List PV)}
def cM (p : Tm → Bool) : List Tm → Nat → Int
  | [], _ => -1
  | k :: r, i => if p k then (i : Int) else cM p r (i + 1)
theorem jg (p : Tm → Bool) : ∀ (l : List Tm) (i : Nat), decide (0 ≤ cM p l i) = l.any p
  | [], i => rfl
  | k :: r, i => by
    unfold cM
    cases h : p k with
    | true => simp [h]
    | false => simp [h, jg p r (i + 1)]
theorem nq {p : Tm → Bool} {l : List Tm} {i : Nat} {k : Tm} (hk : l[i]? = some k) : cM p (l.drop i) i = if p k then (i : Int) else cM p (l.drop (i + 1)) (i + 1) := by
  obtain ⟨h, e⟩ := List.getElem?_eq_some_iff.mp hk
  rw [List.drop_eq_getElem_cons h, e]; rfl
theorem lI {f : FuncId} (hE : j5 Tryz.prog f) {caps : List AV} {p : Tm → Bool} (ks : List Tm) (hl : ks.length ≤ 100) (h : Heap) (hcap : q6 h.length caps)
    (hc0 : ∀ k ∈ ks, f9 Tryz.prog G f (aT k :: caps) h (fun r h' => r = .b (p k) ∧ h' = h)) :
    f9 Tryz.prog G 112 [.p (.sl (ks.map eT)), .fn f caps] h (fun r h' => r = .i (cM p ks 0) ∧ h' = h) := by
  refine d9 (rl := []) i6 Tryz.func112 rfl (rs := [.tmp 4]) rfl Tryz.ntmps112 (by simp) ?_
  repeat' (first | ((repeat ((fail_if_success (refine hK _ ?_)); clear hK K)); refine hK _ ?_; clear hK K) | ((first | refine d8 fun K1 p7 => ?_ | refine d6 fun K1 p7 => ?_ | refine b5 fun A B hA hB => ?_); simp only [S1, simprocAttr, gw]; first | refine p7 _ ?_; clear p7 K1 | ((first | refine hA ?_ | refine hB ?_); clear hA hB A B) | (((first | (refine ⟨fun hg => hA ?_, fun hg => hB ?_⟩ <;> clear hA hB A B) | refine ⟨fun hg => ?_, fun hg => ?_⟩) <;> (try simp only [BN2] at hg) <;> (try simp only [hg, cndB])) <;> (try (refine p7 _ ?_; clear p7 K1)) <;> (try simp only [BN3] at hg))) | refine b6 fun K hK => ?_ | ((first | apply c8 | apply b8 | apply a9 | refine d5 ?_ | apply b7 | apply c9 | apply d4 | apply d7); try simp only [NB, simprocAttr]))
  refine s5 ks.length 19 (fun i => [(8, .i i), (7, .i ks.length), (0, .p (.sl (ks.map eT))), (1, .fn f caps)]) (fun i => []) (fun i => cM p ks 0 = cM p (ks.drop i) i) ?_ rfl fun i hi hp K hK => ?_
  · (refine ⟨rfl, (by first | exact ⟨_, rfl⟩ | exact ⟨[], by simp⟩), ?_, ?_⟩ <;> simp only [S1, simprocAttr, KNB] <;> (try and_intros) <;> (try assumption) <;> (try trivial) <;> (try omega))
  rcases Nat.lt_or_ge i ks.length with hlt | hge
  · obtain ⟨k, hx⟩ : ∃ k, ks[i]? = some k := ⟨_, List.getElem?_eq_getElem hlt⟩
    have hm := List.mem_of_getElem? hx
    rw [nq hx] at hp
    repeat' (first | ((repeat ((fail_if_success (refine hK _ ?_)); clear hK K)); refine hK _ ?_; clear hK K) | ((first | refine d8 fun K1 p7 => ?_ | refine d6 fun K1 p7 => ?_ | refine b5 fun A B hA hB => ?_); simp only [S1, simprocAttr, gw, W3 hx, Q7 hlt, M3 hl hlt, n8]; first | refine p7 _ ?_; clear p7 K1 | ((first | refine hA ?_ | refine hB ?_); clear hA hB A B) | ((first | apply b9 hE | apply c7 hE); exact (hc0 k hm); refine p7 _ ?_; clear p7 K1) | (((first | (refine ⟨fun hg => hA ?_, fun hg => hB ?_⟩ <;> clear hA hB A B) | refine ⟨fun hg => ?_, fun hg => ?_⟩) <;> (try simp only [BN2] at hg) <;> (try simp only [hg, cndB])) <;> (try (refine p7 _ ?_; clear p7 K1)) <;> (try simp only [BN3] at hg))) | refine b6 fun K hK => ?_ | ((first | apply c8 | apply b8 | apply a9 | refine d5 ?_ | apply b7 | apply c9 | apply d4 | apply d7); try simp only [NB, simprocAttr]))
    · simp only [S1, simprocAttr, ENB, gw]
      simp [hp, hg]
    · exact ⟨hlt, by simpa [hg] using hp, by (refine ⟨rfl, (by first | exact ⟨_, rfl⟩ | exact ⟨[], by simp⟩), ?_, ?_⟩ <;> simp only [S1, simprocAttr, KNB] <;> (try and_intros) <;> (try assumption) <;> (try trivial) <;> (try omega))⟩
  · obtain rfl : i = ks.length := by omega
    repeat' (first | ((repeat ((fail_if_success (refine hK _ ?_)); clear hK K)); refine hK _ ?_; clear hK K) | ((first | refine d8 fun K1 p7 => ?_ | refine d6 fun K1 p7 => ?_ | refine b5 fun A B hA hB => ?_); simp only [S1, simprocAttr, gw, Z4]; first | refine p7 _ ?_; clear p7 K1 | ((first | refine hA ?_ | refine hB ?_); clear hA hB A B) | (((first | (refine ⟨fun hg => hA ?_, fun hg => hB ?_⟩ <;> clear hA hB A B) | refine ⟨fun hg => ?_, fun hg => ?_⟩) <;> (try simp only [BN2] at hg) <;> (try simp only [hg, cndB])) <;> (try (refine p7 _ ?_; clear p7 K1)) <;> (try simp only [BN3] at hg))) | refine b6 fun K hK => ?_ | ((first | apply c8 | apply b8 | apply a9 | refine d5 ?_ | apply b7 | apply c9 | apply d4 | apply d7); try simp only [NB, simprocAttr]))
    simp only [S1, simprocAttr, ENB, gw]
    rw [List.drop_length] at hp
    simp [hp, cM]
theorem S7 {f : FuncId} (hE : j5 Tryz.prog f) {caps : List AV} {p : Tm → Bool} (ks : List Tm) (hl : ks.length ≤ 100) (h : Heap) (hcap : q6 h.length caps)
    (hc : ∀ k ∈ ks, f9 Tryz.prog G f (aT k :: caps) h (fun r h' => r = .b (p k) ∧ h' = h)) :
    f9 Tryz.prog G 107 [.p (.sl (ks.map eT)), .fn f caps] h (fun r h' => r = .b (ks.any p) ∧ h' = h) := by
  rw [← jg p ks 0]
  refine d9 (rl := []) i6 Tryz.func107 rfl (rs := [.tmp 4]) rfl Tryz.ntmps107 (by simp) ?_
  repeat' (first | ((repeat ((fail_if_success (refine hK _ ?_)); clear hK K)); refine hK _ ?_; clear hK K) | ((first | refine d8 fun K1 p7 => ?_ | refine d6 fun K1 p7 => ?_ | refine b5 fun A B hA hB => ?_); simp only [S1, simprocAttr, gw]; first | refine p7 _ ?_; clear p7 K1 | ((first | refine hA ?_ | refine hB ?_); clear hA hB A B) | ((first | apply b9 uz | apply c7 uz); exact (lI hE ks hl _ hcap hc); refine p7 _ ?_; clear p7 K1) | (((first | (refine ⟨fun hg => hA ?_, fun hg => hB ?_⟩ <;> clear hA hB A B) | refine ⟨fun hg => ?_, fun hg => ?_⟩) <;> (try simp only [BN2] at hg) <;> (try simp only [hg, cndB])) <;> (try (refine p7 _ ?_; clear p7 K1)) <;> (try simp only [BN3] at hg))) | refine b6 fun K hK => ?_ | ((first | apply c8 | apply b8 | apply a9 | refine d5 ?_ | apply b7 | apply c9 | apply d4 | apply d7); try simp only [NB, simprocAttr]))
  simp only [S1, simprocAttr, ENB, gw]
end
section
def bR := And.intro T2 (And.intro T3 (And.intro T4 (And.intro T27 (And.intro T34 (And.intro T66 (And.intro T68 sG))))))
attribute [local irreducible] awp q9 m7
variable {G : Nat → Option (List PV)}
def Tm.dp : Tm → Int → Bool
  | .mk _ _ ks, d => decide (24 < d) || (ks.map Tm.dp).any (fun f => f (d + 1))
theorem Tm.dp_eq (t : Tm) (d : Int) : t.dp d = (decide (24 < d) || t.kids.any (fun k => k.dp (d + 1))) := by
  cases t; simp only [Tm.dp, Tm.kids, List.any_map]; rfl
theorem nr {l : List Nat} : ∀ (a d : Nat), l.foldl max a ≤ d ↔ a ≤ d ∧ ∀ x ∈ l, x ≤ d := by
  induction l with
  | nil => intro a d; simp
  | cons x r ih => intro a d; rw [List.foldl_cons, ih, Nat.max_le]; simp only [List.mem_cons, forall_eq_or_imp, and_assoc]
theorem Tm.dp_depth (t : Tm) : ∀ d : Int, t.dp d = decide (25 < d + t.depth) := by
  refine Tm.ind (p := fun t => ∀ d : Int, t.dp d = decide (25 < d + t.depth)) (fun t ih d => ?_) t
  rw [Tm.dp_eq, Bool.eq_iff_iff]
  simp only [Bool.or_eq_true, decide_eq_true_eq, List.any_eq_true]
  have hm := fun n : Nat => nr (l := t.kids.map Tm.depth) 0 n
  rw [Tm.depth_eq]
  constructor
  · rintro (h | ⟨k, hk, h⟩)
    · omega
    · rw [ih k hk] at h
      simp only [decide_eq_true_eq] at h
      have := ((hm _).mp (Nat.le_refl _)).2 k.depth (List.mem_map_of_mem hk)
      omega
  · intro h
    by_cases h1 : 24 < d
    · exact .inl h1
    · right
      cases Classical.em (∃ x, x ∈ t.kids ∧ x.dp (d + 1) = true) with
      | inl e => exact e
      | inr e =>
        exfalso
        have : (t.kids.map Tm.depth).foldl max 0 ≤ (24 - d).toNat := by
          rw [hm]
          refine ⟨Nat.zero_le _, fun x hx => ?_⟩
          obtain ⟨k, hk, rfl⟩ := List.mem_map.mp hx
          have h2 : ¬ k.dp (d + 1) = true := fun h3 => e ⟨k, hk, h3⟩
          rw [ih k hk] at h2
          simp only [decide_eq_true_eq] at h2
          omega
        omega
theorem lJ (k : Tm) (d : Int) (h1 : -1000 ≤ d) (h2 : d ≤ 1000) (h : Heap) {b : Nat} (hb : h[b]? = some (some ⟨0, [.i d]⟩))
    (ih : ∀ h : Heap, f9 Tryz.prog G 105 [aT k, .i (d + 1)] h (fun r h' => r = .b (k.dp (d + 1)) ∧ h' = h)) :
    f9 Tryz.prog G 110 [aT k, .ptr b 0 0] h (fun r h' => r = .b (k.dp (d + 1)) ∧ h' = h) := by
  have hlt : b < h.length := (List.getElem?_eq_some_iff.mp hb).1
  have hbL : ∀ L : Heap, (h ++ L)[b]? = some (some ⟨0, [.i d]⟩) := fun L => by rw [List.getElem?_append_left hlt]; exact hb
  have hw := IntWalk.i64_in (d + 1) (by omega)
  refine d9 (rl := []) i6 Tryz.func110 rfl (rs := [.tmp 3]) rfl Tryz.ntmps110 (by simp) ?_
  repeat' (first | ((repeat ((fail_if_success (refine hK _ ?_)); clear hK K)); refine hK _ ?_; clear hK K) | ((first | refine d8 fun K1 p7 => ?_ | refine d6 fun K1 p7 => ?_ | refine b5 fun A B hA hB => ?_); simp only [S1, simprocAttr, bR, hbL, hw]; first | refine p7 _ ?_; clear p7 K1 | ((first | refine hA ?_ | refine hB ?_); clear hA hB A B) | ((first | apply b9 sK | apply c7 sK); exact (ih _); refine p7 _ ?_; clear p7 K1) | (((first | (refine ⟨fun hg => hA ?_, fun hg => hB ?_⟩ <;> clear hA hB A B) | refine ⟨fun hg => ?_, fun hg => ?_⟩) <;> (try simp only [BN2] at hg) <;> (try simp only [hg, cndB])) <;> (try (refine p7 _ ?_; clear p7 K1)) <;> (try simp only [BN3] at hg))) | refine b6 fun K hK => ?_ | ((first | apply c8 | apply b8 | apply a9 | refine d5 ?_ | apply b7 | apply c9 | apply d4 | apply d7); try simp only [NB, simprocAttr]))
  simp only [S1, simprocAttr, ENB, bR]
theorem nu {n : Nat} {t : Tm} (ht : Tm.Ok n t) : ∀ (d : Int) (h : Heap), -1000 ≤ d → d ≤ 1000 → f9 Tryz.prog G 105 [aT t, .i d] h (fun r h' => r = .b (t.dp d) ∧ h' = h) := by
  refine Tm.Ok.ind (p := fun n t => ∀ (d : Int) (h : Heap), -1000 ≤ d → d ≤ 1000 → f9 Tryz.prog G 105 [aT t, .i d] h (fun r h' => r = .b (t.dp d) ∧ h' = h)) (fun n t hk ih d h h1 h2 => ?_) ht
  rw [Tm.dp_eq]
  by_cases hd : 24 < d
  · refine d9 (rl := []) i6 Tryz.func105 rfl (rs := [.tmp 4]) rfl Tryz.ntmps105 (by simp) ?_
    have hf : decide (24 < d) = true := by simpa using hd
    repeat' (first | ((repeat ((fail_if_success (refine hK _ ?_)); clear hK K)); refine hK _ ?_; clear hK K) | ((first | refine d8 fun K1 p7 => ?_ | refine d6 fun K1 p7 => ?_ | refine b5 fun A B hA hB => ?_); simp only [S1, simprocAttr, bR, hf]; first | refine p7 _ ?_; clear p7 K1 | ((first | refine hA ?_ | refine hB ?_); clear hA hB A B) | (refine g8 (v := ?_) (fun hg p8 => ?_) ?_; rotate_left; (focus (try ((try simp only [BN] at hg); simp only [S1, simprocAttr, bR, hf, hg] at p8 ⊢)); first | exact p8); refine p7 _ ?_; clear p7 K1) | (((first | (refine ⟨fun hg => hA ?_, fun hg => hB ?_⟩ <;> clear hA hB A B) | refine ⟨fun hg => ?_, fun hg => ?_⟩) <;> (try simp only [BN2] at hg) <;> (try simp only [hg, cndB])) <;> (try (refine p7 _ ?_; clear p7 K1)) <;> (try simp only [BN3] at hg))) | refine b6 fun K hK => ?_ | ((first | apply c8 | apply b8 | apply a9 | refine d5 ?_ | apply b7 | apply c9 | apply d4 | apply d7); try simp only [NB, simprocAttr]))
    simp only [S1, simprocAttr, ENB, bR]
    try simp [hf]
  · have hf : decide (24 < d) = false := by simpa using hd
    have hc := fun (L : Heap) (b : Nat) (hb : (h ++ L)[b]? = some (some ⟨0, [.i d]⟩)) => S7 (G := G) uN (caps := [.ptr b 0 0]) (p := fun k => k.dp (d + 1)) t.kids hk (h ++ L) (by simp only [q6, y6, and_true]; exact (List.getElem?_eq_some_iff.mp hb).1) fun k hm => lJ k d h1 h2 _ hb fun h => (ih k hm).2 _ h (by omega) (by omega)
    refine d9 (rl := []) i6 Tryz.func105 rfl (rs := [.tmp 4]) rfl Tryz.ntmps105 (by simp) ?_
    repeat' (first | ((repeat ((fail_if_success (refine hK _ ?_)); clear hK K)); refine hK _ ?_; clear hK K) | ((first | refine d8 fun K1 p7 => ?_ | refine d6 fun K1 p7 => ?_ | refine b5 fun A B hA hB => ?_); simp only [S1, simprocAttr, bR, hf]; first | refine p7 _ ?_; clear p7 K1 | ((first | refine hA ?_ | refine hB ?_); clear hA hB A B) | ((first | apply b9 fw | apply c7 fw); exact (hc _ _ (by simp only [S1, simprocAttr, bR])); refine p7 _ ?_; clear p7 K1) | (refine g8 (v := ?_) (fun hg p8 => ?_) ?_; rotate_left; (focus (try ((try simp only [BN] at hg); simp only [S1, simprocAttr, bR, hf, hg] at p8 ⊢)); first | exact p8 | ((first | apply b9 fw | apply c7 fw); exact (hc _ _ (by simp only [S1, simprocAttr, bR])); exact p8)); refine p7 _ ?_; clear p7 K1) | (((first | (refine ⟨fun hg => hA ?_, fun hg => hB ?_⟩ <;> clear hA hB A B) | refine ⟨fun hg => ?_, fun hg => ?_⟩) <;> (try simp only [BN2] at hg) <;> (try simp only [hg, cndB])) <;> (try (refine p7 _ ?_; clear p7 K1)) <;> (try simp only [BN3] at hg))) | refine b6 fun K hK => ?_ | ((first | apply c8 | apply b8 | apply a9 | refine d5 ?_ | apply b7 | apply c9 | apply d4 | apply d7); try simp only [NB, simprocAttr]))
    simp only [S1, simprocAttr, ENB, bR]
    try simp [hf]
end
section
def Q0 := And.intro T2 (And.intro T3 (And.intro T4 (And.intro T27 (And.intro T34 (And.intro T66 T68)))))
attribute [local irreducible] awp q9 m7
variable {G : Nat → Option (List PV)}
theorem lK {d : Nat} {t : Tm} (ht : Tm.Ok d t) (h : Heap) : f9 Tryz.prog G 99 [aT t] h (fun r h' => r = .b t.form ∧ h' = h) := by
  revert h
  refine Tm.Ok.ind (p := fun d t => ∀ h : Heap, f9 Tryz.prog G 99 [aT t] h (fun r h' => r = .b t.form ∧ h' = h)) (fun d t hk ih h => ?_) ht
  rw [Tm.form_eq]
  refine d9 (rl := []) i6 Tryz.func99 rfl (rs := [.tmp 2]) rfl Tryz.ntmps99 (by simp) ?_
  refine b6 fun K hK => ?_
  repeat' (first | ((first | refine c8 ?_ | refine b8 ?_); (try simp only [NB]); ((repeat ((fail_if_success (refine hK _ ?_)); clear hK K)); refine hK _ ?_; clear hK K)) | ((first | refine d8 fun K1 p7 => ?_ | refine d6 fun K1 p7 => ?_ | refine b5 fun A B hA hB => ?_); simp only [S1, simprocAttr, Q0]; first | (refine p7 _ ?_; clear p7 K1) | ((first | refine hA ?_ | refine hB ?_); clear hA hB A B) | (refine g8 (v := ?_) (fun hg p8 => ?_) ?_; rotate_left; (focus (try ((try simp only [BN] at hg); simp only [S1, simprocAttr, Q0, hg] at p8 ⊢)); first | exact p8); (refine p7 _ ?_; clear p7 K1)) | (((first | (refine ⟨fun hg => hA ?_, fun hg => hB ?_⟩ <;> clear hA hB A B) | refine ⟨fun hg => ?_, fun hg => ?_⟩) <;> (try simp only [BN2] at hg) <;> (try simp only [hg, cndB])) <;> (try (refine p7 _ ?_; clear p7 K1)) <;> (try simp only [BN3] at hg))) | (fail) | ((first | refine a9 ?_ | refine j4 (by kernel_rfl) ?_ | refine b7 ?_ | refine c9 ?_ | refine d4 ?_ | refine d7 ?_); try simp only [NB, simprocAttr]; (try ((repeat ((fail_if_success (refine hK _ ?_)); clear hK K)); refine hK _ ?_; clear hK K))))
  refine gn 66 [(1, .ptr h.length 0 0)] [some ⟨0, [.i t.op, .i t.n, .p (.sl (t.kids.map eT))]⟩] (1 ≤ t.op ∧ t.op ≤ 14 ∧ (t.kids.length : Int) = ba t.op ∧ 0 ≤ t.n) (fun K hK => ?_) fun ha => ?_
  · repeat' (first | ((repeat ((fail_if_success (refine hK _ ?_)); clear hK K)); refine hK _ ?_; clear hK K) | ((first | refine d8 fun K1 p7 => ?_ | refine d6 fun K1 p7 => ?_ | refine b5 fun A B hA hB => ?_); simp only [S1, simprocAttr, Q0]; first | refine p7 _ ?_; clear p7 K1 | ((first | refine hA ?_ | refine hB ?_); clear hA hB A B) | ((first | apply b9 sJ | apply c7 sJ); exact (gu _ _); refine p7 _ ?_; clear p7 K1) | (refine g8 (v := ?_) (fun hg p8 => ?_) ?_; rotate_left; (focus (try ((try simp only [BN] at hg); simp only [S1, simprocAttr, Q0, hg] at p8 ⊢)); first | exact p8 | ((first | apply b9 sJ | apply c7 sJ); exact (gu _ _); exact p8)); refine p7 _ ?_; clear p7 K1) | (((first | (refine ⟨fun hg => hA ?_, fun hg => hB ?_⟩ <;> clear hA hB A B) | refine ⟨fun hg => ?_, fun hg => ?_⟩) <;> (try simp only [BN2] at hg) <;> (try simp only [hg, cndB])) <;> (try (refine p7 _ ?_; clear p7 K1)) <;> (try simp only [BN3] at hg))) | refine b6 fun K hK => ?_ | ((first | apply c8 | apply b8 | apply a9 | refine d5 ?_ | apply b7 | apply c9 | apply d4 | apply d7); try simp only [NB, simprocAttr]))
    · simp only [S1, simprocAttr, ENB, Q0]
      have : z3 t.op t.n t.kids.length = false := by
        cases hh : z3 t.op t.n t.kids.length with
        | false => rfl
        | true => simp [z3] at hh hg; omega
      simp [this]
    · exact ⟨by simp at hg; omega, by (refine ⟨rfl, (by first | exact ⟨_, rfl⟩ | exact ⟨[], by simp⟩), ?_, ?_⟩ <;> simp only [S1, simprocAttr, KNB] <;> (try and_intros) <;> (try assumption) <;> (try trivial) <;> (try omega))⟩
  refine gn 66 [(1, .ptr h.length 0 0)] [some ⟨0, [.i t.op, .i t.n, .p (.sl (t.kids.map eT))]⟩] (z3 t.op t.n t.kids.length = true) (fun K hK => ?_) fun hb => ?_
  · repeat' (first | ((repeat ((fail_if_success (refine hK _ ?_)); clear hK K)); refine hK _ ?_; clear hK K) | ((first | refine d8 fun K1 p7 => ?_ | refine d6 fun K1 p7 => ?_ | refine b5 fun A B hA hB => ?_); simp only [S1, simprocAttr, Q0]; first | refine p7 _ ?_; clear p7 K1 | ((first | refine hA ?_ | refine hB ?_); clear hA hB A B) | (refine g8 (v := ?_) (fun hg p8 => ?_) ?_; rotate_left; (focus (try ((try simp only [BN] at hg); simp only [S1, simprocAttr, Q0, hg] at p8 ⊢)); first | exact p8); refine p7 _ ?_; clear p7 K1) | (((first | (refine ⟨fun hg => hA ?_, fun hg => hB ?_⟩ <;> clear hA hB A B) | refine ⟨fun hg => ?_, fun hg => ?_⟩) <;> (try simp only [BN2] at hg) <;> (try simp only [hg, cndB])) <;> (try (refine p7 _ ?_; clear p7 K1)) <;> (try simp only [BN3] at hg))) | refine b6 fun K hK => ?_ | ((first | apply c8 | apply b8 | apply a9 | refine d5 ?_ | apply b7 | apply c9 | apply d4 | apply d7); try simp only [NB, simprocAttr]))
    · simp only [S1, simprocAttr, ENB, Q0]
      have : z3 t.op t.n t.kids.length = false := by
        cases hh : z3 t.op t.n t.kids.length with
        | false => rfl
        | true => simp [z3] at hh hg; omega
      simp [this]
    · exact ⟨by simp [z3] at hg ⊢; omega, by (refine ⟨rfl, (by first | exact ⟨_, rfl⟩ | exact ⟨[], by simp⟩), ?_, ?_⟩ <;> simp only [S1, simprocAttr, KNB] <;> (try and_intros) <;> (try assumption) <;> (try trivial) <;> (try omega))⟩
  refine b6 fun K hK => ?_
  repeat' (first | ((repeat ((fail_if_success (refine hK _ ?_)); clear hK K)); refine hK _ ?_; clear hK K) | ((first | refine d8 fun K1 p7 => ?_ | refine d6 fun K1 p7 => ?_ | refine b5 fun A B hA hB => ?_); simp only [S1, simprocAttr, Q0]; first | refine p7 _ ?_; clear p7 K1 | ((first | refine hA ?_ | refine hB ?_); clear hA hB A B) | (refine g8 (v := ?_) (fun hg p8 => ?_) ?_; rotate_left; (focus (try ((try simp only [BN] at hg); simp only [S1, simprocAttr, Q0, hg] at p8 ⊢)); first | exact p8); refine p7 _ ?_; clear p7 K1) | (((first | (refine ⟨fun hg => hA ?_, fun hg => hB ?_⟩ <;> clear hA hB A B) | refine ⟨fun hg => ?_, fun hg => ?_⟩) <;> (try simp only [BN2] at hg) <;> (try simp only [hg, cndB])) <;> (try (refine p7 _ ?_; clear p7 K1)) <;> (try simp only [BN3] at hg))) | refine b6 fun K hK => ?_ | ((first | apply c8 | apply b8 | apply a9 | refine d5 ?_ | apply b7 | apply c9 | apply d4 | apply d7); try simp only [NB, simprocAttr]))
  refine s5 t.kids.length 66 (fun i => [(58, .i i), (57, .i t.kids.length), (56, .p (.sl (t.kids.map eT)))]) (fun i => []) (fun i => (t.kids.take i).all Tm.form = true) ?_ rfl fun i hi hp K hK => ?_
  · (refine ⟨rfl, (by first | exact ⟨_, rfl⟩ | exact ⟨[], by simp⟩), ?_, ?_⟩ <;> simp only [S1, simprocAttr, KNB] <;> (try and_intros) <;> (try assumption) <;> (try trivial) <;> (try omega))
  rcases Nat.lt_or_ge i t.kids.length with hlt | hge
  · obtain ⟨k, hx⟩ : ∃ k, t.kids[i]? = some k := ⟨_, List.getElem?_eq_getElem hlt⟩
    have hm := List.mem_of_getElem? hx
    repeat' (first | ((repeat ((fail_if_success (refine hK _ ?_)); clear hK K)); refine hK _ ?_; clear hK K) | ((first | refine d8 fun K1 p7 => ?_ | refine d6 fun K1 p7 => ?_ | refine b5 fun A B hA hB => ?_); simp only [S1, simprocAttr, Q0, W3 hx, Q7 hlt, M3 hk hlt, n8]; first | refine p7 _ ?_; clear p7 K1 | ((first | refine hA ?_ | refine hB ?_); clear hA hB A B) | ((first | apply b9 E99 | apply c7 E99); exact ((ih k hm).2 _); refine p7 _ ?_; clear p7 K1) | (refine g8 (v := ?_) (fun hg p8 => ?_) ?_; rotate_left; (focus (try ((try simp only [BN] at hg); simp only [S1, simprocAttr, Q0, W3 hx, Q7 hlt, M3 hk hlt, n8, hg] at p8 ⊢)); first | exact p8 | ((first | apply b9 E99 | apply c7 E99); exact ((ih k hm).2 _); exact p8)); refine p7 _ ?_; clear p7 K1) | (((first | (refine ⟨fun hg => hA ?_, fun hg => hB ?_⟩ <;> clear hA hB A B) | refine ⟨fun hg => ?_, fun hg => ?_⟩) <;> (try simp only [BN2] at hg) <;> (try simp only [hg, cndB])) <;> (try (refine p7 _ ?_; clear p7 K1)) <;> (try simp only [BN3] at hg))) | refine b6 fun K hK => ?_ | ((first | apply c8 | apply b8 | apply a9 | refine d5 ?_ | apply b7 | apply c9 | apply d4 | apply d7); try simp only [NB, simprocAttr]))
    all_goals first
      | (refine ⟨hlt, lG hx hp ?_, ?_⟩
         · simpa using hg
         · (refine ⟨rfl, (by first | exact ⟨_, rfl⟩ | exact ⟨[], by simp⟩), ?_, ?_⟩ <;> simp only [S1, simprocAttr, KNB] <;> (try and_intros) <;> (try assumption) <;> (try trivial) <;> (try omega)))
      | (simp only [S1, simprocAttr, ENB, Q0]
         rw [rh (f := Tm.form) hm (by simpa using hg)]
         try simp)
  · obtain rfl : i = t.kids.length := by omega
    repeat' (first | ((repeat ((fail_if_success (refine hK _ ?_)); clear hK K)); refine hK _ ?_; clear hK K) | ((first | refine d8 fun K1 p7 => ?_ | refine d6 fun K1 p7 => ?_ | refine b5 fun A B hA hB => ?_); simp only [S1, simprocAttr, Q0, Z4]; first | refine p7 _ ?_; clear p7 K1 | ((first | refine hA ?_ | refine hB ?_); clear hA hB A B) | (refine g8 (v := ?_) (fun hg p8 => ?_) ?_; rotate_left; (focus (try ((try simp only [BN] at hg); simp only [S1, simprocAttr, Q0, Z4, hg] at p8 ⊢)); first | exact p8); refine p7 _ ?_; clear p7 K1) | (((first | (refine ⟨fun hg => hA ?_, fun hg => hB ?_⟩ <;> clear hA hB A B) | refine ⟨fun hg => ?_, fun hg => ?_⟩) <;> (try simp only [BN2] at hg) <;> (try simp only [hg, cndB])) <;> (try (refine p7 _ ?_; clear p7 K1)) <;> (try simp only [BN3] at hg))) | refine b6 fun K hK => ?_ | ((first | apply c8 | apply b8 | apply a9 | refine d5 ?_ | apply b7 | apply c9 | apply d4 | apply d7); try simp only [NB, simprocAttr]))
    simp only [S1, simprocAttr, ENB, Q0]
    rw [List.take_length] at hp
    simp [hp, hb]
end
section
def M8 := And.intro T2 (And.intro T3 (And.intro T4 (And.intro T27 (And.intro T34 (And.intro T66 (And.intro T68 (And.intro sG (And.intro tR tS))))))))
attribute [local irreducible] awp q9 m7
def gz : List PV :=
  let w (s : List UInt8) (a b c : Int) : List PV := [.str ⟨s.toArray⟩, .int .i64 a, .int .i64 b, .int .i64 c]
  w [] 0 0 0 ++ w [] 0 0 0 ++ w [] 0 0 0 ++ w [110, 101, 103] 1 1 1 ++ w [110, 111, 116] 1 2 2 ++ w [97, 100, 100] 2 1 1 ++ w [115, 117, 98] 2 1 1 ++ w [109, 117, 108] 2 1 1 ++ w [100, 105, 118] 2 1 1 ++ w [109, 111, 100] 2 1 1 ++ w [101, 113] 2 1 2 ++ w [108, 116] 2 1 2 ++ w [108, 101] 2 1 2 ++ w [97, 110, 100] 2 2 2 ++ w [111, 114] 2 2 2
def gW : Nat → Option (List PV) := fun g => if g = 0 then some gz else none
theorem sN : gW 0 = some gz := rfl
def ofN (o : Int) : Int := if E4 o then 2 else 1
def iA (o : Int) : Int := if x8 o then 2 else 1
theorem lL {o : Int} (h1 : 3 ≤ o) (h2 : o ≤ 14) : ∃ s rest, gz.drop (o.toNat * 4) = .str s :: .int .i64 (ba o) :: .int .i64 (ofN o) :: .int .i64 (iA o) :: rest := by
  have h : o = 3 ∨ o = 4 ∨ o = 5 ∨ o = 6 ∨ o = 7 ∨ o = 8 ∨ o = 9 ∨ o = 10 ∨ o = 11 ∨ o = 12 ∨ o = 13 ∨ o = 14 := by omega
  rcases h with rfl | rfl | rfl | rfl | rfl | rfl | rfl | rfl | rfl | rfl | rfl | rfl <;> exact ⟨_, _, rfl⟩
theorem oO {f : Tm → Bool} {l : List Tm} : (!l.any fun k => !f k) = l.all f := by
  induction l with
  | nil => rfl
  | cons k r ih => simp only [List.any_cons, List.all_cons, ← ih]; cases f k <;> simp
theorem jh {t : Tm} (h : t.op = 1 ∨ t.op = 2) : t.form = z3 t.op t.n t.kids.length := by
  rw [Tm.form_eq]
  cases hh : z3 t.op t.n t.kids.length with
  | false => rfl
  | true =>
    have : t.kids.length = 0 := by
      simp only [z3, Bool.and_eq_true, decide_eq_true_eq] at hh
      have h3 := hh.1.1.1.1.2
      unfold ba at h3
      rcases h with e | e <;> rw [e] at h3 <;> simp at h3 <;> simp [h3]
    rw [List.length_eq_zero_iff.mp this]; rfl
theorem iB (k : Tm) (h : Heap) (ih : ∀ h : Heap, f9 Tryz.prog gW 106 [aT k] h (fun r h' => r = .b k.form ∧ h' = h)) :
    f9 Tryz.prog gW 111 [aT k] h (fun r h' => r = .b (!k.form) ∧ h' = h) := by
  refine d9 (rl := []) i6 Tryz.func111 rfl (rs := [.tmp 2]) rfl Tryz.ntmps111 (by simp) ?_
  repeat' (first | ((repeat ((fail_if_success (refine hK _ ?_)); clear hK K)); refine hK _ ?_; clear hK K) | ((first | refine d8 fun K1 p7 => ?_ | refine d6 fun K1 p7 => ?_ | refine b5 fun A B hA hB => ?_); simp only [S1, simprocAttr, M8]; first | refine p7 _ ?_; clear p7 K1 | ((first | refine hA ?_ | refine hB ?_); clear hA hB A B) | ((first | apply b9 sL | apply c7 sL); exact (ih _); refine p7 _ ?_; clear p7 K1) | (((first | (refine ⟨fun hg => hA ?_, fun hg => hB ?_⟩ <;> clear hA hB A B) | refine ⟨fun hg => ?_, fun hg => ?_⟩) <;> (try simp only [BN2] at hg) <;> (try simp only [hg, cndB])) <;> (try (refine p7 _ ?_; clear p7 K1)) <;> (try simp only [BN3] at hg))) | refine b6 fun K hK => ?_ | ((first | apply c8 | apply b8 | apply a9 | refine d5 ?_ | apply b7 | apply c9 | apply d4 | apply d7); try simp only [NB, simprocAttr]))
  simp only [S1, simprocAttr, ENB, M8]
theorem ri {t : Tm} (hk : t.kids.length ≤ 100) (ih : ∀ k ∈ t.kids, ∀ h : Heap, f9 Tryz.prog gW 106 [aT k] h (fun r h' => r = .b k.form ∧ h' = h)) (h : Heap) (hop : t.op = 1) : f9 Tryz.prog gW 106 [aT t] h (fun r h' => r = .b t.form ∧ h' = h) := by
  rw [jh (.inl hop)]
  refine d9 (rl := []) i6 Tryz.func106 rfl (rs := [.tmp 2]) rfl Tryz.ntmps106 (by simp) ?_
  repeat' (first | ((repeat ((fail_if_success (refine hK _ ?_)); clear hK K)); refine hK _ ?_; clear hK K) | ((first | refine d8 fun K1 p7 => ?_ | refine d6 fun K1 p7 => ?_ | refine b5 fun A B hA hB => ?_); simp only [S1, simprocAttr, M8, hop]; first | refine p7 _ ?_; clear p7 K1 | ((first | refine hA ?_ | refine hB ?_); clear hA hB A B) | (refine g8 (v := ?_) (fun hg p8 => ?_) ?_; rotate_left; (focus (try ((try simp only [BN] at hg); simp only [S1, simprocAttr, M8, hop, hg] at p8 ⊢)); first | exact p8); refine p7 _ ?_; clear p7 K1) | (((first | (refine ⟨fun hg => hA ?_, fun hg => hB ?_⟩ <;> clear hA hB A B) | refine ⟨fun hg => ?_, fun hg => ?_⟩) <;> (try simp only [BN2] at hg) <;> (try simp only [hg, cndB])) <;> (try (refine p7 _ ?_; clear p7 K1)) <;> (try simp only [BN3] at hg))) | refine b6 fun K hK => ?_ | ((first | apply c8 | apply b8 | apply a9 | refine d5 ?_ | apply b7 | apply c9 | apply d4 | apply d7); try simp only [NB, simprocAttr]))
  simp only [S1, simprocAttr, ENB, M8]
  refine congrArg (fun b => AV.p (PV.bool b)) (Bool.eq_iff_iff.mpr ?_)
  simp [z3, ba, hop]
  try omega
theorem rj {t : Tm} (hk : t.kids.length ≤ 100) (ih : ∀ k ∈ t.kids, ∀ h : Heap, f9 Tryz.prog gW 106 [aT k] h (fun r h' => r = .b k.form ∧ h' = h)) (h : Heap) (hop : t.op = 2) : f9 Tryz.prog gW 106 [aT t] h (fun r h' => r = .b t.form ∧ h' = h) := by
  rw [jh (.inr hop)]
  refine d9 (rl := []) i6 Tryz.func106 rfl (rs := [.tmp 2]) rfl Tryz.ntmps106 (by simp) ?_
  repeat' (first | ((repeat ((fail_if_success (refine hK _ ?_)); clear hK K)); refine hK _ ?_; clear hK K) | ((first | refine d8 fun K1 p7 => ?_ | refine d6 fun K1 p7 => ?_ | refine b5 fun A B hA hB => ?_); simp only [S1, simprocAttr, M8, hop]; first | refine p7 _ ?_; clear p7 K1 | ((first | refine hA ?_ | refine hB ?_); clear hA hB A B) | (refine g8 (v := ?_) (fun hg p8 => ?_) ?_; rotate_left; (focus (try ((try simp only [BN] at hg); simp only [S1, simprocAttr, M8, hop, hg] at p8 ⊢)); first | exact p8); refine p7 _ ?_; clear p7 K1) | (((first | (refine ⟨fun hg => hA ?_, fun hg => hB ?_⟩ <;> clear hA hB A B) | refine ⟨fun hg => ?_, fun hg => ?_⟩) <;> (try simp only [BN2] at hg) <;> (try simp only [hg, cndB])) <;> (try (refine p7 _ ?_; clear p7 K1)) <;> (try simp only [BN3] at hg))) | refine b6 fun K hK => ?_ | ((first | apply c8 | apply b8 | apply a9 | refine d5 ?_ | apply b7 | apply c9 | apply d4 | apply d7); try simp only [NB, simprocAttr]))
  simp only [S1, simprocAttr, ENB, M8]
  refine congrArg (fun b => AV.p (PV.bool b)) (Bool.eq_iff_iff.mpr ?_)
  simp [z3, ba, hop]
  try omega
theorem rk {t : Tm} (hk : t.kids.length ≤ 100) (ih : ∀ k ∈ t.kids, ∀ h : Heap, f9 Tryz.prog gW 106 [aT k] h (fun r h' => r = .b k.form ∧ h' = h)) (h : Heap) (hop : t.op < 1) : f9 Tryz.prog gW 106 [aT t] h (fun r h' => r = .b t.form ∧ h' = h) := by
  have f1 : (t.op == 1) = false := by simp; omega
  have f2 : (t.op == 2) = false := by simp; omega
  have f3 : decide (t.op < 3) = true := by simp; omega
  rw [Tm.form_eq]
  refine d9 (rl := []) i6 Tryz.func106 rfl (rs := [.tmp 2]) rfl Tryz.ntmps106 (by simp) ?_
  repeat' (first | ((repeat ((fail_if_success (refine hK _ ?_)); clear hK K)); refine hK _ ?_; clear hK K) | ((first | refine d8 fun K1 p7 => ?_ | refine d6 fun K1 p7 => ?_ | refine b5 fun A B hA hB => ?_); simp only [S1, simprocAttr, M8, f1, f2, f3]; first | refine p7 _ ?_; clear p7 K1 | ((first | refine hA ?_ | refine hB ?_); clear hA hB A B) | (refine g8 (v := ?_) (fun hg p8 => ?_) ?_; rotate_left; (focus (try ((try simp only [BN] at hg); simp only [S1, simprocAttr, M8, f1, f2, f3, hg] at p8 ⊢)); first | exact p8); refine p7 _ ?_; clear p7 K1) | (((first | (refine ⟨fun hg => hA ?_, fun hg => hB ?_⟩ <;> clear hA hB A B) | refine ⟨fun hg => ?_, fun hg => ?_⟩) <;> (try simp only [BN2] at hg) <;> (try simp only [hg, cndB])) <;> (try (refine p7 _ ?_; clear p7 K1)) <;> (try simp only [BN3] at hg))) | refine b6 fun K hK => ?_ | ((first | apply c8 | apply b8 | apply a9 | refine d5 ?_ | apply b7 | apply c9 | apply d4 | apply d7); try simp only [NB, simprocAttr]))
  simp only [S1, simprocAttr, ENB, M8]
  have : z3 t.op t.n t.kids.length = false := by
    cases hh : z3 t.op t.n t.kids.length with
    | false => rfl
    | true => simp [z3] at hh; omega
  simp [this]
theorem rm {t : Tm} (hk : t.kids.length ≤ 100) (ih : ∀ k ∈ t.kids, ∀ h : Heap, f9 Tryz.prog gW 106 [aT k] h (fun r h' => r = .b k.form ∧ h' = h)) (h : Heap) (hop : 14 < t.op) : f9 Tryz.prog gW 106 [aT t] h (fun r h' => r = .b t.form ∧ h' = h) := by
  have f1 : (t.op == 1) = false := by simp; omega
  have f2 : (t.op == 2) = false := by simp; omega
  have f3 : decide (t.op < 3) = false := by simp; omega
  have f4 : decide (14 < t.op) = true := by simp; omega
  rw [Tm.form_eq]
  refine d9 (rl := []) i6 Tryz.func106 rfl (rs := [.tmp 2]) rfl Tryz.ntmps106 (by simp) ?_
  repeat' (first | ((repeat ((fail_if_success (refine hK _ ?_)); clear hK K)); refine hK _ ?_; clear hK K) | ((first | refine d8 fun K1 p7 => ?_ | refine d6 fun K1 p7 => ?_ | refine b5 fun A B hA hB => ?_); simp only [S1, simprocAttr, M8, f1, f2, f3, f4]; first | refine p7 _ ?_; clear p7 K1 | ((first | refine hA ?_ | refine hB ?_); clear hA hB A B) | (refine g8 (v := ?_) (fun hg p8 => ?_) ?_; rotate_left; (focus (try ((try simp only [BN] at hg); simp only [S1, simprocAttr, M8, f1, f2, f3, f4, hg] at p8 ⊢)); first | exact p8); refine p7 _ ?_; clear p7 K1) | (((first | (refine ⟨fun hg => hA ?_, fun hg => hB ?_⟩ <;> clear hA hB A B) | refine ⟨fun hg => ?_, fun hg => ?_⟩) <;> (try simp only [BN2] at hg) <;> (try simp only [hg, cndB])) <;> (try (refine p7 _ ?_; clear p7 K1)) <;> (try simp only [BN3] at hg))) | refine b6 fun K hK => ?_ | ((first | apply c8 | apply b8 | apply a9 | refine d5 ?_ | apply b7 | apply c9 | apply d4 | apply d7); try simp only [NB, simprocAttr]))
  simp only [S1, simprocAttr, ENB, M8]
  have : z3 t.op t.n t.kids.length = false := by
    cases hh : z3 t.op t.n t.kids.length with
    | false => rfl
    | true => simp [z3] at hh; omega
  simp [this]
theorem rn {t : Tm} (hk : t.kids.length ≤ 100) (ih : ∀ k ∈ t.kids, ∀ h : Heap, f9 Tryz.prog gW 106 [aT k] h (fun r h' => r = .b k.form ∧ h' = h)) (h : Heap) (ho1 : 3 ≤ t.op) (ho2 : t.op ≤ 14) : f9 Tryz.prog gW 106 [aT t] h (fun r h' => r = .b t.form ∧ h' = h) := by
  have hc := fun (L : Heap) => S7 (G := gW) uO (caps := []) (p := fun k => !k.form) t.kids hk L trivial fun k hm => iB k L fun h => ih k hm h
  have f1 : (t.op == 1) = false := by simp; omega
  have f2 : (t.op == 2) = false := by simp; omega
  have f3 : decide (t.op < 3) = false := by simp; omega
  have f4 : decide (14 < t.op) = false := by simp; omega
  have f5 : 0 ≤ t.op := by omega
  have f6 : t.op < ((15 : Nat) : Int) := by omega
  have f7 : t.op < 15 := by omega
  obtain ⟨s, rest, f8⟩ := lL ho1 ho2
  rw [Tm.form_eq]
  refine d9 (rl := []) i6 Tryz.func106 rfl (rs := [.tmp 2]) rfl Tryz.ntmps106 (by simp) ?_
  repeat' (first | ((repeat ((fail_if_success (refine hK _ ?_)); clear hK K)); refine hK _ ?_; clear hK K) | ((first | refine d8 fun K1 p7 => ?_ | refine d6 fun K1 p7 => ?_ | refine b5 fun A B hA hB => ?_); simp only [S1, simprocAttr, M8, f1, f2, f3, f4, f5, f6, f7, f8, sN]; first | refine p7 _ ?_; clear p7 K1 | ((first | refine hA ?_ | refine hB ?_); clear hA hB A B) | ((first | apply b9 fw | apply c7 fw); exact (hc _); refine p7 _ ?_; clear p7 K1) | (refine g8 (v := ?_) (fun hg p8 => ?_) ?_; rotate_left; (focus (try ((try simp only [BN] at hg); simp only [S1, simprocAttr, M8, f1, f2, f3, f4, f5, f6, f7, f8, sN, hg] at p8 ⊢)); first | exact p8 | ((first | apply b9 fw | apply c7 fw); exact (hc _); exact p8)); refine p7 _ ?_; clear p7 K1) | (((first | (refine ⟨fun hg => hA ?_, fun hg => hB ?_⟩ <;> clear hA hB A B) | refine ⟨fun hg => ?_, fun hg => ?_⟩) <;> (try simp only [BN2] at hg) <;> (try simp only [hg, cndB])) <;> (try (refine p7 _ ?_; clear p7 K1)) <;> (try simp only [BN3] at hg))) | refine b6 fun K hK => ?_ | ((first | apply c8 | apply b8 | apply a9 | refine d5 ?_ | apply b7 | apply c9 | apply d4 | apply d7); try simp only [NB, simprocAttr]))
  · simp only [S1, simprocAttr, ENB, M8]
    have : z3 t.op t.n t.kids.length = false := by
      cases hh : z3 t.op t.n t.kids.length with
      | false => rfl
      | true => simp [z3] at hh hg; omega
    simp [this]
  · simp only [S1, simprocAttr, ENB, M8]
    have : z3 t.op t.n t.kids.length = true := by
      simp [z3] at hg ⊢; omega
    rw [this, oO, Bool.true_and]
theorem ke {n : Nat} {t : Tm} (ht : Tm.Ok n t) (h : Heap) : f9 Tryz.prog gW 106 [aT t] h (fun r h' => r = .b t.form ∧ h' = h) := by
  revert h
  refine Tm.Ok.ind (p := fun n t => ∀ (h : Heap), f9 Tryz.prog gW 106 [aT t] h (fun r h' => r = .b t.form ∧ h' = h)) (fun n t hk ih h => ?_) ht
  have ih' := fun k hm => (ih k hm).2
  rcases (by omega : t.op = 1 ∨ t.op = 2 ∨ t.op < 1 ∨ 14 < t.op ∨ (3 ≤ t.op ∧ t.op ≤ 14)) with hop | hop | hop | hop | ⟨ho1, ho2⟩
  · exact ri hk ih' h hop
  · exact rj hk ih' h hop
  · exact rk hk ih' h hop
  · exact rm hk ih' h hop
  · exact rn hk ih' h ho1 ho2
end
section
def G0 := And.intro T2 (And.intro T3 (And.intro T4 (And.intro T9 (And.intro T27 (And.intro T34 (And.intro T66 (And.intro T68 (And.intro sG (And.intro tR tS)))))))))
attribute [local irreducible] awp q9 m7
variable {G : Nat → Option (List PV)}
def tyN (t : Tm) : Int := if t.typed then iA t.op else 0
theorem tT {o : Int} {k : Tm} : (tyN k != ofN o) = !G7 o k := by
  unfold tyN ofN iA G7
  cases k.typed <;> cases x8 k.op <;> cases E4 o <;> rfl
theorem ro {t : Tm} : (t.kids.any fun k => tyN k != ofN t.op) = !t.typed := by
  have : (fun k => tyN k != ofN t.op) = fun k => !G7 t.op k := funext fun k => tT
  rw [this, Tm.typed_eq, ← oO, Bool.not_not]
theorem sP {t : Tm} (h : t.form = true) : 1 ≤ t.op ∧ t.op ≤ 14 ∧ (t.op = 1 ∨ t.op = 2 → t.kids = []) ∧ ∀ k ∈ t.kids, k.form = true := by
  rw [Tm.form_eq, Bool.and_eq_true, List.all_eq_true] at h
  obtain ⟨h1, h2⟩ := h
  simp only [z3, Bool.and_eq_true, decide_eq_true_eq] at h1
  refine ⟨h1.1.1.1.1.1.1, h1.1.1.1.1.1.2, fun e => ?_, h2⟩
  have h3 := h1.1.1.1.1.2
  unfold ba at h3
  rcases e with e | e <;> rw [e] at h3 <;> simp at h3 <;> simp [h3]
theorem kf (k : Tm) (h : Heap) {b : Nat} {s : ByteArray} {x o y : Int} (hb : h[b]? = some (some ⟨0, [.p (.str s), .i x, .i o, .i y]⟩))
    (ih : ∀ h : Heap, f9 Tryz.prog gW 101 [aT k] h (fun r h' => r = .i (tyN k) ∧ h' = h)) :
    f9 Tryz.prog gW 108 [aT k, .ptr b 0 0] h (fun r h' => r = .b (tyN k != o) ∧ h' = h) := by
  have hlt : b < h.length := (List.getElem?_eq_some_iff.mp hb).1
  have hbL : ∀ L : Heap, (h ++ L)[b]? = some (some ⟨0, [.p (.str s), .i x, .i o, .i y]⟩) := fun L => by rw [List.getElem?_append_left hlt]; exact hb
  refine d9 (rl := []) i6 Tryz.func108 rfl (rs := [.tmp 3]) rfl Tryz.ntmps108 (by simp) ?_
  repeat' (first | ((repeat ((fail_if_success (refine hK _ ?_)); clear hK K)); refine hK _ ?_; clear hK K) | ((first | refine d8 fun K1 p7 => ?_ | refine d6 fun K1 p7 => ?_ | refine b5 fun A B hA hB => ?_); simp only [S1, simprocAttr, G0, hbL]; first | refine p7 _ ?_; clear p7 K1 | ((first | refine hA ?_ | refine hB ?_); clear hA hB A B) | ((first | apply b9 sI | apply c7 sI); exact (ih _); refine p7 _ ?_; clear p7 K1) | (((first | (refine ⟨fun hg => hA ?_, fun hg => hB ?_⟩ <;> clear hA hB A B) | refine ⟨fun hg => ?_, fun hg => ?_⟩) <;> (try simp only [BN2] at hg) <;> (try simp only [hg, cndB])) <;> (try (refine p7 _ ?_; clear p7 K1)) <;> (try simp only [BN3] at hg))) | refine b6 fun K hK => ?_ | ((first | apply c8 | apply b8 | apply a9 | refine d5 ?_ | apply b7 | apply c9 | apply d4 | apply d7); try simp only [NB, simprocAttr]))
  simp only [S1, simprocAttr, ENB, G0]
theorem lM {n : Nat} {t : Tm} (ht : Tm.Ok n t) (hf : t.form = true) (h : Heap) : f9 Tryz.prog gW 101 [aT t] h (fun r h' => r = .i (tyN t) ∧ h' = h) := by
  revert hf h
  refine Tm.Ok.ind (p := fun n t => t.form = true → ∀ (h : Heap), f9 Tryz.prog gW 101 [aT t] h (fun r h' => r = .i (tyN t) ∧ h' = h)) (fun n t hk ih hf h => ?_) ht
  obtain ⟨g1, g2, g3, g4⟩ := sP hf
  by_cases hop : t.op = 1 ∨ t.op = 2
  · have e : tyN t = 1 := by
      unfold tyN
      rw [Tm.typed_eq, g3 hop]
      rcases hop with hop | hop <;> rw [hop] <;> rfl
    rw [e]
    have f1 : (t.op == 1 || t.op == 2) = true := by rcases hop with hop | hop <;> simp [hop]
    refine d9 (rl := []) i6 Tryz.func101 rfl (rs := [.tmp 2]) rfl Tryz.ntmps101 (by simp) ?_
    rcases hop with hop | hop
    · repeat' (first | ((repeat ((fail_if_success (refine hK _ ?_)); clear hK K)); refine hK _ ?_; clear hK K) | ((first | refine d8 fun K1 p7 => ?_ | refine d6 fun K1 p7 => ?_ | refine b5 fun A B hA hB => ?_); simp only [S1, simprocAttr, G0, hop]; first | refine p7 _ ?_; clear p7 K1 | ((first | refine hA ?_ | refine hB ?_); clear hA hB A B) | (refine g8 (v := ?_) (fun hg p8 => ?_) ?_; rotate_left; (focus (try ((try simp only [BN] at hg); simp only [S1, simprocAttr, G0, hop, hg] at p8 ⊢)); first | exact p8); refine p7 _ ?_; clear p7 K1) | (((first | (refine ⟨fun hg => hA ?_, fun hg => hB ?_⟩ <;> clear hA hB A B) | refine ⟨fun hg => ?_, fun hg => ?_⟩) <;> (try simp only [BN2] at hg) <;> (try simp only [hg, cndB])) <;> (try (refine p7 _ ?_; clear p7 K1)) <;> (try simp only [BN3] at hg))) | refine b6 fun K hK => ?_ | ((first | apply c8 | apply b8 | apply a9 | refine d5 ?_ | apply b7 | apply c9 | apply d4 | apply d7); try simp only [NB, simprocAttr]))
      simp only [S1, simprocAttr, ENB, G0]
    · repeat' (first | ((repeat ((fail_if_success (refine hK _ ?_)); clear hK K)); refine hK _ ?_; clear hK K) | ((first | refine d8 fun K1 p7 => ?_ | refine d6 fun K1 p7 => ?_ | refine b5 fun A B hA hB => ?_); simp only [S1, simprocAttr, G0, hop]; first | refine p7 _ ?_; clear p7 K1 | ((first | refine hA ?_ | refine hB ?_); clear hA hB A B) | (refine g8 (v := ?_) (fun hg p8 => ?_) ?_; rotate_left; (focus (try ((try simp only [BN] at hg); simp only [S1, simprocAttr, G0, hop, hg] at p8 ⊢)); first | exact p8); refine p7 _ ?_; clear p7 K1) | (((first | (refine ⟨fun hg => hA ?_, fun hg => hB ?_⟩ <;> clear hA hB A B) | refine ⟨fun hg => ?_, fun hg => ?_⟩) <;> (try simp only [BN2] at hg) <;> (try simp only [hg, cndB])) <;> (try (refine p7 _ ?_; clear p7 K1)) <;> (try simp only [BN3] at hg))) | refine b6 fun K hK => ?_ | ((first | apply c8 | apply b8 | apply a9 | refine d5 ?_ | apply b7 | apply c9 | apply d4 | apply d7); try simp only [NB, simprocAttr]))
      simp only [S1, simprocAttr, ENB, G0]
  · have f1 : (t.op == 1) = false := by simp; omega
    have f2 : (t.op == 2) = false := by simp; omega
    have f5 : 0 ≤ t.op := by omega
    have f6 : t.op < ((15 : Nat) : Int) := by omega
    have f7 : t.op < 15 := by omega
    obtain ⟨s, rest, f8⟩ := lL (o := t.op) (by omega) g2
    have hc := fun (L : Heap) (b : Nat) (hb : (h ++ L)[b]? = some (some ⟨0, [.p (.str s), .i (ba t.op), .i (ofN t.op), .i (iA t.op)]⟩)) => S7 (G := gW) uM (caps := [.ptr b 0 0]) (p := fun k => tyN k != ofN t.op) t.kids hk (h ++ L) (by simp only [q6, y6, and_true]; exact (List.getElem?_eq_some_iff.mp hb).1) fun k hm => kf k _ hb fun h => (ih k hm).2 (g4 k hm) h
    refine d9 (rl := []) i6 Tryz.func101 rfl (rs := [.tmp 2]) rfl Tryz.ntmps101 (by simp) ?_
    repeat' (first | ((repeat ((fail_if_success (refine hK _ ?_)); clear hK K)); refine hK _ ?_; clear hK K) | ((first | refine d8 fun K1 p7 => ?_ | refine d6 fun K1 p7 => ?_ | refine b5 fun A B hA hB => ?_); simp only [S1, simprocAttr, G0, f1, f2, f5, f6, f7, f8, sN]; first | refine p7 _ ?_; clear p7 K1 | ((first | refine hA ?_ | refine hB ?_); clear hA hB A B) | ((first | apply b9 fw | apply c7 fw); exact (hc _ _ (by simp only [S1, simprocAttr, G0])); refine p7 _ ?_; clear p7 K1) | (refine g8 (v := ?_) (fun hg p8 => ?_) ?_; rotate_left; (focus (try ((try simp only [BN] at hg); simp only [S1, simprocAttr, G0, f1, f2, f5, f6, f7, f8, sN, hg] at p8 ⊢)); first | exact p8 | ((first | apply b9 fw | apply c7 fw); exact (hc _ _ (by simp only [S1, simprocAttr, G0])); exact p8)); refine p7 _ ?_; clear p7 K1) | (((first | (refine ⟨fun hg => hA ?_, fun hg => hB ?_⟩ <;> clear hA hB A B) | refine ⟨fun hg => ?_, fun hg => ?_⟩) <;> (try simp only [BN2] at hg) <;> (try simp only [hg, cndB])) <;> (try (refine p7 _ ?_; clear p7 K1)) <;> (try simp only [BN3] at hg))) | refine b6 fun K hK => ?_ | ((first | apply c8 | apply b8 | apply a9 | refine d5 ?_ | apply b7 | apply c9 | apply d4 | apply d7); try simp only [NB, simprocAttr]))
    · rw [ro] at hg
      simp only [S1, simprocAttr, ENB, G0]
      have : t.typed = false := by simpa using hg
      simp [tyN, this]
    · rw [ro] at hg
      simp only [S1, simprocAttr, ENB, G0]
      have : t.typed = true := by simpa using hg
      simp [tyN, this]
def S8 (t : Tm) : Int := if 24 < t.depth then 2 else if t.form then 0 else 4
def C7 (t : Tm) : Int × Int := if S8 t ≠ 0 then (0, S8 t) else if t.typed then (iA t.op, 0) else (0, 30)
theorem eK {n : Nat} {t : Tm} (ht : Tm.Ok n t) (h : Heap) : f9 Tryz.prog gW 100 [aT t] h (fun r h' => r = .i (S8 t) ∧ h' = h) := by
  have hd : t.dp 1 = decide (24 < t.depth) := by rw [Tm.dp_depth]; congr 1; rw [eq_iff_iff]; omega
  refine d9 (rl := []) i6 Tryz.func100 rfl (rs := [.tmp 2]) rfl Tryz.ntmps100 (by simp) ?_
  repeat' (first | ((repeat ((fail_if_success (refine hK _ ?_)); clear hK K)); refine hK _ ?_; clear hK K) | ((first | refine d8 fun K1 p7 => ?_ | refine d6 fun K1 p7 => ?_ | refine b5 fun A B hA hB => ?_); simp only [S1, simprocAttr, G0]; first | refine p7 _ ?_; clear p7 K1 | ((first | refine hA ?_ | refine hB ?_); clear hA hB A B) | ((first | apply b9 sK | apply c7 sK); exact (nu ht 1 _ (by omega) (by omega)); refine p7 _ ?_; clear p7 K1) | ((first | apply b9 sL | apply c7 sL); exact (ke ht _); refine p7 _ ?_; clear p7 K1) | (((first | (refine ⟨fun hg => hA ?_, fun hg => hB ?_⟩ <;> clear hA hB A B) | refine ⟨fun hg => ?_, fun hg => ?_⟩) <;> (try simp only [BN2] at hg) <;> (try simp only [hg, cndB])) <;> (try (refine p7 _ ?_; clear p7 K1)) <;> (try simp only [BN3] at hg))) | refine b6 fun K hK => ?_ | ((first | apply c8 | apply b8 | apply a9 | refine d5 ?_ | apply b7 | apply c9 | apply d4 | apply d7); try simp only [NB, simprocAttr]))
  all_goals simp only [S1, simprocAttr, ENB, G0]
  all_goals simp_all [S8]
theorem bb {n : Nat} {t : Tm} (ht : Tm.Ok n t) (h : Heap) : f9 Tryz.prog gW 94 [aT t] h (fun r h' => r = .tup [.i (C7 t).1, .i (C7 t).2] ∧ h' = h) := by
  by_cases hw : S8 t = 0
  · have hf : t.form = true := by
      unfold S8 at hw
      split at hw
      · cases hw
      · split at hw
        · assumption
        · cases hw
    refine d9 (rl := []) i6 Tryz.func94 rfl (rs := [.tmp 2, .tmp 3]) rfl Tryz.ntmps94 (by simp) ?_
    repeat' (first | ((repeat ((fail_if_success (refine hK _ ?_)); clear hK K)); refine hK _ ?_; clear hK K) | ((first | refine d8 fun K1 p7 => ?_ | refine d6 fun K1 p7 => ?_ | refine b5 fun A B hA hB => ?_); simp only [S1, simprocAttr, G0, hw]; first | refine p7 _ ?_; clear p7 K1 | ((first | refine hA ?_ | refine hB ?_); clear hA hB A B) | ((first | apply b9 sH | apply c7 sH); exact (eK ht _); refine p7 _ ?_; clear p7 K1) | ((first | apply b9 sI | apply c7 sI); exact (lM ht hf _); refine p7 _ ?_; clear p7 K1) | (((first | (refine ⟨fun hg => hA ?_, fun hg => hB ?_⟩ <;> clear hA hB A B) | refine ⟨fun hg => ?_, fun hg => ?_⟩) <;> (try simp only [BN2] at hg) <;> (try simp only [hg, cndB])) <;> (try (refine p7 _ ?_; clear p7 K1)) <;> (try simp only [BN3] at hg))) | refine b6 fun K hK => ?_ | ((first | apply c8 | apply b8 | apply a9 | refine d5 ?_ | apply b7 | apply c9 | apply d4 | apply d7); try simp only [NB, simprocAttr]))
    all_goals simp only [S1, simprocAttr, ENB, G0]
    all_goals (cases hty : t.typed <;> cases hto : x8 t.op <;> simp_all [C7, tyN, iA])
  · have e : (S8 t != 0) = true := by simpa using hw
    refine d9 (rl := []) i6 Tryz.func94 rfl (rs := [.tmp 2, .tmp 3]) rfl Tryz.ntmps94 (by simp) ?_
    repeat' (first | ((repeat ((fail_if_success (refine hK _ ?_)); clear hK K)); refine hK _ ?_; clear hK K) | ((first | refine d8 fun K1 p7 => ?_ | refine d6 fun K1 p7 => ?_ | refine b5 fun A B hA hB => ?_); simp only [S1, simprocAttr, G0, e]; first | refine p7 _ ?_; clear p7 K1 | ((first | refine hA ?_ | refine hB ?_); clear hA hB A B) | ((first | apply b9 sH | apply c7 sH); exact (eK ht _); refine p7 _ ?_; clear p7 K1) | (((first | (refine ⟨fun hg => hA ?_, fun hg => hB ?_⟩ <;> clear hA hB A B) | refine ⟨fun hg => ?_, fun hg => ?_⟩) <;> (try simp only [BN2] at hg) <;> (try simp only [hg, cndB])) <;> (try (refine p7 _ ?_; clear p7 K1)) <;> (try simp only [BN3] at hg))) | refine b6 fun K hK => ?_ | ((first | apply c8 | apply b8 | apply a9 | refine d5 ?_ | apply b7 | apply c9 | apply d4 | apply d7); try simp only [NB, simprocAttr]))
    all_goals simp only [S1, simprocAttr, ENB, G0]
    all_goals simp_all [C7]
theorem kg {n : Nat} {t : Tm} (ht : Tm.Ok n t) (hn : n ≤ 200) (h : Heap) : f9 Tryz.prog G 91 [aT t] h (fun r h' => r = .i (S8 t) ∧ h' = h) := by
  refine d9 (rl := []) i6 Tryz.func91 rfl (rs := [.tmp 2]) rfl Tryz.ntmps91 (by simp) ?_
  repeat' (first | ((repeat ((fail_if_success (refine hK _ ?_)); clear hK K)); refine hK _ ?_; clear hK K) | ((first | refine d8 fun K1 p7 => ?_ | refine d6 fun K1 p7 => ?_ | refine b5 fun A B hA hB => ?_); simp only [S1, simprocAttr, G0]; first | refine p7 _ ?_; clear p7 K1 | ((first | refine hA ?_ | refine hB ?_); clear hA hB A B) | ((first | apply b9 E98 | apply c7 E98); exact (lF ht hn _); refine p7 _ ?_; clear p7 K1) | ((first | apply b9 E99 | apply c7 E99); exact (lK ht _); refine p7 _ ?_; clear p7 K1) | (((first | (refine ⟨fun hg => hA ?_, fun hg => hB ?_⟩ <;> clear hA hB A B) | refine ⟨fun hg => ?_, fun hg => ?_⟩) <;> (try simp only [BN2] at hg) <;> (try simp only [hg, cndB])) <;> (try (refine p7 _ ?_; clear p7 K1)) <;> (try simp only [BN3] at hg))) | refine b6 fun K hK => ?_ | ((first | apply c8 | apply b8 | apply a9 | refine d5 ?_ | apply b7 | apply c9 | apply d4 | apply d7); try simp only [NB, simprocAttr]))
  all_goals simp only [S1, simprocAttr, ENB, G0]
  all_goals simp_all [S8]
  all_goals try omega
theorem C1 {n : Nat} {t : Tm} (ht : Tm.Ok n t) (hn : n ≤ 200) (h : Heap) : f9 Tryz.prog G 76 [aT t] h (fun r h' => r = .tup [.i (C7 t).1, .i (C7 t).2] ∧ h' = h) := by
  refine d9 (rl := []) i6 Tryz.func76 rfl (rs := [.tmp 2, .tmp 3]) rfl Tryz.ntmps76 (by simp) ?_
  repeat' (first | ((repeat ((fail_if_success (refine hK _ ?_)); clear hK K)); refine hK _ ?_; clear hK K) | ((first | refine d8 fun K1 p7 => ?_ | refine d6 fun K1 p7 => ?_ | refine b5 fun A B hA hB => ?_); simp only [S1, simprocAttr, G0]; first | refine p7 _ ?_; clear p7 K1 | ((first | refine hA ?_ | refine hB ?_); clear hA hB A B) | ((first | apply b9 E91 | apply c7 E91); exact (kg ht hn _); refine p7 _ ?_; clear p7 K1) | ((first | apply b9 E92 | apply c7 E92); exact (kc ht _); refine p7 _ ?_; clear p7 K1) | ((first | apply b9 E93 | apply c7 E93); exact (Z3 _ _); refine p7 _ ?_; clear p7 K1) | (((first | (refine ⟨fun hg => hA ?_, fun hg => hB ?_⟩ <;> clear hA hB A B) | refine ⟨fun hg => ?_, fun hg => ?_⟩) <;> (try simp only [BN2] at hg) <;> (try simp only [hg, cndB])) <;> (try (refine p7 _ ?_; clear p7 K1)) <;> (try simp only [BN3] at hg))) | refine b6 fun K hK => ?_ | ((first | apply c8 | apply b8 | apply a9 | refine d5 ?_ | apply b7 | apply c9 | apply d4 | apply d7); try simp only [NB, simprocAttr]))
  all_goals simp only [S1, simprocAttr, ENB, G0]
  all_goals try clear hK
  all_goals (cases hty : t.typed <;> cases hto : x8 t.op <;> simp_all [C7, iA, x8])
  all_goals omega
end
section
def av := And.intro T2 (And.intro T3 (And.intro T4 (And.intro T34 (And.intro T66 T68))))
attribute [local irreducible] awp q9 m7 n7 r5
variable {G : Nat → Option (List PV)}
def aw (t : Tm) : Bool := (t.op == 0 && t.n == 0) && ((t.kids.length : Int) == 0)
def ofB (t : Tm) (k : Int) : Bool := (C7 t).2 == 0 && (C7 t).1 == k
theorem w8 (t : Tm) (h : Heap) : f9 Tryz.prog G 78 [aT t] h (fun r h' => r = .b (aw t) ∧ h' = h) := by
  refine d9 (rl := []) i6 Tryz.func78 rfl (rs := [.tmp 2]) rfl Tryz.ntmps78 (by simp) ?_
  repeat' (first | ((repeat ((fail_if_success (refine hK _ ?_)); clear hK K)); refine hK _ ?_; clear hK K) | ((first | refine d8 fun K1 p7 => ?_ | refine d6 fun K1 p7 => ?_ | refine b5 fun A B hA hB => ?_); simp only [S1, simprocAttr, av, List.length_map]; first | refine p7 _ ?_; clear p7 K1 | ((first | refine hA ?_ | refine hB ?_); clear hA hB A B) | (refine g8 (v := ?_) (fun hg p8 => ?_) ?_; rotate_left; (focus (try ((try simp only [BN] at hg); simp only [S1, simprocAttr, av, List.length_map, hg] at p8 ⊢)); first | exact p8); refine p7 _ ?_; clear p7 K1) | (((first | (refine ⟨fun hg => hA ?_, fun hg => hB ?_⟩ <;> clear hA hB A B) | refine ⟨fun hg => ?_, fun hg => ?_⟩) <;> (try simp only [BN2] at hg) <;> (try simp only [hg, cndB])) <;> (try (refine p7 _ ?_; clear p7 K1)) <;> (try simp only [BN3] at hg))) | refine b6 fun K hK => ?_ | ((first | apply c8 | apply b8 | apply a9 | refine d5 ?_ | apply b7 | apply c9 | apply d4 | apply d7); try simp only [NB, simprocAttr]))
  all_goals simp only [S1, simprocAttr, ENB, av]
  all_goals (try simp only [aw, List.length_map])
theorem y9 (t : Tm) (h : Heap) : f9 Tryz.prog G 52 [aT t] h (fun r h' => r = .b (aw t) ∧ h' = h) := by
  refine d9 (rl := []) i6 Tryz.func52 rfl (rs := [.tmp 2]) rfl Tryz.ntmps52 (by simp) ?_
  repeat' (first | ((repeat ((fail_if_success (refine hK _ ?_)); clear hK K)); refine hK _ ?_; clear hK K) | ((first | refine d8 fun K1 p7 => ?_ | refine d6 fun K1 p7 => ?_ | refine b5 fun A B hA hB => ?_); simp only [S1, simprocAttr, av, List.length_map]; first | refine p7 _ ?_; clear p7 K1 | ((first | refine hA ?_ | refine hB ?_); clear hA hB A B) | (refine g8 (v := ?_) (fun hg p8 => ?_) ?_; rotate_left; (focus (try ((try simp only [BN] at hg); simp only [S1, simprocAttr, av, List.length_map, hg] at p8 ⊢)); first | exact p8); refine p7 _ ?_; clear p7 K1) | (((first | (refine ⟨fun hg => hA ?_, fun hg => hB ?_⟩ <;> clear hA hB A B) | refine ⟨fun hg => ?_, fun hg => ?_⟩) <;> (try simp only [BN2] at hg) <;> (try simp only [hg, cndB])) <;> (try (refine p7 _ ?_; clear p7 K1)) <;> (try simp only [BN3] at hg))) | refine b6 fun K hK => ?_ | ((first | apply c8 | apply b8 | apply a9 | refine d5 ?_ | apply b7 | apply c9 | apply d4 | apply d7); try simp only [NB, simprocAttr]))
  all_goals simp only [S1, simprocAttr, ENB, av]
  all_goals (try simp only [aw, List.length_map])
theorem fA {n : Nat} {t : Tm} (ht : Tm.Ok n t) (k : Int) (h : Heap) : f9 Tryz.prog gW 77 [aT t, .i k] h (fun r h' => r = .b (ofB t k) ∧ h' = h) := by
  refine d9 (rl := []) i6 Tryz.func77 rfl (rs := [.tmp 4]) rfl Tryz.ntmps77 (by simp) ?_
  repeat' (first | ((repeat ((fail_if_success (refine hK _ ?_)); clear hK K)); refine hK _ ?_; clear hK K) | ((first | refine d8 fun K1 p7 => ?_ | refine d6 fun K1 p7 => ?_ | refine b5 fun A B hA hB => ?_); simp only [S1, simprocAttr, av]; first | refine p7 _ ?_; clear p7 K1 | ((first | refine hA ?_ | refine hB ?_); clear hA hB A B) | ((first | apply b9 E94 | apply c7 E94); exact (bb ht _); refine p7 _ ?_; clear p7 K1) | (refine g8 (v := ?_) (fun hg p8 => ?_) ?_; rotate_left; (focus (try ((try simp only [BN] at hg); simp only [S1, simprocAttr, av, hg] at p8 ⊢)); first | exact p8 | ((first | apply b9 E94 | apply c7 E94); exact (bb ht _); exact p8)); refine p7 _ ?_; clear p7 K1) | (((first | (refine ⟨fun hg => hA ?_, fun hg => hB ?_⟩ <;> clear hA hB A B) | refine ⟨fun hg => ?_, fun hg => ?_⟩) <;> (try simp only [BN2] at hg) <;> (try simp only [hg, cndB])) <;> (try (refine p7 _ ?_; clear p7 K1)) <;> (try simp only [BN3] at hg))) | refine b6 fun K hK => ?_ | ((first | apply c8 | apply b8 | apply a9 | refine d5 ?_ | apply b7 | apply c9 | apply d4 | apply d7); try simp only [NB, simprocAttr]))
  all_goals simp only [S1, simprocAttr, ENB, av]
  all_goals (try simp only [ofB])
theorem O4 {n : Nat} {t : Tm} (ht : Tm.Ok n t) (hn : n ≤ 200) (k : Int) (h : Heap) : f9 Tryz.prog G 51 [aT t, .i k] h (fun r h' => r = .b (ofB t k) ∧ h' = h) := by
  refine d9 (rl := []) i6 Tryz.func51 rfl (rs := [.tmp 4]) rfl Tryz.ntmps51 (by simp) ?_
  repeat' (first | ((repeat ((fail_if_success (refine hK _ ?_)); clear hK K)); refine hK _ ?_; clear hK K) | ((first | refine d8 fun K1 p7 => ?_ | refine d6 fun K1 p7 => ?_ | refine b5 fun A B hA hB => ?_); simp only [S1, simprocAttr, av]; first | refine p7 _ ?_; clear p7 K1 | ((first | refine hA ?_ | refine hB ?_); clear hA hB A B) | ((first | apply b9 E76 | apply c7 E76); exact (C1 ht hn _); refine p7 _ ?_; clear p7 K1) | (refine g8 (v := ?_) (fun hg p8 => ?_) ?_; rotate_left; (focus (try ((try simp only [BN] at hg); simp only [S1, simprocAttr, av, hg] at p8 ⊢)); first | exact p8 | ((first | apply b9 E76 | apply c7 E76); exact (C1 ht hn _); exact p8)); refine p7 _ ?_; clear p7 K1) | (((first | (refine ⟨fun hg => hA ?_, fun hg => hB ?_⟩ <;> clear hA hB A B) | refine ⟨fun hg => ?_, fun hg => ?_⟩) <;> (try simp only [BN2] at hg) <;> (try simp only [hg, cndB])) <;> (try (refine p7 _ ?_; clear p7 K1)) <;> (try simp only [BN3] at hg))) | refine b6 fun K hK => ?_ | ((first | apply c8 | apply b8 | apply a9 | refine d5 ?_ | apply b7 | apply c9 | apply d4 | apply d7); try simp only [NB, simprocAttr]))
  all_goals simp only [S1, simprocAttr, ENB, av]
  all_goals (try simp only [ofB])
end
section
mutual
def nrm : PV → PV
  | .nils => .sl []
  | .sl rows => .sl (Q8 rows)
  | .int k n => .int k n
  | .bool b => .bool b
  | .str s => .str s
  | .nilp => .nilp
  | .nilf => .nilf
def dG : List PV → List PV
  | [] => []
  | x :: r => nrm x :: dG r
def Q8 : List (List PV) → List (List PV)
  | [] => []
  | x :: r => dG x :: Q8 r
end
theorem cm : ∀ l : List PV, dG l = l.map nrm
  | [] => rfl
  | x :: r => by simp only [dG, List.map_cons, cm r]
theorem O5 : ∀ l : List (List PV), Q8 l = l.map dG
  | [] => rfl
  | x :: r => by simp only [Q8, List.map_cons, O5 r]
theorem lN (rows : List (List PV)) (i j : Nat) : P5 (Q8 rows) i j = (P5 rows i j).map nrm := by
  unfold P5
  rw [O5, List.getElem?_map]
  cases rows[i]? with
  | none => rfl
  | some r => simp [cm]
theorem PRel.nrm {w : World} {o : Nat → Prop} {x : PV} {v : Value} (h : PRel w o x v) : PRel w o (AM.nrm x) v := by
  induction h with
  | int k n h => exact .int k n h
  | bool b => exact .bool b
  | str s h => exact .str s h
  | nils => exact .slz none 0
  | nilp => exact .nilp
  | nilf => exact .nilf
  | slz A c => exact .slz A c
  | sl rows blk off c sz f hc hn ho hb hsz hcell hrec ih =>
    have hl : (Q8 rows).length = rows.length := by rw [O5, List.length_map]
    have := PRel.sl (w := w) (own := o) (Q8 rows) blk off c sz f (by omega) (by omega) ho hb (fun row hr => by
      rw [O5] at hr
      obtain ⟨r, hr2, rfl⟩ := List.mem_map.mp hr
      rw [cm, List.length_map]
      exact hsz r hr2) (fun i j x hx => by
        rw [lN] at hx
        obtain ⟨y, hy, rfl⟩ := Option.map_eq_some_iff.mp hx
        exact hcell i j y hy) (fun i j x hx => by
        rw [lN] at hx
        obtain ⟨y, hy, rfl⟩ := Option.map_eq_some_iff.mp hx
        exact ih i j y hy)
    rw [hl] at this
    exact this
mutual
def gA : AV → AV
  | .p x => .p (nrm x)
  | .agg l => .agg (X2 l)
  | .tup l => .tup (X2 l)
  | .ref b g o s l => .ref b g o s l
  | .ptr b g o => .ptr b g o
  | .pin c => .pin c
  | .fn f l => .fn f l
def X2 : List AV → List AV
  | [] => []
  | x :: r => gA x :: X2 r
end
theorem R5 : ∀ l : List AV, X2 l = l.map gA
  | [] => rfl
  | x :: r => by simp only [X2, List.map_cons, R5 r]
section
variable {P : Program} {G : Nat → Option (List PV)} {ι : Nat → Nat × Nat} {h : Heap} {w : World}
theorem VRel.nrm {x : AV} {v : Value} (hx : VRel ι h w x v) : VRel ι h w (gA x) v := by
  induction hx with
  | p x v hx => exact .p _ _ hx.nrm
  | agg cells vs hl hv ih =>
    simp only [gA, R5]
    refine .agg _ _ (by simpa using hl) fun i x v hx hv' => ?_
    rw [List.getElem?_map] at hx
    obtain ⟨y, hy, rfl⟩ := Option.map_eq_some_iff.mp hx
    exact ih i y v hy hv'
  | tup cells vs hl hv ih =>
    simp only [gA, R5]
    refine .tup _ _ (by simpa using hl) fun i x v hx hv' => ?_
    rw [List.getElem?_map] at hx
    obtain ⟨y, hy, rfl⟩ := Option.map_eq_some_iff.mp hx
    exact ih i y v hy hv'
  | fn f cells vs hl hv ih => exact .fn f cells vs hl hv
  | ref b g off sz len A c hn hb hg hv => exact .ref b g off sz len A c hn hb hg hv
  | ptr b g off A hb hg hv => exact .ptr b g off A hb hg hv
  | pin cells blk off hv => exact .pin cells blk off hv
theorem f9.nrm {f : FuncId} {args : List AV} {K : AV → Heap → Prop} (hc : f9 P G f (X2 args) h K) : f9 P G f args h K :=
  fun ι w vs hS hv => hc ι w vs hS ⟨by rw [R5, List.length_map]; exact hv.1, fun i x v hx hv' => by
    rw [R5, List.getElem?_map] at hx
    obtain ⟨y, hy, rfl⟩ := Option.map_eq_some_iff.mp hx
    exact (hv.2 i y v hy hv').nrm⟩
end
end
section
def S9 := And.intro T2 (And.intro T3 (And.intro T4 (And.intro T34 (And.intro T66 (And.intro T68 T70)))))
attribute [local irreducible] awp q9 m7 n7 r5
variable {G : Nat → Option (List PV)}
abbrev tG (kind a : Int) (t : Tm) : AV := .agg [.i kind, .i a, .i t.op, .i t.n, .p (.sl (t.kids.map eT))]
def bS (kind : Int) : Int := if kind = 3 then 3 else if kind = 8 then 4 else 0
def aJ (kind a : Int) (t : Tm) : Bool :=
  if kind = 4 then (decide (0 ≤ a) && decide (a ≤ 3)) && ofB t 1
  else ((decide (1 ≤ kind) && decide (kind ≤ 8)) && (decide (0 ≤ a) && decide (a ≤ bS kind))) && aw t
theorem ji (h : Heap) : f9 Tryz.prog G 78 [.agg [.i 0, .i 0, .p .nils]] h (fun r h' => r = .b true ∧ h' = h) := by
  have hz := w8 (G := G) (.mk 0 0 []) h
  refine f9.nrm ?_
  simpa [X2, gA, nrm, dG, Q8, aT, Tm.op, Tm.n, Tm.kids, aw] using hz
theorem lO {n : Nat} {t : Tm} (ht : Tm.Ok n t) (kind a : Int) (h : Heap) : f9 Tryz.prog gW 55 [tG kind a t] h (fun r h' => r = .b (aJ kind a t) ∧ h' = h) := by
  by_cases h4 : kind = 4
  · subst h4
    cases ho : ofB t 1 with
    | false =>
      have hof := fun h => fA ht 1 h
      rw [ho] at hof
      refine d9 (rl := []) i6 Tryz.func55 rfl (rs := [.tmp 2]) rfl Tryz.ntmps55 (by simp) ?_
      repeat' (first | ((repeat ((fail_if_success (refine hK _ ?_)); clear hK K)); refine hK _ ?_; clear hK K) | ((first | refine d8 fun K1 p7 => ?_ | refine d6 fun K1 p7 => ?_ | refine b5 fun A B hA hB => ?_); simp only [S1, simprocAttr, S9, n8]; first | refine p7 _ ?_; clear p7 K1 | ((first | refine hA ?_ | refine hB ?_); clear hA hB A B) | ((first | apply b9 E77 | apply c7 E77); exact (hof _); refine p7 _ ?_; clear p7 K1) | ((first | apply b9 E78 | apply c7 E78); exact (w8 t _); refine p7 _ ?_; clear p7 K1) | (refine g8 (v := ?_) (fun hg p8 => ?_) ?_; rotate_left; (focus (try ((try simp only [BN] at hg); simp only [S1, simprocAttr, S9, n8, hg] at p8 ⊢)); first | exact p8 | ((first | apply b9 E77 | apply c7 E77); exact (hof _); exact p8) | ((first | apply b9 E78 | apply c7 E78); exact (w8 t _); exact p8)); refine p7 _ ?_; clear p7 K1) | (((first | (refine ⟨fun hg => hA ?_, fun hg => hB ?_⟩ <;> clear hA hB A B) | refine ⟨fun hg => ?_, fun hg => ?_⟩) <;> (try simp only [BN2] at hg) <;> (try simp only [hg, cndB])) <;> (try (refine p7 _ ?_; clear p7 K1)) <;> (try simp only [BN3] at hg))) | refine b6 fun K hK => ?_ | ((first | apply c8 | apply b8 | apply a9 | refine d5 ?_ | apply b7 | apply c9 | apply d4 | apply d7); try simp only [NB, simprocAttr]))
      all_goals simp only [S1, simprocAttr, ENB, S9]
      all_goals simp [aJ, ho]
    | true =>
      have hof := fun h => fA ht 1 h
      rw [ho] at hof
      refine d9 (rl := []) i6 Tryz.func55 rfl (rs := [.tmp 2]) rfl Tryz.ntmps55 (by simp) ?_
      repeat' (first | ((repeat ((fail_if_success (refine hK _ ?_)); clear hK K)); refine hK _ ?_; clear hK K) | ((first | refine d8 fun K1 p7 => ?_ | refine d6 fun K1 p7 => ?_ | refine b5 fun A B hA hB => ?_); simp only [S1, simprocAttr, S9, n8]; first | refine p7 _ ?_; clear p7 K1 | ((first | refine hA ?_ | refine hB ?_); clear hA hB A B) | ((first | apply b9 E77 | apply c7 E77); exact (hof _); refine p7 _ ?_; clear p7 K1) | ((first | apply b9 E78 | apply c7 E78); exact (ji _); refine p7 _ ?_; clear p7 K1) | (refine g8 (v := ?_) (fun hg p8 => ?_) ?_; rotate_left; (focus (try ((try simp only [BN] at hg); simp only [S1, simprocAttr, S9, n8, hg] at p8 ⊢)); first | exact p8 | ((first | apply b9 E77 | apply c7 E77); exact (hof _); exact p8) | ((first | apply b9 E78 | apply c7 E78); exact (ji _); exact p8)); refine p7 _ ?_; clear p7 K1) | (((first | (refine ⟨fun hg => hA ?_, fun hg => hB ?_⟩ <;> clear hA hB A B) | refine ⟨fun hg => ?_, fun hg => ?_⟩) <;> (try simp only [BN2] at hg) <;> (try simp only [hg, cndB])) <;> (try (refine p7 _ ?_; clear p7 K1)) <;> (try simp only [BN3] at hg))) | refine b6 fun K hK => ?_ | ((first | apply c8 | apply b8 | apply a9 | refine d5 ?_ | apply b7 | apply c9 | apply d4 | apply d7); try simp only [NB, simprocAttr]))
      all_goals simp only [S1, simprocAttr, ENB, S9]
      all_goals simp [aJ, ho]
  · have f4 : (kind == 4) = false := by simp [h4]
    by_cases h3 : kind = 3
    · subst h3
      refine d9 (rl := []) i6 Tryz.func55 rfl (rs := [.tmp 2]) rfl Tryz.ntmps55 (by simp) ?_
      repeat' (first | ((repeat ((fail_if_success (refine hK _ ?_)); clear hK K)); refine hK _ ?_; clear hK K) | ((first | refine d8 fun K1 p7 => ?_ | refine d6 fun K1 p7 => ?_ | refine b5 fun A B hA hB => ?_); simp only [S1, simprocAttr, S9, n8]; first | refine p7 _ ?_; clear p7 K1 | ((first | refine hA ?_ | refine hB ?_); clear hA hB A B) | ((first | apply b9 E78 | apply c7 E78); exact (w8 t _); refine p7 _ ?_; clear p7 K1) | (refine g8 (v := ?_) (fun hg p8 => ?_) ?_; rotate_left; (focus (try ((try simp only [BN] at hg); simp only [S1, simprocAttr, S9, n8, hg] at p8 ⊢)); first | exact p8 | ((first | apply b9 E78 | apply c7 E78); exact (w8 t _); exact p8)); refine p7 _ ?_; clear p7 K1) | (((first | (refine ⟨fun hg => hA ?_, fun hg => hB ?_⟩ <;> clear hA hB A B) | refine ⟨fun hg => ?_, fun hg => ?_⟩) <;> (try simp only [BN2] at hg) <;> (try simp only [hg, cndB])) <;> (try (refine p7 _ ?_; clear p7 K1)) <;> (try simp only [BN3] at hg))) | refine b6 fun K hK => ?_ | ((first | apply c8 | apply b8 | apply a9 | refine d5 ?_ | apply b7 | apply c9 | apply d4 | apply d7); try simp only [NB, simprocAttr]))
      all_goals simp only [S1, simprocAttr, ENB, S9]
      all_goals simp [aJ, bS, Bool.and_assoc]
    · have f3 : (kind == 3) = false := by simp [h3]
      by_cases h8 : kind = 8
      · subst h8
        refine d9 (rl := []) i6 Tryz.func55 rfl (rs := [.tmp 2]) rfl Tryz.ntmps55 (by simp) ?_
        repeat' (first | ((repeat ((fail_if_success (refine hK _ ?_)); clear hK K)); refine hK _ ?_; clear hK K) | ((first | refine d8 fun K1 p7 => ?_ | refine d6 fun K1 p7 => ?_ | refine b5 fun A B hA hB => ?_); simp only [S1, simprocAttr, S9, n8]; first | refine p7 _ ?_; clear p7 K1 | ((first | refine hA ?_ | refine hB ?_); clear hA hB A B) | ((first | apply b9 E78 | apply c7 E78); exact (w8 t _); refine p7 _ ?_; clear p7 K1) | (refine g8 (v := ?_) (fun hg p8 => ?_) ?_; rotate_left; (focus (try ((try simp only [BN] at hg); simp only [S1, simprocAttr, S9, n8, hg] at p8 ⊢)); first | exact p8 | ((first | apply b9 E78 | apply c7 E78); exact (w8 t _); exact p8)); refine p7 _ ?_; clear p7 K1) | (((first | (refine ⟨fun hg => hA ?_, fun hg => hB ?_⟩ <;> clear hA hB A B) | refine ⟨fun hg => ?_, fun hg => ?_⟩) <;> (try simp only [BN2] at hg) <;> (try simp only [hg, cndB])) <;> (try (refine p7 _ ?_; clear p7 K1)) <;> (try simp only [BN3] at hg))) | refine b6 fun K hK => ?_ | ((first | apply c8 | apply b8 | apply a9 | refine d5 ?_ | apply b7 | apply c9 | apply d4 | apply d7); try simp only [NB, simprocAttr]))
        all_goals simp only [S1, simprocAttr, ENB, S9]
        all_goals simp [aJ, bS, Bool.and_assoc]
      · have f8 : (kind == 8) = false := by simp [h8]
        refine d9 (rl := []) i6 Tryz.func55 rfl (rs := [.tmp 2]) rfl Tryz.ntmps55 (by simp) ?_
        repeat' (first | ((repeat ((fail_if_success (refine hK _ ?_)); clear hK K)); refine hK _ ?_; clear hK K) | ((first | refine d8 fun K1 p7 => ?_ | refine d6 fun K1 p7 => ?_ | refine b5 fun A B hA hB => ?_); simp only [S1, simprocAttr, S9, n8, f3, f4, f8]; first | refine p7 _ ?_; clear p7 K1 | ((first | refine hA ?_ | refine hB ?_); clear hA hB A B) | ((first | apply b9 E78 | apply c7 E78); exact (w8 t _); refine p7 _ ?_; clear p7 K1) | (refine g8 (v := ?_) (fun hg p8 => ?_) ?_; rotate_left; (focus (try ((try simp only [BN] at hg); simp only [S1, simprocAttr, S9, n8, f3, f4, f8, hg] at p8 ⊢)); first | exact p8 | ((first | apply b9 E78 | apply c7 E78); exact (w8 t _); exact p8)); refine p7 _ ?_; clear p7 K1) | (((first | (refine ⟨fun hg => hA ?_, fun hg => hB ?_⟩ <;> clear hA hB A B) | refine ⟨fun hg => ?_, fun hg => ?_⟩) <;> (try simp only [BN2] at hg) <;> (try simp only [hg, cndB])) <;> (try (refine p7 _ ?_; clear p7 K1)) <;> (try simp only [BN3] at hg))) | refine b6 fun K hK => ?_ | ((first | apply c8 | apply b8 | apply a9 | refine d5 ?_ | apply b7 | apply c9 | apply d4 | apply d7); try simp only [NB, simprocAttr]))
        all_goals simp only [S1, simprocAttr, ENB, S9]
        all_goals simp [aJ, bS, h3, h4, h8, Bool.and_assoc]
end
section
def T0 := And.intro T2 (And.intro T3 (And.intro T4 (And.intro T34 (And.intro T66 (And.intro T68 T70)))))
attribute [local irreducible] awp q9 m7 n7 r5
variable {G : Nat → Option (List PV)}
theorem pQ {n : Nat} {t : Tm} (ht : Tm.Ok n t) (hn : n ≤ 200) (kind a : Int) (h : Heap) : f9 Tryz.prog G 31 [tG kind a t] h (fun r h' => r = .b (aJ kind a t) ∧ h' = h) := by
  by_cases hr : 1 ≤ kind ∧ kind ≤ 8 ∧ 0 ≤ a
  · have f1 : decide (kind < 1) = false := by simp; omega
    have f2 : decide (8 < kind) = false := by simp; omega
    have f5 : decide (a < 0) = false := by simp; omega
    by_cases h4 : kind = 4
    · subst h4
      refine d9 (rl := []) i6 Tryz.func31 rfl (rs := [.tmp 2]) rfl Tryz.ntmps31 (by simp) ?_
      repeat' (first | ((repeat ((fail_if_success (refine hK _ ?_)); clear hK K)); refine hK _ ?_; clear hK K) | ((first | refine d8 fun K1 p7 => ?_ | refine d6 fun K1 p7 => ?_ | refine b5 fun A B hA hB => ?_); simp only [S1, simprocAttr, T0, n8, f5]; first | refine p7 _ ?_; clear p7 K1 | ((first | refine hA ?_ | refine hB ?_); clear hA hB A B) | ((first | apply b9 E51 | apply c7 E51); exact (O4 ht hn 1 _); refine p7 _ ?_; clear p7 K1) | (refine g8 (v := ?_) (fun hg p8 => ?_) ?_; rotate_left; (focus (try ((try simp only [BN] at hg); simp only [S1, simprocAttr, T0, n8, f5, hg] at p8 ⊢)); first | exact p8 | ((first | apply b9 E51 | apply c7 E51); exact (O4 ht hn 1 _); exact p8)); refine p7 _ ?_; clear p7 K1) | (((first | (refine ⟨fun hg => hA ?_, fun hg => hB ?_⟩ <;> clear hA hB A B) | refine ⟨fun hg => ?_, fun hg => ?_⟩) <;> (try simp only [BN2] at hg) <;> (try simp only [hg, cndB])) <;> (try (refine p7 _ ?_; clear p7 K1)) <;> (try simp only [BN3] at hg))) | refine b6 fun K hK => ?_ | ((first | apply c8 | apply b8 | apply a9 | refine d5 ?_ | apply b7 | apply c9 | apply d4 | apply d7); try simp only [NB, simprocAttr]))
      all_goals simp only [S1, simprocAttr, ENB, T0]
      all_goals (have e : decide (a < 4) = decide (a ≤ 3) := by rw [decide_eq_decide]; omega)
      all_goals simp [aJ, e, hr.2.2]
    · have f4 : (kind == 4) = false := by simp [h4]
      by_cases h3 : kind = 3
      · subst h3
        refine d9 (rl := []) i6 Tryz.func31 rfl (rs := [.tmp 2]) rfl Tryz.ntmps31 (by simp) ?_
        repeat' (first | ((repeat ((fail_if_success (refine hK _ ?_)); clear hK K)); refine hK _ ?_; clear hK K) | ((first | refine d8 fun K1 p7 => ?_ | refine d6 fun K1 p7 => ?_ | refine b5 fun A B hA hB => ?_); simp only [S1, simprocAttr, T0, n8, f5]; first | refine p7 _ ?_; clear p7 K1 | ((first | refine hA ?_ | refine hB ?_); clear hA hB A B) | ((first | apply b9 E52 | apply c7 E52); exact (y9 t _); refine p7 _ ?_; clear p7 K1) | (refine g8 (v := ?_) (fun hg p8 => ?_) ?_; rotate_left; (focus (try ((try simp only [BN] at hg); simp only [S1, simprocAttr, T0, n8, f5, hg] at p8 ⊢)); first | exact p8 | ((first | apply b9 E52 | apply c7 E52); exact (y9 t _); exact p8)); refine p7 _ ?_; clear p7 K1) | (((first | (refine ⟨fun hg => hA ?_, fun hg => hB ?_⟩ <;> clear hA hB A B) | refine ⟨fun hg => ?_, fun hg => ?_⟩) <;> (try simp only [BN2] at hg) <;> (try simp only [hg, cndB])) <;> (try (refine p7 _ ?_; clear p7 K1)) <;> (try simp only [BN3] at hg))) | refine b6 fun K hK => ?_ | ((first | apply c8 | apply b8 | apply a9 | refine d5 ?_ | apply b7 | apply c9 | apply d4 | apply d7); try simp only [NB, simprocAttr]))
        all_goals simp only [S1, simprocAttr, ENB, T0]
        all_goals simp [aJ, bS, hr.2.2]
      · have f3 : (kind == 3) = false := by simp [h3]
        by_cases h8 : kind = 8
        · subst h8
          refine d9 (rl := []) i6 Tryz.func31 rfl (rs := [.tmp 2]) rfl Tryz.ntmps31 (by simp) ?_
          repeat' (first | ((repeat ((fail_if_success (refine hK _ ?_)); clear hK K)); refine hK _ ?_; clear hK K) | ((first | refine d8 fun K1 p7 => ?_ | refine d6 fun K1 p7 => ?_ | refine b5 fun A B hA hB => ?_); simp only [S1, simprocAttr, T0, n8, f5]; first | refine p7 _ ?_; clear p7 K1 | ((first | refine hA ?_ | refine hB ?_); clear hA hB A B) | ((first | apply b9 E52 | apply c7 E52); exact (y9 t _); refine p7 _ ?_; clear p7 K1) | (refine g8 (v := ?_) (fun hg p8 => ?_) ?_; rotate_left; (focus (try ((try simp only [BN] at hg); simp only [S1, simprocAttr, T0, n8, f5, hg] at p8 ⊢)); first | exact p8 | ((first | apply b9 E52 | apply c7 E52); exact (y9 t _); exact p8)); refine p7 _ ?_; clear p7 K1) | (((first | (refine ⟨fun hg => hA ?_, fun hg => hB ?_⟩ <;> clear hA hB A B) | refine ⟨fun hg => ?_, fun hg => ?_⟩) <;> (try simp only [BN2] at hg) <;> (try simp only [hg, cndB])) <;> (try (refine p7 _ ?_; clear p7 K1)) <;> (try simp only [BN3] at hg))) | refine b6 fun K hK => ?_ | ((first | apply c8 | apply b8 | apply a9 | refine d5 ?_ | apply b7 | apply c9 | apply d4 | apply d7); try simp only [NB, simprocAttr]))
          all_goals simp only [S1, simprocAttr, ENB, T0]
          all_goals simp [aJ, bS, hr.2.2]
        · have f8 : (kind == 8) = false := by simp [h8]
          refine d9 (rl := []) i6 Tryz.func31 rfl (rs := [.tmp 2]) rfl Tryz.ntmps31 (by simp) ?_
          repeat' (first | ((repeat ((fail_if_success (refine hK _ ?_)); clear hK K)); refine hK _ ?_; clear hK K) | ((first | refine d8 fun K1 p7 => ?_ | refine d6 fun K1 p7 => ?_ | refine b5 fun A B hA hB => ?_); simp only [S1, simprocAttr, T0, n8, f1, f2, f3, f4, f5, f8]; first | refine p7 _ ?_; clear p7 K1 | ((first | refine hA ?_ | refine hB ?_); clear hA hB A B) | ((first | apply b9 E52 | apply c7 E52); exact (y9 t _); refine p7 _ ?_; clear p7 K1) | (refine g8 (v := ?_) (fun hg p8 => ?_) ?_; rotate_left; (focus (try ((try simp only [BN] at hg); simp only [S1, simprocAttr, T0, n8, f1, f2, f3, f4, f5, f8, hg] at p8 ⊢)); first | exact p8 | ((first | apply b9 E52 | apply c7 E52); exact (y9 t _); exact p8)); refine p7 _ ?_; clear p7 K1) | (((first | (refine ⟨fun hg => hA ?_, fun hg => hB ?_⟩ <;> clear hA hB A B) | refine ⟨fun hg => ?_, fun hg => ?_⟩) <;> (try simp only [BN2] at hg) <;> (try simp only [hg, cndB])) <;> (try (refine p7 _ ?_; clear p7 K1)) <;> (try simp only [BN3] at hg))) | refine b6 fun K hK => ?_ | ((first | apply c8 | apply b8 | apply a9 | refine d5 ?_ | apply b7 | apply c9 | apply d4 | apply d7); try simp only [NB, simprocAttr]))
          all_goals simp only [S1, simprocAttr, ENB, T0]
          all_goals simp [aJ, bS, h3, h4, h8, hr.1, hr.2.1, hr.2.2]
  · have f1 : ((decide (kind < 1) || decide (8 < kind)) || decide (a < 0)) = true := by simp; omega
    have e : aJ kind a t = false := by
      unfold aJ
      split
      · rename_i h4
        have : decide (0 ≤ a) = false := by simp; omega
        simp [this]
      · by_cases h1 : 1 ≤ kind
        · by_cases h2 : kind ≤ 8
          · have : decide (0 ≤ a) = false := by simp; omega
            simp [this]
          · simp [h2]
        · simp [h1]
    rw [e]
    refine d9 (rl := []) i6 Tryz.func31 rfl (rs := [.tmp 2]) rfl Tryz.ntmps31 (by simp) ?_
    repeat' (first | ((repeat ((fail_if_success (refine hK _ ?_)); clear hK K)); refine hK _ ?_; clear hK K) | ((first | refine d8 fun K1 p7 => ?_ | refine d6 fun K1 p7 => ?_ | refine b5 fun A B hA hB => ?_); simp only [S1, simprocAttr, T0, n8, f1]; first | refine p7 _ ?_; clear p7 K1 | ((first | refine hA ?_ | refine hB ?_); clear hA hB A B) | (refine g8 (v := ?_) (fun hg p8 => ?_) ?_; rotate_left; (focus (try ((try simp only [BN] at hg); simp only [S1, simprocAttr, T0, n8, f1, hg] at p8 ⊢)); first | exact p8); refine p7 _ ?_; clear p7 K1) | (((first | (refine ⟨fun hg => hA ?_, fun hg => hB ?_⟩ <;> clear hA hB A B) | refine ⟨fun hg => ?_, fun hg => ?_⟩) <;> (try simp only [BN2] at hg) <;> (try simp only [hg, cndB])) <;> (try (refine p7 _ ?_; clear p7 K1)) <;> (try simp only [BN3] at hg))) | refine b6 fun K hK => ?_ | ((first | apply c8 | apply b8 | apply a9 | refine d5 ?_ | apply b7 | apply c9 | apply d4 | apply d7); try simp only [NB, simprocAttr]))
    all_goals simp only [S1, simprocAttr, ENB, T0]
    all_goals trace_state
end
section
def uA (tok : Int → Int) (f x : Int) : Int → Int := fun i => if i = f then x else tok i
end
section
attribute [local irreducible] awp q9 m7 n7
variable {G : Nat → Option (List PV)}
def eI (n : Int) : List PV := [.int .i64 n]
abbrev aI (l : List Int) : AV := .p (.sl (l.map eI))
theorem C2 {l : List Int} {i : Nat} {k : Int} (h : l[i]? = some k) : (l.map eI)[i]? = some [.int .i64 k] := by simp [h, eI]
theorem I3 {l : List Int} {i : Nat} (h : i < l.length) : decide ((i : Int) < (l.length : Int)) = true := by simp; omega
theorem D6 {l : List Int} : decide ((l.length : Int) < (l.length : Int)) = false := by simp
theorem D9 {l : List Int} {i : Nat} (hk : l.length ≤ 200) (h : i < l.length) : IntKind.i64.wrap ((i : Int) + 1) = ((i + 1 : Nat) : Int) := by rw [IntWalk.i64_in _ (by omega)]; omega
end
section
attribute [local irreducible] awp q9 m7 n7 r5
variable {G : Nat → Option (List PV)}
structure Fl where
  src : Int
  dst : Int
  els : Bool
  cond : Tm
def eF (f : Fl) : List PV := [.int .i64 f.src, .int .i64 f.dst, .bool f.els, .int .i64 f.cond.op, .int .i64 f.cond.n, .sl (f.cond.kids.map eT)]
theorem I8 {l : List Fl} {i : Nat} {k : Fl} (h : l[i]? = some k) : (l.map eF)[i]? = some (eF k) := by simp [h]
theorem Q9 {l : List Fl} {i : Nat} (h : i < l.length) : decide ((i : Int) < (l.length : Int)) = true := by simp; omega
theorem iC {l : List Fl} : decide ((l.length : Int) < (l.length : Int)) = false := by simp
theorem G1 {l : List Fl} {i : Nat} (hk : l.length ≤ 100) (h : i < l.length) : IntKind.i64.wrap ((i : Int) + 1) = ((i + 1 : Nat) : Int) := by rw [IntWalk.i64_in _ (by omega)]; omega
def r9 (q : Fl → Bool) (l : List Fl) : Nat → List Int
  | 0 => []
  | j + 1 => match l[j]? with
    | some f => if q f then r9 q l j ++ [(j : Int)] else r9 q l j
    | none => r9 q l j
def p5 (l : List Fl) (i : Int) : List Int := r9 (fun f => f.dst == i) l l.length
def k3 (l : List Fl) (i : Int) : List Int := r9 (fun f => f.src == i) l l.length
theorem O6 (q : Fl → Bool) (l : List Fl) : ∀ j, (r9 q l j).length ≤ j
  | 0 => Nat.le_refl _
  | j + 1 => by
    unfold r9
    have := O6 q l j
    split
    · split
      · rw [List.length_append]; simp; omega
      · omega
    · omega
section
variable {P : Program} {rl : List String} {h : Heap}
theorem T1 {c : Code} {Q : Exit → St → Prop} {s : St} (N nt : Nat) (l : Nat → List (Nat × AV)) (L : Nat → List (Option Blk)) (p : Nat → Prop) (hi : t5 P G h s ⟨frL (l 0), nt, h ++ L 0⟩) (hp : p 0)
    (hb : ∀ i, i ≤ N → p i → ∀ K : St → Prop, (∀ s', (i < N ∧ p (i + 1) ∧ Sub h s' (l (i + 1)) (L (i + 1)) nt) → K s') → awp P G rl h c (O3 K Q) ⟨frL (l i), nt, h ++ L i⟩) : awp P G rl h (.loop c) Q s := by
  refine aZ (fun n s => ∃ i, i ≤ N ∧ p i ∧ n = N - i ∧ s = ⟨frL (l i), nt, h ++ L i⟩) N _ hi ⟨0, Nat.zero_le _, hp, rfl, rfl⟩ fun n s hI => ?_
  obtain ⟨i, h1, h2, rfl, rfl⟩ := hI
  exact hb i h1 h2 _ fun s' hs => ⟨N - (i + 1), _, by omega, hs.2.2.ghost, i + 1, by omega, hs.2.1, rfl, rfl⟩
end
end
section
attribute [local irreducible] awp q9 m7 n7
variable {G : Nat → Option (List PV)}
theorem ki {α : Type} : ∀ (cs c : List α) (k : Nat), k + cs.length = c.length → w9 c k cs = c.take k ++ cs
  | [], c, k, h => by simp only [w9, List.append_nil]; rw [List.take_of_length_le (by simp at h; omega)]
  | v :: r, c, k, h => by
    simp only [w9]
    rw [ki r (c.set k v) (k + 1) (by simp at h ⊢; omega)]
    simp only [List.length_cons] at h
    rw [List.take_add_one, List.getElem?_set_self (by omega), List.take_set_of_le (Nat.le_refl k)]
    simp
theorem jj {m : Nat} : ∀ l : List AV, (∀ x ∈ l, ∃ n, x = .i n) → q6 m l
  | [], _ => trivial
  | x :: r, h => by
    obtain ⟨n, rfl⟩ := h x (by simp)
    exact ⟨trivial, jj r fun y hy => h y (by simp [hy])⟩
theorem dH (h : Heap) (n fuel : Nat) : ∀ l : List Int, I2 h n fuel (l.map AV.i) = some (l.map (PV.int .i64))
  | [] => by unfold I2; rfl
  | x :: r => by
    simp only [List.map_cons]
    unfold I2 pur
    rw [dH h n fuel r]
end
section
def ax := And.intro T2 (And.intro T3 (And.intro T4 (And.intro T23 (And.intro T25 (And.intro T53 (And.intro T66 (And.intro T68 T73)))))))
attribute [local irreducible] awp q9 m7 n7 r5
variable {G : Nat → Option (List PV)}
theorem G8 (m : Nat) (l : List Int) : q6 m (l.map AV.i) := jj _ fun x hx => by
  simp only [List.mem_map] at hx
  obtain ⟨i, _, rfl⟩ := hx
  exact ⟨_, rfl⟩
theorem gB : ∀ l : List Int, B5 1 l.length (l.map (PV.int .i64)) = l.map eI
  | [] => rfl
  | x :: r => by simp only [List.length_cons, List.map_cons, B5, List.take_succ_cons, List.take_zero, List.drop_succ_cons, List.drop_zero, gB r, eI]
theorem rp {h : Heap} {n fuel b g : Nat} {l : List Int} (hb : t4 h b g = some (l.map AV.i)) (hn : n ≤ b) : pur h n (fuel + 1) (.ref b g 0 1 l.length) = some (.sl (l.map eI)) := by
  unfold pur
  by_cases h0 : l.length = 0
  · rw [if_pos h0]; have := List.eq_nil_of_length_eq_zero h0; subst this; rfl
  · rw [if_neg h0, hb]
    simp only [hn, true_and, Nat.zero_add, Nat.mul_one, List.length_map, Nat.le_refl, if_true, List.drop_zero]
    rw [List.take_of_length_le (by simp), dH]
    simp only [Option.map_some, gB]
theorem dI {P : Program} {h : Heap} {K : AV → Prop} {e : Exit} {s : St} (he : e = .normal ∨ e = .ret) {t b g : Nat} {l : List Int} (hf : s.fr t = some (.ref b g 0 1 l.length)) (hb : t4 s.heap b g = some (l.map AV.i)) (hn : h.length ≤ b)
    (ht : s.heap.take h.length = h) (hle : h.length ≤ s.heap.length) (hk : K (aI l)) : lD P [.tmp t] h K e s := by
  have key : bK P [.tmp t] h K s := by
    unfold bK
    simp only [Q6, S4, K6, hf, F2, D8, rp hb hn, Option.map_some]
    exact ⟨ht, hle, hk⟩
  rcases he with rfl | rfl <;> exact key
theorem B3 (nodes : List (List PV)) (fl : List Fl) (hl : fl.length ≤ 100) (i : Int) (h : Heap) : f9 Tryz.prog G 43 [.agg [.p (.sl nodes), .p (.sl (fl.map eF))], .i i] h (fun r h' => r = aI (p5 fl i) ∧ h' = h) := by
  refine d9 (rl := []) i6 Tryz.func43 rfl (rs := [.tmp 4]) rfl Tryz.ntmps43 (by simp) ?_
  refine b6 fun K hK => ?_
  repeat' (first | ((first | refine c8 ?_ | refine b8 ?_); (try simp only [NB]); ((repeat ((fail_if_success (refine hK _ ?_)); clear hK K)); refine hK _ ?_; clear hK K)) | ((first | refine d8 fun K1 p7 => ?_ | refine d6 fun K1 p7 => ?_ | refine b5 fun A B hA hB => ?_); simp only [S1, simprocAttr, ax]; first | (refine p7 _ ?_; clear p7 K1) | ((first | refine hA ?_ | refine hB ?_); clear hA hB A B) | (((first | (refine ⟨fun hg => hA ?_, fun hg => hB ?_⟩ <;> clear hA hB A B) | refine ⟨fun hg => ?_, fun hg => ?_⟩) <;> (try simp only [BN2] at hg) <;> (try simp only [hg, cndB])) <;> (try (refine p7 _ ?_; clear p7 K1)) <;> (try simp only [BN3] at hg))) | (fail) | ((first | refine a9 ?_ | refine j4 (by kernel_rfl) ?_ | refine b7 ?_ | refine c9 ?_ | refine d4 ?_ | refine d7 ?_); try simp only [NB, simprocAttr]; (try ((repeat ((fail_if_success (refine hK _ ?_)); clear hK K)); refine hK _ ?_; clear hK K))))
  refine b6 fun K hK => ?_
  repeat' (first | ((first | refine c8 ?_ | refine b8 ?_); (try simp only [NB]); ((repeat ((fail_if_success (refine hK _ ?_)); clear hK K)); refine hK _ ?_; clear hK K)) | ((first | refine d8 fun K1 p7 => ?_ | refine d6 fun K1 p7 => ?_ | refine b5 fun A B hA hB => ?_); simp only [S1, simprocAttr, ax]; first | (refine p7 _ ?_; clear p7 K1) | ((first | refine hA ?_ | refine hB ?_); clear hA hB A B) | (((first | (refine ⟨fun hg => hA ?_, fun hg => hB ?_⟩ <;> clear hA hB A B) | refine ⟨fun hg => ?_, fun hg => ?_⟩) <;> (try simp only [BN2] at hg) <;> (try simp only [hg, cndB])) <;> (try (refine p7 _ ?_; clear p7 K1)) <;> (try simp only [BN3] at hg))) | (fail) | ((first | refine a9 ?_ | refine j4 (by kernel_rfl) ?_ | refine b7 ?_ | refine c9 ?_ | refine d4 ?_ | refine d7 ?_); try simp only [NB, simprocAttr]; (try ((repeat ((fail_if_success (refine hK _ ?_)); clear hK K)); refine hK _ ?_; clear hK K))))
  refine b6 fun K hK => ?_
  repeat' (first | ((repeat ((fail_if_success (refine hK _ ?_)); clear hK K)); refine hK _ ?_; clear hK K) | ((first | refine d8 fun K1 p7 => ?_ | refine d6 fun K1 p7 => ?_ | refine b5 fun A B hA hB => ?_); simp only [S1, simprocAttr, ax, List.length_map]; first | refine p7 _ ?_; clear p7 K1 | ((first | refine hA ?_ | refine hB ?_); clear hA hB A B) | (((first | (refine ⟨fun hg => hA ?_, fun hg => hB ?_⟩ <;> clear hA hB A B) | refine ⟨fun hg => ?_, fun hg => ?_⟩) <;> (try simp only [BN2] at hg) <;> (try simp only [hg, cndB])) <;> (try (refine p7 _ ?_; clear p7 K1)) <;> (try simp only [BN3] at hg))) | refine b6 fun K hK => ?_ | ((first | apply c8 | apply b8 | apply a9 | refine d5 ?_ | apply b7 | apply c9 | apply d4 | apply d7); try simp only [NB, simprocAttr]))
  let q := fun f : Fl => f.dst == i
  refine T1 fl.length 26 (fun j => [(11, .i j), (10, .i fl.length), (9, .p (.sl (fl.map eF))), (1, .i i), (5, .ref (h.length + 1) (r9 q fl j).length 0 1 (r9 q fl j).length)])
    (fun j => [some ⟨0, [.p (.sl nodes), .p (.sl (fl.map eF))]⟩, some ⟨(r9 q fl j).length, (r9 q fl j).map AV.i⟩]) (fun j => True) ?_ trivial fun j hj hp K hK => ?_
  · refine (t5.adopt 5 1 rfl).trans (Sub.ghost ⟨rfl, ⟨[], by simp [r9]⟩, ?_, ?_⟩)
    · simp [S5, upd, y6, r9]
    · simp [A6, q6, y6, r9]
  rcases Nat.lt_or_ge j fl.length with hlt | hge
  · obtain ⟨k, hx⟩ : ∃ k, fl[j]? = some k := ⟨_, List.getElem?_eq_getElem hlt⟩
    have hle := O6 q fl j
    have hmax : (r9 q fl j).length + 1 ≤ o9 := by unfold o9; omega
    cases hq : q k with
    | false =>
      have f1 : (k.dst == i) = false := hq
      have e1 : r9 q fl (j + 1) = r9 q fl j := by simp only [r9, hx, hq]; rfl
      repeat' (first | ((repeat ((fail_if_success (refine hK _ ?_)); clear hK K)); refine hK _ ?_; clear hK K) | ((first | refine d8 fun K1 p7 => ?_ | refine d6 fun K1 p7 => ?_ | refine b5 fun A B hA hB => ?_); simp only [S1, simprocAttr, ax, I8 hx, Q9 hlt, G1 hl hlt, eF, f1, List.length_map]; first | refine p7 _ ?_; clear p7 K1 | ((first | refine hA ?_ | refine hB ?_); clear hA hB A B) | (((first | (refine ⟨fun hg => hA ?_, fun hg => hB ?_⟩ <;> clear hA hB A B) | refine ⟨fun hg => ?_, fun hg => ?_⟩) <;> (try simp only [BN2] at hg) <;> (try simp only [hg, cndB])) <;> (try (refine p7 _ ?_; clear p7 K1)) <;> (try simp only [BN3] at hg))) | refine b6 fun K hK => ?_ | ((first | apply c8 | apply b8 | apply a9 | refine d5 ?_ | apply b7 | apply c9 | apply d4 | apply d7); try simp only [NB, simprocAttr]))
      all_goals refine ⟨hlt, trivial, ?_⟩
      all_goals simp only [e1]
      all_goals refine ⟨rfl, ⟨_, rfl⟩, ?_, ?_⟩
      · simp only [S1, simprocAttr, KNB] <;> (try and_intros) <;> (try assumption) <;> (try trivial) <;> (try omega)
      · simp only [A6, q6, y6]; exact ⟨⟨trivial, trivial, trivial⟩, G8 _ _, trivial⟩
    | true =>
      have f1 : (k.dst == i) = true := hq
      have e1 : r9 q fl (j + 1) = r9 q fl j ++ [(j : Int)] := by simp only [r9, hx, hq]; rfl
      repeat' (first | ((repeat ((fail_if_success (refine hK _ ?_)); clear hK K)); refine hK _ ?_; clear hK K) | ((first | refine d8 fun K1 p7 => ?_ | refine d6 fun K1 p7 => ?_ | refine b5 fun A B hA hB => ?_); simp only [S1, simprocAttr, ax, I8 hx, Q9 hlt, G1 hl hlt, eF, f1, List.length_map, hmax, Nat.mul_one]; first | refine p7 _ ?_; clear p7 K1 | ((first | refine hA ?_ | refine hB ?_); clear hA hB A B) | (((first | (refine ⟨fun hg => hA ?_, fun hg => hB ?_⟩ <;> clear hA hB A B) | refine ⟨fun hg => ?_, fun hg => ?_⟩) <;> (try simp only [BN2] at hg) <;> (try simp only [hg, cndB])) <;> (try (refine p7 _ ?_; clear p7 K1)) <;> (try simp only [BN3] at hg))) | refine b6 fun K hK => ?_ | ((first | apply c8 | apply b8 | apply a9 | refine d5 ?_ | apply b7 | apply c9 | apply d4 | apply d7); try simp only [NB, simprocAttr]))
      all_goals refine ⟨hlt, trivial, ?_⟩
      all_goals simp only [e1, List.length_append, List.map_append, List.length_cons, List.length_nil, List.map_cons, List.map_nil, Nat.zero_add]
      all_goals refine ⟨rfl, ⟨_, rfl⟩, ?_, ?_⟩
      · simp only [S1, simprocAttr, KNB] <;> (try and_intros) <;> (try assumption) <;> (try trivial) <;> (try omega)
      · simp only [A6, q6, y6]; exact ⟨⟨trivial, trivial, trivial⟩, (by have := G8 (h.length + 2) (r9 q fl j ++ [(j : Int)]); simpa using this), trivial⟩
  · obtain rfl : j = fl.length := by omega
    repeat' (first | ((repeat ((fail_if_success (refine hK _ ?_)); clear hK K)); refine hK _ ?_; clear hK K) | ((first | refine d8 fun K1 p7 => ?_ | refine d6 fun K1 p7 => ?_ | refine b5 fun A B hA hB => ?_); simp only [S1, simprocAttr, ax, iC]; first | refine p7 _ ?_; clear p7 K1 | ((first | refine hA ?_ | refine hB ?_); clear hA hB A B) | (((first | (refine ⟨fun hg => hA ?_, fun hg => hB ?_⟩ <;> clear hA hB A B) | refine ⟨fun hg => ?_, fun hg => ?_⟩) <;> (try simp only [BN2] at hg) <;> (try simp only [hg, cndB])) <;> (try (refine p7 _ ?_; clear p7 K1)) <;> (try simp only [BN3] at hg))) | refine b6 fun K hK => ?_ | ((first | apply c8 | apply b8 | apply a9 | refine d5 ?_ | apply b7 | apply c9 | apply d4 | apply d7); try simp only [NB, simprocAttr]))
    exact dI (.inr rfl) rfl (by simp only [t4, q7, List.getElem?_cons_succ, List.getElem?_cons_zero, if_true]) (by omega) (by simp) (by simp) rfl
theorem o8 (nodes : List (List PV)) (fl : List Fl) (hl : fl.length ≤ 100) (i : Int) (h : Heap) : f9 Tryz.prog G 36 [.agg [.p (.sl nodes), .p (.sl (fl.map eF))], .i i] h (fun r h' => r = aI (k3 fl i) ∧ h' = h) := by
  refine d9 (rl := []) i6 Tryz.func36 rfl (rs := [.tmp 4]) rfl Tryz.ntmps36 (by simp) ?_
  refine b6 fun K hK => ?_
  repeat' (first | ((first | refine c8 ?_ | refine b8 ?_); (try simp only [NB]); ((repeat ((fail_if_success (refine hK _ ?_)); clear hK K)); refine hK _ ?_; clear hK K)) | ((first | refine d8 fun K1 p7 => ?_ | refine d6 fun K1 p7 => ?_ | refine b5 fun A B hA hB => ?_); simp only [S1, simprocAttr, ax]; first | (refine p7 _ ?_; clear p7 K1) | ((first | refine hA ?_ | refine hB ?_); clear hA hB A B) | (((first | (refine ⟨fun hg => hA ?_, fun hg => hB ?_⟩ <;> clear hA hB A B) | refine ⟨fun hg => ?_, fun hg => ?_⟩) <;> (try simp only [BN2] at hg) <;> (try simp only [hg, cndB])) <;> (try (refine p7 _ ?_; clear p7 K1)) <;> (try simp only [BN3] at hg))) | (fail) | ((first | refine a9 ?_ | refine j4 (by kernel_rfl) ?_ | refine b7 ?_ | refine c9 ?_ | refine d4 ?_ | refine d7 ?_); try simp only [NB, simprocAttr]; (try ((repeat ((fail_if_success (refine hK _ ?_)); clear hK K)); refine hK _ ?_; clear hK K))))
  refine b6 fun K hK => ?_
  repeat' (first | ((first | refine c8 ?_ | refine b8 ?_); (try simp only [NB]); ((repeat ((fail_if_success (refine hK _ ?_)); clear hK K)); refine hK _ ?_; clear hK K)) | ((first | refine d8 fun K1 p7 => ?_ | refine d6 fun K1 p7 => ?_ | refine b5 fun A B hA hB => ?_); simp only [S1, simprocAttr, ax]; first | (refine p7 _ ?_; clear p7 K1) | ((first | refine hA ?_ | refine hB ?_); clear hA hB A B) | (((first | (refine ⟨fun hg => hA ?_, fun hg => hB ?_⟩ <;> clear hA hB A B) | refine ⟨fun hg => ?_, fun hg => ?_⟩) <;> (try simp only [BN2] at hg) <;> (try simp only [hg, cndB])) <;> (try (refine p7 _ ?_; clear p7 K1)) <;> (try simp only [BN3] at hg))) | (fail) | ((first | refine a9 ?_ | refine j4 (by kernel_rfl) ?_ | refine b7 ?_ | refine c9 ?_ | refine d4 ?_ | refine d7 ?_); try simp only [NB, simprocAttr]; (try ((repeat ((fail_if_success (refine hK _ ?_)); clear hK K)); refine hK _ ?_; clear hK K))))
  refine b6 fun K hK => ?_
  repeat' (first | ((repeat ((fail_if_success (refine hK _ ?_)); clear hK K)); refine hK _ ?_; clear hK K) | ((first | refine d8 fun K1 p7 => ?_ | refine d6 fun K1 p7 => ?_ | refine b5 fun A B hA hB => ?_); simp only [S1, simprocAttr, ax, List.length_map]; first | refine p7 _ ?_; clear p7 K1 | ((first | refine hA ?_ | refine hB ?_); clear hA hB A B) | (((first | (refine ⟨fun hg => hA ?_, fun hg => hB ?_⟩ <;> clear hA hB A B) | refine ⟨fun hg => ?_, fun hg => ?_⟩) <;> (try simp only [BN2] at hg) <;> (try simp only [hg, cndB])) <;> (try (refine p7 _ ?_; clear p7 K1)) <;> (try simp only [BN3] at hg))) | refine b6 fun K hK => ?_ | ((first | apply c8 | apply b8 | apply a9 | refine d5 ?_ | apply b7 | apply c9 | apply d4 | apply d7); try simp only [NB, simprocAttr]))
  let q := fun f : Fl => f.src == i
  refine T1 fl.length 26 (fun j => [(11, .i j), (10, .i fl.length), (9, .p (.sl (fl.map eF))), (1, .i i), (5, .ref (h.length + 1) (r9 q fl j).length 0 1 (r9 q fl j).length)])
    (fun j => [some ⟨0, [.p (.sl nodes), .p (.sl (fl.map eF))]⟩, some ⟨(r9 q fl j).length, (r9 q fl j).map AV.i⟩]) (fun j => True) ?_ trivial fun j hj hp K hK => ?_
  · refine (t5.adopt 5 1 rfl).trans (Sub.ghost ⟨rfl, ⟨[], by simp [r9]⟩, ?_, ?_⟩)
    · simp [S5, upd, y6, r9]
    · simp [A6, q6, y6, r9]
  rcases Nat.lt_or_ge j fl.length with hlt | hge
  · obtain ⟨k, hx⟩ : ∃ k, fl[j]? = some k := ⟨_, List.getElem?_eq_getElem hlt⟩
    have hle := O6 q fl j
    have hmax : (r9 q fl j).length + 1 ≤ o9 := by unfold o9; omega
    cases hq : q k with
    | false =>
      have f1 : (k.src == i) = false := hq
      have e1 : r9 q fl (j + 1) = r9 q fl j := by simp only [r9, hx, hq]; rfl
      repeat' (first | ((repeat ((fail_if_success (refine hK _ ?_)); clear hK K)); refine hK _ ?_; clear hK K) | ((first | refine d8 fun K1 p7 => ?_ | refine d6 fun K1 p7 => ?_ | refine b5 fun A B hA hB => ?_); simp only [S1, simprocAttr, ax, I8 hx, Q9 hlt, G1 hl hlt, eF, f1, List.length_map]; first | refine p7 _ ?_; clear p7 K1 | ((first | refine hA ?_ | refine hB ?_); clear hA hB A B) | (((first | (refine ⟨fun hg => hA ?_, fun hg => hB ?_⟩ <;> clear hA hB A B) | refine ⟨fun hg => ?_, fun hg => ?_⟩) <;> (try simp only [BN2] at hg) <;> (try simp only [hg, cndB])) <;> (try (refine p7 _ ?_; clear p7 K1)) <;> (try simp only [BN3] at hg))) | refine b6 fun K hK => ?_ | ((first | apply c8 | apply b8 | apply a9 | refine d5 ?_ | apply b7 | apply c9 | apply d4 | apply d7); try simp only [NB, simprocAttr]))
      all_goals refine ⟨hlt, trivial, ?_⟩
      all_goals simp only [e1]
      all_goals refine ⟨rfl, ⟨_, rfl⟩, ?_, ?_⟩
      · simp only [S1, simprocAttr, KNB] <;> (try and_intros) <;> (try assumption) <;> (try trivial) <;> (try omega)
      · simp only [A6, q6, y6]; exact ⟨⟨trivial, trivial, trivial⟩, G8 _ _, trivial⟩
    | true =>
      have f1 : (k.src == i) = true := hq
      have e1 : r9 q fl (j + 1) = r9 q fl j ++ [(j : Int)] := by simp only [r9, hx, hq]; rfl
      repeat' (first | ((repeat ((fail_if_success (refine hK _ ?_)); clear hK K)); refine hK _ ?_; clear hK K) | ((first | refine d8 fun K1 p7 => ?_ | refine d6 fun K1 p7 => ?_ | refine b5 fun A B hA hB => ?_); simp only [S1, simprocAttr, ax, I8 hx, Q9 hlt, G1 hl hlt, eF, f1, List.length_map, hmax, Nat.mul_one]; first | refine p7 _ ?_; clear p7 K1 | ((first | refine hA ?_ | refine hB ?_); clear hA hB A B) | (((first | (refine ⟨fun hg => hA ?_, fun hg => hB ?_⟩ <;> clear hA hB A B) | refine ⟨fun hg => ?_, fun hg => ?_⟩) <;> (try simp only [BN2] at hg) <;> (try simp only [hg, cndB])) <;> (try (refine p7 _ ?_; clear p7 K1)) <;> (try simp only [BN3] at hg))) | refine b6 fun K hK => ?_ | ((first | apply c8 | apply b8 | apply a9 | refine d5 ?_ | apply b7 | apply c9 | apply d4 | apply d7); try simp only [NB, simprocAttr]))
      all_goals refine ⟨hlt, trivial, ?_⟩
      all_goals simp only [e1, List.length_append, List.map_append, List.length_cons, List.length_nil, List.map_cons, List.map_nil, Nat.zero_add]
      all_goals refine ⟨rfl, ⟨_, rfl⟩, ?_, ?_⟩
      · simp only [S1, simprocAttr, KNB] <;> (try and_intros) <;> (try assumption) <;> (try trivial) <;> (try omega)
      · simp only [A6, q6, y6]; exact ⟨⟨trivial, trivial, trivial⟩, (by have := G8 (h.length + 2) (r9 q fl j ++ [(j : Int)]); simpa using this), trivial⟩
  · obtain rfl : j = fl.length := by omega
    repeat' (first | ((repeat ((fail_if_success (refine hK _ ?_)); clear hK K)); refine hK _ ?_; clear hK K) | ((first | refine d8 fun K1 p7 => ?_ | refine d6 fun K1 p7 => ?_ | refine b5 fun A B hA hB => ?_); simp only [S1, simprocAttr, ax, iC]; first | refine p7 _ ?_; clear p7 K1 | ((first | refine hA ?_ | refine hB ?_); clear hA hB A B) | (((first | (refine ⟨fun hg => hA ?_, fun hg => hB ?_⟩ <;> clear hA hB A B) | refine ⟨fun hg => ?_, fun hg => ?_⟩) <;> (try simp only [BN2] at hg) <;> (try simp only [hg, cndB])) <;> (try (refine p7 _ ?_; clear p7 K1)) <;> (try simp only [BN3] at hg))) | refine b6 fun K hK => ?_ | ((first | apply c8 | apply b8 | apply a9 | refine d5 ?_ | apply b7 | apply c9 | apply d4 | apply d7); try simp only [NB, simprocAttr]))
    exact dI (.inr rfl) rfl (by simp only [t4, q7, List.getElem?_cons_succ, List.getElem?_cons_zero, if_true]) (by omega) (by simp) (by simp) rfl
end
section
def V0 := And.intro T2 (And.intro T3 (And.intro T4 (And.intro T23 (And.intro T25 (And.intro T53 (And.intro T66 (And.intro T68 (And.intro T73 uL))))))))
attribute [local irreducible] awp q9 m7 n7 r5
variable {G : Nat → Option (List PV)}
mutual
theorem pR {m n : Nat} (hmn : m ≤ n) : ∀ x : AV, y6 m x → y6 n x
  | .p _, _ => by simp [y6]
  | .agg l, h => by simp only [y6] at h ⊢; exact K3 hmn l h
  | .tup l, h => by simp only [y6] at h ⊢; exact K3 hmn l h
  | .fn f l, h => by simp only [y6] at h ⊢; exact K3 hmn l h
  | .ref b g o s l, h => by simp only [y6] at h ⊢; omega
  | .ptr b g o, h => by simp only [y6] at h ⊢; omega
  | .pin c, _ => by simp [y6]
theorem K3 {m n : Nat} (hmn : m ≤ n) : ∀ l : List AV, q6 m l → q6 n l
  | [], _ => by simp [q6]
  | x :: r, h => by simp only [q6] at h ⊢; exact ⟨pR hmn x h.1, K3 hmn r h.2⟩
end
theorem H6 {H : Heap} {b : Nat} {x : Option Blk} (hb : H[b]? = some x) (L : Heap) : (H ++ L)[b]? = some x := by
  have : b < H.length := by
    rcases Nat.lt_or_ge b H.length with h | h
    · exact h
    · rw [List.getElem?_eq_none h] at hb; cases hb
  rw [List.getElem?_append_left this]; exact hb
abbrev aF (k : Fl) : AV := .agg [.i k.src, .i k.dst, .b k.els, .i k.cond.op, .i k.cond.n, .p (.sl (k.cond.kids.map eT))]
theorem nv (k : Fl) (i : Int) (H : Heap) {b g : Nat} (hb : H[b]? = some (some ⟨g, [.i i]⟩)) : f9 Tryz.prog G 83 [aF k, .ptr b g 0] H (fun r h' => r = .b (k.dst == i) ∧ h' = H) := by
  refine d9 (rl := []) i6 Tryz.func83 rfl (rs := [.tmp 3]) rfl Tryz.ntmps83 (by simp) ?_
  repeat' (first | ((repeat ((fail_if_success (refine hK _ ?_)); clear hK K)); refine hK _ ?_; clear hK K) | ((first | refine d8 fun K1 p7 => ?_ | refine d6 fun K1 p7 => ?_ | refine b5 fun A B hA hB => ?_); simp only [S1, simprocAttr, V0, H6 hb]; first | refine p7 _ ?_; clear p7 K1 | ((first | refine hA ?_ | refine hB ?_); clear hA hB A B) | (((first | (refine ⟨fun hg => hA ?_, fun hg => hB ?_⟩ <;> clear hA hB A B) | refine ⟨fun hg => ?_, fun hg => ?_⟩) <;> (try simp only [BN2] at hg) <;> (try simp only [hg, cndB])) <;> (try (refine p7 _ ?_; clear p7 K1)) <;> (try simp only [BN3] at hg))) | refine b6 fun K hK => ?_ | ((first | apply c8 | apply b8 | apply a9 | refine d5 ?_ | apply b7 | apply c9 | apply d4 | apply d7); try simp only [NB, simprocAttr]))
  simp only [S1, simprocAttr, ENB, V0]
theorem lP (k : Fl) (i : Int) (H : Heap) {b g : Nat} (hb : H[b]? = some (some ⟨g, [.i i]⟩)) : f9 Tryz.prog G 48 [aF k, .ptr b g 0] H (fun r h' => r = .b (k.src == i) ∧ h' = H) := by
  refine d9 (rl := []) i6 Tryz.func48 rfl (rs := [.tmp 3]) rfl Tryz.ntmps48 (by simp) ?_
  repeat' (first | ((repeat ((fail_if_success (refine hK _ ?_)); clear hK K)); refine hK _ ?_; clear hK K) | ((first | refine d8 fun K1 p7 => ?_ | refine d6 fun K1 p7 => ?_ | refine b5 fun A B hA hB => ?_); simp only [S1, simprocAttr, V0, H6 hb]; first | refine p7 _ ?_; clear p7 K1 | ((first | refine hA ?_ | refine hB ?_); clear hA hB A B) | (((first | (refine ⟨fun hg => hA ?_, fun hg => hB ?_⟩ <;> clear hA hB A B) | refine ⟨fun hg => ?_, fun hg => ?_⟩) <;> (try simp only [BN2] at hg) <;> (try simp only [hg, cndB])) <;> (try (refine p7 _ ?_; clear p7 K1)) <;> (try simp only [BN3] at hg))) | refine b6 fun K hK => ?_ | ((first | apply c8 | apply b8 | apply a9 | refine d5 ?_ | apply b7 | apply c9 | apply d4 | apply d7); try simp only [NB, simprocAttr]))
  simp only [S1, simprocAttr, ENB, V0]
theorem eL {f : FuncId} (hE : j5 Tryz.prog f) {caps : List AV} {q : Fl → Bool} (nodes : List (List PV)) (fl : List Fl) (hl : fl.length ≤ 100) (h : Heap) (hcap : q6 h.length caps)
    (hc : ∀ L, ∀ k ∈ fl, f9 Tryz.prog G f (aF k :: caps) (h ++ L) (fun r h' => r = .b (q k) ∧ h' = h ++ L)) :
    f9 Tryz.prog G 47 [.agg [.p (.sl nodes), .p (.sl (fl.map eF))], .fn f caps] h (fun r h' => r = aI (r9 q fl fl.length) ∧ h' = h) := by
  refine d9 (rl := []) i6 Tryz.func47 rfl (rs := [.tmp 4]) rfl Tryz.ntmps47 (by simp) ?_
  refine b6 fun K hK => ?_
  repeat' (first | ((first | refine c8 ?_ | refine b8 ?_); (try simp only [NB]); ((repeat ((fail_if_success (refine hK _ ?_)); clear hK K)); refine hK _ ?_; clear hK K)) | ((first | refine d8 fun K1 p7 => ?_ | refine d6 fun K1 p7 => ?_ | refine b5 fun A B hA hB => ?_); simp only [S1, simprocAttr, V0]; first | (refine p7 _ ?_; clear p7 K1) | ((first | refine hA ?_ | refine hB ?_); clear hA hB A B) | (((first | (refine ⟨fun hg => hA ?_, fun hg => hB ?_⟩ <;> clear hA hB A B) | refine ⟨fun hg => ?_, fun hg => ?_⟩) <;> (try simp only [BN2] at hg) <;> (try simp only [hg, cndB])) <;> (try (refine p7 _ ?_; clear p7 K1)) <;> (try simp only [BN3] at hg))) | (fail) | ((first | refine a9 ?_ | refine j4 (by kernel_rfl) ?_ | refine b7 ?_ | refine c9 ?_ | refine d4 ?_ | refine d7 ?_); try simp only [NB, simprocAttr]; (try ((repeat ((fail_if_success (refine hK _ ?_)); clear hK K)); refine hK _ ?_; clear hK K))))
  refine b6 fun K hK => ?_
  repeat' (first | ((first | refine c8 ?_ | refine b8 ?_); (try simp only [NB]); ((repeat ((fail_if_success (refine hK _ ?_)); clear hK K)); refine hK _ ?_; clear hK K)) | ((first | refine d8 fun K1 p7 => ?_ | refine d6 fun K1 p7 => ?_ | refine b5 fun A B hA hB => ?_); simp only [S1, simprocAttr, V0]; first | (refine p7 _ ?_; clear p7 K1) | ((first | refine hA ?_ | refine hB ?_); clear hA hB A B) | (((first | (refine ⟨fun hg => hA ?_, fun hg => hB ?_⟩ <;> clear hA hB A B) | refine ⟨fun hg => ?_, fun hg => ?_⟩) <;> (try simp only [BN2] at hg) <;> (try simp only [hg, cndB])) <;> (try (refine p7 _ ?_; clear p7 K1)) <;> (try simp only [BN3] at hg))) | (fail) | ((first | refine a9 ?_ | refine j4 (by kernel_rfl) ?_ | refine b7 ?_ | refine c9 ?_ | refine d4 ?_ | refine d7 ?_); try simp only [NB, simprocAttr]; (try ((repeat ((fail_if_success (refine hK _ ?_)); clear hK K)); refine hK _ ?_; clear hK K))))
  refine b6 fun K hK => ?_
  repeat' (first | ((repeat ((fail_if_success (refine hK _ ?_)); clear hK K)); refine hK _ ?_; clear hK K) | ((first | refine d8 fun K1 p7 => ?_ | refine d6 fun K1 p7 => ?_ | refine b5 fun A B hA hB => ?_); simp only [S1, simprocAttr, V0, List.length_map]; first | refine p7 _ ?_; clear p7 K1 | ((first | refine hA ?_ | refine hB ?_); clear hA hB A B) | (((first | (refine ⟨fun hg => hA ?_, fun hg => hB ?_⟩ <;> clear hA hB A B) | refine ⟨fun hg => ?_, fun hg => ?_⟩) <;> (try simp only [BN2] at hg) <;> (try simp only [hg, cndB])) <;> (try (refine p7 _ ?_; clear p7 K1)) <;> (try simp only [BN3] at hg))) | refine b6 fun K hK => ?_ | ((first | apply c8 | apply b8 | apply a9 | refine d5 ?_ | apply b7 | apply c9 | apply d4 | apply d7); try simp only [NB, simprocAttr]))
  have hcap2 := K3 (Nat.le_add_right h.length 2) caps hcap
  have hcap0 := K3 (Nat.le_add_right h.length 1) caps hcap
  refine T1 fl.length 25 (fun j => [(11, .i j), (10, .i fl.length), (9, .p (.sl (fl.map eF))), (1, .fn f caps), (5, .ref (h.length + 1) (r9 q fl j).length 0 1 (r9 q fl j).length)])
    (fun j => [some ⟨0, [.p (.sl nodes), .p (.sl (fl.map eF))]⟩, some ⟨(r9 q fl j).length, (r9 q fl j).map AV.i⟩]) (fun j => True) ?_ trivial fun j hj hp K hK => ?_
  · refine (t5.adopt 5 1 rfl).trans (Sub.ghost ⟨rfl, ⟨[], by simp [r9]⟩, ?_, ?_⟩)
    · simp only [S5, y6, r9, U9, frL, List.length_cons, List.length_nil]
      simp
      exact hcap2
    · simp [A6, q6, y6, r9]
  rcases Nat.lt_or_ge j fl.length with hlt | hge
  · obtain ⟨k, hx⟩ : ∃ k, fl[j]? = some k := ⟨_, List.getElem?_eq_getElem hlt⟩
    have hm := List.mem_of_getElem? hx
    have hle := O6 q fl j
    have hmax : (r9 q fl j).length + 1 ≤ o9 := by unfold o9; omega
    have hck := fun L => hc L k hm
    cases hq : q k with
    | false =>
      rw [hq] at hck
      have e1 : r9 q fl (j + 1) = r9 q fl j := by simp only [r9, hx, hq]; rfl
      repeat' (first | ((repeat ((fail_if_success (refine hK _ ?_)); clear hK K)); refine hK _ ?_; clear hK K) | ((first | refine d8 fun K1 p7 => ?_ | refine d6 fun K1 p7 => ?_ | refine b5 fun A B hA hB => ?_); simp only [S1, simprocAttr, V0, I8 hx, Q9 hlt, G1 hl hlt, eF, List.length_map]; first | refine p7 _ ?_; clear p7 K1 | ((first | refine hA ?_ | refine hB ?_); clear hA hB A B) | ((first | apply b9 hE | apply c7 hE); exact (hck _); refine p7 _ ?_; clear p7 K1) | (((first | (refine ⟨fun hg => hA ?_, fun hg => hB ?_⟩ <;> clear hA hB A B) | refine ⟨fun hg => ?_, fun hg => ?_⟩) <;> (try simp only [BN2] at hg) <;> (try simp only [hg, cndB])) <;> (try (refine p7 _ ?_; clear p7 K1)) <;> (try simp only [BN3] at hg))) | refine b6 fun K hK => ?_ | ((first | apply c8 | apply b8 | apply a9 | refine d5 ?_ | apply b7 | apply c9 | apply d4 | apply d7); try simp only [NB, simprocAttr]))
      all_goals refine ⟨hlt, trivial, ?_⟩
      all_goals simp only [e1]
      all_goals refine ⟨rfl, ⟨_, rfl⟩, ?_, ?_⟩
      · simp only [S1, simprocAttr, KNB] <;> (try and_intros) <;> (try assumption) <;> (try trivial) <;> (try omega)
      · simp only [A6, q6, y6]; exact ⟨⟨trivial, trivial, trivial⟩, G8 _ _, trivial⟩
    | true =>
      rw [hq] at hck
      have e1 : r9 q fl (j + 1) = r9 q fl j ++ [(j : Int)] := by simp only [r9, hx, hq]; rfl
      repeat' (first | ((repeat ((fail_if_success (refine hK _ ?_)); clear hK K)); refine hK _ ?_; clear hK K) | ((first | refine d8 fun K1 p7 => ?_ | refine d6 fun K1 p7 => ?_ | refine b5 fun A B hA hB => ?_); simp only [S1, simprocAttr, V0, I8 hx, Q9 hlt, G1 hl hlt, eF, List.length_map, hmax, Nat.mul_one]; first | refine p7 _ ?_; clear p7 K1 | ((first | refine hA ?_ | refine hB ?_); clear hA hB A B) | ((first | apply b9 hE | apply c7 hE); exact (hck _); refine p7 _ ?_; clear p7 K1) | (((first | (refine ⟨fun hg => hA ?_, fun hg => hB ?_⟩ <;> clear hA hB A B) | refine ⟨fun hg => ?_, fun hg => ?_⟩) <;> (try simp only [BN2] at hg) <;> (try simp only [hg, cndB])) <;> (try (refine p7 _ ?_; clear p7 K1)) <;> (try simp only [BN3] at hg))) | refine b6 fun K hK => ?_ | ((first | apply c8 | apply b8 | apply a9 | refine d5 ?_ | apply b7 | apply c9 | apply d4 | apply d7); try simp only [NB, simprocAttr]))
      all_goals refine ⟨hlt, trivial, ?_⟩
      all_goals simp only [e1, List.length_append, List.map_append, List.length_cons, List.length_nil, List.map_cons, List.map_nil, Nat.zero_add]
      all_goals refine ⟨rfl, ⟨_, rfl⟩, ?_, ?_⟩
      · simp only [S1, simprocAttr, KNB] <;> (try and_intros) <;> (try assumption) <;> (try trivial) <;> (try omega)
      · simp only [A6, q6, y6]; exact ⟨⟨trivial, trivial, trivial⟩, (by have := G8 (h.length + 2) (r9 q fl j ++ [(j : Int)]); simpa using this), trivial⟩
  · obtain rfl : j = fl.length := by omega
    repeat' (first | ((repeat ((fail_if_success (refine hK _ ?_)); clear hK K)); refine hK _ ?_; clear hK K) | ((first | refine d8 fun K1 p7 => ?_ | refine d6 fun K1 p7 => ?_ | refine b5 fun A B hA hB => ?_); simp only [S1, simprocAttr, V0, iC]; first | refine p7 _ ?_; clear p7 K1 | ((first | refine hA ?_ | refine hB ?_); clear hA hB A B) | (((first | (refine ⟨fun hg => hA ?_, fun hg => hB ?_⟩ <;> clear hA hB A B) | refine ⟨fun hg => ?_, fun hg => ?_⟩) <;> (try simp only [BN2] at hg) <;> (try simp only [hg, cndB])) <;> (try (refine p7 _ ?_; clear p7 K1)) <;> (try simp only [BN3] at hg))) | refine b6 fun K hK => ?_ | ((first | apply c8 | apply b8 | apply a9 | refine d5 ?_ | apply b7 | apply c9 | apply d4 | apply d7); try simp only [NB, simprocAttr]))
    exact dI (.inr rfl) rfl (by simp only [t4, q7, List.getElem?_cons_succ, List.getElem?_cons_zero, if_true]) (by omega) (by simp) (by simp) rfl
theorem l9 (nodes : List (List PV)) (fl : List Fl) (hl : fl.length ≤ 100) (i : Int) (h : Heap) : f9 Tryz.prog G 62 [.agg [.p (.sl nodes), .p (.sl (fl.map eF))], .i i] h (fun r h' => r = aI (p5 fl i) ∧ h' = h) := by
  have hf := eL (G := G) (f := 83) E83 (caps := [.ptr (h.length + 1) 0 0]) (q := fun f => f.dst == i) nodes fl hl (h ++ [some ⟨0, [.p (.sl nodes), .p (.sl (fl.map eF))]⟩, some ⟨0, [.i i]⟩]) (by simp [q6, y6])
    (fun L k hk => nv k i _ (H6 (by simp [q7]) L))
  refine d9 (rl := []) i6 Tryz.func62 rfl (rs := [.tmp 4]) rfl Tryz.ntmps62 (by simp) ?_
  repeat' (first | ((repeat ((fail_if_success (refine hK _ ?_)); clear hK K)); refine hK _ ?_; clear hK K) | ((first | refine d8 fun K1 p7 => ?_ | refine d6 fun K1 p7 => ?_ | refine b5 fun A B hA hB => ?_); simp only [S1, simprocAttr, V0]; first | refine p7 _ ?_; clear p7 K1 | ((first | refine hA ?_ | refine hB ?_); clear hA hB A B) | ((first | apply b9 E47 | apply c7 E47); exact hf; refine p7 _ ?_; clear p7 K1) | (((first | (refine ⟨fun hg => hA ?_, fun hg => hB ?_⟩ <;> clear hA hB A B) | refine ⟨fun hg => ?_, fun hg => ?_⟩) <;> (try simp only [BN2] at hg) <;> (try simp only [hg, cndB])) <;> (try (refine p7 _ ?_; clear p7 K1)) <;> (try simp only [BN3] at hg))) | refine b6 fun K hK => ?_ | ((first | apply c8 | apply b8 | apply a9 | refine d5 ?_ | apply b7 | apply c9 | apply d4 | apply d7); try simp only [NB, simprocAttr]))
  simp only [S1, simprocAttr, ENB, V0]
  rfl
theorem k4 (nodes : List (List PV)) (fl : List Fl) (hl : fl.length ≤ 100) (i : Int) (h : Heap) : f9 Tryz.prog G 29 [.agg [.p (.sl nodes), .p (.sl (fl.map eF))], .i i] h (fun r h' => r = aI (k3 fl i) ∧ h' = h) := by
  have hf := eL (G := G) (f := 48) E48 (caps := [.ptr (h.length + 1) 0 0]) (q := fun f => f.src == i) nodes fl hl (h ++ [some ⟨0, [.p (.sl nodes), .p (.sl (fl.map eF))]⟩, some ⟨0, [.i i]⟩]) (by simp [q6, y6])
    (fun L k hk => lP k i _ (H6 (by simp [q7]) L))
  refine d9 (rl := []) i6 Tryz.func29 rfl (rs := [.tmp 4]) rfl Tryz.ntmps29 (by simp) ?_
  repeat' (first | ((repeat ((fail_if_success (refine hK _ ?_)); clear hK K)); refine hK _ ?_; clear hK K) | ((first | refine d8 fun K1 p7 => ?_ | refine d6 fun K1 p7 => ?_ | refine b5 fun A B hA hB => ?_); simp only [S1, simprocAttr, V0]; first | refine p7 _ ?_; clear p7 K1 | ((first | refine hA ?_ | refine hB ?_); clear hA hB A B) | ((first | apply b9 E47 | apply c7 E47); exact hf; refine p7 _ ?_; clear p7 K1) | (((first | (refine ⟨fun hg => hA ?_, fun hg => hB ?_⟩ <;> clear hA hB A B) | refine ⟨fun hg => ?_, fun hg => ?_⟩) <;> (try simp only [BN2] at hg) <;> (try simp only [hg, cndB])) <;> (try (refine p7 _ ?_; clear p7 K1)) <;> (try simp only [BN3] at hg))) | refine b6 fun K hK => ?_ | ((first | apply c8 | apply b8 | apply a9 | refine d5 ?_ | apply b7 | apply c9 | apply d4 | apply d7); try simp only [NB, simprocAttr]))
  simp only [S1, simprocAttr, ENB, V0]
  rfl
end
section
def K7 := And.intro T2 (And.intro T3 (And.intro T4 (And.intro T22 (And.intro T23 (And.intro T25 (And.intro T53 (And.intro T66 (And.intro T68 (And.intro T70 (And.intro T73 T91))))))))))
attribute [local irreducible] awp q9 m7 n7 r5
variable {G : Nat → Option (List PV)}
structure Nd where
  kind : Int
  a : Int
  term : Tm
def eN (k : Nd) : List PV := [.int .i64 k.kind, .int .i64 k.a, .int .i64 k.term.op, .int .i64 k.term.n, .sl (k.term.kids.map eT)]
abbrev aNd (k : Nd) : AV := .agg [.i k.kind, .i k.a, .i k.term.op, .i k.term.n, .p (.sl (k.term.kids.map eT))]
abbrev N5 (ns : List Nd) (fl : List Fl) : AV := .agg [.p (.sl (ns.map eN)), .p (.sl (fl.map eF))]
theorem B8 {l : List Nd} {i : Nat} {k : Nd} (h : l[i]? = some k) : (l.map eN)[i]? = some (eN k) := by simp [h]
theorem I9 {l : List Nd} {i : Nat} (h : i < l.length) : decide ((i : Int) < (l.length : Int)) = true := by simp; omega
theorem T5 {l : List Nd} : decide ((l.length : Int) < (l.length : Int)) = false := by simp
theorem A9 {l : List Nd} {i : Nat} (hk : l.length ≤ 100) (h : i < l.length) : IntKind.i64.wrap ((i : Int) + 1) = ((i + 1 : Nat) : Int) := by rw [IntWalk.i64_in _ (by omega)]; omega
def G2 {α : Type} (p : α → Bool) : List α → Nat → Int
  | [], _ => -1
  | k :: r, i => if p k then (i : Int) else G2 p r (i + 1)
theorem gC {α : Type} {p : α → Bool} {l : List α} {i : Nat} {k : α} (hk : l[i]? = some k) : G2 p (l.drop i) i = if p k then (i : Int) else G2 p (l.drop (i + 1)) (i + 1) := by
  obtain ⟨h, e⟩ := List.getElem?_eq_some_iff.mp hk
  rw [List.drop_eq_getElem_cons h, e]; rfl
def o4 (ns : List Nd) (kind : Int) : Int := G2 (fun x => x.kind == kind) ns 0
theorem kj (k : Nd) (H : Heap) : f9 Tryz.prog G 50 [aNd k] H (fun r h' => r = .b (k.kind == 1) ∧ h' = H) := by
  refine d9 (rl := []) i6 Tryz.func50 rfl (rs := [.tmp 2]) rfl Tryz.ntmps50 (by simp) ?_
  repeat' (first | ((repeat ((fail_if_success (refine hK _ ?_)); clear hK K)); refine hK _ ?_; clear hK K) | ((first | refine d8 fun K1 p7 => ?_ | refine d6 fun K1 p7 => ?_ | refine b5 fun A B hA hB => ?_); simp only [S1, simprocAttr, K7]; first | refine p7 _ ?_; clear p7 K1 | ((first | refine hA ?_ | refine hB ?_); clear hA hB A B) | (((first | (refine ⟨fun hg => hA ?_, fun hg => hB ?_⟩ <;> clear hA hB A B) | refine ⟨fun hg => ?_, fun hg => ?_⟩) <;> (try simp only [BN2] at hg) <;> (try simp only [hg, cndB])) <;> (try (refine p7 _ ?_; clear p7 K1)) <;> (try simp only [BN3] at hg))) | refine b6 fun K hK => ?_ | ((first | apply c8 | apply b8 | apply a9 | refine d5 ?_ | apply b7 | apply c9 | apply d4 | apply d7); try simp only [NB, simprocAttr]))
  simp only [S1, simprocAttr, ENB, K7]
theorem nw (k : Nd) (H : Heap) : f9 Tryz.prog G 82 [aNd k] H (fun r h' => r = .b (k.kind == 2) ∧ h' = H) := by
  refine d9 (rl := []) i6 Tryz.func82 rfl (rs := [.tmp 2]) rfl Tryz.ntmps82 (by simp) ?_
  repeat' (first | ((repeat ((fail_if_success (refine hK _ ?_)); clear hK K)); refine hK _ ?_; clear hK K) | ((first | refine d8 fun K1 p7 => ?_ | refine d6 fun K1 p7 => ?_ | refine b5 fun A B hA hB => ?_); simp only [S1, simprocAttr, K7]; first | refine p7 _ ?_; clear p7 K1 | ((first | refine hA ?_ | refine hB ?_); clear hA hB A B) | (((first | (refine ⟨fun hg => hA ?_, fun hg => hB ?_⟩ <;> clear hA hB A B) | refine ⟨fun hg => ?_, fun hg => ?_⟩) <;> (try simp only [BN2] at hg) <;> (try simp only [hg, cndB])) <;> (try (refine p7 _ ?_; clear p7 K1)) <;> (try simp only [BN3] at hg))) | refine b6 fun K hK => ?_ | ((first | apply c8 | apply b8 | apply a9 | refine d5 ?_ | apply b7 | apply c9 | apply d4 | apply d7); try simp only [NB, simprocAttr]))
  simp only [S1, simprocAttr, ENB, K7]
theorem Z5 {f : FuncId} (hE : j5 Tryz.prog f) {caps : List AV} {p : Nd → Bool} (ks : List Nd) (hl : ks.length ≤ 100) (h : Heap) (hcap : q6 h.length caps)
    (hc0 : ∀ k ∈ ks, f9 Tryz.prog G f (aNd k :: caps) h (fun r h' => r = .b (p k) ∧ h' = h)) :
    f9 Tryz.prog G 49 [.p (.sl (ks.map eN)), .fn f caps] h (fun r h' => r = .i (G2 p ks 0) ∧ h' = h) := by
  refine d9 (rl := []) i6 Tryz.func49 rfl (rs := [.tmp 4]) rfl Tryz.ntmps49 (by simp) ?_
  repeat' (first | ((repeat ((fail_if_success (refine hK _ ?_)); clear hK K)); refine hK _ ?_; clear hK K) | ((first | refine d8 fun K1 p7 => ?_ | refine d6 fun K1 p7 => ?_ | refine b5 fun A B hA hB => ?_); simp only [S1, simprocAttr, K7, List.length_map]; first | refine p7 _ ?_; clear p7 K1 | ((first | refine hA ?_ | refine hB ?_); clear hA hB A B) | (((first | (refine ⟨fun hg => hA ?_, fun hg => hB ?_⟩ <;> clear hA hB A B) | refine ⟨fun hg => ?_, fun hg => ?_⟩) <;> (try simp only [BN2] at hg) <;> (try simp only [hg, cndB])) <;> (try (refine p7 _ ?_; clear p7 K1)) <;> (try simp only [BN3] at hg))) | refine b6 fun K hK => ?_ | ((first | apply c8 | apply b8 | apply a9 | refine d5 ?_ | apply b7 | apply c9 | apply d4 | apply d7); try simp only [NB, simprocAttr]))
  refine s5 ks.length 19 (fun i => [(8, .i i), (7, .i ks.length), (0, .p (.sl (ks.map eN))), (1, .fn f caps)]) (fun i => []) (fun i => G2 p ks 0 = G2 p (ks.drop i) i) ?_ rfl fun i hi hp K hK => ?_
  · (refine ⟨rfl, (by first | exact ⟨_, rfl⟩ | exact ⟨[], by simp⟩), ?_, ?_⟩ <;> simp only [S1, simprocAttr, KNB] <;> (try and_intros) <;> (try assumption) <;> (try trivial) <;> (try omega))
  rcases Nat.lt_or_ge i ks.length with hlt | hge
  · obtain ⟨k, hx⟩ : ∃ k, ks[i]? = some k := ⟨_, List.getElem?_eq_getElem hlt⟩
    have hm := List.mem_of_getElem? hx
    rw [gC hx] at hp
    repeat' (first | ((repeat ((fail_if_success (refine hK _ ?_)); clear hK K)); refine hK _ ?_; clear hK K) | ((first | refine d8 fun K1 p7 => ?_ | refine d6 fun K1 p7 => ?_ | refine b5 fun A B hA hB => ?_); simp only [S1, simprocAttr, K7, B8 hx, I9 hlt, A9 hl hlt, eN]; first | refine p7 _ ?_; clear p7 K1 | ((first | refine hA ?_ | refine hB ?_); clear hA hB A B) | ((first | apply b9 hE | apply c7 hE); exact (hc0 k hm); refine p7 _ ?_; clear p7 K1) | (((first | (refine ⟨fun hg => hA ?_, fun hg => hB ?_⟩ <;> clear hA hB A B) | refine ⟨fun hg => ?_, fun hg => ?_⟩) <;> (try simp only [BN2] at hg) <;> (try simp only [hg, cndB])) <;> (try (refine p7 _ ?_; clear p7 K1)) <;> (try simp only [BN3] at hg))) | refine b6 fun K hK => ?_ | ((first | apply c8 | apply b8 | apply a9 | refine d5 ?_ | apply b7 | apply c9 | apply d4 | apply d7); try simp only [NB, simprocAttr]))
    · simp only [S1, simprocAttr, ENB, K7]
      simp [hp, hg]
    · exact ⟨hlt, by simpa [hg] using hp, by (refine ⟨rfl, (by first | exact ⟨_, rfl⟩ | exact ⟨[], by simp⟩), ?_, ?_⟩ <;> simp only [S1, simprocAttr, KNB] <;> (try and_intros) <;> (try assumption) <;> (try trivial) <;> (try omega))⟩
  · obtain rfl : i = ks.length := by omega
    repeat' (first | ((repeat ((fail_if_success (refine hK _ ?_)); clear hK K)); refine hK _ ?_; clear hK K) | ((first | refine d8 fun K1 p7 => ?_ | refine d6 fun K1 p7 => ?_ | refine b5 fun A B hA hB => ?_); simp only [S1, simprocAttr, K7, T5]; first | refine p7 _ ?_; clear p7 K1 | ((first | refine hA ?_ | refine hB ?_); clear hA hB A B) | (((first | (refine ⟨fun hg => hA ?_, fun hg => hB ?_⟩ <;> clear hA hB A B) | refine ⟨fun hg => ?_, fun hg => ?_⟩) <;> (try simp only [BN2] at hg) <;> (try simp only [hg, cndB])) <;> (try (refine p7 _ ?_; clear p7 K1)) <;> (try simp only [BN3] at hg))) | refine b6 fun K hK => ?_ | ((first | apply c8 | apply b8 | apply a9 | refine d5 ?_ | apply b7 | apply c9 | apply d4 | apply d7); try simp only [NB, simprocAttr]))
    simp only [S1, simprocAttr, ENB, K7]
    rw [List.drop_length] at hp
    simp [hp, G2]
theorem B0 (ns : List Nd) (hl : ns.length ≤ 100) (fs : List (List PV)) (h : Heap) : f9 Tryz.prog G 30 [.agg [.p (.sl (ns.map eN)), .p (.sl fs)]] h (fun r h' => r = .i (o4 ns 1) ∧ h' = h) := by
  refine d9 (rl := []) i6 Tryz.func30 rfl (rs := [.tmp 2]) rfl Tryz.ntmps30 (by simp) ?_
  repeat' (first | ((repeat ((fail_if_success (refine hK _ ?_)); clear hK K)); refine hK _ ?_; clear hK K) | ((first | refine d8 fun K1 p7 => ?_ | refine d6 fun K1 p7 => ?_ | refine b5 fun A B hA hB => ?_); simp only [S1, simprocAttr, K7]; first | refine p7 _ ?_; clear p7 K1 | ((first | refine hA ?_ | refine hB ?_); clear hA hB A B) | ((first | apply b9 E49 | apply c7 E49); exact (Z5 E50 (p := fun x => x.kind == 1) ns hl _ (by simp [q6]) (fun k hk => kj k _)); refine p7 _ ?_; clear p7 K1) | (((first | (refine ⟨fun hg => hA ?_, fun hg => hB ?_⟩ <;> clear hA hB A B) | refine ⟨fun hg => ?_, fun hg => ?_⟩) <;> (try simp only [BN2] at hg) <;> (try simp only [hg, cndB])) <;> (try (refine p7 _ ?_; clear p7 K1)) <;> (try simp only [BN3] at hg))) | refine b6 fun K hK => ?_ | ((first | apply c8 | apply b8 | apply a9 | refine d5 ?_ | apply b7 | apply c9 | apply d4 | apply d7); try simp only [NB, simprocAttr]))
  simp only [S1, simprocAttr, ENB, K7]
  all_goals rfl
theorem H7 (ns : List Nd) (hl : ns.length ≤ 100) (fs : List (List PV)) (h : Heap) : f9 Tryz.prog G 60 [.agg [.p (.sl (ns.map eN)), .p (.sl fs)]] h (fun r h' => r = .i (o4 ns 2) ∧ h' = h) := by
  refine d9 (rl := []) i6 Tryz.func60 rfl (rs := [.tmp 2]) rfl Tryz.ntmps60 (by simp) ?_
  repeat' (first | ((repeat ((fail_if_success (refine hK _ ?_)); clear hK K)); refine hK _ ?_; clear hK K) | ((first | refine d8 fun K1 p7 => ?_ | refine d6 fun K1 p7 => ?_ | refine b5 fun A B hA hB => ?_); simp only [S1, simprocAttr, K7]; first | refine p7 _ ?_; clear p7 K1 | ((first | refine hA ?_ | refine hB ?_); clear hA hB A B) | ((first | apply b9 E49 | apply c7 E49); exact (Z5 E82 (p := fun x => x.kind == 2) ns hl _ (by simp [q6]) (fun k hk => nw k _)); refine p7 _ ?_; clear p7 K1) | (((first | (refine ⟨fun hg => hA ?_, fun hg => hB ?_⟩ <;> clear hA hB A B) | refine ⟨fun hg => ?_, fun hg => ?_⟩) <;> (try simp only [BN2] at hg) <;> (try simp only [hg, cndB])) <;> (try (refine p7 _ ?_; clear p7 K1)) <;> (try simp only [BN3] at hg))) | refine b6 fun K hK => ?_ | ((first | apply c8 | apply b8 | apply a9 | refine d5 ?_ | apply b7 | apply c9 | apply d4 | apply d7); try simp only [NB, simprocAttr]))
  simp only [S1, simprocAttr, ENB, K7]
  all_goals rfl
theorem bc (ns : List Nd) (hl : ns.length ≤ 100) (fs : List (List PV)) (kind : Int) (h : Heap) : f9 Tryz.prog G 33 [.agg [.p (.sl (ns.map eN)), .p (.sl fs)], .i kind] h (fun r h' => r = .i (o4 ns kind) ∧ h' = h) := by
  refine d9 (rl := []) i6 Tryz.func33 rfl (rs := [.tmp 4]) rfl Tryz.ntmps33 (by simp) ?_
  refine b6 fun K hK => ?_
  repeat' (first | ((first | refine c8 ?_ | refine b8 ?_); (try simp only [NB]); ((repeat ((fail_if_success (refine hK _ ?_)); clear hK K)); refine hK _ ?_; clear hK K)) | ((first | refine d8 fun K1 p7 => ?_ | refine d6 fun K1 p7 => ?_ | refine b5 fun A B hA hB => ?_); simp only [S1, simprocAttr, K7]; first | (refine p7 _ ?_; clear p7 K1) | ((first | refine hA ?_ | refine hB ?_); clear hA hB A B) | (((first | (refine ⟨fun hg => hA ?_, fun hg => hB ?_⟩ <;> clear hA hB A B) | refine ⟨fun hg => ?_, fun hg => ?_⟩) <;> (try simp only [BN2] at hg) <;> (try simp only [hg, cndB])) <;> (try (refine p7 _ ?_; clear p7 K1)) <;> (try simp only [BN3] at hg))) | (fail) | ((first | refine a9 ?_ | refine j4 (by kernel_rfl) ?_ | refine b7 ?_ | refine c9 ?_ | refine d4 ?_ | refine d7 ?_); try simp only [NB, simprocAttr]; (try ((repeat ((fail_if_success (refine hK _ ?_)); clear hK K)); refine hK _ ?_; clear hK K))))
  refine b6 fun K hK => ?_
  repeat' (first | ((repeat ((fail_if_success (refine hK _ ?_)); clear hK K)); refine hK _ ?_; clear hK K) | ((first | refine d8 fun K1 p7 => ?_ | refine d6 fun K1 p7 => ?_ | refine b5 fun A B hA hB => ?_); simp only [S1, simprocAttr, K7, List.length_map]; first | refine p7 _ ?_; clear p7 K1 | ((first | refine hA ?_ | refine hB ?_); clear hA hB A B) | (((first | (refine ⟨fun hg => hA ?_, fun hg => hB ?_⟩ <;> clear hA hB A B) | refine ⟨fun hg => ?_, fun hg => ?_⟩) <;> (try simp only [BN2] at hg) <;> (try simp only [hg, cndB])) <;> (try (refine p7 _ ?_; clear p7 K1)) <;> (try simp only [BN3] at hg))) | refine b6 fun K hK => ?_ | ((first | apply c8 | apply b8 | apply a9 | refine d5 ?_ | apply b7 | apply c9 | apply d4 | apply d7); try simp only [NB, simprocAttr]))
  refine s5 ns.length 21 (fun i => [(10, .i i), (9, .i ns.length), (8, .p (.sl (ns.map eN))), (1, .i kind)]) (fun i => []) (fun i => o4 ns kind = G2 (fun x => x.kind == kind) (ns.drop i) i) ?_ rfl fun i hi hp K hK => ?_
  · (refine ⟨rfl, (by first | exact ⟨_, rfl⟩ | exact ⟨[], by simp⟩), ?_, ?_⟩ <;> simp only [S1, simprocAttr, KNB] <;> (try and_intros) <;> (try assumption) <;> (try trivial) <;> (try omega))
  rcases Nat.lt_or_ge i ns.length with hlt | hge
  · obtain ⟨k, hx⟩ : ∃ k, ns[i]? = some k := ⟨_, List.getElem?_eq_getElem hlt⟩
    rw [gC hx] at hp
    cases hq : (k.kind == kind) with
    | true =>
      repeat' (first | ((repeat ((fail_if_success (refine hK _ ?_)); clear hK K)); refine hK _ ?_; clear hK K) | ((first | refine d8 fun K1 p7 => ?_ | refine d6 fun K1 p7 => ?_ | refine b5 fun A B hA hB => ?_); simp only [S1, simprocAttr, K7, B8 hx, I9 hlt, A9 hl hlt, eN, hq]; first | refine p7 _ ?_; clear p7 K1 | ((first | refine hA ?_ | refine hB ?_); clear hA hB A B) | (((first | (refine ⟨fun hg => hA ?_, fun hg => hB ?_⟩ <;> clear hA hB A B) | refine ⟨fun hg => ?_, fun hg => ?_⟩) <;> (try simp only [BN2] at hg) <;> (try simp only [hg, cndB])) <;> (try (refine p7 _ ?_; clear p7 K1)) <;> (try simp only [BN3] at hg))) | refine b6 fun K hK => ?_ | ((first | apply c8 | apply b8 | apply a9 | refine d5 ?_ | apply b7 | apply c9 | apply d4 | apply d7); try simp only [NB, simprocAttr]))
      all_goals simp only [S1, simprocAttr, ENB, K7]
      all_goals simp [hp, hq]
    | false =>
      repeat' (first | ((repeat ((fail_if_success (refine hK _ ?_)); clear hK K)); refine hK _ ?_; clear hK K) | ((first | refine d8 fun K1 p7 => ?_ | refine d6 fun K1 p7 => ?_ | refine b5 fun A B hA hB => ?_); simp only [S1, simprocAttr, K7, B8 hx, I9 hlt, A9 hl hlt, eN, hq]; first | refine p7 _ ?_; clear p7 K1 | ((first | refine hA ?_ | refine hB ?_); clear hA hB A B) | (((first | (refine ⟨fun hg => hA ?_, fun hg => hB ?_⟩ <;> clear hA hB A B) | refine ⟨fun hg => ?_, fun hg => ?_⟩) <;> (try simp only [BN2] at hg) <;> (try simp only [hg, cndB])) <;> (try (refine p7 _ ?_; clear p7 K1)) <;> (try simp only [BN3] at hg))) | refine b6 fun K hK => ?_ | ((first | apply c8 | apply b8 | apply a9 | refine d5 ?_ | apply b7 | apply c9 | apply d4 | apply d7); try simp only [NB, simprocAttr]))
      all_goals exact ⟨hlt, by simpa [hq] using hp, by (refine ⟨rfl, (by first | exact ⟨_, rfl⟩ | exact ⟨[], by simp⟩), ?_, ?_⟩ <;> simp only [S1, simprocAttr, KNB] <;> (try and_intros) <;> (try assumption) <;> (try trivial) <;> (try omega))⟩
  · obtain rfl : i = ns.length := by omega
    repeat' (first | ((repeat ((fail_if_success (refine hK _ ?_)); clear hK K)); refine hK _ ?_; clear hK K) | ((first | refine d8 fun K1 p7 => ?_ | refine d6 fun K1 p7 => ?_ | refine b5 fun A B hA hB => ?_); simp only [S1, simprocAttr, K7, T5]; first | refine p7 _ ?_; clear p7 K1 | ((first | refine hA ?_ | refine hB ?_); clear hA hB A B) | (((first | (refine ⟨fun hg => hA ?_, fun hg => hB ?_⟩ <;> clear hA hB A B) | refine ⟨fun hg => ?_, fun hg => ?_⟩) <;> (try simp only [BN2] at hg) <;> (try simp only [hg, cndB])) <;> (try (refine p7 _ ?_; clear p7 K1)) <;> (try simp only [BN3] at hg))) | refine b6 fun K hK => ?_ | ((first | apply c8 | apply b8 | apply a9 | refine d5 ?_ | apply b7 | apply c9 | apply d4 | apply d7); try simp only [NB, simprocAttr]))
    simp only [S1, simprocAttr, ENB, K7]
    rw [List.drop_length] at hp
    simp [hp, G2]
end
section
inductive Rch (es : List (Nat × Nat)) (a : Nat) : Nat → Prop
  | refl : Rch es a a
  | step {b c : Nat} : Rch es a b → (b, c) ∈ es → Rch es a c
theorem Rch.trans {es : List (Nat × Nat)} {a b c : Nat} (h1 : Rch es a b) (h2 : Rch es b c) : Rch es a c := by
  induction h2 with
  | refl => exact h1
  | step _ he ih => exact .step ih he
theorem Rch.back {es : List (Nat × Nat)} {a b : Nat} (h : Rch es a b) : Rch (es.map Prod.swap) b a := by
  induction h with
  | refl => exact .refl
  | step _ he ih => exact .trans (.step .refl (List.mem_map.mpr ⟨_, he, rfl⟩)) ih
theorem pS (es : List (Nat × Nat)) : (es.map Prod.swap).map Prod.swap = es := by
  rw [List.map_map]; simp [Function.comp_def]
theorem Rch.rev {es : List (Nat × Nat)} {a b : Nat} : Rch (es.map Prod.swap) b a ↔ Rch es a b :=
  ⟨fun h => by have := h.back; rwa [pS] at this, Rch.back⟩
theorem Rch.closed {es : List (Nat × Nat)} {a b : Nat} {p : Nat → Prop} (h : Rch es a b) (ha : p a) (hc : ∀ e ∈ es, p e.1 → p e.2) : p b := by
  induction h with
  | refl => exact ha
  | step _ he ih => exact hc _ he ih
open Classical in
noncomputable def O7 (es : List (Nat × Nat)) (n a : Nat) : List Bool := (List.range n).map fun i => decide (Rch es a i)
theorem T6 (es : List (Nat × Nat)) (n a : Nat) : (O7 es n a).length = n := by simp [O7]
theorem oP {es : List (Nat × Nat)} {n a : Nat} {l : List Bool} (hl : l.length = n) (h1 : ∀ i : Nat, l[i]? = some true → Rch es a i) (h2 : ∀ i, i < n → Rch es a i → l[i]? = some true) : l = O7 es n a := by
  apply List.ext_getElem?
  intro i
  by_cases hi : i < n
  · have e : (O7 es n a)[i]? = some (@decide (Rch es a i) (Classical.propDecidable _)) := by simp [O7, hi]
    rw [e, List.getElem?_eq_getElem (by omega)]
    by_cases hr : Rch es a i
    · have := h2 i hi hr
      rw [List.getElem?_eq_getElem (by omega)] at this
      rw [this]; simp [hr]
    · cases hx : l[i] with
      | true => exact (hr (h1 i (by rw [List.getElem?_eq_getElem (by omega), hx]))).elim
      | false => simp [hr]
  · rw [List.getElem?_eq_none (by omega), List.getElem?_eq_none (by rw [T6]; omega)]
theorem lQ {es : List (Nat × Nat)} {n a i : Nat} (hi : i < n) : (O7 es n a)[i]? = some true ↔ Rch es a i := by
  simp [O7, hi]
def B6 (out : List Bool) (e : Nat × Nat) : List Bool := if out[e.1]? = some true then out.set e.2 true else out
def T7 (es : List (Nat × Nat)) (out : List Bool) : List Bool := es.foldl B6 out
def A7 (es : List (Nat × Nat)) : Nat → List Bool → List Bool
  | 0, out => out
  | k + 1, out => T7 es (A7 es k out)
theorem jk (out : List Bool) (e : Nat × Nat) : (B6 out e).length = out.length := by
  unfold B6; split <;> simp
theorem gD (es : List (Nat × Nat)) : ∀ out : List Bool, (T7 es out).length = out.length := by
  induction es with
  | nil => intro out; rfl
  | cons e r ih => intro out; show (T7 r (B6 out e)).length = _; rw [ih, jk]
theorem T8 (es : List (Nat × Nat)) (out : List Bool) : ∀ k, (A7 es k out).length = out.length
  | 0 => rfl
  | k + 1 => by rw [A7, gD, T8 es out k]
theorem lR {out : List Bool} {i : Nat} (h : out[i]? = some true) : out.set i true = out := by
  apply List.ext_getElem?
  intro j
  rw [List.getElem?_set]
  split
  · rename_i e; subst e
    split
    · exact h.symm
    · rename_i hh; rw [List.getElem?_eq_none (by omega)] at h; cases h
  · rfl
theorem dJ : ∀ {out : List Bool} {i : Nat}, out[i]? = some false → (out.set i true).count true = out.count true + 1
  | [], i, h => by simp at h
  | x :: r, 0, h => by simp at h; subst h; simp
  | x :: r, i + 1, h => by
    have := dJ (out := r) (i := i) (by simpa using h)
    simp only [List.set_cons_succ, List.count_cons, this]; omega
theorem lS (out : List Bool) (e : Nat × Nat) (h : e.2 < out.length) : B6 out e = out ∨ (B6 out e).count true = out.count true + 1 := by
  unfold B6
  split
  · rcases hx : out[e.2]? with _ | x
    · rw [List.getElem?_eq_getElem h] at hx; cases hx
    · cases x with
      | true => exact .inl (lR hx)
      | false => exact .inr (dJ hx)
  · exact .inl rfl
theorem kn (es : List (Nat × Nat)) : ∀ out : List Bool, (∀ e ∈ es, e.2 < out.length) → (T7 es out = out ∧ ∀ e ∈ es, out[e.1]? = some true → out[e.2]? = some true) ∨ out.count true + 1 ≤ (T7 es out).count true := by
  induction es with
  | nil => intro out _; exact .inl ⟨rfl, fun e he => by cases he⟩
  | cons e r ih =>
    intro out h
    have h0 := h e (by simp)
    have hr : ∀ e' ∈ r, e'.2 < (B6 out e).length := fun e' he' => by rw [jk]; exact h e' (by simp [he'])
    have hi := ih (B6 out e) hr
    show (T7 r (B6 out e) = out ∧ _) ∨ _ ≤ (T7 r (B6 out e)).count true
    rcases lS out e h0 with e1 | e1
    · rw [e1] at hi ⊢
      rcases hi with ⟨a, b⟩ | hi
      · refine .inl ⟨a, fun e' he' => ?_⟩
        rcases List.mem_cons.mp he' with rfl | he'
        · intro hs
          unfold B6 at e1
          rw [if_pos hs] at e1
          rw [← e1, List.getElem?_set]
          simp [h0]
        · exact b e' he'
      · exact .inr hi
    · right
      rcases hi with ⟨a, b⟩ | hi
      · rw [a, e1]; exact Nat.le_refl _
      · omega
theorem rq : ∀ l : List Bool, l.count true ≤ l.length := fun l => List.count_le_length
def ko (es : List (Nat × Nat)) (out : List Bool) : Prop := ∀ e ∈ es, out[e.1]? = some true → out[e.2]? = some true
theorem iE (es : List (Nat × Nat)) : ∀ out : List Bool, ko es out → T7 es out = out := by
  induction es with
  | nil => intro out _; rfl
  | cons e r ih =>
    intro out h
    have e1 : B6 out e = out := by
      unfold B6
      split
      · rename_i hs; exact lR (h e (by simp) hs)
      · rfl
    show T7 r (B6 out e) = out
    rw [e1]
    exact ih out fun e' he' => h e' (by simp [he'])
theorem cN (es : List (Nat × Nat)) (out : List Bool) (h : ∀ e ∈ es, e.2 < out.length) (h1 : 1 ≤ out.count true) : ∀ k, ko es (A7 es k out) ∨ k + 1 ≤ (A7 es k out).count true
  | 0 => .inr (by simpa [A7] using h1)
  | k + 1 => by
    have hl := T8 es out k
    rcases cN es out h h1 k with hc | hc
    · left; rw [A7, iE es _ hc]; exact hc
    · rcases kn es (A7 es k out) (by rw [hl]; exact h) with ⟨a, b⟩ | a
      · left; rw [A7, a]; exact b
      · right; rw [A7]; omega
theorem nz {out : List Bool} {e : Nat × Nat} {i : Nat} (h : out[i]? = some true) : (B6 out e)[i]? = some true := by
  unfold B6
  split
  · rw [List.getElem?_set]
    split
    · rename_i e; subst e
      have : e.2 < out.length := by
        rcases Nat.lt_or_ge e.2 out.length with hh | hh
        · exact hh
        · rw [List.getElem?_eq_none hh] at h; cases h
      simp [this]
    · exact h
  · exact h
theorem lU (es : List (Nat × Nat)) : ∀ {out : List Bool} {i : Nat}, out[i]? = some true → (T7 es out)[i]? = some true := by
  induction es with
  | nil => intro out i h; exact h
  | cons e r ih => intro out i h; exact ih (nz h)
theorem eM (es : List (Nat × Nat)) {out : List Bool} {i : Nat} (h : out[i]? = some true) : ∀ k, (A7 es k out)[i]? = some true
  | 0 => h
  | k + 1 => lU es (eM es h k)
theorem lV {p : Nat → Prop} {out : List Bool} {e : Nat × Nat} (h : ∀ i : Nat, out[i]? = some true → p i) (he : p e.1 → p e.2) : ∀ i : Nat, (B6 out e)[i]? = some true → p i := by
  intro i hi
  unfold B6 at hi
  split at hi
  · rename_i hs
    rw [List.getElem?_set] at hi
    split at hi
    · rename_i e1; subst e1; exact he (h _ hs)
    · exact h i hi
  · exact h i hi
theorem kp {p : Nat → Prop} (es : List (Nat × Nat)) : ∀ {out : List Bool}, (∀ i : Nat, out[i]? = some true → p i) → (∀ e ∈ es, p e.1 → p e.2) → ∀ i : Nat, (T7 es out)[i]? = some true → p i := by
  induction es with
  | nil => intro out h _; exact h
  | cons e r ih => intro out h he; exact ih (lV h (he e (by simp))) fun e' he' => he e' (by simp [he'])
theorem cO {p : Nat → Prop} (es : List (Nat × Nat)) {out : List Bool} (h : ∀ i : Nat, out[i]? = some true → p i) (he : ∀ e ∈ es, p e.1 → p e.2) : ∀ (k : Nat) (i : Nat), (A7 es k out)[i]? = some true → p i
  | 0 => h
  | k + 1 => kp es (cO es h he k) he
theorem nA {es : List (Nat × Nat)} {n a : Nat} (ha : a < n) (h : ∀ e ∈ es, e.2 < n) : A7 es n ((List.replicate n false).set a true) = O7 es n a := by
  have hl0 : ((List.replicate n false).set a true).length = n := by simp
  have ha0 : ((List.replicate n false).set a true)[a]? = some true := by rw [List.getElem?_set]; simp [ha]
  have hc1 : 1 ≤ ((List.replicate n false).set a true).count true := List.one_le_count_iff.mpr (List.mem_of_getElem? ha0)
  refine oP (by rw [T8, hl0]) ?_ ?_
  · refine cO es (fun i hi => ?_) (fun e he hr => .step hr (by simpa using he)) n
    rw [List.getElem?_set] at hi
    split at hi
    · rename_i e; subst e; exact .refl
    · rw [List.getElem?_replicate] at hi
      split at hi <;> simp at hi
  · intro i hi hr
    have hcl : ko es (A7 es n ((List.replicate n false).set a true)) := by
      rcases cN es _ (by rw [hl0]; exact h) hc1 n with hc | hc
      · exact hc
      · have := rq (A7 es n ((List.replicate n false).set a true))
        rw [T8, hl0] at this; omega
    exact hr.closed (p := fun i => (A7 es n ((List.replicate n false).set a true))[i]? = some true) (eM es ha0 n) hcl
structure Bfs (es : List (Nat × Nat)) (n a : Nat) (seen : List Bool) (todo : List Nat) : Prop where
  len : seen.length = n
  start : a ∈ todo ∨ seen[a]? = some true
  sound : ∀ i : Nat, seen[i]? = some true → Rch es a i
  soundT : ∀ i ∈ todo, Rch es a i
  closed : ∀ e ∈ es, seen[e.1]? = some true → e.2 ∈ todo ∨ seen[e.2]? = some true
theorem Bfs.init {es : List (Nat × Nat)} {n a : Nat} : Bfs es n a (List.replicate n false) [a] where
  len := by simp
  start := .inl (by simp)
  sound := fun i hi => by rw [List.getElem?_replicate] at hi; split at hi <;> simp at hi
  soundT := fun i hi => by simp at hi; subst hi; exact .refl
  closed := fun e _ hi => by rw [List.getElem?_replicate] at hi; split at hi <;> simp at hi
theorem Bfs.skip {es : List (Nat × Nat)} {n a x : Nat} {seen : List Bool} {todo : List Nat} (h : Bfs es n a seen (x :: todo)) (hx : seen[x]? = some true) : Bfs es n a seen todo where
  len := h.len
  start := by
    rcases h.start with h1 | h1
    · rcases List.mem_cons.mp h1 with rfl | h1
      · exact .inr hx
      · exact .inl h1
    · exact .inr h1
  sound := h.sound
  soundT := fun i hi => h.soundT i (by simp [hi])
  closed := fun e he hs => by
    rcases h.closed e he hs with h1 | h1
    · rcases List.mem_cons.mp h1 with h2 | h1
      · exact .inr (h2 ▸ hx)
      · exact .inl h1
    · exact .inr h1
def bd (es : List (Nat × Nat)) (x : Nat) : List Nat := (es.filter fun e => e.1 == x).map (·.2)
theorem Bfs.visit {es : List (Nat × Nat)} {n a x : Nat} {seen : List Bool} {todo : List Nat} (h : Bfs es n a seen (x :: todo)) (hx : x < n) : Bfs es n a (seen.set x true) (todo ++ bd es x) where
  len := by simp [h.len]
  start := by
    have hxx : (seen.set x true)[x]? = some true := by rw [List.getElem?_set]; simp [h.len, hx]
    rcases h.start with h1 | h1
    · rcases List.mem_cons.mp h1 with rfl | h1
      · exact .inr hxx
      · exact .inl (by simp [h1])
    · right
      rw [List.getElem?_set]
      split
      · simp [h.len, hx]
      · exact h1
  sound := fun i hi => by
    rw [List.getElem?_set] at hi
    split at hi
    · rename_i e; subst e; exact h.soundT _ (by simp)
    · exact h.sound i hi
  soundT := fun i hi => by
    rcases List.mem_append.mp hi with hi | hi
    · exact h.soundT i (by simp [hi])
    · simp only [bd, List.mem_map, List.mem_filter] at hi
      obtain ⟨⟨b, c⟩, ⟨h1, h2⟩, rfl⟩ := hi
      simp at h2; subst h2
      exact .step (h.soundT _ (by simp)) h1
  closed := fun e he hs => by
    have hxx : (seen.set x true)[x]? = some true := by rw [List.getElem?_set]; simp [h.len, hx]
    by_cases hex : e.1 = x
    · left
      rw [List.mem_append]; right
      simp only [bd, List.mem_map, List.mem_filter]
      exact ⟨e, ⟨he, by simp [hex]⟩, rfl⟩
    · rw [List.getElem?_set, if_neg (fun h => hex h.symm)] at hs
      rcases h.closed e he hs with h1 | h1
      · rcases List.mem_cons.mp h1 with h2 | h1
        · right; rw [h2]; exact hxx
        · left; simp [h1]
      · right
        rw [List.getElem?_set]
        split
        · simp [h.len, hx]
        · exact h1
theorem Bfs.done {es : List (Nat × Nat)} {n a : Nat} {seen : List Bool} (h : Bfs es n a seen []) : seen = O7 es n a := by
  refine oP h.len h.sound fun i _ hr => ?_
  refine hr.closed (p := fun i => seen[i]? = some true) ?_ fun e he hs => ?_
  · rcases h.start with h1 | h1
    · cases h1
    · exact h1
  · rcases h.closed e he hs with h1 | h1
    · cases h1
    · exact h1
def iF (es : List (Nat × Nat)) (seen : List Bool) (todo : List Nat) : Nat := (seen.length - seen.count true) * (es.length + 1) + todo.length
theorem jm (es : List (Nat × Nat)) (seen : List Bool) (x : Nat) (todo : List Nat) : iF es seen todo < iF es seen (x :: todo) := by simp [iF]
theorem jn (es : List (Nat × Nat)) (x : Nat) : (bd es x).length ≤ es.length := by simp [bd, List.length_filter_le]
theorem nB {es : List (Nat × Nat)} {seen : List Bool} {x : Nat} {todo : List Nat} (hx : seen[x]? = some false) : iF es (seen.set x true) (todo ++ bd es x) < iF es seen (x :: todo) := by
  have h1 := dJ hx
  have h2 := jn es x
  have h3 : (seen.set x true).count true ≤ (seen.set x true).length := List.count_le_length
  unfold iF
  rw [h1, List.length_set, List.length_append, List.length_cons]
  rw [h1, List.length_set] at h3
  have : seen.length - seen.count true = (seen.length - (seen.count true + 1)) + 1 := by omega
  rw [this, Nat.succ_mul]
  omega
end
end Go.Proofs.YtjpphhcimpclpaaGreatDoor.AM
