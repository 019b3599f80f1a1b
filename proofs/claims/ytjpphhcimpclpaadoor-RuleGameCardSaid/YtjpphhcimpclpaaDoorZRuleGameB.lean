/- Proved here, in parts, for one law: The abstract machine, part L: code, and functions. The abstract machine, part M: what is handed back lasts; calls. The abstract machine, part P: loops, and states that are told as lists. The abstract machine, part Q: guarded operations without a fork. The abstract machine, part U: the rules of a step, as one. Facts of the translation: its types and functions, as the abstract machine asks for them. Printed by tables.py, a program of this work. Terms, as trees. Contracts of the functions of layer 4 (eval), first part: numbers. Contracts of the functions of the document's answer for terms. Contracts: IndexFunc, ContainsFunc over terms; how deep terms lie. Contracts: how deep terms lie. Contracts: terms that are shaped rightly, and their types. Contracts: types of terms. Contracts: terms that stand in a process. The abstract machine, part R: what is told of empty slices holds of nil ones. Contracts: rule 1 of a node. Rules and tokens: what is reckoned, in plain words; arrays of 40 numbers as cells. Contracts: lists of flows. Contracts: the flows that lead to a node. Contracts: tokens less those of a list; whether there are enough. Contracts: the document's flows that lead to a node, and from it. Contracts: the program's flows that lead to a node, and from it. Contracts: the first node of a kind. Plain: what is led to, round by round and breadth first. Contracts: rule 2 of a flow (both). Contracts: the document's rule 3 of a node. Contracts: what is led to, round by round. Conditions: none. -/
import Derived.Test.YtjpphhcimpclpaaDoorZRuleGameA
import Derived.Test.YtjpphhcimpclpaaDoorProg
import Derived.KernelRfl
import Derived.IntWalk

section
set_option linter.unusedVariables false
set_option linter.unusedSimpArgs false
namespace Go.Proofs.YtjpphhcimpclpaaDoor.AM
open Go

theorem wp_loop_n {P : Program} {Q : Exit → Act → World → Prop} {c : Code} (I : Nat → Act → World → Prop)
    (round : ∀ n a w, I n a w → c.wp P (Exit.then (fun a' w' => ∃ m, m < n ∧ I m a' w') Q) a w) (n : Nat) (a : Act) (w : World) (h₀ : I n a w) : (Code.loop c).wp P Q a w := by
  intro b k cs
  have key : ∀ n a w, I n a w →
      ∃ e a' w', Q e a' w' ∧ Arrives P (lone (b.at a (.code c :: .inLoop c :: k)) cs w) b k cs e a' w' := by
    intro n
    induction n using Nat.strongRecOn with
    | _ n ih =>
      intro a w hI
      obtain ⟨e, a₁, w₁, hq, harr⟩ := round n a w hI b (.inLoop c :: k) cs
      cases e with
      | normal =>
        obtain ⟨m, hlt, hI₁⟩ := hq
        obtain ⟨e₂, a₂, w₂, hq₂, harr₂⟩ := ih m hlt a₁ w₁ hI₁
        exact ⟨e₂, a₂, w₂, hq₂, .of_steps (Steps.trans harr (.one step_inLoop)) harr₂⟩
      | exit id => exact ⟨_, a₁, w₁, hq, .pass (x := .inLoop c) rfl (fun _ _ => .inl (by simp)) harr⟩
      | goto l => exact ⟨_, a₁, w₁, hq, .pass (x := .inLoop c) rfl (fun _ _ => .inl (by simp)) harr⟩
      | ret => exact ⟨_, a₁, w₁, hq, .pass (x := .inLoop c) rfl (fun _ _ => .inl (by simp)) harr⟩
      | panic ch => exact ⟨_, a₁, w₁, hq, .pass (x := .inLoop c) rfl (fun _ _ => .inl (by simp)) harr⟩
      | outgrown => exact ⟨_, a₁, w₁, hq, .pass (x := .inLoop c) rfl (fun _ _ => .inl (by simp)) harr⟩
  obtain ⟨e, a', w', hq, harr⟩ := key n a w h₀
  exact ⟨e, a', w', hq, .of_steps (.one step_loop) harr⟩

section
variable {P : Program} {G : Nat → Option (List PV)} {rl : List String} {ι ι' ι0 : Nat → Nat × Nat} {h h' h0 : Heap} {w w' w0 : World} {n0 : Nat} {s : St} {a : Act}

def Lift (P : Program) (G : Nat → Option (List PV)) (ι0 : Nat → Nat × Nat) (h0 : Heap) (w0 : World) (Q : Exit → St → Prop) : Exit → Act → World → Prop :=
  fun e a w => ∃ s ι, Q e s ∧ Sim P G ι s a w ∧ Evo h0.length ι0 h0 w0 ι s.heap w

theorem awp_sound (hm : P.follows .mixedOrders = true) (hS0 : SimH P G ι0 h0 w0) : ∀ (c : Code) (Q : Exit → St → Prop) (s : St) (ι : Nat → Nat × Nat) (a : Act) (w : World), Sim P G ι s a w → Evo h0.length ι0 h0 w0 ι s.heap w →
    awp P G rl h0 c Q s → c.wp P (Lift P G ι0 h0 w0 Q) a w := by
  intro c
  induction c with
  | skip => intro Q s ι a w hs he h; exact wp_skip ⟨s, ι, h, hs, he⟩
  | label l => intro Q s ι a w hs he h; exact wp_label ⟨s, ι, h, hs, he⟩
  | region id ops draw =>
    intro Q s ι a w hs he h
    unfold awp at h
    split at h
    · rename_i hd; subst hd
      rcases h with h | h | ⟨s1, base, r, ord, fs, hg, hl, hB, hi, hr⟩
      · exact draw_sound hm (fun s' ι' a' w' hq hs' he' => ⟨s', ι', hq, hs', he'⟩) hs he h.1 h.2
      · exact drawE_sound hm (fun s' ι' a' w' hq hs' he' => ⟨s', ι', hq, hs', he'⟩) hs he h.1 h.2
      · obtain ⟨ι1, hs1, he1⟩ := hg ι a w ι0 w0 hS0 hs he
        exact drawR_sound hm (fun s' ι' a' w' hq hs' he' => ⟨s', ι', hq, hs', he'⟩) hs1 he1 hl hB hi hr
    · rename_i hd
      have : draw = false := by simpa using hd
      subst this
      exact wp_region_list (aops_sound (fun s' ι' a' w' hq hs' he' => ⟨s', ι', hq, hs', he'⟩) ops.toList s ι a w hs he h)
  | seq x y ihx ihy =>
    intro Q s ι a w hs he ⟨J, h, hJ⟩
    refine wp_seq (wp_mono (ihx _ s ι a w hs he h) fun e a' w' ⟨s', ι', hq, hs', he'⟩ => ?_)
    cases e with
    | normal =>
      obtain ⟨s1, hg, hj⟩ := hq
      obtain ⟨ι1, hs1, he1⟩ := hg ι' a' w' ι0 w0 hS0 hs' he'
      exact ihy Q s1 ι1 a' w' hs1 he1 (hJ s1 hj)
    | _ => exact ⟨s', ι', hq, hs', he'⟩
  | cond c x y ihx ihy =>
    intro Q s ι a w hs he h
    unfold awp condA at h
    split at h
    · rename_i t ht
      have := (hs.eval ht).bool_inv
      refine wp_cond_split this (fun e => ihx Q s ι a w hs he (h.1 e)) (fun e => ihy Q s ι a w hs he (h.2 e))
    · exact h.elim
  | block id c ih =>
    intro Q s ι a w hs he h
    refine wp_block (wp_mono (ih _ s ι a w hs he h) fun e a' w' ⟨s', ι', hq, hs', he'⟩ => ?_)
    cases e with
    | exit i =>
      simp only [Exit.inBlock]
      simp only [blockA] at hq
      split
      · rename_i hi; simp only [hi, if_true] at hq; exact ⟨s', ι', hq, hs', he'⟩
      · rename_i hi; simp only [hi, if_false] at hq; exact ⟨s', ι', hq, hs', he'⟩
    | _ => exact ⟨s', ι', hq, hs', he'⟩
  | loop c ih =>
    intro Q s ι a w hs he ⟨I, ⟨n, s1, hg, hn⟩, hr⟩
    obtain ⟨ι1, hs1, he1⟩ := hg ι a w ι0 w0 hS0 hs he
    refine wp_loop_n (fun n a w => ∃ s ι, I n s ∧ Sim P G ι s a w ∧ Evo h0.length ι0 h0 w0 ι s.heap w) (fun n a w ⟨s, ι, hi, hs, he⟩ => ?_) n a w ⟨s1, ι1, hn, hs1, he1⟩
    refine wp_mono (ih _ s ι a w hs he (hr n s hi)) fun e a' w' ⟨s', ι', hq, hs', he'⟩ => ?_
    cases e with
    | normal =>
      obtain ⟨m, s2, hlt, hg2, hm⟩ := hq
      obtain ⟨ι2, hs2, he2⟩ := hg2 ι' a' w' ι0 w0 hS0 hs' he'
      exact ⟨m, hlt, s2, ι2, hm, hs2, he2⟩
    | _ => exact ⟨s', ι', hq, hs', he'⟩
  | exit id => intro Q s ι a w hs he h; exact wp_exit ⟨s, ι, h, hs, he⟩
  | ret => intro Q s ι a w hs he h; exact wp_ret ⟨s, ι, h, hs, he⟩
  | _ => intros; contradiction

/-! ### What a function hands back -/

def resA1 (P : Program) (s : St) : ResultVar → Option AV
  | .tmp t => s.fr t
  | .cell a t => (s.fr a).bind fun x => loadA P s.heap t x

def resL (P : Program) (s : St) : List ResultVar → Option (List AV)
  | [] => some []
  | r :: rest => match resA1 P s r, resL P s rest with
    | some x, some xs => some (x :: xs)
    | _, _ => none

def resA (P : Program) (s : St) (rs : List ResultVar) : Option AV :=
  match resL P s rs with
  | some [x] => some x
  | some xs => some (.tup xs)
  | none => none

def resSem (tmps : Array Value) : ResultVar → Sem Value
  | .tmp t => Pure.pure (tmps.getD t undef)
  | .cell a t => do loadVar t (← asAddr (tmps.getD a undef))

theorem results_eq (fn : Func) (tmps : Array Value) : results fn tmps = (do let vs ← fn.results.mapM (resSem tmps); Pure.pure (if h : vs.size = 1 then vs[0] else .tuple vs)) := by
  unfold results
  congr 1

theorem resA1_sound (hs : Sim P G ι s a w) {r : ResultVar} {x : AV} (hx : resA1 P s r = some x) :
    ∃ v, (resSem a.tmps r).run P w = .ok v w ∧ VRel ι s.heap w x v := by
  cases r with
  | tmp t =>
    obtain ⟨v, h1, h2⟩ := hs.fr t x hx
    exact ⟨v, by simp [resSem, h1], h2⟩
  | cell b t =>
    obtain ⟨y, hy, hl⟩ := Option.bind_eq_some_iff.mp hx
    obtain ⟨v, h1, h2⟩ := hs.fr b y hy
    obtain ⟨u, e1, e2⟩ := load_sound (P := P) hs.hS h2 hl
    refine ⟨u, ?_, e2⟩
    have hv : a.tmps.getD b undef = v := by simp [h1]
    simp only [resSem, hv, Sem.run_bind]
    unfold loadA at hl
    cases h2 with
    | ptr b g off A hb hg hlv =>
      split at hl
      · rename_i i b' g' off' ht hq
        cases hq
        obtain ⟨cells, hb', _⟩ := Option.bind_eq_some_iff.mp hl
        have := hlv (blkAt_live hb')
        subst this
        simpa [Instr.loadAt, Instr.sureAddr, asAddr] using e1
      · rename_i hq; cases hq
      · cases hl
    | pin cells blk off hv => simpa [Instr.loadAt, Instr.sureAddr, asAddr] using e1
    | p => simp at hl
    | agg => simp at hl
    | tup => simp at hl
    | fn => simp at hl
    | ref => simp at hl

theorem resL_sound (hs : Sim P G ι s a w) : ∀ (rs : List ResultVar) (xs : List AV), resL P s rs = some xs →
    ∃ vs : List Value, (rs.mapM (resSem a.tmps)).run P w = .ok vs w ∧ xs.length = vs.length ∧
      ∀ (i : Nat) x v, xs[i]? = some x → vs[i]? = some v → VRel ι s.heap w x v
  | [], xs, h => by cases h; exact ⟨[], rfl, rfl, fun i x v hx => by simp at hx⟩
  | r :: rest, xs, h => by
    simp only [resL] at h
    split at h
    · rename_i x xs' h1 h2
      cases h
      obtain ⟨v, e1, e2⟩ := resA1_sound hs h1
      obtain ⟨vs, p1, p2, p3⟩ := resL_sound hs rest xs' h2
      refine ⟨v :: vs, ?_, by simp [p2], fun i y u hy hu => ?_⟩
      · simp only [List.mapM_cons, Sem.run_bind]
        rw [e1]
        simp only [Result.andThen_ok]
        rw [p1]
        rfl
      · cases i with
        | zero => simp at hy hu; rw [← hy, ← hu]; exact e2
        | succ i => simp at hy hu; exact p3 i y u hy hu
    · cases h

theorem resA_sound (hs : Sim P G ι s a w) {fn : Func} {x : AV} (hx : resA P s fn.results.toList = some x) : ∃ v, (results fn a.tmps).run P w = .ok v w ∧ VRel ι s.heap w x v := by
  unfold resA at hx
  cases hl : resL P s fn.results.toList with
  | none => simp [hl] at hx
  | some xs =>
    obtain ⟨vs, p1, p2, p3⟩ := resL_sound hs _ xs hl
    have hrun : (results fn a.tmps).run P w = .ok (if h : vs.toArray.size = 1 then vs.toArray[0] else .tuple vs.toArray) w := by
      rw [results_eq, Array.mapM_eq_mapM_toList]
      simp only [Sem.run_bind, Sem.run_map]
      rw [p1]
      rfl
    refine ⟨_, hrun, ?_⟩
    simp only [hl] at hx
    split at hx
    · rename_i y hy
      cases hx
      cases hy
      have h1 : vs.length = 1 := by simpa using p2.symm
      simp only [List.size_toArray, h1, dite_true]
      exact p3 0 x _ rfl (by simp [h1])
    · rename_i xs' hne hy
      cases hy
      cases hx
      have h1 : ¬ vs.length = 1 := by
        intro e
        have : xs.length = 1 := by omega
        obtain ⟨y, hy⟩ := List.length_eq_one_iff.mp this
        exact hne y (by rw [hy])
      simp only [List.size_toArray, h1, dite_false]
      exact .tup _ _ (by simpa using p2) fun i x v hx hv => p3 i x v hx (by simpa using hv)
    · rename_i hq; cases hq

end
end Go.Proofs.YtjpphhcimpclpaaDoor.AM
end

section
set_option linter.unusedVariables false
set_option linter.unusedSimpArgs false
namespace Go.Proofs.YtjpphhcimpclpaaDoor.AM
open Go

mutual
/-- A value that lasts, out of blocks from number n on (which nobody will write any more). -/
def pur (h : Heap) (n : Nat) : Nat → AV → Option PV
  | _, .p .nils => some (.sl [])
  | _, .p x => some x
  | fuel + 1, .ref b g off sz len =>
    if len = 0 then some (.sl []) else
    match blkAt h b g with
    | some cells => if n ≤ b ∧ off + len * sz ≤ cells.length then (purs h n fuel ((cells.drop off).take (len * sz))).map fun l => .sl (chunk sz len l) else none
    | none => none
  | _, _ => none
def purs (h : Heap) (n : Nat) : Nat → List AV → Option (List PV)
  | _, [] => some []
  | fuel, x :: r => match pur h n fuel x, purs h n fuel r with
    | some y, some ys => some (y :: ys)
    | _, _ => none
end

def lastA (h : Heap) (n : Nat) : AV → Option AV
  | .agg cells => (purs h n 5 cells).map fun l => .agg (l.map .p)
  | .ptr b g off => if b < n then some (.ptr b g off) else none
  | x => (pur h n 5 x).map .p

def lastAs (h : Heap) (n : Nat) : List AV → Option (List AV)
  | [] => some []
  | x :: r => match lastA h n x, lastAs h n r with
    | some y, some ys => some (y :: ys)
    | _, _ => none

def lastV (h : Heap) (n : Nat) : AV → Option AV
  | .tup vs => (lastAs h n vs).map .tup
  | x => lastA h n x

/-- Known by whoever knows the first n blocks. -/
inductive AVlt (n : Nat) : AV → Prop where
  | p (x : PV) : AVlt n (.p x)
  | agg (cells : List AV) (h : ∀ x ∈ cells, AVlt n x) : AVlt n (.agg cells)
  | tup (cells : List AV) (h : ∀ x ∈ cells, AVlt n x) : AVlt n (.tup cells)
  | fn (f : FuncId) (cells : List AV) (h : ∀ x ∈ cells, AVlt n x) : AVlt n (.fn f cells)
  | ref (b g off sz len : Nat) (h : b < n) : AVlt n (.ref b g off sz len)
  | ptr (b g off : Nat) (h : b < n) : AVlt n (.ptr b g off)
  | pin (cells : List PV) : AVlt n (.pin cells)

section
variable {P : Program} {G : Nat → Option (List PV)} {rl : List String} {ι ι' ι0 : Nat → Nat × Nat} {h h' h0 h1 : Heap} {w w' w0 : World} {n n0 : Nat} {s : St} {a : Act}

theorem take_get {α : Type} {l : List α} {n b : Nat} {x : α} (hx : (l.take n)[b]? = some x) : b < n ∧ l[b]? = some x := by
  rw [List.getElem?_take] at hx
  split at hx
  · exact ⟨by assumption, hx⟩
  · cases hx

theorem own_take {k : Nat} (ho : own ι (h.take n) k) : own ι h k := by
  obtain ⟨b, bk, h1, h2, h3⟩ := ho
  exact ⟨b, bk, (take_get h1).2, h2, h3⟩

theorem VRel.lt {x : AV} {v : Value} (hx : VRel ι h w x v) : AVlt h.length x := by
  induction hx with
  | p x v hx => exact .p x
  | agg cells vs hl hv ih =>
    refine .agg _ fun x hx => ?_
    obtain ⟨i, hi, rfl⟩ := List.getElem_of_mem hx
    exact ih i cells[i] (vs[i]'(by omega)) (by simp) (by simp)
  | tup cells vs hl hv ih =>
    refine .tup _ fun x hx => ?_
    obtain ⟨i, hi, rfl⟩ := List.getElem_of_mem hx
    exact ih i cells[i] (vs[i]'(by omega)) (by simp) (by simp)
  | fn f cells vs hl hv ih =>
    refine .fn _ _ fun x hx => ?_
    obtain ⟨i, hi, rfl⟩ := List.getElem_of_mem hx
    exact ih i cells[i] (vs[i]'(by omega)) (by simp) (by simp)
  | ref b g off sz len A c hn hb hg hv => exact .ref _ _ _ _ _ hb
  | ptr b g off A hb hg hv => exact .ptr _ _ _ hb
  | pin cells blk off hv => exact .pin _

theorem VRel.take {x : AV} {v : Value} (hx : VRel ι h w x v) (hn : n ≤ h.length) (hl : AVlt n x) : VRel ι (h.take n) w x v := by
  have hlen : (h.take n).length = n := by simp; omega
  induction hx with
  | p x v hx => exact .p _ _ (hx.mono (Nat.le_refl _) fun k _ ho => ⟨rfl, fun e => ho (own_take e)⟩)
  | agg cells vs hl' hv ih => cases hl with | agg _ hc => exact .agg _ _ hl' fun i x v hx hv' => ih i x v hx hv' (hc x (List.mem_of_getElem? hx))
  | tup cells vs hl' hv ih => cases hl with | tup _ hc => exact .tup _ _ hl' fun i x v hx hv' => ih i x v hx hv' (hc x (List.mem_of_getElem? hx))
  | fn f cells vs hl' hv ih => cases hl with | fn _ _ hc => exact .fn _ _ _ hl' fun i x v hx hv' => ih i x v hx hv' (hc x (List.mem_of_getElem? hx))
  | ref b g off sz len A c hn' hb hg hv =>
    cases hl with
    | ref _ _ _ _ _ hb' =>
      refine .ref _ _ _ _ _ _ _ hn' (by omega) (fun bk hq => hg bk (take_get hq).2) fun ⟨bk, hq, e⟩ => ?_
      rcases hv ⟨bk, (take_get hq).2, e⟩ with hz | ⟨hA, hle, ⟨bk0, q0, hne⟩, hcs⟩
      · exact .inl hz
      · exact .inr ⟨hA, hle, ⟨bk0, by rw [List.getElem?_take, if_pos hb']; exact q0, hne⟩, hcs⟩
  | ptr b g off A hb hg hv =>
    cases hl with
    | ptr _ _ _ hb' => exact .ptr _ _ _ _ (by omega) (fun bk hq => hg bk (take_get hq).2) fun ⟨bk, hq, e⟩ => hv ⟨bk, (take_get hq).2, e⟩
  | pin cells blk off hv => exact .pin _ _ _ (hv.mono (Nat.le_refl _) fun k _ ho => ⟨rfl, fun e => ho (own_take e)⟩)

/-- Blocks from n on are let go. -/
theorem SimH.take (hS : SimH P G ι h w) (hn : n ≤ h.length) (hlt : ∀ (b : Nat) (bk : Blk), (h.take n)[b]? = some (some bk) → ∀ x ∈ bk.cells, AVlt n x) : SimH P G ι (h.take n) w := by
  refine ⟨⟨fun b bk hb hne => ?_, fun b b' bk bk' q1 q2 n1 n2 e => hS.hr.inj b b' bk bk' (take_get q1).2 (take_get q2).2 n1 n2 e⟩, fun g cells hg => (hS.gr g cells hg).mono (Nat.le_refl _) fun k _ ho => ⟨rfl, fun e => ho (own_take e)⟩⟩
  obtain ⟨c, ty, hc, hl, hv⟩ := hS.hr.blk b bk (take_get hb).2 hne
  refine ⟨c, ty, hc, hl, fun j x hx => ?_⟩
  obtain ⟨v, p1, p2⟩ := hv j x hx
  exact ⟨v, p1, p2.take hn (hlt b bk hb x (List.mem_of_getElem? hx))⟩

theorem Evo.take (he : Evo n ι0 h0 w0 ι h w) (hn : n ≤ n0) : Evo n ι0 h0 w0 ι (h.take n0) w where
  size := he.size
  keep := fun k hk ho => ⟨(he.keep k hk ho).1, fun e => (he.keep k hk ho).2 (own_take e)⟩
  len := by have := he.len; simp; omega
  gens := fun b bk' hb hq => he.gens b bk' hb (take_get hq).2
  os := he.os
  output := he.output
  tape := he.tape

theorem pur_step {fuel : Nat} {x : AV} {y : PV} (hx : pur h n fuel x = some y) : (∃ z, x = .p z ∧ (z = .nils ∧ y = .sl [] ∨ y = z)) ∨
    ∃ b g off sz len fuel', x = .ref b g off sz len ∧ fuel = fuel' + 1 ∧ ((len = 0 ∧ y = .sl []) ∨ ∃ cells l, len ≠ 0 ∧ blkAt h b g = some cells ∧ n ≤ b ∧ off + len * sz ≤ cells.length ∧ purs h n fuel' ((cells.drop off).take (len * sz)) = some l ∧ y = .sl (chunk sz len l)) := by
  cases x with
  | p z => 
    cases z <;> cases fuel <;> simp only [pur, Option.some.injEq] at hx <;> subst hx <;> exact .inl ⟨_, rfl, by simp⟩
  | ref b g off sz len =>
    cases fuel with
    | zero => simp [pur] at hx
    | succ fuel =>
      simp only [pur] at hx
      refine .inr ⟨b, g, off, sz, len, fuel, rfl, rfl, ?_⟩
      split at hx
      · rename_i hz; cases hx; exact .inl ⟨hz, rfl⟩
      · rename_i hz
        split at hx
        · rename_i cells hb
          split at hx
          · rename_i hc
            obtain ⟨l, hl, rfl⟩ := Option.map_eq_some_iff.mp hx
            exact .inr ⟨cells, l, hz, hb, hc.1, hc.2, hl, rfl⟩
          · cases hx
        · cases hx
  | agg => cases fuel <;> simp [pur] at hx
  | ptr => cases fuel <;> simp [pur] at hx
  | pin => cases fuel <;> simp [pur] at hx
  | fn => cases fuel <;> simp [pur] at hx
  | tup => cases fuel <;> simp [pur] at hx

theorem purs_get : ∀ {fuel : Nat} {l : List AV} {ys : List PV}, purs h n fuel l = some ys → ys.length = l.length ∧ ∀ (i : Nat) x y, l[i]? = some x → ys[i]? = some y → pur h n fuel x = some y
  | fuel, [], ys, hq => by simp only [purs, Option.some.injEq] at hq; subst hq; simp
  | fuel, x :: r, ys, hq => by
    simp only [purs] at hq
    split at hq
    · rename_i y ys' h1 h2
      cases hq
      obtain ⟨l1, l2⟩ := purs_get h2
      refine ⟨by simp [l1], fun i u v hu hv => ?_⟩
      cases i with
      | zero => simp at hu hv; rw [← hu, ← hv]; exact h1
      | succ i => simp at hu hv; exact l2 i u v hu hv
    · cases hq

theorem pur_sound (hS : SimH P G ι h w) : ∀ (fuel : Nat) (x : AV) (y : PV) (v : Value), pur h n fuel x = some y → VRel ι h w x v → PRel w (own ι (h.take n)) y v := by
  intro fuel
  induction fuel with
  | zero =>
    intro x y v hp hx
    rcases pur_step hp with ⟨z, rfl, ⟨rfl, rfl⟩ | rfl⟩ | ⟨b, g, off, sz, len, fuel', _, hf, _⟩
    · have := hx.nils_inv; subst this; exact .slz _ _
    · exact hx.pv.mono (Nat.le_refl _) fun k _ ho => ⟨rfl, fun e => ho (own_take e)⟩
    · omega
  | succ fuel ih =>
    intro x y v hp hx
    rcases pur_step hp with ⟨z, rfl, ⟨rfl, rfl⟩ | rfl⟩ | ⟨b, g, off, sz, len, fuel', rfl, hf, ⟨rfl, rfl⟩ | ⟨cells, l, hz, hb, hnb, hle, hl, rfl⟩⟩
    · have := hx.nils_inv; subst this; exact .slz _ _
    · exact hx.pv.mono (Nat.le_refl _) fun k _ ho => ⟨rfl, fun e => ho (own_take e)⟩
    · cases hx with
      | ref _ _ _ _ _ A c hn' hb hg hv => exact .slz _ _
    · have : fuel' = fuel := by omega
      subst this
      obtain ⟨A, c, rfl, hn', hcase⟩ := hx.ref_inv (blkAt_live hb)
      rcases hcase with ⟨h0, _⟩ | ⟨rfl, hlc, ⟨bk, hbk, hne⟩, cs, ty, fr, hcs, hcap⟩
      · exact absurd h0 hz
      · obtain ⟨l1, l2⟩ := purs_get hl
        have hbk' := blkAt_some hb
        rw [hbk'] at hbk; cases hbk
        refine prel_chunk l sz len c _ _ (by rw [l1, List.length_take, List.length_drop]; omega) hlc hn' ?_ (lt_of_heap hcs) fun j y hy => ?_
        · rintro ⟨b', bk', q1, q2, q3⟩
          obtain ⟨q4, q5⟩ := take_get q1
          have := hS.hr.inj b' b bk' _ q5 hbk' q2 hne q3
          omega
        · have hj := getElem?_lt hy
          have hj' : j < ((cells.drop off).take (len * sz)).length := by omega
          obtain ⟨u, hu1, hu2⟩ := ((place_of_blk hS hb).drop off) j _ (by
            have h1 : ((cells.drop off).take (len * sz))[j]? = some (((cells.drop off).take (len * sz))[j]) := List.getElem?_eq_getElem hj'
            rw [List.getElem?_take] at h1
            split at h1
            · exact h1
            · cases h1)
          exact ⟨u, hu1, ih _ y u (l2 j _ y (List.getElem?_eq_getElem hj') hy) hu2⟩

theorem lastA_sound (hS : SimH P G ι h w) (hn : n ≤ h.length) {x y : AV} {v : Value} (hp : lastA h n x = some y) (hx : VRel ι h w x v) : VRel ι (h.take n) w y v := by
  unfold lastA at hp
  split at hp
  · rename_i cells
    obtain ⟨l, hl, rfl⟩ := Option.map_eq_some_iff.mp hp
    obtain ⟨l1, l2⟩ := purs_get hl
    obtain ⟨vs, rfl, e1, e2⟩ := hx.agg_inv
    refine .agg _ _ (by simp; omega) fun i x v hx hv => ?_
    simp only [List.getElem?_map, Option.map_eq_some_iff] at hx
    obtain ⟨z, hz, rfl⟩ := hx
    have hi : i < cells.length := by have := getElem?_lt hz; omega
    exact .p _ _ (pur_sound hS 5 _ z v (l2 i cells[i] z (List.getElem?_eq_getElem hi) hz) (e2 i cells[i] v (List.getElem?_eq_getElem hi) hv))
  · rename_i b g off
    split at hp
    · rename_i hb
      cases hp
      exact hx.take hn (.ptr _ _ _ hb)
    · cases hp
  · obtain ⟨z, hz, rfl⟩ := Option.map_eq_some_iff.mp hp
    exact .p _ _ (pur_sound hS 5 _ z v hz hx)

theorem lastAs_get : ∀ {l : List AV} {ys : List AV}, lastAs h n l = some ys → ys.length = l.length ∧ ∀ (i : Nat) x y, l[i]? = some x → ys[i]? = some y → lastA h n x = some y
  | [], ys, hq => by cases hq; simp
  | x :: r, ys, hq => by
    simp only [lastAs] at hq
    split at hq
    · rename_i y ys' h1 h2
      cases hq
      obtain ⟨l1, l2⟩ := lastAs_get h2
      refine ⟨by simp [l1], fun i u v hu hv => ?_⟩
      cases i with
      | zero => simp at hu hv; rw [← hu, ← hv]; exact h1
      | succ i => simp at hu hv; exact l2 i u v hu hv
    · cases hq

theorem lastV_sound (hS : SimH P G ι h w) (hn : n ≤ h.length) {x y : AV} {v : Value} (hp : lastV h n x = some y) (hx : VRel ι h w x v) : VRel ι (h.take n) w y v := by
  unfold lastV at hp
  split at hp
  · rename_i cells
    obtain ⟨l, hl, rfl⟩ := Option.map_eq_some_iff.mp hp
    obtain ⟨l1, l2⟩ := lastAs_get hl
    cases hx with
    | tup _ vs e1 e2 =>
      refine .tup _ _ (by omega) fun i x v hx hv => ?_
      have hi : i < cells.length := by have := getElem?_lt hx; omega
      exact lastA_sound hS hn (l2 i cells[i] x (List.getElem?_eq_getElem hi) hx) (e2 i cells[i] v (List.getElem?_eq_getElem hi) hv)
  · exact lastA_sound hS hn hp hx

/-- The state in which a function begins. -/
def entry (args : List AV) (nt : Nat) (h : Heap) : St := ⟨fun k => args[k]?, nt, h⟩

/-- What is asked of the end of a function: the first n blocks are kept. -/
def Fin (P : Program) (rs : List ResultVar) (n : Nat) (h : Heap) (K : AV → Heap → Prop) (s : St) : Prop :=
  h.length ≤ n ∧ n ≤ s.heap.length ∧ ∃ r r', resA P s rs = some r ∧ lastV s.heap n r = some r' ∧
    (∀ (b : Nat) (bk : Blk), (s.heap.take n)[b]? = some (some bk) → h[b]? = some (some bk) ∨ ∀ x ∈ bk.cells, AVlt n x) ∧ K r' (s.heap.take n)

theorem AVlt.mono {x : AV} {m : Nat} (hx : AVlt n x) (hm : n ≤ m) : AVlt m x := by
  induction hx with
  | p x => exact .p x
  | agg cells h ih => exact .agg _ ih
  | tup cells h ih => exact .tup _ ih
  | fn f cells h ih => exact .fn _ _ ih
  | ref b g off sz len h => exact .ref _ _ _ _ _ (by omega)
  | ptr b g off h => exact .ptr _ _ _ (by omega)
  | pin cells => exact .pin _

theorem heap_lt (hS : SimH P G ι h w) {b : Nat} {bk : Blk} (hb : h[b]? = some (some bk)) : ∀ x ∈ bk.cells, AVlt h.length x := by
  intro x hx
  have hne : bk.cells ≠ [] := List.ne_nil_of_mem hx
  obtain ⟨c, ty, _, _, hv⟩ := hS.hr.blk b bk hb hne
  obtain ⟨i, hi, rfl⟩ := List.getElem_of_mem hx
  obtain ⟨v, _, p2⟩ := hv i _ (List.getElem?_eq_getElem hi)
  exact p2.lt

theorem acalls_intro (hm : P.follows .mixedOrders = true) {f : FuncId} {fn : Func} {c : Code} (hf : P.funcs[f]? = some fn) (hb : fn.body = some c) {args : List AV} {K : AV → Heap → Prop}
    (hnt : args.length ≤ fn.ntmps) (n : Nat)
    (H : awp P G rl h c (fun e s => (e = .normal ∨ e = .ret) ∧ Fin P fn.results.toList n h K s) (entry args fn.ntmps h)) : ACalls P G f args h K := by
  intro ι w vs hS hv
  refine calls_of_wp hf hb ?_
  have hs : Sim P G ι (entry args fn.ntmps h) { tmps := vs ++ Array.replicate (fn.ntmps - vs.size) undef, defers := [] } w := by
    refine ⟨hS, fun k x hx => ?_, ?_, rfl⟩
    · have hk : k < args.length := getElem?_lt hx
      have hk' : k < vs.size := by rw [← hv.1]; exact hk
      exact ⟨vs[k], by rw [Array.getElem?_append_left hk']; simp, hv.2 k x _ hx (by simp)⟩
    · have := hv.1
      simp [entry]; omega
  refine wp_mono (awp_sound hm hS c _ _ ι _ w hs (.refl (Nat.le_refl h.length)) H) fun e a w' ⟨s', ι', ⟨he, hn1, hn2, r, r', hr, hl, hlt, hk⟩, hs', hev⟩ => ?_
  obtain ⟨v, hrun, hrv⟩ := resA_sound hs' hr
  have hpost : a.defers = [] ∧ ∃ v, (results fn a.tmps).run P w' = .ok v w' ∧ ∃ v1 r h' ι', Ending.returned v = .returned v1 ∧ K r h' ∧ SimH P G ι' h' w' ∧ VRel ι' h' w' r v1 ∧ Evo h.length ι h w ι' h' w' := by
    refine ⟨hs'.df, v, hrun, v, r', s'.heap.take n, ι', rfl, hk, hs'.hS.take hn2 (fun b bk hb x hx => ?_), lastV_sound hs'.hS hn2 hl hrv, hev.take hn1⟩
    rcases hlt b bk hb with hq | hq
    · exact (heap_lt hS hq x hx).mono hn1
    · exact hq x hx
  rcases he with rfl | rfl <;> exact hpost

theorem ACalls.mono {f : FuncId} {args : List AV} {K K' : AV → Heap → Prop} (hc : ACalls P G f args h K) (hk : ∀ r h', K r h' → K' r h') : ACalls P G f args h K' :=
  fun ι w vs hS hv => (hc ι w vs hS hv).mono fun e w' ⟨v, r, h', ι', e1, e2, e3⟩ => ⟨v, r, h', ι', e1, hk _ _ e2, e3⟩

/-! ### Ghost steps -/

theorem Ghost.refl : Ghost P G h0 s s := fun ι a w ι0 w0 _ hs he => ⟨ι, hs, he⟩

theorem Ghost.trans {s' s'' : St} (h1 : Ghost P G h0 s s') (h2 : Ghost P G h0 s' s'') : Ghost P G h0 s s'' := fun ι a w ι0 w0 hS hs he =>
  let ⟨ι', hs', he'⟩ := h1 ι a w ι0 w0 hS hs he
  h2 ι' a w ι0 w0 hS hs' he'

/-- Slots are forgotten; the heap's end is let go. -/
theorem Ghost.le {s' : St} (hnt : s'.nt = s.nt) (m : Nat) (hm : h0.length ≤ m) (hm2 : m ≤ s.heap.length) (hh : s'.heap = s.heap.take m) (hf : ∀ k x, s'.fr k = some x → s.fr k = some x ∧ AVlt m x)
    (hb : ∀ (b : Nat) (bk : Blk), (s.heap.take m)[b]? = some (some bk) → h0[b]? = some (some bk) ∨ ∀ x ∈ bk.cells, AVlt m x) : Ghost P G h0 s s' := by
  intro ι a w ι0 w0 hS hs he
  refine ⟨ι, ⟨?_, fun k x hx => ?_, by rw [hnt]; exact hs.nt, hs.df⟩, ?_⟩
  · rw [hh]
    refine hs.hS.take hm2 fun b bk hq x hx => ?_
    rcases hb b bk hq with h1 | h1
    · exact (heap_lt hS h1 x hx).mono hm
    · exact h1 x hx
  · obtain ⟨h1, h2⟩ := hf k x hx
    obtain ⟨v, p1, p2⟩ := hs.fr k x h1
    exact ⟨v, p1, by rw [hh]; exact p2.take hm2 h2⟩
  · rw [hh]; exact he.take hm

theorem liveAt_app {b g : Nat} {bk : Option Blk} (hb : b < h.length) : liveAt (h ++ [bk]) b g ↔ liveAt h b g := by
  unfold liveAt; rw [List.getElem?_append_left hb]

theorem own_virt {k : Nat} {g : Nat} : own ι (h ++ [some ⟨g, []⟩]) k ↔ own ι h k := by
  constructor
  · rintro ⟨b, bk, h1, h2, h3⟩
    rcases Nat.lt_or_ge b h.length with hl | hl
    · rw [List.getElem?_append_left hl] at h1; exact ⟨b, bk, h1, h2, h3⟩
    · rw [List.getElem?_append_right hl] at h1
      cases hq : b - h.length with
      | zero => rw [hq] at h1; simp at h1; subst h1; exact absurd rfl h2
      | succ i => rw [hq] at h1; simp at h1
  · rintro ⟨b, bk, h1, h2, h3⟩
    exact ⟨b, bk, by rw [List.getElem?_append_left (getElem?_lt h1)]; exact h1, h2, h3⟩

theorem VRel.virt {x : AV} {v : Value} {g : Nat} (hx : VRel ι h w x v) : VRel ι (h ++ [some ⟨g, []⟩]) w x v := by
  induction hx with
  | p x v hx => exact .p _ _ (hx.mono (Nat.le_refl _) fun k _ ho => ⟨rfl, fun e => ho (own_virt.mp e)⟩)
  | agg cells vs hl hv ih => exact .agg _ _ hl ih
  | tup cells vs hl hv ih => exact .tup _ _ hl ih
  | fn f cells vs hl hv ih => exact .fn _ _ _ hl ih
  | ref b g off sz len A c hn hb hg hv =>
    refine .ref _ _ _ _ _ _ _ hn (by simp; omega) (fun bk hq => hg bk (by rwa [List.getElem?_append_left hb] at hq)) fun hl => ?_
    rcases hv ((liveAt_app hb).mp hl) with hz | ⟨hA, hle, ⟨bk0, q0, hne⟩, hcs⟩
    · exact .inl hz
    · exact .inr ⟨hA, hle, ⟨bk0, by rw [List.getElem?_append_left hb]; exact q0, hne⟩, hcs⟩
  | ptr b g off A hb hg hv => exact .ptr _ _ _ _ (by simp; omega) (fun bk hq => hg bk (by rwa [List.getElem?_append_left hb] at hq)) fun hl => hv ((liveAt_app hb).mp hl)
  | pin cells blk off hv => exact .pin _ _ _ (hv.mono (Nat.le_refl _) fun k _ ho => ⟨rfl, fun e => ho (own_virt.mp e)⟩)

/-- A nil slice is told as a block of ours that is still empty. -/
theorem Ghost.adopt (k sz : Nat) (hk : s.fr k = some (.p .nils)) : Ghost P G h0 s { s with fr := upd s.fr k (.ref s.heap.length 0 0 sz 0), heap := s.heap ++ [some ⟨0, []⟩] } := by
  intro ι a w ι0 w0 hS hs he
  refine ⟨ι, ⟨⟨⟨fun b bk hb hne => ?_, fun b b' bk bk' q1 q2 n1 n2 e => ?_⟩, fun g cells hg => (hs.hS.gr g cells hg).mono (Nat.le_refl _) fun k _ ho => ⟨rfl, fun e => ho (own_virt.mp e)⟩⟩, fun j x hx => ?_, hs.nt, hs.df⟩, ?_⟩
  · have hl : b < s.heap.length := by
      rcases Nat.lt_or_ge b s.heap.length with hl | hl
      · exact hl
      · rw [List.getElem?_append_right hl] at hb
        cases hq : b - s.heap.length with
        | zero => rw [hq] at hb; simp at hb; subst hb; exact absurd rfl hne
        | succ i => rw [hq] at hb; simp at hb
    rw [List.getElem?_append_left hl] at hb
    obtain ⟨c, ty, hc, hlc, hv⟩ := hs.hS.hr.blk b bk hb hne
    exact ⟨c, ty, hc, hlc, fun j x hx => by obtain ⟨v, p1, p2⟩ := hv j x hx; exact ⟨v, p1, p2.virt⟩⟩
  · have hl : ∀ (b : Nat) (bk : Blk), (s.heap ++ [some ⟨0, []⟩])[b]? = some (some bk) → bk.cells ≠ [] → s.heap[b]? = some (some bk) := by
      intro b bk hb hne
      rcases Nat.lt_or_ge b s.heap.length with hl | hl
      · rwa [List.getElem?_append_left hl] at hb
      · rw [List.getElem?_append_right hl] at hb
        cases hq : b - s.heap.length with
        | zero => rw [hq] at hb; simp at hb; subst hb; exact absurd rfl hne
        | succ i => rw [hq] at hb; simp at hb
    exact hs.hS.hr.inj b b' bk bk' (hl b bk q1 n1) (hl b' bk' q2 n2) n1 n2 e
  · simp only [upd] at hx
    split at hx
    · rename_i hj; subst hj
      cases hx
      obtain ⟨v, p1, p2⟩ := hs.fr j _ hk
      have := p2.nils_inv; subst this
      exact ⟨_, p1, .ref _ _ _ _ _ _ _ (by omega) (by simp) (fun bk hq => Nat.zero_le _) fun _ => .inl ⟨rfl, rfl⟩⟩
    · obtain ⟨v, p1, p2⟩ := hs.fr j x hx
      exact ⟨v, p1, p2.virt⟩
  · refine ⟨he.size, fun j hj ho => ⟨(he.keep j hj ho).1, fun e => (he.keep j hj ho).2 (own_virt.mp e)⟩, by have := he.len; simp; omega, fun b bk' hb hq => ?_, he.os, he.output, he.tape⟩
    have hl : b < s.heap.length := Nat.lt_of_lt_of_le hb he.len
    rw [List.getElem?_append_left hl] at hq
    exact he.gens b bk' hb hq

/-- A block is laid by. -/
theorem Ghost.lay : Ghost P G h0 s ⟨s.fr, s.nt, s.heap ++ [some ⟨0, []⟩]⟩ := by
  intro ι a w ι0 w0 hS hs he
  have hlo : ∀ (b : Nat) (bk : Blk), (s.heap ++ [some ⟨0, []⟩])[b]? = some (some bk) → bk.cells ≠ [] → s.heap[b]? = some (some bk) := by
    intro b bk hb hne
    rcases Nat.lt_or_ge b s.heap.length with hl | hl
    · rwa [List.getElem?_append_left hl] at hb
    · rw [List.getElem?_append_right hl] at hb
      cases hq : b - s.heap.length with
      | zero => rw [hq] at hb; simp at hb; subst hb; exact absurd rfl hne
      | succ i => rw [hq] at hb; simp at hb
  refine ⟨ι, ⟨⟨⟨fun b bk hb hne => ?_, fun b b' bk bk' q1 q2 n1 n2 e => hs.hS.hr.inj b b' bk bk' (hlo b bk q1 n1) (hlo b' bk' q2 n2) n1 n2 e⟩,
    fun g cells hg => (hs.hS.gr g cells hg).mono (Nat.le_refl _) fun k _ ho => ⟨rfl, fun e => ho (own_virt.mp e)⟩⟩, fun j x hx => ?_, hs.nt, hs.df⟩, ?_⟩
  · obtain ⟨c, ty, hc, hlc, hv⟩ := hs.hS.hr.blk b bk (hlo b bk hb hne) hne
    exact ⟨c, ty, hc, hlc, fun j x hx => by obtain ⟨v, p1, p2⟩ := hv j x hx; exact ⟨v, p1, p2.virt⟩⟩
  · obtain ⟨v, p1, p2⟩ := hs.fr j x hx
    exact ⟨v, p1, p2.virt⟩
  · refine ⟨he.size, fun j hj ho => ⟨(he.keep j hj ho).1, fun e => (he.keep j hj ho).2 (own_virt.mp e)⟩, by have := he.len; simp; omega, fun b bk' hb hq => ?_, he.os, he.output, he.tape⟩
    have hl : b < s.heap.length := Nat.lt_of_lt_of_le hb he.len
    rw [List.getElem?_append_left hl] at hq
    exact he.gens b bk' hb hq

theorem Ghost.res : ∀ r : Nat, Ghost P G h0 s ⟨s.fr, s.nt, s.heap ++ List.replicate r (some ⟨0, []⟩)⟩
  | 0 => by simp only [List.replicate_zero, List.append_nil]; exact .refl
  | r + 1 => by
    refine (Ghost.res r).trans ?_
    rw [List.replicate_succ', ← List.append_assoc]
    exact Ghost.lay

/-! ### Control -/

theorem thenA_mono {K K' : St → Prop} {Q Q' : Exit → St → Prop} (hk : ∀ s, K s → K' s) (hq : ∀ e s, Q e s → Q' e s) : ∀ e s, thenA K Q e s → thenA K' Q' e s := by
  intro e s h
  cases e <;> first | exact hk _ h | exact hq _ _ h

theorem blockA_mono {id : Nat} {Q Q' : Exit → St → Prop} (hq : ∀ e s, Q e s → Q' e s) : ∀ e s, blockA id Q e s → blockA id Q' e s := by
  intro e s h
  cases e with
  | exit i =>
    simp only [blockA] at *
    split at h
    · rename_i hi; rw [if_pos hi]; exact hq _ _ h
    · rename_i hi; rw [if_neg hi]; exact hq _ _ h
  | _ => exact hq _ _ h

theorem aexec_mono {K K' : St → Prop} {o : Oper} (hk : ∀ s, K s → K' s) (h : aexec P G rl o K s) : aexec P G rl o K' s := by
  unfold aexec at *
  cases hc : callOf o with
  | some q =>
    obtain ⟨f, args⟩ := q
    simp only [hc] at h ⊢
    split at h
    · exact ⟨h.1, h.2.mono fun r h' hh => hk _ hh⟩
    · exact h
  | none =>
    simp only [hc] at h ⊢
    split at h
    · exact hk _ h
    · exact h

theorem aops_mono {K K' : St → Prop} {ops : Array Oper} (hk : ∀ s, K s → K' s) : ∀ (l : List Oper) (s : St), aops P G rl ops K l s → aops P G rl ops K' l s
  | [], s, h => hk _ h
  | o :: r, s, h => by
    simp only [aops, aop] at *
    split at h
    · exact ⟨fun e => aexec_mono (aops_mono hk r) (h.1 e), fun e => aops_mono hk r _ (h.2 e)⟩
    · exact h

theorem arunT_mono {K K' : St → Prop} {ops : Array Oper} (hk : ∀ s, K s → K' s) : ∀ (l : List Nat) (s : St), arunT P G rl ops K l s → arunT P G rl ops K' l s
  | [], s, h => hk s h
  | k :: rest, s, h => by
    unfold arunT at *
    split at h
    · exact h.elim
    · rename_i o ho
      (try simp only [ho])
      split at h
      · rename_i he; rw [if_pos he]; exact ⟨h.1, aopE_mono he (arunT_mono hk rest) h.2⟩
      · rename_i he; rw [if_neg he]; obtain ⟨hh, v, h1, h2⟩ := h; exact ⟨hh, v, h1, arunT_mono hk rest _ h2⟩

theorem arun_mono {K K' : St → Prop} {ops : Array Oper} {fs : List Nat} {base r : Nat} (hk : ∀ s, K s → K' s) : ∀ (l : List Nat) (s : St), arun P G rl ops fs base r K l s → arun P G rl ops fs base r K' l s
  | [], s, h => hk s h
  | k :: rest, s, h => by
    unfold arun at *
    split at h
    · exact h.elim
    · rename_i o ho
      (try simp only [ho])
      split at h
      · rename_i ha; rw [if_pos ha]; obtain ⟨z, h1, h2, h3⟩ := h; exact ⟨z, h1, h2, arun_mono hk rest _ h3⟩
      · rename_i ha
        rw [if_neg ha]
        split at h
        · rename_i he; rw [if_pos he]; exact arunT_mono hk _ _ h
        · rename_i he
          rw [if_neg he]
          split at h
          · rename_i hh; rw [if_pos hh]; obtain ⟨v, h1, h2⟩ := h; exact ⟨v, h1, arun_mono hk rest _ h2⟩
          · rename_i hh; rw [if_neg hh]; obtain ⟨v, h1, h2⟩ := h; exact ⟨v, h1, arun_mono hk rest _ h2⟩

theorem aeops_mono {K K' : St → Prop} {ops : Array Oper} (hk : ∀ s, K s → K' s) : ∀ (l : List Oper) (s : St), aeops P G rl ops K l s → aeops P G rl ops K' l s
  | [], s, h => hk s h
  | o :: r, s, h => by
    unfold aeops at *
    split at h
    · rename_i he; rw [if_pos he]; exact aopE_mono he (aeops_mono hk r) h
    · rename_i he; rw [if_neg he]; obtain ⟨v, h1, h2⟩ := h; exact ⟨v, h1, aeops_mono hk r _ h2⟩

theorem aqops_mono {K K' : St → Prop} {ops : Array Oper} (hk : ∀ s, K s → K' s) : ∀ (l : List Oper) (s : St), aqops P G rl ops K l s → aqops P G rl ops K' l s
  | [], s, h => hk _ h
  | o :: r, s, h => by
    obtain ⟨v, h1, h2⟩ := aqop_iff.mp h
    exact aqop_iff.mpr ⟨v, h1, aqops_mono hk r _ h2⟩

theorem awp_mono : ∀ (c : Code) (Q Q' : Exit → St → Prop) (s : St), (∀ e s, Q e s → Q' e s) → awp P G rl h0 c Q s → awp P G rl h0 c Q' s := by
  intro c
  induction c with
  | skip => intro Q Q' s hq h; exact hq _ _ h
  | label l => intro Q Q' s hq h; exact hq _ _ h
  | region id ops draw =>
    intro Q Q' s hq h
    unfold awp at *
    cases draw with
    | true => exact h.imp (fun h => ⟨h.1, aqops_mono (fun s hh => hq _ _ hh) _ _ h.2⟩) (fun h => h.imp (fun h => ⟨h.1, aeops_mono (fun s hh => hq _ _ hh) _ _ h.2⟩) fun ⟨s1, base, r, ord, fs, h1, h2, h3, hi, h4⟩ => ⟨s1, base, r, ord, fs, h1, h2, h3, hi, arun_mono (fun s hh => hq _ _ hh) _ _ h4⟩)
    | false => exact aops_mono (fun s hh => hq _ _ hh) _ _ h
  | seq a b iha ihb =>
    intro Q Q' s hq ⟨J, h1, h2⟩
    exact ⟨J, iha _ _ s (thenA_mono (fun _ h => h) hq) h1, fun s1 hj => ihb _ _ s1 hq (h2 s1 hj)⟩
  | cond c x y ihx ihy =>
    intro Q Q' s hq h
    change condA (evalA G s c) (awp P G rl h0 x Q s) (awp P G rl h0 y Q s) at h
    change condA (evalA G s c) (awp P G rl h0 x Q' s) (awp P G rl h0 y Q' s)
    have h1 := ihx Q Q' s hq
    have h2 := ihy Q Q' s hq
    revert h
    generalize evalA G s c = v
    intro h
    unfold condA at *
    split at h
    · exact ⟨fun e => h1 (h.1 e), fun e => h2 (h.2 e)⟩
    · exact h.elim
  | block id c ih =>
    intro Q Q' s hq h
    exact ih _ _ s (blockA_mono hq) h
  | loop c ih =>
    intro Q Q' s hq ⟨I, h1, h2⟩
    exact ⟨I, h1, fun n s hi => ih _ _ s (thenA_mono (fun _ h => h) hq) (h2 n s hi)⟩
  | exit id => intro Q Q' s hq h; exact hq _ _ h
  | ret => intro Q Q' s hq h; exact hq _ _ h
  | _ => intro Q Q' s hq h; exact h

theorem awp_seq {x y : Code} {Q : Exit → St → Prop} (h : awp P G rl h0 x (thenA (fun s' => awp P G rl h0 y Q s') Q) s) : awp P G rl h0 (.seq x y) Q s :=
  ⟨awp P G rl h0 y Q, awp_mono _ _ _ _ (thenA_mono (fun s hh => ⟨s, .refl, hh⟩) fun _ _ hh => hh) h, fun _ h => h⟩

theorem awp_seq_k {x y : Code} {Q : Exit → St → Prop} (h : ∀ K : St → Prop, (∀ s, awp P G rl h0 y Q s → K s) → awp P G rl h0 x (thenA K Q) s) : awp P G rl h0 (.seq x y) Q s :=
  awp_seq (h _ fun _ h => h)

theorem awp_region {id : Nat} {ops : Array Oper} {Q : Exit → St → Prop} (h : aops P G rl ops (Q .normal) ops.toList s) : awp P G rl h0 (.region id ops false) Q s := h

theorem awp_draw {id : Nat} {ops : Array Oper} {Q : Exit → St → Prop} (hB : Region.lexB .any ops = true) (h : aqops P G rl ops (Q .normal) ops.toList s) : awp P G rl h0 (.region id ops true) Q s := .inl ⟨hB, h⟩

theorem upd_same (fr : Nat → Option AV) (d : Nat) (v : AV) : upd fr d v d = some v := by simp [upd]
theorem awp_drawR {id : Nat} {ops : Array Oper} {Q : Exit → St → Prop} {fr : Nat → Option AV} {nt : Nat} {hp : Heap} (ord : List Nat) (r : Nat) (hl : ord.length = ops.size) (hr : (zsB P ops).length = r) {fs : List Nat} (hB : lexR .any ops fs ord (Array.replicate ops.size false) = true)
    (h : arun P G rl ops fs hp.length r (Q .normal) ord ⟨fr, nt, hp ++ List.replicate r (some ⟨0, []⟩)⟩) : awp P G rl h0 (.region id ops true) Q ⟨fr, nt, hp⟩ :=
  .inr (.inr ⟨_, hp.length, r, ord, fs, Ghost.res (s := ⟨fr, nt, hp⟩) r, hl, hB, InvR.start hr, h⟩)
theorem arun_nil {ops : Array Oper} {fs : List Nat} {base r : Nat} {K : St → Prop} (h : K s) : arun P G rl ops fs base r K [] s := h
theorem arunT_nil {ops : Array Oper} {K : St → Prop} (h : K s) : arunT P G rl ops K [] s := h
theorem arun_tail {ops : Array Oper} {fs : List Nat} {base r k : Nat} {K0 : St → Prop} {o : Oper} {rest : List Nat} (ho : ops.toList[k]? = some o) (ha : allocB o = false) (he : effB o = true) (h : arunT P G rl ops K0 (k :: rest) s) : arun P G rl ops fs base r K0 (k :: rest) s := by
  have ho : ops[k]? = some o := by rw [← Array.getElem?_toList]; exact ho
  unfold arun; simp only [ho]; rw [if_neg (by rw [ha]; decide), if_pos he]; exact h
theorem arun_eff {ops : Array Oper} {k : Nat} {K0 : St → Prop} {o : Oper} {rest : List Nat} (ho : ops.toList[k]? = some o) (ha : allocB o = false) (he : effB o = true) (h : ∀ K : St → Prop, (∀ s, arunT P G rl ops K0 rest s → K s) → aop P G rl ops o K s) : arunT P G rl ops K0 (k :: rest) s := by
  have ho : ops[k]? = some o := by rw [← Array.getElem?_toList]; exact ho
  unfold arunT; simp only [ho]; rw [if_pos he]; exact ⟨ha, h _ fun _ h => h⟩
theorem arun_alloc {ops : Array Oper} {fs : List Nat} {r k d nt : Nat} {K0 : St → Prop} {o : Oper} {rest : List Nat} {fr : Nat → Option AV} {hp R : Heap} {z : List PV} (ho : ops.toList[k]? = some o) (ha : allocB o = true) (hz : zeroB P o = some z) (hd : o.dst = some d) (hlt : d < nt)
    (hs : R[slotB ops k]? = some (some ⟨0, []⟩)) (h : arun P G rl ops fs hp.length r K0 rest ⟨upd fr d (.ptr (hp.length + slotB ops k) 1 0), nt, hp ++ R.set (slotB ops k) (some ⟨1, z.map .p⟩)⟩) : arun P G rl ops fs hp.length r K0 (k :: rest) ⟨fr, nt, hp ++ R⟩ := by
  have ho : ops[k]? = some o := by rw [← Array.getElem?_toList]; exact ho
  unfold arun
  simp only [ho]
  rw [if_pos ha]
  refine ⟨z, hz, by rw [List.getElem?_append_right (by omega)]; rw [show hp.length + slotB ops k - hp.length = slotB ops k by omega]; exact hs, ?_⟩
  rw [hd]
  simp only [St.put, St.setB, hlt, if_true]
  rw [List.set_append_right _ _ (by omega), show hp.length + slotB ops k - hp.length = slotB ops k by omega]
  exact h
theorem heapFree_not {o : Oper} (hf : heapFree o = true) : ¬ allocB o = true ∧ ¬ effB o = true := by
  constructor
  · unfold heapFree at hf; unfold allocB
    split at hf <;> simp_all
  · unfold heapFree at hf; unfold effB
    split at hf <;> simp_all
theorem free_stab {ops : Array Oper} {d nt : Nat} {o : Oper} {fr : Nat → Option AV} {H : Heap} {v : AV} (hf : heapFree o = true) (hd : o.dst = some d) (hlt : d < nt)
    (hv : ∀ (K : St → Prop), (∀ (fr' : Nat → Option AV) (nt' : Nat) (hp' : Heap), K ⟨upd fr' d v, nt', hp'⟩) → aqop P G rl ops o K ⟨fr, nt, H⟩) : StabF P G rl ops o v ⟨fr, nt, H⟩ := fun H' => by
  obtain ⟨u, hy, hk⟩ := aqop_iff.mp (hv (fun s' => s'.fr d = some v) (fun fr' _ _ => upd_same fr' d v))
  rw [hd] at hk
  simp only [St.put, hlt, if_true, upd] at hk
  cases hk
  exact YieldsA_free hf hy
theorem arunT_f {ops : Array Oper} {k d nt : Nat} {K0 : St → Prop} {o : Oper} {rest : List Nat} {fr : Nat → Option AV} {H : Heap} {v : AV} (ho : ops.toList[k]? = some o) (hf : heapFree o = true) (hd : o.dst = some d) (hlt : d < nt)
    (hv : ∀ (K : St → Prop), (∀ (fr' : Nat → Option AV) (nt' : Nat) (hp' : Heap), K ⟨upd fr' d v, nt', hp'⟩) → aqop P G rl ops o K ⟨fr, nt, H⟩) (h : arunT P G rl ops K0 rest ⟨upd fr d v, nt, H⟩) : arunT P G rl ops K0 (k :: rest) ⟨fr, nt, H⟩ := by
  have ho : ops[k]? = some o := by rw [← Array.getElem?_toList]; exact ho
  unfold arunT
  simp only [ho]
  rw [if_neg (heapFree_not hf).2]
  refine ⟨hf, v, free_stab hf hd hlt hv, ?_⟩
  rw [hd]; simp only [St.put, hlt, if_true]; exact h
theorem arun_f {ops : Array Oper} {fs : List Nat} {base r k d nt : Nat} {K0 : St → Prop} {o : Oper} {rest : List Nat} {fr : Nat → Option AV} {H : Heap} {v : AV} (ho : ops.toList[k]? = some o) (hf : heapFree o = true) (hd : o.dst = some d) (hlt : d < nt)
    (hv : ∀ (K : St → Prop), (∀ (fr' : Nat → Option AV) (nt' : Nat) (hp' : Heap), K ⟨upd fr' d v, nt', hp'⟩) → aqop P G rl ops o K ⟨fr, nt, H⟩) (h : arun P G rl ops fs base r K0 rest ⟨upd fr d v, nt, H⟩) : arun P G rl ops fs base r K0 (k :: rest) ⟨fr, nt, H⟩ := by
  have ho : ops[k]? = some o := by rw [← Array.getElem?_toList]; exact ho
  unfold arun
  simp only [ho]
  rw [if_neg (heapFree_not hf).1, if_neg (heapFree_not hf).2, if_pos (by rw [hf]; rfl)]
  refine ⟨v, free_stab hf hd hlt hv, ?_⟩
  rw [hd]; simp only [St.put, hlt, if_true]; exact h
theorem arun_allocj {ops : Array Oper} {fs : List Nat} {r k d nt : Nat} {K0 : St → Prop} {o : Oper} {rest : List Nat} {fr : Nat → Option AV} {hp R : Heap} {z : List PV} (j : Nat) (hj : slotB ops k = j) (ho : ops.toList[k]? = some o) (ha : allocB o = true) (hd : o.dst = some d) (hlt : d < nt)
    (hs : R[j]? = some (some ⟨0, []⟩)) (hz : zeroB P o = some z) (h : arun P G rl ops fs hp.length r K0 rest ⟨upd fr d (.ptr (hp.length + j) 1 0), nt, hp ++ R.set j (some ⟨1, z.map .p⟩)⟩) : arun P G rl ops fs hp.length r K0 (k :: rest) ⟨fr, nt, hp ++ R⟩ := by
  subst hj; exact arun_alloc ho ha hz hd hlt hs h
theorem arun_q {ops : Array Oper} {fs : List Nat} {r k d nt : Nat} {K0 : St → Prop} {o : Oper} {rest : List Nat} {fr : Nat → Option AV} {hp R : Heap} {v : AV} (ho : ops.toList[k]? = some o) (he : effB o = false) (hh : (heapFree o || fs.contains k) = false) (hd : o.dst = some d) (hlt : d < nt)
    (hv : ∀ (R' : Heap) (K : St → Prop), (∀ (fr' : Nat → Option AV) (nt' : Nat) (hp' : Heap), K ⟨upd fr' d v, nt', hp'⟩) → aqop P G rl ops o K ⟨fr, nt, hp ++ R'⟩) (h : arun P G rl ops fs hp.length r K0 rest ⟨upd fr d v, nt, hp ++ R⟩) : arun P G rl ops fs hp.length r K0 (k :: rest) ⟨fr, nt, hp ++ R⟩ := by
  have ho : ops[k]? = some o := by rw [← Array.getElem?_toList]; exact ho
  unfold arun
  simp only [ho]
  have ha : ¬ allocB o = true := by
    intro e
    unfold allocB at e
    unfold effB at he
    simp only [Bool.and_eq_true] at e
    cases hop : o.op <;> simp_all
  rw [if_neg ha, if_neg (by rw [he]; decide), if_neg (by rw [hh]; decide)]
  refine ⟨v, fun R' hR' => ?_, ?_⟩
  · obtain ⟨u, hy, hk⟩ := aqop_iff.mp (hv R' (fun s' => s'.fr d = some v) (fun fr' _ _ => upd_same fr' d v))
    rw [hd] at hk
    simp only [St.put, hlt, if_true, upd] at hk
    cases hk
    have : (hp ++ R).take hp.length = hp := by simp
    simp only [this]
    exact hy
  · rw [hd]
    simp only [St.put, hlt, if_true]
    exact h
theorem arun_w {ops : Array Oper} {fs : List Nat} {r k d nt : Nat} {K0 : St → Prop} {o : Oper} {rest : List Nat} {fr : Nat → Option AV} {hp R : Heap} {v : AV} (ho : ops.toList[k]? = some o) (he : effB o = false) (hf : fs.contains k = true) (hd : o.dst = some d) (hlt : d < nt)
    (hv : ∀ (H : Heap) (K : St → Prop), (∀ (fr' : Nat → Option AV) (nt' : Nat) (hp' : Heap), K ⟨upd fr' d v, nt', hp'⟩) → aqop P G rl ops o K ⟨fr, nt, H⟩) (h : arun P G rl ops fs hp.length r K0 rest ⟨upd fr d v, nt, hp ++ R⟩) : arun P G rl ops fs hp.length r K0 (k :: rest) ⟨fr, nt, hp ++ R⟩ := by
  have ho : ops[k]? = some o := by rw [← Array.getElem?_toList]; exact ho
  unfold arun
  simp only [ho]
  have ha : ¬ allocB o = true := by
    intro e
    unfold allocB at e
    unfold effB at he
    simp only [Bool.and_eq_true] at e
    cases hop : o.op <;> simp_all
  rw [if_neg ha, if_neg (by rw [he]; decide), if_pos (by rw [hf, Bool.or_true])]
  refine ⟨v, fun H => ?_, ?_⟩
  · obtain ⟨u, hy, hk⟩ := aqop_iff.mp (hv H (fun s' => s'.fr d = some v) (fun fr' _ _ => upd_same fr' d v))
    rw [hd] at hk
    simp only [St.put, hlt, if_true, upd] at hk
    cases hk
    exact hy
  · rw [hd]
    simp only [St.put, hlt, if_true]
    exact h
theorem aops_nil {ops : Array Oper} {K : St → Prop} (h : K s) : aops P G rl ops K [] s := h
theorem aqops_nil {ops : Array Oper} {K : St → Prop} (h : K s) : aqops P G rl ops K [] s := h

theorem aops_k {ops : Array Oper} {K0 : St → Prop} {o : Oper} {rest : List Oper} (h : ∀ K : St → Prop, (∀ s, aops P G rl ops K0 rest s → K s) → aop P G rl ops o K s) : aops P G rl ops K0 (o :: rest) s :=
  h _ fun _ h => h
theorem aqops_k {ops : Array Oper} {K0 : St → Prop} {o : Oper} {rest : List Oper} (h : ∀ K : St → Prop, (∀ s, aqops P G rl ops K0 rest s → K s) → aqop P G rl ops o K s) : aqops P G rl ops K0 (o :: rest) s :=
  h _ fun _ h => h

theorem awp_cond {c : Operand} {x y : Code} {Q : Exit → St → Prop} {t : Bool} (hc : evalA G s c = some (.b t)) (h1 : t = true → awp P G rl h0 x Q s) (h2 : t = false → awp P G rl h0 y Q s) : awp P G rl h0 (.cond c x y) Q s := by
  change condA (evalA G s c) _ _
  rw [hc]
  exact ⟨h1, h2⟩

theorem awp_block {id : Nat} {c : Code} {Q : Exit → St → Prop} (h : awp P G rl h0 c (blockA id Q) s) : awp P G rl h0 (.block id c) Q s := h
theorem awp_exit {id : Nat} {Q : Exit → St → Prop} (h : Q (.exit id) s) : awp P G rl h0 (.exit id) Q s := h
theorem awp_ret {Q : Exit → St → Prop} (h : Q .ret s) : awp P G rl h0 .ret Q s := h
theorem awp_skip {Q : Exit → St → Prop} (h : Q .normal s) : awp P G rl h0 .skip Q s := h
@[simp] theorem thenA_normal {K : St → Prop} {Q : Exit → St → Prop} : thenA K Q .normal s = K s := rfl
@[simp] theorem thenA_exit {K : St → Prop} {Q : Exit → St → Prop} {i : Nat} : thenA K Q (.exit i) s = Q (.exit i) s := rfl
@[simp] theorem thenA_ret {K : St → Prop} {Q : Exit → St → Prop} : thenA K Q .ret s = Q .ret s := rfl
@[simp] theorem blockA_normal {id : Nat} {Q : Exit → St → Prop} : blockA id Q .normal s = Q .normal s := rfl
@[simp] theorem blockA_exit {id i : Nat} {Q : Exit → St → Prop} : blockA id Q (.exit i) s = if i = id then Q .normal s else Q (.exit i) s := rfl
@[simp] theorem blockA_ret {id : Nat} {Q : Exit → St → Prop} : blockA id Q .ret s = Q .ret s := rfl

theorem bt_true (b : Bool) : (b == true) = b := by cases b <;> rfl
theorem bt_false (b : Bool) : (b == false) = !b := by cases b <;> rfl
theorem upd_get (fr : Nat → Option AV) (d : Nat) (v : AV) (k : Nat) : upd fr d v k = if k = d then some v else fr k := rfl
theorem get_app (L : Heap) (i : Nat) : (h ++ L)[h.length + i]? = L[i]? := by rw [List.getElem?_append_right (by omega)]; congr 1; omega
theorem get_app0 (L : Heap) : (h ++ L)[h.length]? = L[0]? := by rw [List.getElem?_append_right (by omega)]; congr 1; omega
theorem set_app (L : Heap) (i : Nat) (x : Option Blk) : (h ++ L).set (h.length + i) x = h ++ L.set i x := by rw [List.set_append_right _ _ (by omega)]; congr 2; omega
theorem set_app0 (L : Heap) (x : Option Blk) : (h ++ L).set h.length x = h ++ L.set 0 x := by rw [List.set_append_right _ _ (by omega)]; congr 2; omega
theorem take_app (L : Heap) : (h ++ L).take h.length = h := by simp

/-- A cut: what stands behind the first part is proved once, from what is said of the state there. -/
theorem awp_cut {x y : Code} {Q : Exit → St → Prop} (J : St → Prop) (h : awp P G rl h0 x (thenA (fun s' => ∃ s1, Ghost P G h0 s' s1 ∧ J s1) Q) s) (hJ : ∀ s1, J s1 → awp P G rl h0 y Q s1) : awp P G rl h0 (.seq x y) Q s :=
  ⟨J, h, hJ⟩

theorem awp_loop {c : Code} {Q : Exit → St → Prop} (I : Nat → St → Prop) (n : Nat) (s1 : St) (hg : Ghost P G h0 s s1) (hi : I n s1)
    (hr : ∀ n s, I n s → awp P G rl h0 c (thenA (fun s' => ∃ m s1, m < n ∧ Ghost P G h0 s' s1 ∧ I m s1) Q) s) : awp P G rl h0 (.loop c) Q s :=
  ⟨I, ⟨n, s1, hg, hi⟩, hr⟩

/-- The end of a function that changes no block that it was given. -/
def FinP (P : Program) (rs : List ResultVar) (h : Heap) (K : AV → Prop) (s : St) : Prop :=
  match resA P s rs with
  | some r => match lastV s.heap h.length r with
    | some r' => s.heap.take h.length = h ∧ h.length ≤ s.heap.length ∧ K r'
    | none => False
  | none => False

theorem FinP.fin {rs : List ResultVar} {K : AV → Prop} (hf : FinP P rs h K s) : Fin P rs h.length h (fun r h' => K r ∧ h' = h) s := by
  unfold FinP at hf
  split at hf
  · rename_i r hr
    split at hf
    · rename_i r' hr'
      obtain ⟨h1, h2, h3⟩ := hf
      exact ⟨Nat.le_refl _, h2, r, r', hr, hr', fun b bk hb => .inl (by rwa [h1] at hb), h3, h1⟩
    · exact hf.elim
  · exact hf.elim

/-- What is asked of a function that only reads. -/
def EndP (P : Program) (rs : List ResultVar) (h : Heap) (K : AV → Prop) : Exit → St → Prop
  | .normal, s => FinP P rs h K s
  | .ret, s => FinP P rs h K s
  | _, _ => False

theorem acalls_pure (hm : P.follows .mixedOrders = true) {f : FuncId} {fn : Func} {c : Code} (hf : P.funcs[f]? = some fn) (hb : fn.body = some c) {args : List AV} {K : AV → Prop} {rs : List ResultVar} {nt : Nat}
    (hrs : fn.results.toList = rs) (hn : fn.ntmps = nt) (hnt : args.length ≤ nt) (H : awp P G rl h c (EndP P rs h K) (entry args nt h)) : ACalls P G f args h (fun r h' => K r ∧ h' = h) := by
  subst hrs; subst hn
  refine acalls_intro (rl := rl) hm hf hb hnt h.length (awp_mono _ _ _ _ (fun e s hh => ?_) H)
  cases e with
  | normal => exact ⟨.inl rfl, FinP.fin hh⟩
  | ret => exact ⟨.inr rfl, FinP.fin hh⟩
  | _ => exact hh.elim

/-- The end of a function that may change blocks that it was given. -/
def FinH (P : Program) (rs : List ResultVar) (h : Heap) (K : AV → Heap → Prop) (s : St) : Prop :=
  match resA P s rs with
  | some r => match lastV s.heap h.length r with
    | some r' => h.length ≤ s.heap.length ∧ (∀ (b : Nat) (bk : Blk), (s.heap.take h.length)[b]? = some (some bk) → h[b]? = some (some bk) ∨ ∀ x ∈ bk.cells, AVlt h.length x) ∧ K r' (s.heap.take h.length)
    | none => False
  | none => False

def EndH (P : Program) (rs : List ResultVar) (h : Heap) (K : AV → Heap → Prop) : Exit → St → Prop
  | .normal, s => FinH P rs h K s
  | .ret, s => FinH P rs h K s
  | _, _ => False

theorem acalls_heap (hm : P.follows .mixedOrders = true) {f : FuncId} {fn : Func} {c : Code} (hf : P.funcs[f]? = some fn) (hb : fn.body = some c) {args : List AV} {K : AV → Heap → Prop} {rs : List ResultVar} {nt : Nat}
    (hrs : fn.results.toList = rs) (hn : fn.ntmps = nt) (hnt : args.length ≤ nt) (H : awp P G rl h c (EndH P rs h K) (entry args nt h)) : ACalls P G f args h K := by
  subst hrs; subst hn
  have key : ∀ s, FinH P fn.results.toList h K s → Fin P fn.results.toList h.length h K s := by
    intro s hf
    unfold FinH at hf
    split at hf
    · rename_i r hr
      split at hf
      · rename_i r' hr'
        obtain ⟨h1, h2, h3⟩ := hf
        exact ⟨Nat.le_refl _, h1, r, r', hr, hr', h2, h3⟩
      · exact hf.elim
    · exact hf.elim
  refine acalls_intro (rl := rl) hm hf hb hnt h.length (awp_mono _ _ _ _ (fun e s hh => ?_) H)
  cases e with
  | normal => exact ⟨.inl rfl, key _ hh⟩
  | ret => exact ⟨.inr rfl, key _ hh⟩
  | _ => exact hh.elim

/-- The end of a function that makes blocks for whoever called it, or changes some: all is kept. -/
def FinK (P : Program) (rs : List ResultVar) (h : Heap) (K : AV → Heap → Prop) (s : St) : Prop :=
  h.length ≤ s.heap.length ∧ match resA P s rs with
  | some r => K r s.heap
  | none => False

theorem Sim.evoKeep (hm : P.follows .mixedOrders = true) {f : FuncId} {fn : Func} {c : Code} (hf : P.funcs[f]? = some fn) (hb : fn.body = some c) {args : List AV} {K : AV → Heap → Prop}
    (hnt : args.length ≤ fn.ntmps)
    (H : awp P G rl h c (fun e s => (e = .normal ∨ e = .ret) ∧ FinK P fn.results.toList h K s) (entry args fn.ntmps h)) : ACalls P G f args h K := by
  intro ι w vs hS hv
  refine calls_of_wp hf hb ?_
  have hs : Sim P G ι (entry args fn.ntmps h) { tmps := vs ++ Array.replicate (fn.ntmps - vs.size) undef, defers := [] } w := by
    refine ⟨hS, fun k x hx => ?_, ?_, rfl⟩
    · have hk : k < args.length := getElem?_lt hx
      have hk' : k < vs.size := by rw [← hv.1]; exact hk
      exact ⟨vs[k], by rw [Array.getElem?_append_left hk']; simp, hv.2 k x _ hx (by simp)⟩
    · have := hv.1
      simp [entry]; omega
  refine wp_mono (awp_sound hm hS c _ _ ι _ w hs (.refl (Nat.le_refl h.length)) H) fun e a w' ⟨s', ι', ⟨he, hn1, hr⟩, hs', hev⟩ => ?_
  split at hr
  case h_2 => exact hr.elim
  rename_i r hr'
  obtain ⟨v, hrun, hrv⟩ := resA_sound hs' hr'
  have hpost : a.defers = [] ∧ ∃ v, (results fn a.tmps).run P w' = .ok v w' ∧ ∃ v1 r h' ι', Ending.returned v = .returned v1 ∧ K r h' ∧ SimH P G ι' h' w' ∧ VRel ι' h' w' r v1 ∧ Evo h.length ι h w ι' h' w' :=
    ⟨hs'.df, v, hrun, v, r, s'.heap, ι', rfl, hr, hs'.hS, hrv, hev⟩
  rcases he with rfl | rfl <;> exact hpost

end
end Go.Proofs.YtjpphhcimpclpaaDoor.AM
end

section
set_option linter.unusedVariables false
set_option linter.unusedSimpArgs false
namespace Go.Proofs.YtjpphhcimpclpaaDoor.AM
open Go

mutual
def avlt (m : Nat) : AV → Prop
  | .p _ => True
  | .agg l => avlts m l
  | .tup l => avlts m l
  | .fn _ l => avlts m l
  | .ref b _ _ _ _ => b < m
  | .ptr b _ _ => b < m
  | .pin _ => True
def avlts (m : Nat) : List AV → Prop
  | [] => True
  | x :: r => avlt m x ∧ avlts m r
end

mutual
theorem avlt_lt {m : Nat} : ∀ (x : AV), avlt m x → AVlt m x
  | .p _, _ => .p _
  | .agg l, h => .agg l (avlts_lt l (by simpa [avlt] using h))
  | .tup l, h => .tup l (avlts_lt l (by simpa [avlt] using h))
  | .fn f l, h => .fn f l (avlts_lt l (by simpa [avlt] using h))
  | .ref b g o s l, h => .ref b g o s l (by simpa [avlt] using h)
  | .ptr b g o, h => .ptr b g o (by simpa [avlt] using h)
  | .pin c, _ => .pin c
theorem avlts_lt {m : Nat} : ∀ (l : List AV), avlts m l → ∀ x ∈ l, AVlt m x
  | [], _ => fun x hx => by simp at hx
  | y :: r, h => fun x hx => by
    simp only [avlts] at h
    rcases List.mem_cons.mp hx with e | e
    · rw [e]; exact avlt_lt y h.1
    · exact avlts_lt r h.2 x e
end

/-- A frame, told as a list. -/
def frL : List (Nat × AV) → Nat → Option AV
  | [], _ => none
  | (d, v) :: r, k => if k = d then some v else frL r k

def keeps (s : St) (m : Nat) : List (Nat × AV) → Prop
  | [] => True
  | (k, x) :: r => s.fr k = some x ∧ avlt m x ∧ keeps s m r

def blksLt (m : Nat) : List (Option Blk) → Prop
  | [] => True
  | none :: r => blksLt m r
  | some bk :: r => avlts m bk.cells ∧ blksLt m r

theorem keeps_get {s : St} {m : Nat} : ∀ {l : List (Nat × AV)}, keeps s m l → ∀ k x, frL l k = some x → s.fr k = some x ∧ AVlt m x
  | [], _, k, x, h => by simp [frL] at h
  | (d, v) :: r, hk, k, x, h => by
    simp only [keeps] at hk
    simp only [frL] at h
    split at h
    · rename_i e
      cases h
      rw [e]
      exact ⟨hk.1, avlt_lt _ hk.2.1⟩
    · exact keeps_get hk.2.2 k x h

theorem blksLt_get {m : Nat} : ∀ {l : List (Option Blk)}, blksLt m l → ∀ (i : Nat) bk, l[i]? = some (some bk) → ∀ x ∈ bk.cells, AVlt m x
  | [], _, i, bk, h => by simp at h
  | none :: r, hk, i, bk, h => by
    simp only [blksLt] at hk
    cases i with
    | zero => simp at h
    | succ i => exact blksLt_get hk i bk (by simpa using h)
  | some b :: r, hk, i, bk, h => by
    simp only [blksLt] at hk
    cases i with
    | zero => simp at h; subst h; exact avlts_lt _ hk.1
    | succ i => exact blksLt_get hk.2 i bk (by simpa using h)

section
variable {P : Program} {G : Nat → Option (List PV)} {rl : List String} {h : Heap}

/-- A state knows at least so much: these slots, these blocks behind the first ones. -/
def Sub (h : Heap) (s : St) (l : List (Nat × AV)) (L : List (Option Blk)) (nt : Nat) : Prop :=
  s.nt = nt ∧ (∃ L', s.heap = h ++ (L ++ L')) ∧ keeps s (h.length + L.length) l ∧ blksLt (h.length + L.length) L

theorem Sub.ghost {s : St} {l : List (Nat × AV)} {L : List (Option Blk)} {nt : Nat} (hs : Sub h s l L nt) : Ghost P G h s ⟨frL l, nt, h ++ L⟩ := by
  obtain ⟨h1, ⟨L', h2⟩, h3, h4⟩ := hs
  have ht : s.heap.take (h.length + L.length) = h ++ L := by rw [h2, ← List.append_assoc, List.take_left' (by simp)]
  refine Ghost.le h1.symm (h.length + L.length) (by omega) (by rw [h2]; simp only [List.length_append]; omega) ht.symm (fun k x hx => keeps_get h3 k x hx) fun b bk hb => ?_
  rw [ht] at hb
  by_cases hlt : b < h.length
  · left; rwa [List.getElem?_append_left hlt] at hb
  · right
    rw [List.getElem?_append_right (by omega)] at hb
    exact blksLt_get h4 _ bk hb

/-- A loop whose state is told by how often it was gone through. -/
theorem awp_for {c : Code} {Q : Exit → St → Prop} {s : St} (N nt : Nat) (l : Nat → List (Nat × AV)) (L : Nat → List (Option Blk)) (p : Nat → Prop) (hi : Sub h s (l 0) (L 0) nt) (hp : p 0)
    (hb : ∀ i, i ≤ N → p i → ∀ K : St → Prop, (∀ s', (i < N ∧ p (i + 1) ∧ Sub h s' (l (i + 1)) (L (i + 1)) nt) → K s') → awp P G rl h c (thenA K Q) ⟨frL (l i), nt, h ++ L i⟩) : awp P G rl h (.loop c) Q s := by
  refine awp_loop (fun n s => ∃ i, i ≤ N ∧ p i ∧ n = N - i ∧ s = ⟨frL (l i), nt, h ++ L i⟩) N _ hi.ghost ⟨0, Nat.zero_le _, hp, rfl, rfl⟩ fun n s hI => ?_
  obtain ⟨i, h1, h2, rfl, rfl⟩ := hI
  exact hb i h1 h2 _ fun s' hs => ⟨N - (i + 1), _, by omega, hs.2.2.ghost, i + 1, by omega, hs.2.1, rfl, rfl⟩

theorem Sub.ghostH {H : Heap} {s : St} {l : List (Nat × AV)} {L : List (Option Blk)} {nt : Nat} (hl : H.length = h.length)
    (hc : ∀ (b : Nat) (bk : Blk), H[b]? = some (some bk) → h[b]? = some (some bk) ∨ avlts h.length bk.cells) (hs : Sub H s l L nt) : Ghost P G h s ⟨frL l, nt, H ++ L⟩ := by
  obtain ⟨h1, ⟨L', h2⟩, h3, h4⟩ := hs
  have ht : s.heap.take (H.length + L.length) = H ++ L := by rw [h2, ← List.append_assoc, List.take_left' (by simp)]
  refine Ghost.le h1.symm (H.length + L.length) (by omega) (by rw [h2]; simp only [List.length_append]; omega) ht.symm (fun k x hx => keeps_get h3 k x hx) fun b bk hb => ?_
  rw [ht] at hb
  by_cases hlt : b < H.length
  · rw [List.getElem?_append_left hlt] at hb
    rcases hc b bk hb with hb | hb
    · exact .inl hb
    · exact .inr fun x hx => (avlts_lt _ hb x hx).mono (by omega)
  · right
    rw [List.getElem?_append_right (by omega)] at hb
    exact blksLt_get h4 _ bk hb

/-- A loop whose state is told by how often it was gone through, and that may change blocks that were there. -/
theorem awp_forH {c : Code} {Q : Exit → St → Prop} {s : St} (N nt : Nat) (H : Nat → Heap) (l : Nat → List (Nat × AV)) (L : Nat → List (Option Blk)) (p : Nat → Prop)
    (hH : ∀ i, (H i).length = h.length ∧ ∀ (b : Nat) (bk : Blk), (H i)[b]? = some (some bk) → h[b]? = some (some bk) ∨ avlts h.length bk.cells) (hi : Sub (H 0) s (l 0) (L 0) nt) (hp : p 0)
    (hb : ∀ i, i ≤ N → p i → ∀ K : St → Prop, (∀ s', (i < N ∧ p (i + 1) ∧ Sub (H (i + 1)) s' (l (i + 1)) (L (i + 1)) nt) → K s') → awp P G rl h c (thenA K Q) ⟨frL (l i), nt, H i ++ L i⟩) : awp P G rl h (.loop c) Q s := by
  refine awp_loop (fun n s => ∃ i, i ≤ N ∧ p i ∧ n = N - i ∧ s = ⟨frL (l i), nt, H i ++ L i⟩) N _ (hi.ghostH (hH 0).1 (hH 0).2) ⟨0, Nat.zero_le _, hp, rfl, rfl⟩ fun n s hI => ?_
  obtain ⟨i, h1, h2, rfl, rfl⟩ := hI
  exact hb i h1 h2 _ fun s' hs => ⟨N - (i + 1), _, by omega, hs.2.2.ghostH (hH (i + 1)).1 (hH (i + 1)).2, i + 1, by omega, hs.2.1, rfl, rfl⟩

end
end Go.Proofs.YtjpphhcimpclpaaDoor.AM
end

section
set_option linter.unusedVariables false
set_option linter.unusedSimpArgs false
namespace Go.Proofs.YtjpphhcimpclpaaDoor.AM
open Go

theorem inR_i64 (n : Int) : inR .i64 n = (decide (-9223372036854775808 ≤ n) && decide (n ≤ 9223372036854775807)) := rfl
theorem inR_u64 (n : Int) : inR .u64 n = (decide (0 ≤ n) && decide (n ≤ 18446744073709551615)) := rfl
theorem inR_u32 (n : Int) : inR .u32 n = (decide (0 ≤ n) && decide (n ≤ 4294967295)) := rfl
theorem inR_i32 (n : Int) : inR .i32 n = (decide (-2147483648 ≤ n) && decide (n ≤ 2147483647)) := rfl
theorem inR_u8 (n : Int) : inR .u8 n = (decide (0 ≤ n) && decide (n ≤ 255)) := rfl

/-- What a guarded operation leaves: its value, or nothing. -/
def gate (w : Bool) (v : AV) : AV := if w = true then v else .undef

theorem gate_true (v : AV) : gate true v = v := rfl
theorem gate_false (v : AV) : gate false v = .undef := rfl
theorem selA_true (x y : AV) : selA true x y = x := by unfold selA; split <;> rfl
theorem selA_false (x y : AV) : selA false x y = y := by unfold selA; split <;> rfl
theorem selA_or (t x : Bool) : selA t (.b true) (gate (!t) (.b x)) = .b (t || x) := by cases t <;> rfl
theorem selA_or2 (t x : Bool) : selA (!t) (.b true) (gate t (.b x)) = .b (!t || x) := by cases t <;> rfl
theorem selA_and (t x : Bool) : selA t (gate t (.b x)) (.b false) = .b (t && x) := by cases t <;> rfl

/-- Whether a guard is met. -/
def wantOf : Option AV → Bool → Option Bool
  | some (.p (.bool g)), want => some (g == want)
  | some (.tup []), _ => some false
  | _, _ => none
theorem wantOf_b (g want : Bool) : wantOf (some (.p (.bool g))) want = some (g == want) := rfl
theorem wantOf_u (want : Bool) : wantOf (some (.tup [])) want = some false := rfl
theorem wantOf_g (u x want : Bool) : wantOf (some (gate u (.p (.bool x)))) want = some (u && (x == want)) := by cases u <;> rfl
theorem wantA_eq (ops : Array Oper) (o : Oper) (s : St) : wantA ops o s = match o.guard with | none => some true | some (j, want) => wantOf (guardA ops s j) want := by
  unfold wantA
  cases o.guard with
  | none => rfl
  | some q =>
    obtain ⟨j, want⟩ := q
    dsimp only
    generalize guardA ops s j = g
    cases g with
    | none => rfl
    | some v =>
      cases v with
      | p x => cases x <;> rfl
      | tup l => cases l <;> rfl
      | _ => rfl

theorem condA_b (t : Bool) (X Y : Prop) : condA (some (.p (.bool t))) X Y = ((t = true → X) ∧ (t = false → Y)) := rfl

/-- A guarded operation, the two ways of it joined. -/
theorem join_x {K : St → Prop} {X : Prop} {b : Bool} {fr : Nat → Option AV} {nt d : Nat} {hp : Heap} {v : AV} (hv : b = true → K ⟨upd fr d v, nt, hp⟩ → X) (hk : K ⟨upd fr d (gate b v), nt, hp⟩) : (b = true → X) ∧ (b = false → K ⟨upd fr d (.tup []), nt, hp⟩) := by
  cases b with
  | true => exact ⟨fun _ => hv rfl hk, fun h => (by cases h)⟩
  | false => exact ⟨fun h => (by cases h), fun _ => hk⟩

section
variable {P : Program} {G : Nat → Option (List PV)} {rl : List String} {ops : Array Oper} {o : Oper} {K : St → Prop} {s : St}

theorem awp_cond_k {h0 : Heap} {c : Operand} {x y : Code} {Q : Exit → St → Prop} (h : ∀ A B : Prop, (awp P G rl h0 x Q s → A) → (awp P G rl h0 y Q s → B) → condA (evalA G s c) A B) : awp P G rl h0 (.cond c x y) Q s :=
  h _ _ id id

end
end Go.Proofs.YtjpphhcimpclpaaDoor.AM
end

section
set_option linter.unusedVariables false
set_option linter.defProp false
namespace Go.Proofs.YtjpphhcimpclpaaDoor.AM
open Go

def SS := And.intro (And.intro (And.intro (And.intro (And.intro (And.intro (And.intro (@aop.eq_1) (And.intro (@guardA.eq_1) (@aexec.eq_1))) (And.intro (@aquiet.eq_1) (And.intro (@aqop.eq_1) (@callOf.eq_1)))) (And.intro (And.intro (@opA.eq_1) (And.intro (@evalA.eq_1) (@evalA.eq_2))) (And.intro (And.intro (@evalA.eq_3) (@evalA.eq_4)) (And.intro (@evals.eq_1) (@evals.eq_2))))) (And.intro (And.intro (And.intro (@constA.eq_1) (And.intro (@constA.eq_2) (@constA.eq_3))) (And.intro (@constPV.eq_1) (And.intro (@constPV.eq_2) (@constPV.eq_3)))) (And.intro (And.intro (@constPV.eq_4) (And.intro (@constPV.eq_5) (@constPV.eq_6))) (And.intro (And.intro (@constPV.eq_7) (@constPVs.eq_1)) (And.intro (@constPVs.eq_2) (@inR_i64)))))) (And.intro (And.intro (And.intro (And.intro (@inR_u64) (And.intro (@inR_u32) (@inR_i32))) (And.intro (@inR_u8) (And.intro (@Option.map_some.{0, 0}) (@Option.map_none.{0, 0})))) (And.intro (And.intro (@Option.bind_some.{0, 0}) (And.intro (@Option.bind_none.{0, 0}) (@St.put.eq_1))) (And.intro (And.intro (@St.put.eq_2) (@upd_get)) (And.intro (@thenA_normal) (@thenA_exit))))) (And.intro (And.intro (And.intro (@thenA_ret) (And.intro (@blockA_normal) (@blockA_exit))) (And.intro (@blockA_ret) (And.intro (@cellsA.eq_1) (@cellsA.eq_2)))) (And.intro (And.intro (@cellsA.eq_3) (And.intro (@AV.scalar.eq_1) (@AV.scalar.eq_2))) (And.intro (And.intro (@AV.scalar.eq_3) (@binA.eq_1)) (And.intro (@binA.eq_2) (@binA.eq_3))))))) (And.intro (And.intro (And.intro (And.intro (And.intro (@opBin.eq_1) (And.intro (@opBin.eq_2) (@opBin.eq_3))) (And.intro (@opBin.eq_4) (And.intro (@opBin.eq_5) (@opBin.eq_6)))) (And.intro (And.intro (@opBin.eq_7) (And.intro (@cmpInt.eq_1) (@cmpInt.eq_2))) (And.intro (And.intro (@cmpInt.eq_3) (@cmpInt.eq_4)) (And.intro (@cmpInt.eq_5) (@cmpInt.eq_6))))) (And.intro (And.intro (And.intro (@cmpInt.eq_7) (And.intro (@eqA.eq_1) (@eqA.eq_2))) (And.intro (@eqA.eq_3) (And.intro (@eqA.eq_4) (@eqA.eq_5)))) (And.intro (And.intro (@eqA.eq_6) (And.intro (@unA.eq_1) (@unA.eq_2))) (And.intro (And.intro (@unA.eq_3) (@blkAt.eq_1)) (And.intro (@takeA.eq_1) (@takeA.eq_2)))))) (And.intro (And.intro (And.intro (And.intro (@TI.isAgg.eq_1) (And.intro (@fieldAddrA.eq_1) (@sizeA.eq_1))) (And.intro (@lenA.eq_1) (And.intro (@lenA.eq_2) (@lenA.eq_3)))) (And.intro (And.intro (@lenA.eq_4) (And.intro (@lenA.eq_5) (@builtinA.eq_1))) (And.intro (And.intro (@builtinA.eq_2) (@builtinA.eq_3)) (And.intro (@builtinA.eq_4) (@builtinA.eq_5))))) (And.intro (And.intro (And.intro (@builtinA.eq_6) (And.intro (@appendA.eq_1) (@srcCells.eq_1))) (And.intro (And.intro (@srcCells.eq_2) (@srcCells.eq_3)) (And.intro (@srcCells.eq_4) (@sliceA.eq_1)))) (And.intro (And.intro (@boundA.eq_1) (And.intro (@boundA.eq_2) (@boundA.eq_3))) (And.intro (And.intro (@selA_true) (@selA_false)) (And.intro (@selA_or) (@selA_or2)))))))) (And.intro (And.intro (And.intro (And.intro (And.intro (And.intro (@selA_and) (And.intro (@gate_true) (@gate_false))) (And.intro (@decide_true) (And.intro (@decide_false) (@ne_eq.{1})))) (And.intro (And.intro (@fillA.eq_1) (And.intro (@fillA.eq_2) (@over.eq_1))) (And.intro (And.intro (@over.eq_2) (@pvs.eq_1)) (And.intro (@pvs.eq_2) (@pvs.eq_3))))) (And.intro (And.intro (And.intro (@chunk.eq_1) (And.intro (@chunk.eq_2) (@get_app))) (And.intro (@get_app0) (And.intro (@set_app) (@set_app0)))) (And.intro (And.intro (@if_true.{1}) (And.intro (@if_false.{1}) (@ite_true.{1}))) (And.intro (And.intro (@ite_false.{1}) (@true_implies)) (And.intro (@false_implies) (@forall_const.{1})))))) (And.intro (And.intro (And.intro (And.intro (@and_true) (And.intro (@true_and) (@and_self))) (And.intro (@and_false) (And.intro (@false_and) (@List.getElem?_cons_zero.{0})))) (And.intro (And.intro (@List.getElem?_cons_succ.{0}) (And.intro (@List.getElem?_nil.{0}) (@List.map_cons.{0, 0}))) (And.intro (And.intro (@List.map_nil.{0, 0}) (@List.drop_succ_cons.{0})) (And.intro (@List.drop_zero.{0}) (@List.take_succ_cons.{0}))))) (And.intro (And.intro (And.intro (@List.take_zero.{0}) (And.intro (@List.length_cons.{0}) (@List.length_nil.{0}))) (And.intro (@List.cons_append.{0}) (And.intro (@List.nil_append.{0}) (@List.append_nil.{0})))) (And.intro (And.intro (@List.append_assoc.{0}) (And.intro (@List.all_cons.{0}) (@List.all_nil.{0}))) (And.intro (And.intro (@List.isEmpty_cons.{0}) (@List.set_cons_zero.{0})) (And.intro (@List.set_cons_succ.{0}) (@Bool.and_true))))))) (And.intro (And.intro (And.intro (And.intro (And.intro (@Bool.true_and) (And.intro (@Bool.false_eq_true) (@Bool.and_self))) (And.intro (@Option.isSome_some.{0}) (And.intro (@Option.some.injEq.{0}) (@Option.bind_map.{0, 0, 0})))) (And.intro (And.intro (@beq_self_eq_true.{0}) (And.intro (@not_true_eq_false) (@not_false_eq_true))) (And.intro (And.intro (@Bool.not_true) (@Bool.not_false)) (And.intro (@Nat.zero_le) (@Nat.add_zero))))) (And.intro (And.intro (And.intro (@Nat.zero_add) (And.intro (@Nat.lt_irrefl) (@List.length_append.{0}))) (And.intro (@cond_true.{1}) (And.intro (@cond_false.{1}) (@List.flatMap_cons.{0, 0})))) (And.intro (And.intro (@List.flatMap_nil.{0, 0}) (And.intro (@List.replicate.eq_1.{0}) (@List.replicate.eq_2.{0}))) (And.intro (And.intro (@id_eq.{1}) (@entry.eq_1)) (And.intro (@List.getElem?_toArray.{0}) (@bt_true)))))) (And.intro (And.intro (And.intro (And.intro (@bt_false) (And.intro (@Option.isSome_none.{0}) (@Bool.not_eq_true))) (And.intro (@Bool.not_eq_false) (And.intro (@eq_self.{1}) (@Bool.or_true)))) (And.intro (And.intro (@Bool.true_or) (And.intro (@Bool.or_false) (@Bool.false_or))) (And.intro (And.intro (@Bool.and_false) (@Bool.false_and)) (And.intro (@Bool.not_not) (@frL.eq_1))))) (And.intro (And.intro (And.intro (@frL.eq_2) (And.intro (@Int.toNat_natCast) (@Int.natCast_nonneg))) (And.intro (And.intro (@List.getElem?_map.{0, 0}) (@fieldA.eq_def)) (And.intro (@indexA.eq_def) (@indexAddrA.eq_def)))) (And.intro (And.intro (@loadA.eq_def) (And.intro (@storeA.eq_def) (@wantA_eq))) (And.intro (And.intro (@wantOf_b) (@wantOf_u)) (And.intro (@wantOf_g) (@condA_b))))))))
def S1 := And.intro SS (And.intro @AV.i.eq_1 (And.intro @AV.b.eq_1 (And.intro @AV.undef.eq_1 (And.intro @List.contains_nil.{0} @Bool.false_eq_true))))
def NB := And.intro @thenA_normal (And.intro @thenA_exit (And.intro @thenA_ret (And.intro @blockA_normal (And.intro @blockA_exit @blockA_ret))))
def BN := And.intro @Bool.not_not (And.intro @Bool.and_eq_true (And.intro @Bool.not_eq_eq_eq_not (And.intro @Bool.not_true (And.intro @Bool.not_false (And.intro @Bool.and_true (And.intro @Bool.true_and (And.intro @Bool.or_false (And.intro @Bool.false_or (And.intro @decide_true (And.intro @decide_false (And.intro @bt_true @bt_false)))))))))))
def BN2 := And.intro @Bool.not_eq_eq_eq_not (And.intro @Bool.not_true @Bool.not_false)
def BN3 := And.intro @decide_eq_true_eq (And.intro @decide_eq_false_iff_not (And.intro @beq_iff_eq.{0} (And.intro @bne_iff_ne.{0} (And.intro @beq_eq_false_iff_ne.{0} (And.intro @bne_eq_false_iff_eq.{0} (And.intro @ne_eq.{1} (And.intro @Bool.not_eq_eq_eq_not (And.intro @Bool.not_true (And.intro @Bool.not_false (And.intro @Bool.and_eq_true @Bool.or_eq_false_iff))))))))))

theorem call_a {P : Program} {G : Nat → Option (List PV)} {f : FuncId} {args : List AV} {h h0 : Heap} {r0 : AV} {K : AV → Heap → Prop} (hE : Enters P f) (hc : ACalls P G f args h fun r h' => r = r0 ∧ h' = h0) (hk : K r0 h0) : Enters P f ∧ ACalls P G f args h fun r h' => K r h' :=
  ⟨hE, hc.mono fun r h' e => by rw [e.1, e.2]; exact hk⟩
theorem call_q {P : Program} {G : Nat → Option (List PV)} {f : FuncId} {args : List AV} {h : Heap} {r0 : AV} {K : AV → Prop} (hE : Enters P f) (hc : ACalls P G f args h fun r h' => r = r0 ∧ h' = h) (hk : K r0) : Enters P f ∧ ∃ r, ACalls P G f args h (fun r' h' => r' = r ∧ h' = h) ∧ K r :=
  ⟨hE, r0, hc, hk⟩
end Go.Proofs.YtjpphhcimpclpaaDoor.AM
end

section
set_option maxRecDepth 10000
namespace Go.Proofs.YtjpphhcimpclpaaDoor.AM
open Go Go.Proofs
theorem mixed : Tryd.prog.follows .mixedOrders = true := by kernel_rfl
theorem T2 : tinfo Tryd.prog 2 = some ⟨.int .i64, 1, 8, some [.int .i64 0]⟩ := by kernel_rfl
theorem T3 : tinfo Tryd.prog 3 = some ⟨.int .i64, 1, 8, some [.int .i64 0]⟩ := by kernel_rfl
theorem T4 : tinfo Tryd.prog 4 = some ⟨.bool, 1, 1, some [.bool false]⟩ := by kernel_rfl
theorem T9 : tinfo Tryd.prog 9 = some ⟨.str, 1, 16, some [.str ⟨#[]⟩]⟩ := by kernel_rfl
theorem T22 : tinfo Tryd.prog 22 = some ⟨.slice 60, 1, 24, some [.nils]⟩ := by kernel_rfl
theorem T23 : tinfo Tryd.prog 23 = some ⟨.slice 71, 1, 24, some [.nils]⟩ := by kernel_rfl
theorem T25 : tinfo Tryd.prog 25 = some ⟨.struct [(0, 1, 22), (1, 1, 23)], 2, 48, some [.nils, .nils]⟩ := by kernel_rfl
theorem T26 : tinfo Tryd.prog 26 = some ⟨.array 40 3, 40, 320, some [.int .i64 0, .int .i64 0, .int .i64 0, .int .i64 0, .int .i64 0, .int .i64 0, .int .i64 0, .int .i64 0, .int .i64 0, .int .i64 0, .int .i64 0, .int .i64 0, .int .i64 0, .int .i64 0, .int .i64 0, .int .i64 0, .int .i64 0, .int .i64 0, .int .i64 0, .int .i64 0, .int .i64 0, .int .i64 0, .int .i64 0, .int .i64 0, .int .i64 0, .int .i64 0, .int .i64 0, .int .i64 0, .int .i64 0, .int .i64 0, .int .i64 0, .int .i64 0, .int .i64 0, .int .i64 0, .int .i64 0, .int .i64 0, .int .i64 0, .int .i64 0, .int .i64 0, .int .i64 0]⟩ := by kernel_rfl
theorem T27 : tinfo Tryd.prog 27 = some ⟨.array 4 3, 4, 32, some [.int .i64 0, .int .i64 0, .int .i64 0, .int .i64 0]⟩ := by kernel_rfl
theorem T29 : tinfo Tryd.prog 29 = some ⟨.struct [(0, 40, 26), (40, 4, 27), (44, 4, 27), (48, 1, 3)], 49, 392, some [.int .i64 0, .int .i64 0, .int .i64 0, .int .i64 0, .int .i64 0, .int .i64 0, .int .i64 0, .int .i64 0, .int .i64 0, .int .i64 0, .int .i64 0, .int .i64 0, .int .i64 0, .int .i64 0, .int .i64 0, .int .i64 0, .int .i64 0, .int .i64 0, .int .i64 0, .int .i64 0, .int .i64 0, .int .i64 0, .int .i64 0, .int .i64 0, .int .i64 0, .int .i64 0, .int .i64 0, .int .i64 0, .int .i64 0, .int .i64 0, .int .i64 0, .int .i64 0, .int .i64 0, .int .i64 0, .int .i64 0, .int .i64 0, .int .i64 0, .int .i64 0, .int .i64 0, .int .i64 0, .int .i64 0, .int .i64 0, .int .i64 0, .int .i64 0, .int .i64 0, .int .i64 0, .int .i64 0, .int .i64 0, .int .i64 0]⟩ := by kernel_rfl
theorem T31 : tinfo Tryd.prog 31 = some ⟨.int .i64, 1, 8, some [.int .i64 0]⟩ := by kernel_rfl
theorem T34 : tinfo Tryd.prog 34 = some ⟨.slice 42, 1, 24, some [.nils]⟩ := by kernel_rfl
theorem T40 : tinfo Tryd.prog 40 = some ⟨.slice 3, 1, 24, some [.nils]⟩ := by kernel_rfl
theorem T42 : tinfo Tryd.prog 42 = some ⟨.struct [(0, 1, 3), (1, 1, 3), (2, 1, 40), (3, 1, 40)], 4, 64, some [.int .i64 0, .int .i64 0, .nils, .nils]⟩ := by kernel_rfl
theorem T46 : tinfo Tryd.prog 46 = some ⟨.struct [(0, 1, 3), (1, 1, 3), (2, 1, 3)], 3, 24, some [.int .i64 0, .int .i64 0, .int .i64 0]⟩ := by kernel_rfl
theorem T50 : tinfo Tryd.prog 50 = some ⟨.slice 53, 1, 24, some [.nils]⟩ := by kernel_rfl
theorem T53 : tinfo Tryd.prog 53 = some ⟨.struct [(0, 1, 3), (1, 1, 3), (2, 3, 46)], 5, 40, some [.int .i64 0, .int .i64 0, .int .i64 0, .int .i64 0, .int .i64 0]⟩ := by kernel_rfl
theorem T56 : tinfo Tryd.prog 56 = some ⟨.slice 58, 1, 24, some [.nils]⟩ := by kernel_rfl
theorem T58 : tinfo Tryd.prog 58 = some ⟨.struct [(0, 1, 3), (1, 1, 3), (2, 1, 56)], 3, 40, some [.int .i64 0, .int .i64 0, .nils]⟩ := by kernel_rfl
theorem T60 : tinfo Tryd.prog 60 = some ⟨.struct [(0, 1, 3), (1, 1, 3), (2, 3, 58)], 5, 56, some [.int .i64 0, .int .i64 0, .int .i64 0, .int .i64 0, .nils]⟩ := by kernel_rfl
theorem T66 : tinfo Tryd.prog 66 = some ⟨.ptr, 1, 8, some [.nilp]⟩ := by kernel_rfl
theorem T68 : tinfo Tryd.prog 68 = some ⟨.struct [(0, 1, 3)], 1, 8, some [.int .i64 0]⟩ := by kernel_rfl
theorem T71 : tinfo Tryd.prog 71 = some ⟨.struct [(0, 1, 3), (1, 1, 3), (2, 1, 4), (3, 3, 58)], 6, 64, some [.int .i64 0, .int .i64 0, .bool false, .int .i64 0, .int .i64 0, .nils]⟩ := by kernel_rfl
theorem T77 : tinfo Tryd.prog 77 = some ⟨.ptr, 1, 8, some [.nilp]⟩ := by kernel_rfl
theorem T79 : tinfo Tryd.prog 79 = some ⟨.struct [(0, 1, 34)], 1, 24, some [.nils]⟩ := by kernel_rfl
theorem T88 : tinfo Tryd.prog 88 = some ⟨.array 2 40, 2, 48, some [.nils, .nils]⟩ := by kernel_rfl
theorem T89 : tinfo Tryd.prog 89 = some ⟨.func, 1, 8, some [.nilf]⟩ := by kernel_rfl
theorem T95 : tinfo Tryd.prog 95 = some ⟨.slice 98, 1, 24, some [.nils]⟩ := by kernel_rfl
theorem T98 : tinfo Tryd.prog 98 = some ⟨.struct [(0, 5, 53), (5, 49, 29)], 54, 432, some [.int .i64 0, .int .i64 0, .int .i64 0, .int .i64 0, .int .i64 0, .int .i64 0, .int .i64 0, .int .i64 0, .int .i64 0, .int .i64 0, .int .i64 0, .int .i64 0, .int .i64 0, .int .i64 0, .int .i64 0, .int .i64 0, .int .i64 0, .int .i64 0, .int .i64 0, .int .i64 0, .int .i64 0, .int .i64 0, .int .i64 0, .int .i64 0, .int .i64 0, .int .i64 0, .int .i64 0, .int .i64 0, .int .i64 0, .int .i64 0, .int .i64 0, .int .i64 0, .int .i64 0, .int .i64 0, .int .i64 0, .int .i64 0, .int .i64 0, .int .i64 0, .int .i64 0, .int .i64 0, .int .i64 0, .int .i64 0, .int .i64 0, .int .i64 0, .int .i64 0, .int .i64 0, .int .i64 0, .int .i64 0, .int .i64 0, .int .i64 0, .int .i64 0, .int .i64 0, .int .i64 0, .int .i64 0]⟩ := by kernel_rfl
theorem T100 : tinfo Tryd.prog 100 = some ⟨.slice 103, 1, 24, some [.nils]⟩ := by kernel_rfl
theorem T103 : tinfo Tryd.prog 103 = some ⟨.struct [(0, 1, 3), (1, 1, 3)], 2, 16, some [.int .i64 0, .int .i64 0]⟩ := by kernel_rfl
theorem T105 : tinfo Tryd.prog 105 = some ⟨.func, 1, 8, some [.nilf]⟩ := by kernel_rfl
theorem T111 : tinfo Tryd.prog 111 = some ⟨.ptr, 1, 8, some [.nilp]⟩ := by kernel_rfl
theorem T113 : tinfo Tryd.prog 113 = some ⟨.struct [(0, 2, 25), (2, 49, 29), (51, 1, 95)], 52, 464, some [.nils, .nils, .int .i64 0, .int .i64 0, .int .i64 0, .int .i64 0, .int .i64 0, .int .i64 0, .int .i64 0, .int .i64 0, .int .i64 0, .int .i64 0, .int .i64 0, .int .i64 0, .int .i64 0, .int .i64 0, .int .i64 0, .int .i64 0, .int .i64 0, .int .i64 0, .int .i64 0, .int .i64 0, .int .i64 0, .int .i64 0, .int .i64 0, .int .i64 0, .int .i64 0, .int .i64 0, .int .i64 0, .int .i64 0, .int .i64 0, .int .i64 0, .int .i64 0, .int .i64 0, .int .i64 0, .int .i64 0, .int .i64 0, .int .i64 0, .int .i64 0, .int .i64 0, .int .i64 0, .int .i64 0, .int .i64 0, .int .i64 0, .int .i64 0, .int .i64 0, .int .i64 0, .int .i64 0, .int .i64 0, .int .i64 0, .int .i64 0, .nils]⟩ := by kernel_rfl
theorem T116 : tinfo Tryd.prog 116 = some ⟨.ptr, 1, 8, some [.nilp]⟩ := by kernel_rfl
theorem T117 : tinfo Tryd.prog 117 = some ⟨.func, 1, 8, some [.nilf]⟩ := by kernel_rfl
theorem T119 : tinfo Tryd.prog 119 = some ⟨.func, 1, 8, some [.nilf]⟩ := by kernel_rfl
theorem T122 : tinfo Tryd.prog 122 = some ⟨.slice 4, 1, 24, some [.nils]⟩ := by kernel_rfl
theorem T139 : tinfo Tryd.prog 139 = some ⟨.func, 1, 8, some [.nilf]⟩ := by kernel_rfl
theorem T141 : tinfo Tryd.prog 141 = some ⟨.struct [(0, 1, 3), (1, 1, 4), (2, 1, 3)], 3, 24, some [.int .i64 0, .bool false, .int .i64 0]⟩ := by kernel_rfl
theorem T142 : tinfo Tryd.prog 142 = some ⟨.struct [(0, 1, 3), (1, 1, 4), (2, 1, 3)], 3, 24, some [.int .i64 0, .bool false, .int .i64 0]⟩ := by kernel_rfl
theorem T158 : tinfo Tryd.prog 158 = some ⟨.struct [(0, 1, 9), (1, 1, 3), (2, 1, 3), (3, 1, 3)], 4, 40, some [.str ⟨#[]⟩, .int .i64 0, .int .i64 0, .int .i64 0]⟩ := by kernel_rfl
theorem T159 : tinfo Tryd.prog 159 = some ⟨.array 15 158, 60, 600, some [.str ⟨#[]⟩, .int .i64 0, .int .i64 0, .int .i64 0, .str ⟨#[]⟩, .int .i64 0, .int .i64 0, .int .i64 0, .str ⟨#[]⟩, .int .i64 0, .int .i64 0, .int .i64 0, .str ⟨#[]⟩, .int .i64 0, .int .i64 0, .int .i64 0, .str ⟨#[]⟩, .int .i64 0, .int .i64 0, .int .i64 0, .str ⟨#[]⟩, .int .i64 0, .int .i64 0, .int .i64 0, .str ⟨#[]⟩, .int .i64 0, .int .i64 0, .int .i64 0, .str ⟨#[]⟩, .int .i64 0, .int .i64 0, .int .i64 0, .str ⟨#[]⟩, .int .i64 0, .int .i64 0, .int .i64 0, .str ⟨#[]⟩, .int .i64 0, .int .i64 0, .int .i64 0, .str ⟨#[]⟩, .int .i64 0, .int .i64 0, .int .i64 0, .str ⟨#[]⟩, .int .i64 0, .int .i64 0, .int .i64 0, .str ⟨#[]⟩, .int .i64 0, .int .i64 0, .int .i64 0, .str ⟨#[]⟩, .int .i64 0, .int .i64 0, .int .i64 0, .str ⟨#[]⟩, .int .i64 0, .int .i64 0, .int .i64 0]⟩ := by kernel_rfl
theorem Q26 : Tryd.prog.eqGuardType Tryd.prog.depth 26 = false := by kernel_rfl
theorem E8 : Enters Tryd.prog 8 := ⟨_, _, Tryd.func8, rfl, by kernel_rfl⟩
theorem E9 : Enters Tryd.prog 9 := ⟨_, _, Tryd.func9, rfl, by kernel_rfl⟩
theorem E10 : Enters Tryd.prog 10 := ⟨_, _, Tryd.func10, rfl, by kernel_rfl⟩
theorem E11 : Enters Tryd.prog 11 := ⟨_, _, Tryd.func11, rfl, by kernel_rfl⟩
theorem E13 : Enters Tryd.prog 13 := ⟨_, _, Tryd.func13, rfl, by kernel_rfl⟩
theorem E16 : Enters Tryd.prog 16 := ⟨_, _, Tryd.func16, rfl, by kernel_rfl⟩
theorem E17 : Enters Tryd.prog 17 := ⟨_, _, Tryd.func17, rfl, by kernel_rfl⟩
theorem E19 : Enters Tryd.prog 19 := ⟨_, _, Tryd.func19, rfl, by kernel_rfl⟩
theorem E20 : Enters Tryd.prog 20 := ⟨_, _, Tryd.func20, rfl, by kernel_rfl⟩
theorem E21 : Enters Tryd.prog 21 := ⟨_, _, Tryd.func21, rfl, by kernel_rfl⟩
theorem E22 : Enters Tryd.prog 22 := ⟨_, _, Tryd.func22, rfl, by kernel_rfl⟩
theorem E23 : Enters Tryd.prog 23 := ⟨_, _, Tryd.func23, rfl, by kernel_rfl⟩
theorem E25 : Enters Tryd.prog 25 := ⟨_, _, Tryd.func25, rfl, by kernel_rfl⟩
theorem E26 : Enters Tryd.prog 26 := ⟨_, _, Tryd.func26, rfl, by kernel_rfl⟩
theorem E27 : Enters Tryd.prog 27 := ⟨_, _, Tryd.func27, rfl, by kernel_rfl⟩
theorem E31 : Enters Tryd.prog 31 := ⟨_, _, Tryd.func31, rfl, by kernel_rfl⟩
theorem E32 : Enters Tryd.prog 32 := ⟨_, _, Tryd.func32, rfl, by kernel_rfl⟩
theorem E34 : Enters Tryd.prog 34 := ⟨_, _, Tryd.func34, rfl, by kernel_rfl⟩
theorem E35 : Enters Tryd.prog 35 := ⟨_, _, Tryd.func35, rfl, by kernel_rfl⟩
theorem E36 : Enters Tryd.prog 36 := ⟨_, _, Tryd.func36, rfl, by kernel_rfl⟩
theorem E37 : Enters Tryd.prog 37 := ⟨_, _, Tryd.func37, rfl, by kernel_rfl⟩
theorem E38 : Enters Tryd.prog 38 := ⟨_, _, Tryd.func38, rfl, by kernel_rfl⟩
theorem E39 : Enters Tryd.prog 39 := ⟨_, _, Tryd.func39, rfl, by kernel_rfl⟩
theorem E40 : Enters Tryd.prog 40 := ⟨_, _, Tryd.func40, rfl, by kernel_rfl⟩
theorem E49 : Enters Tryd.prog 49 := ⟨_, _, Tryd.func49, rfl, by kernel_rfl⟩
theorem E50 : Enters Tryd.prog 50 := ⟨_, _, Tryd.func50, rfl, by kernel_rfl⟩
theorem E51 : Enters Tryd.prog 51 := ⟨_, _, Tryd.func51, rfl, by kernel_rfl⟩
theorem E52 : Enters Tryd.prog 52 := ⟨_, _, Tryd.func52, rfl, by kernel_rfl⟩
theorem E53 : Enters Tryd.prog 53 := ⟨_, _, Tryd.func53, rfl, by kernel_rfl⟩
theorem E54 : Enters Tryd.prog 54 := ⟨_, _, Tryd.func54, rfl, by kernel_rfl⟩
theorem E55 : Enters Tryd.prog 55 := ⟨_, _, Tryd.func55, rfl, by kernel_rfl⟩
theorem E56 : Enters Tryd.prog 56 := ⟨_, _, Tryd.func56, rfl, by kernel_rfl⟩
theorem E57 : Enters Tryd.prog 57 := ⟨_, _, Tryd.func57, rfl, by kernel_rfl⟩
theorem E58 : Enters Tryd.prog 58 := ⟨_, _, Tryd.func58, rfl, by kernel_rfl⟩
theorem E59 : Enters Tryd.prog 59 := ⟨_, _, Tryd.func59, rfl, by kernel_rfl⟩
theorem E60 : Enters Tryd.prog 60 := ⟨_, _, Tryd.func60, rfl, by kernel_rfl⟩
theorem E61 : Enters Tryd.prog 61 := ⟨_, _, Tryd.func61, rfl, by kernel_rfl⟩
theorem E62 : Enters Tryd.prog 62 := ⟨_, _, Tryd.func62, rfl, by kernel_rfl⟩
theorem E63 : Enters Tryd.prog 63 := ⟨_, _, Tryd.func63, rfl, by kernel_rfl⟩
theorem E72 : Enters Tryd.prog 72 := ⟨_, _, Tryd.func72, rfl, by kernel_rfl⟩
theorem E73 : Enters Tryd.prog 73 := ⟨_, _, Tryd.func73, rfl, by kernel_rfl⟩
theorem E74 : Enters Tryd.prog 74 := ⟨_, _, Tryd.func74, rfl, by kernel_rfl⟩
theorem E75 : Enters Tryd.prog 75 := ⟨_, _, Tryd.func75, rfl, by kernel_rfl⟩
theorem E76 : Enters Tryd.prog 76 := ⟨_, _, Tryd.func76, rfl, by kernel_rfl⟩
theorem E77 : Enters Tryd.prog 77 := ⟨_, _, Tryd.func77, rfl, by kernel_rfl⟩
theorem E78 : Enters Tryd.prog 78 := ⟨_, _, Tryd.func78, rfl, by kernel_rfl⟩
theorem E79 : Enters Tryd.prog 79 := ⟨_, _, Tryd.func79, rfl, by kernel_rfl⟩
theorem E80 : Enters Tryd.prog 80 := ⟨_, _, Tryd.func80, rfl, by kernel_rfl⟩
theorem E81 : Enters Tryd.prog 81 := ⟨_, _, Tryd.func81, rfl, by kernel_rfl⟩
theorem E82 : Enters Tryd.prog 82 := ⟨_, _, Tryd.func82, rfl, by kernel_rfl⟩
theorem E83 : Enters Tryd.prog 83 := ⟨_, _, Tryd.func83, rfl, by kernel_rfl⟩
theorem E84 : Enters Tryd.prog 84 := ⟨_, _, Tryd.func84, rfl, by kernel_rfl⟩
theorem E85 : Enters Tryd.prog 85 := ⟨_, _, Tryd.func85, rfl, by kernel_rfl⟩
theorem E86 : Enters Tryd.prog 86 := ⟨_, _, Tryd.func86, rfl, by kernel_rfl⟩
theorem E87 : Enters Tryd.prog 87 := ⟨_, _, Tryd.func87, rfl, by kernel_rfl⟩
theorem E93 : Enters Tryd.prog 93 := ⟨_, _, Tryd.func93, rfl, by kernel_rfl⟩
theorem E94 : Enters Tryd.prog 94 := ⟨_, _, Tryd.func94, rfl, by kernel_rfl⟩
theorem E95 : Enters Tryd.prog 95 := ⟨_, _, Tryd.func95, rfl, by kernel_rfl⟩
theorem E96 : Enters Tryd.prog 96 := ⟨_, _, Tryd.func96, rfl, by kernel_rfl⟩
theorem E97 : Enters Tryd.prog 97 := ⟨_, _, Tryd.func97, rfl, by kernel_rfl⟩
theorem E100 : Enters Tryd.prog 100 := ⟨_, _, Tryd.func100, rfl, by kernel_rfl⟩
theorem E101 : Enters Tryd.prog 101 := ⟨_, _, Tryd.func101, rfl, by kernel_rfl⟩
theorem E102 : Enters Tryd.prog 102 := ⟨_, _, Tryd.func102, rfl, by kernel_rfl⟩
theorem E103 : Enters Tryd.prog 103 := ⟨_, _, Tryd.func103, rfl, by kernel_rfl⟩
theorem E108 : Enters Tryd.prog 108 := ⟨_, _, Tryd.func108, rfl, by kernel_rfl⟩
theorem E109 : Enters Tryd.prog 109 := ⟨_, _, Tryd.func109, rfl, by kernel_rfl⟩
theorem E110 : Enters Tryd.prog 110 := ⟨_, _, Tryd.func110, rfl, by kernel_rfl⟩
theorem E111 : Enters Tryd.prog 111 := ⟨_, _, Tryd.func111, rfl, by kernel_rfl⟩
theorem E112 : Enters Tryd.prog 112 := ⟨_, _, Tryd.func112, rfl, by kernel_rfl⟩
theorem E115 : Enters Tryd.prog 115 := ⟨_, _, Tryd.func115, rfl, by kernel_rfl⟩
theorem E116 : Enters Tryd.prog 116 := ⟨_, _, Tryd.func116, rfl, by kernel_rfl⟩
theorem E117 : Enters Tryd.prog 117 := ⟨_, _, Tryd.func117, rfl, by kernel_rfl⟩
theorem E118 : Enters Tryd.prog 118 := ⟨_, _, Tryd.func118, rfl, by kernel_rfl⟩
end Go.Proofs.YtjpphhcimpclpaaDoor.AM
end

section
set_option linter.unusedVariables false
set_option linter.unusedSimpArgs false
namespace Go.Proofs.YtjpphhcimpclpaaDoor.AM
open Go Go.Proofs
set_option linter.defProp false in
inductive Tm where
  | mk (op n : Int) (kids : List Tm)

namespace Tm
def op : Tm → Int | .mk o _ _ => o
def n : Tm → Int | .mk _ n _ => n
def kids : Tm → List Tm | .mk _ _ k => k
end Tm

def eT : Tm → List PV
  | .mk o n ks => [.int .i64 o, .int .i64 n, .sl (ks.map eT)]

theorem eT_eq (t : Tm) : eT t = [.int .i64 t.op, .int .i64 t.n, .sl (t.kids.map eT)] := by
  cases t; simp [eT, Tm.op, Tm.n, Tm.kids]

theorem Tm.kid_lt {t k : Tm} (h : k ∈ t.kids) : SizeOf.sizeOf k < SizeOf.sizeOf t := by
  cases t with
  | mk o n ks =>
    have := List.sizeOf_lt_of_mem h
    simp only [Tm.kids, Tm.mk.sizeOf_spec] at *
    omega

theorem Tm.ind {p : Tm → Prop} (h : ∀ t, (∀ k ∈ t.kids, p k) → p t) (t : Tm) : p t :=
  h t fun k hk => Tm.ind h k
termination_by SizeOf.sizeOf t
decreasing_by exact Tm.kid_lt hk

abbrev aT (t : Tm) : AV := .agg [.i t.op, .i t.n, .p (.sl (t.kids.map eT))]

/-- As deep as d at most, and no term of more than 100 kids. -/
inductive Tm.Ok : Nat → Tm → Prop where
  | mk (d : Nat) (t : Tm) (hk : t.kids.length ≤ 100) (h : ∀ k ∈ t.kids, Tm.Ok d k) : Tm.Ok (d + 1) t

/-- A property of terms that are not too large. -/
theorem Tm.Ok.ind {p : Nat → Tm → Prop} (h : ∀ d t, t.kids.length ≤ 100 → (∀ k ∈ t.kids, Tm.Ok d k ∧ p d k) → p (d + 1) t) {d : Nat} {t : Tm} (ht : Tm.Ok d t) : p d t := by
  induction ht with
  | mk d t hk hh ih => exact h d t hk fun k hm => ⟨hh k hm, ih k hm⟩

def Tm.depth : Tm → Nat
  | .mk _ _ ks => (ks.map Tm.depth).foldl max 0 + 1

theorem Tm.depth_eq (t : Tm) : t.depth = (t.kids.map Tm.depth).foldl max 0 + 1 := by
  cases t; simp [Tm.depth, Tm.kids]

theorem row_of {l : List Tm} {i : Nat} {k : Tm} (h : l[i]? = some k) : (l.map eT)[i]? = some (eT k) := by simp [h]

end Go.Proofs.YtjpphhcimpclpaaDoor.AM
end

section
set_option linter.unusedVariables false
set_option linter.unusedSimpArgs false
set_option maxRecDepth 4000
namespace Go.Proofs.YtjpphhcimpclpaaDoor.AM
open Go Go.Proofs
set_option linter.defProp false in
def TTEvA := And.intro T2 (And.intro T3 (And.intro T4 (And.intro T27 (And.intro T31 (And.intro T58 (And.intro T141 (And.intro T142 (And.intro T158 T159))))))))
attribute [local irreducible] awp aops aqops
variable {G : Nat → Option (List PV)}

def inM (n : Int) : Bool := decide (-1099511627776 ≤ n) && decide (n ≤ 1099511627776)

theorem fits_calls (n : Int) (h : Heap) : ACalls Tryd.prog G 37 [.i n] h (fun r h' => r = .b (inM n) ∧ h' = h) := by
  refine acalls_pure (rl := []) mixed Tryd.func37 rfl (rs := [.tmp 2]) rfl Tryd.ntmps37 (by simp) ?_
  repeat' (first | ((first | refine aops_nil ?_ | refine aqops_nil ?_); (try simp only [NB])) | ((repeat ((fail_if_success (refine hK _ ?_)); clear hK K)); refine hK _ ?_; clear hK K) | ((first | refine aops_k fun K1 hK1 => ?_ | refine aqops_k fun K1 hK1 => ?_ | refine awp_cond_k fun A B hA hB => ?_); simp only [S1, simprocAttr, TTEvA]; first | (refine hK1 _ ?_; clear hK1 K1) | ((first | refine hA ?_ | refine hB ?_); clear hA hB A B) | (refine join_x (v := ?_) (fun hg hk9 => ?_) ?_; rotate_left; (focus (try ((try simp only [BN] at hg); simp only [S1, simprocAttr, TTEvA, hg] at hk9 ⊢)); first | exact hk9); (refine hK1 _ ?_; clear hK1 K1)) | (((first | (refine ⟨fun hg => hA ?_, fun hg => hB ?_⟩ <;> clear hA hB A B) | refine ⟨fun hg => ?_, fun hg => ?_⟩) <;> (try simp only [BN2] at hg) <;> (try simp only [hg, cond_true, cond_false])) <;> (try (refine hK1 _ ?_; clear hK1 K1)) <;> (try simp only [BN3] at hg))) | (refine awp_seq_k fun K hK => ?_) | ((first | refine awp_region ?_ | refine awp_draw (by kernel_rfl) ?_ | refine awp_block ?_ | refine awp_exit ?_ | refine awp_skip ?_ | refine awp_ret ?_); (try simp only [NB, simprocAttr])))
  all_goals simp only [EndP, FinP, resA, resL, resA1, lastV, lastA, lastAs, pur, purs, take_app, List.take_length, S1, simprocAttr, TTEvA, Nat.le_add_right, Nat.le_refl]
  all_goals simp [inM]

theorem abs_calls (n : Int) (h : Heap) : ACalls Tryd.prog G 115 [.i n] h (fun r h' => r = .i (if n < IntKind.i64.wrap (0 - n) then IntKind.i64.wrap (0 - n) else n) ∧ h' = h) := by
  refine acalls_pure (rl := []) mixed Tryd.func115 rfl (rs := [.tmp 2]) rfl Tryd.ntmps115 (by simp) ?_
  repeat' (first | ((first | refine aops_nil ?_ | refine aqops_nil ?_); (try simp only [NB])) | ((repeat ((fail_if_success (refine hK _ ?_)); clear hK K)); refine hK _ ?_; clear hK K) | ((first | refine aops_k fun K1 hK1 => ?_ | refine aqops_k fun K1 hK1 => ?_ | refine awp_cond_k fun A B hA hB => ?_); simp only [S1, simprocAttr, TTEvA]; first | (refine hK1 _ ?_; clear hK1 K1) | ((first | refine hA ?_ | refine hB ?_); clear hA hB A B) | (((first | (refine ⟨fun hg => hA ?_, fun hg => hB ?_⟩ <;> clear hA hB A B) | refine ⟨fun hg => ?_, fun hg => ?_⟩) <;> (try simp only [BN2] at hg) <;> (try simp only [hg, cond_true, cond_false])) <;> (try (refine hK1 _ ?_; clear hK1 K1)) <;> (try simp only [BN3] at hg))) | (refine awp_seq_k fun K hK => ?_) | ((first | refine awp_region ?_ | refine awp_draw (by kernel_rfl) ?_ | refine awp_block ?_ | refine awp_exit ?_ | refine awp_skip ?_ | refine awp_ret ?_); (try simp only [NB, simprocAttr])))
  all_goals simp only [EndP, FinP, resA, resL, resA1, lastV, lastA, lastAs, pur, purs, take_app, List.take_length, S1, simprocAttr, TTEvA, Nat.le_add_right, Nat.le_refl]

def kidsN (o : Int) : Int := if o < 3 then 0 else if o < 5 then 1 else 2

end Go.Proofs.YtjpphhcimpclpaaDoor.AM
end

section
set_option linter.unusedVariables false
set_option linter.unusedSimpArgs false
set_option maxRecDepth 4000
namespace Go.Proofs.YtjpphhcimpclpaaDoor.AM
open Go Go.Proofs
set_option linter.defProp false in
attribute [local irreducible] awp aops aqops
variable {G : Nat → Option (List PV)}

def truthOp (o : Int) : Bool := o == 4 || decide (10 ≤ o)
def wantOp (o : Int) : Bool := o == 4 || decide (13 ≤ o)

def Tm.typed : Tm → Bool
  | .mk o _ ks => (ks.map Tm.typed).all id && ks.all fun k => truthOp k.op == wantOp o
def kidTyped (o : Int) (k : Tm) : Bool := (truthOp k.op == wantOp o) && k.typed
theorem Tm.typed_eq (t : Tm) : t.typed = t.kids.all (kidTyped t.op) := by
  cases t with
  | mk o n ks =>
    simp only [Tm.typed, Tm.op, Tm.kids, List.all_map, Function.id_comp]
    induction ks with
    | nil => rfl
    | cons k r ih =>
      rw [List.all_cons, List.all_cons, List.all_cons, ← ih]
      show _ = (((truthOp k.op == wantOp o) && k.typed) && _)
      ac_rfl

def headOk (o n : Int) (k : Nat) : Bool := decide (1 ≤ o) && decide (o ≤ 14) && decide ((k : Int) = kidsN o) && decide (0 ≤ n) && decide (o = 1 → n ≤ 1099511627776) && decide (o = 2 → n ≤ 3) && decide (2 < o → n = 0)
def Tm.form : Tm → Bool
  | .mk o n ks => headOk o n ks.length && (ks.map Tm.form).all id
theorem Tm.form_eq (t : Tm) : t.form = (headOk t.op t.n t.kids.length && t.kids.all Tm.form) := by cases t; simp only [Tm.form, Tm.op, Tm.n, Tm.kids, List.all_map, Function.id_comp]

theorem idx_hit {ks : List Tm} {i : Nat} (h : i < ks.length) : decide ((i : Int) < (ks.length : Int)) = true := by simp; omega
theorem idx_end {ks : List Tm} : decide ((ks.length : Int) < (ks.length : Int)) = false := by simp
theorem idx_next {ks : List Tm} {i : Nat} (hk : ks.length ≤ 100) (h : i < ks.length) : IntKind.i64.wrap ((i : Int) + 1) = ((i + 1 : Nat) : Int) := by rw [IntWalk.i64_in _ (by omega)]; omega

end Go.Proofs.YtjpphhcimpclpaaDoor.AM
end

section
set_option linter.unusedVariables false
set_option linter.unusedSimpArgs false
set_option maxRecDepth 4000
set_option maxHeartbeats 4000000
namespace Go.Proofs.YtjpphhcimpclpaaDoor.AM
open Go Go.Proofs
set_option linter.defProp false in
def TTEvE := And.intro T2 (And.intro T3 (And.intro T4 (And.intro T27 (And.intro T31 (And.intro T56 (And.intro T58 T139))))))
attribute [local irreducible] awp aops aqops
variable {G : Nat → Option (List PV)}

def findI (p : Tm → Bool) : List Tm → Nat → Int
  | [], _ => -1
  | k :: r, i => if p k then (i : Int) else findI p r (i + 1)

theorem findI_any (p : Tm → Bool) : ∀ (l : List Tm) (i : Nat), decide (0 ≤ findI p l i) = l.any p
  | [], i => rfl
  | k :: r, i => by
    unfold findI
    cases h : p k with
    | true => simp [h]
    | false => simp [h, findI_any p r (i + 1)]

theorem findI_step {p : Tm → Bool} {l : List Tm} {i : Nat} {k : Tm} (hk : l[i]? = some k) : findI p (l.drop i) i = if p k then (i : Int) else findI p (l.drop (i + 1)) (i + 1) := by
  obtain ⟨h, e⟩ := List.getElem?_eq_some_iff.mp hk
  rw [List.drop_eq_getElem_cons h, e]; rfl

theorem index_calls {f : FuncId} (hE : Enters Tryd.prog f) {caps : List AV} {p : Tm → Bool} (ks : List Tm) (hl : ks.length ≤ 100) (h : Heap) (hcap : avlts h.length caps)
    (hc0 : ∀ k ∈ ks, ACalls Tryd.prog G f (aT k :: caps) h (fun r h' => r = .b (p k) ∧ h' = h)) :
    ACalls Tryd.prog G 118 [.p (.sl (ks.map eT)), .fn f caps] h (fun r h' => r = .i (findI p ks 0) ∧ h' = h) := by
  refine acalls_pure (rl := []) mixed Tryd.func118 rfl (rs := [.tmp 4]) rfl Tryd.ntmps118 (by simp) ?_
  repeat' (first | ((first | refine aops_nil ?_ | refine aqops_nil ?_); (try simp only [NB])) | ((repeat ((fail_if_success (refine hK _ ?_)); clear hK K)); refine hK _ ?_; clear hK K) | ((first | refine aops_k fun K1 hK1 => ?_ | refine aqops_k fun K1 hK1 => ?_ | refine awp_cond_k fun A B hA hB => ?_); simp only [S1, simprocAttr, TTEvE]; first | (refine hK1 _ ?_; clear hK1 K1) | ((first | refine hA ?_ | refine hB ?_); clear hA hB A B) | (((first | (refine ⟨fun hg => hA ?_, fun hg => hB ?_⟩ <;> clear hA hB A B) | refine ⟨fun hg => ?_, fun hg => ?_⟩) <;> (try simp only [BN2] at hg) <;> (try simp only [hg, cond_true, cond_false])) <;> (try (refine hK1 _ ?_; clear hK1 K1)) <;> (try simp only [BN3] at hg))) | (refine awp_seq_k fun K hK => ?_) | ((first | refine awp_region ?_ | refine awp_draw (by kernel_rfl) ?_ | refine awp_block ?_ | refine awp_exit ?_ | refine awp_skip ?_ | refine awp_ret ?_); (try simp only [NB, simprocAttr])))
  refine awp_for ks.length 19 (fun i => [(8, .i i), (7, .i ks.length), (0, .p (.sl (ks.map eT))), (1, .fn f caps)]) (fun i => []) (fun i => findI p ks 0 = findI p (ks.drop i) i) ?_ rfl fun i hi hp K hK => ?_
  · (refine ⟨rfl, (by first | exact ⟨_, rfl⟩ | exact ⟨[], by simp⟩), ?_, ?_⟩ <;> simp only [keeps, avlt, avlts, blksLt, frL, upd_get, S1, simprocAttr, List.length_map, Int.natCast_zero, AV.p.injEq, PV.int.injEq, PV.bool.injEq, PV.sl.injEq] <;> (try and_intros) <;> (try assumption) <;> (try trivial) <;> (try omega))
  rcases Nat.lt_or_ge i ks.length with hlt | hge
  · obtain ⟨k, hx⟩ : ∃ k, ks[i]? = some k := ⟨_, List.getElem?_eq_getElem hlt⟩
    have hm := List.mem_of_getElem? hx
    rw [findI_step hx] at hp
    repeat' (first | ((first | refine aops_nil ?_ | refine aqops_nil ?_); (try simp only [NB])) | ((repeat ((fail_if_success (refine hK _ ?_)); clear hK K)); refine hK _ ?_; clear hK K) | ((first | refine aops_k fun K1 hK1 => ?_ | refine aqops_k fun K1 hK1 => ?_ | refine awp_cond_k fun A B hA hB => ?_); simp only [S1, simprocAttr, TTEvE, row_of hx, idx_hit hlt, idx_next hl hlt, eT_eq]; first | (refine hK1 _ ?_; clear hK1 K1) | ((first | refine hA ?_ | refine hB ?_); clear hA hB A B) | ((first | apply call_a hE | apply call_q hE); exact (hc0 k hm); (refine hK1 _ ?_; clear hK1 K1)) | (((first | (refine ⟨fun hg => hA ?_, fun hg => hB ?_⟩ <;> clear hA hB A B) | refine ⟨fun hg => ?_, fun hg => ?_⟩) <;> (try simp only [BN2] at hg) <;> (try simp only [hg, cond_true, cond_false])) <;> (try (refine hK1 _ ?_; clear hK1 K1)) <;> (try simp only [BN3] at hg))) | (refine awp_seq_k fun K hK => ?_) | ((first | refine awp_region ?_ | refine awp_draw (by kernel_rfl) ?_ | refine awp_block ?_ | refine awp_exit ?_ | refine awp_skip ?_ | refine awp_ret ?_); (try simp only [NB, simprocAttr])))
    · simp only [EndP, FinP, resA, resL, resA1, lastV, lastA, lastAs, pur, purs, take_app, List.take_length, S1, simprocAttr, TTEvE, Nat.le_add_right, Nat.le_refl]
      simp [hp, hg]
    · exact ⟨hlt, by simpa [hg] using hp, by (refine ⟨rfl, (by first | exact ⟨_, rfl⟩ | exact ⟨[], by simp⟩), ?_, ?_⟩ <;> simp only [keeps, avlt, avlts, blksLt, frL, upd_get, S1, simprocAttr, List.length_map, Int.natCast_zero, AV.p.injEq, PV.int.injEq, PV.bool.injEq, PV.sl.injEq] <;> (try and_intros) <;> (try assumption) <;> (try trivial) <;> (try omega))⟩
  · obtain rfl : i = ks.length := by omega
    repeat' (first | ((first | refine aops_nil ?_ | refine aqops_nil ?_); (try simp only [NB])) | ((repeat ((fail_if_success (refine hK _ ?_)); clear hK K)); refine hK _ ?_; clear hK K) | ((first | refine aops_k fun K1 hK1 => ?_ | refine aqops_k fun K1 hK1 => ?_ | refine awp_cond_k fun A B hA hB => ?_); simp only [S1, simprocAttr, TTEvE, idx_end]; first | (refine hK1 _ ?_; clear hK1 K1) | ((first | refine hA ?_ | refine hB ?_); clear hA hB A B) | (((first | (refine ⟨fun hg => hA ?_, fun hg => hB ?_⟩ <;> clear hA hB A B) | refine ⟨fun hg => ?_, fun hg => ?_⟩) <;> (try simp only [BN2] at hg) <;> (try simp only [hg, cond_true, cond_false])) <;> (try (refine hK1 _ ?_; clear hK1 K1)) <;> (try simp only [BN3] at hg))) | (refine awp_seq_k fun K hK => ?_) | ((first | refine awp_region ?_ | refine awp_draw (by kernel_rfl) ?_ | refine awp_block ?_ | refine awp_exit ?_ | refine awp_skip ?_ | refine awp_ret ?_); (try simp only [NB, simprocAttr])))
    simp only [EndP, FinP, resA, resL, resA1, lastV, lastA, lastAs, pur, purs, take_app, List.take_length, S1, simprocAttr, TTEvE, Nat.le_add_right, Nat.le_refl]
    rw [List.drop_length] at hp
    simp [hp, findI]
theorem contains_calls {f : FuncId} (hE : Enters Tryd.prog f) {caps : List AV} {p : Tm → Bool} (ks : List Tm) (hl : ks.length ≤ 100) (h : Heap) (hcap : avlts h.length caps)
    (hc : ∀ k ∈ ks, ACalls Tryd.prog G f (aT k :: caps) h (fun r h' => r = .b (p k) ∧ h' = h)) :
    ACalls Tryd.prog G 111 [.p (.sl (ks.map eT)), .fn f caps] h (fun r h' => r = .b (ks.any p) ∧ h' = h) := by
  rw [← findI_any p ks 0]
  refine acalls_pure (rl := []) mixed Tryd.func111 rfl (rs := [.tmp 4]) rfl Tryd.ntmps111 (by simp) ?_
  repeat' (first | ((first | refine aops_nil ?_ | refine aqops_nil ?_); (try simp only [NB])) | ((repeat ((fail_if_success (refine hK _ ?_)); clear hK K)); refine hK _ ?_; clear hK K) | ((first | refine aops_k fun K1 hK1 => ?_ | refine aqops_k fun K1 hK1 => ?_ | refine awp_cond_k fun A B hA hB => ?_); simp only [S1, simprocAttr, TTEvE]; first | (refine hK1 _ ?_; clear hK1 K1) | ((first | refine hA ?_ | refine hB ?_); clear hA hB A B) | ((first | apply call_a E118 | apply call_q E118); exact (index_calls hE ks hl _ hcap hc); (refine hK1 _ ?_; clear hK1 K1)) | (((first | (refine ⟨fun hg => hA ?_, fun hg => hB ?_⟩ <;> clear hA hB A B) | refine ⟨fun hg => ?_, fun hg => ?_⟩) <;> (try simp only [BN2] at hg) <;> (try simp only [hg, cond_true, cond_false])) <;> (try (refine hK1 _ ?_; clear hK1 K1)) <;> (try simp only [BN3] at hg))) | (refine awp_seq_k fun K hK => ?_) | ((first | refine awp_region ?_ | refine awp_draw (by kernel_rfl) ?_ | refine awp_block ?_ | refine awp_exit ?_ | refine awp_skip ?_ | refine awp_ret ?_); (try simp only [NB, simprocAttr])))
  simp only [EndP, FinP, resA, resL, resA1, lastV, lastA, lastAs, pur, purs, take_app, List.take_length, S1, simprocAttr, TTEvE, Nat.le_add_right, Nat.le_refl]
end Go.Proofs.YtjpphhcimpclpaaDoor.AM
end

section
set_option linter.unusedVariables false
set_option linter.unusedSimpArgs false
set_option maxRecDepth 4000
set_option maxHeartbeats 4000000
namespace Go.Proofs.YtjpphhcimpclpaaDoor.AM
open Go Go.Proofs
set_option linter.defProp false in
def TTEvF := And.intro T2 (And.intro T3 (And.intro T4 (And.intro T27 (And.intro T31 (And.intro T56 (And.intro T58 T139))))))
attribute [local irreducible] awp aops aqops
variable {G : Nat → Option (List PV)}

def Tm.dp : Tm → Int → Bool
  | .mk _ _ ks, d => decide (24 < d) || (ks.map Tm.dp).any (fun f => f (d + 1))
theorem Tm.dp_eq (t : Tm) (d : Int) : t.dp d = (decide (24 < d) || t.kids.any (fun k => k.dp (d + 1))) := by
  cases t; simp only [Tm.dp, Tm.kids, List.any_map]; rfl

theorem max_le_iff {l : List Nat} : ∀ (a d : Nat), l.foldl max a ≤ d ↔ a ≤ d ∧ ∀ x ∈ l, x ≤ d := by
  induction l with
  | nil => intro a d; simp
  | cons x r ih => intro a d; rw [List.foldl_cons, ih, Nat.max_le]; simp only [List.mem_cons, forall_eq_or_imp, and_assoc]

theorem Tm.dp_depth (t : Tm) : ∀ d : Int, t.dp d = decide (25 < d + t.depth) := by
  refine Tm.ind (p := fun t => ∀ d : Int, t.dp d = decide (25 < d + t.depth)) (fun t ih d => ?_) t
  rw [Tm.dp_eq, Bool.eq_iff_iff]
  simp only [Bool.or_eq_true, decide_eq_true_eq, List.any_eq_true]
  have hm := fun n : Nat => max_le_iff (l := t.kids.map Tm.depth) 0 n
  rw [Tm.depth_eq]
  constructor
  · rintro (h | ⟨k, hk, h⟩)
    · omega
    · rw [ih k hk] at h
      simp only [decide_eq_true_eq] at h
      have := ((hm _).mp (Nat.le_refl _)).2 k.depth (List.mem_map_of_mem hk)
      omega
  · intro h
    by_cases h1 : 24 < d
    · exact .inl h1
    · right
      cases Classical.em (∃ x, x ∈ t.kids ∧ x.dp (d + 1) = true) with
      | inl e => exact e
      | inr e =>
        exfalso
        have : (t.kids.map Tm.depth).foldl max 0 ≤ (24 - d).toNat := by
          rw [hm]
          refine ⟨Nat.zero_le _, fun x hx => ?_⟩
          obtain ⟨k, hk, rfl⟩ := List.mem_map.mp hx
          have h2 : ¬ k.dp (d + 1) = true := fun h3 => e ⟨k, hk, h3⟩
          rw [ih k hk] at h2
          simp only [decide_eq_true_eq] at h2
          omega
        omega

theorem deep1_calls (k : Tm) (d : Int) (h1 : -1000 ≤ d) (h2 : d ≤ 1000) (h : Heap) {b : Nat} (hb : h[b]? = some (some ⟨0, [.i d]⟩))
    (ih : ∀ h : Heap, ACalls Tryd.prog G 109 [aT k, .i (d + 1)] h (fun r h' => r = .b (k.dp (d + 1)) ∧ h' = h)) :
    ACalls Tryd.prog G 116 [aT k, .ptr b 0 0] h (fun r h' => r = .b (k.dp (d + 1)) ∧ h' = h) := by
  have hlt : b < h.length := (List.getElem?_eq_some_iff.mp hb).1
  have hbL : ∀ L : Heap, (h ++ L)[b]? = some (some ⟨0, [.i d]⟩) := fun L => by rw [List.getElem?_append_left hlt]; exact hb
  have hw := IntWalk.i64_in (d + 1) (by omega)
  refine acalls_pure (rl := []) mixed Tryd.func116 rfl (rs := [.tmp 3]) rfl Tryd.ntmps116 (by simp) ?_
  repeat' (first | ((first | refine aops_nil ?_ | refine aqops_nil ?_); (try simp only [NB])) | ((repeat ((fail_if_success (refine hK _ ?_)); clear hK K)); refine hK _ ?_; clear hK K) | ((first | refine aops_k fun K1 hK1 => ?_ | refine aqops_k fun K1 hK1 => ?_ | refine awp_cond_k fun A B hA hB => ?_); simp only [S1, simprocAttr, TTEvF, hbL, hw]; first | (refine hK1 _ ?_; clear hK1 K1) | ((first | refine hA ?_ | refine hB ?_); clear hA hB A B) | ((first | apply call_a E109 | apply call_q E109); exact (ih _); (refine hK1 _ ?_; clear hK1 K1)) | (((first | (refine ⟨fun hg => hA ?_, fun hg => hB ?_⟩ <;> clear hA hB A B) | refine ⟨fun hg => ?_, fun hg => ?_⟩) <;> (try simp only [BN2] at hg) <;> (try simp only [hg, cond_true, cond_false])) <;> (try (refine hK1 _ ?_; clear hK1 K1)) <;> (try simp only [BN3] at hg))) | (refine awp_seq_k fun K hK => ?_) | ((first | refine awp_region ?_ | refine awp_draw (by kernel_rfl) ?_ | refine awp_block ?_ | refine awp_exit ?_ | refine awp_skip ?_ | refine awp_ret ?_); (try simp only [NB, simprocAttr])))
  simp only [EndP, FinP, resA, resL, resA1, lastV, lastA, lastAs, pur, purs, take_app, List.take_length, S1, simprocAttr, TTEvF, Nat.le_add_right, Nat.le_refl]

theorem deep_calls {n : Nat} {t : Tm} (ht : Tm.Ok n t) : ∀ (d : Int) (h : Heap), -1000 ≤ d → d ≤ 1000 → ACalls Tryd.prog G 109 [aT t, .i d] h (fun r h' => r = .b (t.dp d) ∧ h' = h) := by
  refine Tm.Ok.ind (p := fun n t => ∀ (d : Int) (h : Heap), -1000 ≤ d → d ≤ 1000 → ACalls Tryd.prog G 109 [aT t, .i d] h (fun r h' => r = .b (t.dp d) ∧ h' = h)) (fun n t hk ih d h h1 h2 => ?_) ht
  rw [Tm.dp_eq]
  by_cases hd : 24 < d
  · refine acalls_pure (rl := []) mixed Tryd.func109 rfl (rs := [.tmp 4]) rfl Tryd.ntmps109 (by simp) ?_
    have hf : decide (24 < d) = true := by simpa using hd
    repeat' (first | ((first | refine aops_nil ?_ | refine aqops_nil ?_); (try simp only [NB])) | ((repeat ((fail_if_success (refine hK _ ?_)); clear hK K)); refine hK _ ?_; clear hK K) | ((first | refine aops_k fun K1 hK1 => ?_ | refine aqops_k fun K1 hK1 => ?_ | refine awp_cond_k fun A B hA hB => ?_); simp only [S1, simprocAttr, TTEvF, hf]; first | (refine hK1 _ ?_; clear hK1 K1) | ((first | refine hA ?_ | refine hB ?_); clear hA hB A B) | (refine join_x (v := ?_) (fun hg hk9 => ?_) ?_; rotate_left; (focus (try ((try simp only [BN] at hg); simp only [S1, simprocAttr, TTEvF, hf, hg] at hk9 ⊢)); first | exact hk9); (refine hK1 _ ?_; clear hK1 K1)) | (((first | (refine ⟨fun hg => hA ?_, fun hg => hB ?_⟩ <;> clear hA hB A B) | refine ⟨fun hg => ?_, fun hg => ?_⟩) <;> (try simp only [BN2] at hg) <;> (try simp only [hg, cond_true, cond_false])) <;> (try (refine hK1 _ ?_; clear hK1 K1)) <;> (try simp only [BN3] at hg))) | (refine awp_seq_k fun K hK => ?_) | ((first | refine awp_region ?_ | refine awp_draw (by kernel_rfl) ?_ | refine awp_block ?_ | refine awp_exit ?_ | refine awp_skip ?_ | refine awp_ret ?_); (try simp only [NB, simprocAttr])))
    simp only [EndP, FinP, resA, resL, resA1, lastV, lastA, lastAs, pur, purs, take_app, List.take_length, S1, simprocAttr, TTEvF, Nat.le_add_right, Nat.le_refl]
    try simp [hf]
  · have hf : decide (24 < d) = false := by simpa using hd
    have hc := fun (L : Heap) (b : Nat) (hb : (h ++ L)[b]? = some (some ⟨0, [.i d]⟩)) => contains_calls (G := G) E116 (caps := [.ptr b 0 0]) (p := fun k => k.dp (d + 1)) t.kids hk (h ++ L) (by simp only [avlts, avlt, and_true]; exact (List.getElem?_eq_some_iff.mp hb).1) fun k hm => deep1_calls k d h1 h2 _ hb fun h => (ih k hm).2 _ h (by omega) (by omega)
    refine acalls_pure (rl := []) mixed Tryd.func109 rfl (rs := [.tmp 4]) rfl Tryd.ntmps109 (by simp) ?_
    repeat' (first | ((first | refine aops_nil ?_ | refine aqops_nil ?_); (try simp only [NB])) | ((repeat ((fail_if_success (refine hK _ ?_)); clear hK K)); refine hK _ ?_; clear hK K) | ((first | refine aops_k fun K1 hK1 => ?_ | refine aqops_k fun K1 hK1 => ?_ | refine awp_cond_k fun A B hA hB => ?_); simp only [S1, simprocAttr, TTEvF, hf]; first | (refine hK1 _ ?_; clear hK1 K1) | ((first | refine hA ?_ | refine hB ?_); clear hA hB A B) | ((first | apply call_a E111 | apply call_q E111); exact (hc _ _ (by simp only [S1, simprocAttr, TTEvF])); (refine hK1 _ ?_; clear hK1 K1)) | (refine join_x (v := ?_) (fun hg hk9 => ?_) ?_; rotate_left; (focus (try ((try simp only [BN] at hg); simp only [S1, simprocAttr, TTEvF, hf, hg] at hk9 ⊢)); first | exact hk9 | ((first | apply call_a E111 | apply call_q E111); exact (hc _ _ (by simp only [S1, simprocAttr, TTEvF])); exact hk9)); (refine hK1 _ ?_; clear hK1 K1)) | (((first | (refine ⟨fun hg => hA ?_, fun hg => hB ?_⟩ <;> clear hA hB A B) | refine ⟨fun hg => ?_, fun hg => ?_⟩) <;> (try simp only [BN2] at hg) <;> (try simp only [hg, cond_true, cond_false])) <;> (try (refine hK1 _ ?_; clear hK1 K1)) <;> (try simp only [BN3] at hg))) | (refine awp_seq_k fun K hK => ?_) | ((first | refine awp_region ?_ | refine awp_draw (by kernel_rfl) ?_ | refine awp_block ?_ | refine awp_exit ?_ | refine awp_skip ?_ | refine awp_ret ?_); (try simp only [NB, simprocAttr])))
    simp only [EndP, FinP, resA, resL, resA1, lastV, lastA, lastAs, pur, purs, take_app, List.take_length, S1, simprocAttr, TTEvF, Nat.le_add_right, Nat.le_refl]
    try simp [hf]

end Go.Proofs.YtjpphhcimpclpaaDoor.AM
end

section
set_option linter.unusedVariables false
set_option linter.unusedSimpArgs false
set_option maxRecDepth 4000
set_option maxHeartbeats 4000000
namespace Go.Proofs.YtjpphhcimpclpaaDoor.AM
open Go Go.Proofs
set_option linter.defProp false in
def TTEvG := And.intro T2 (And.intro T3 (And.intro T4 (And.intro T27 (And.intro T31 (And.intro T56 (And.intro T58 (And.intro T139 (And.intro T158 T159))))))))
attribute [local irreducible] awp aops aqops

/-- The table of the operators, as cells. -/
def wcells : List PV :=
  let w (s : List UInt8) (a b c : Int) : List PV := [.str ⟨s.toArray⟩, .int .i64 a, .int .i64 b, .int .i64 c]
  w [] 0 0 0 ++ w [] 0 0 0 ++ w [] 0 0 0 ++ w [110, 101, 103] 1 1 1 ++ w [110, 111, 116] 1 2 2 ++ w [97, 100, 100] 2 1 1 ++ w [115, 117, 98] 2 1 1 ++ w [109, 117, 108] 2 1 1 ++ w [100, 105, 118] 2 1 1 ++ w [109, 111, 100] 2 1 1 ++ w [101, 113] 2 1 2 ++ w [108, 116] 2 1 2 ++ w [108, 101] 2 1 2 ++ w [97, 110, 100] 2 2 2 ++ w [111, 114] 2 2 2

def gW : Nat → Option (List PV) := fun g => if g = 0 then some wcells else none

theorem gW_0 : gW 0 = some wcells := rfl

def ofN (o : Int) : Int := if wantOp o then 2 else 1
def outN (o : Int) : Int := if truthOp o then 2 else 1

theorem words_at {o : Int} (h1 : 3 ≤ o) (h2 : o ≤ 14) : ∃ s rest, wcells.drop (o.toNat * 4) = .str s :: .int .i64 (kidsN o) :: .int .i64 (ofN o) :: .int .i64 (outN o) :: rest := by
  have h : o = 3 ∨ o = 4 ∨ o = 5 ∨ o = 6 ∨ o = 7 ∨ o = 8 ∨ o = 9 ∨ o = 10 ∨ o = 11 ∨ o = 12 ∨ o = 13 ∨ o = 14 := by omega
  rcases h with rfl | rfl | rfl | rfl | rfl | rfl | rfl | rfl | rfl | rfl | rfl | rfl <;> exact ⟨_, _, rfl⟩

theorem any_not {f : Tm → Bool} {l : List Tm} : (!l.any fun k => !f k) = l.all f := by
  induction l with
  | nil => rfl
  | cons k r ih => simp only [List.any_cons, List.all_cons, ← ih]; cases f k <;> simp

theorem form_leaf {t : Tm} (h : t.op = 1 ∨ t.op = 2) : t.form = headOk t.op t.n t.kids.length := by
  rw [Tm.form_eq]
  cases hh : headOk t.op t.n t.kids.length with
  | false => rfl
  | true =>
    have : t.kids.length = 0 := by
      simp only [headOk, Bool.and_eq_true, decide_eq_true_eq] at hh
      have h3 := hh.1.1.1.1.2
      unfold kidsN at h3
      rcases h with e | e <;> rw [e] at h3 <;> simp at h3 <;> simp [h3]
    rw [List.length_eq_zero_iff.mp this]; rfl

theorem shaped1_calls (k : Tm) (h : Heap) (ih : ∀ h : Heap, ACalls Tryd.prog gW 110 [aT k] h (fun r h' => r = .b k.form ∧ h' = h)) :
    ACalls Tryd.prog gW 117 [aT k] h (fun r h' => r = .b (!k.form) ∧ h' = h) := by
  refine acalls_pure (rl := []) mixed Tryd.func117 rfl (rs := [.tmp 2]) rfl Tryd.ntmps117 (by simp) ?_
  repeat' (first | ((first | refine aops_nil ?_ | refine aqops_nil ?_); (try simp only [NB])) | ((repeat ((fail_if_success (refine hK _ ?_)); clear hK K)); refine hK _ ?_; clear hK K) | ((first | refine aops_k fun K1 hK1 => ?_ | refine aqops_k fun K1 hK1 => ?_ | refine awp_cond_k fun A B hA hB => ?_); simp only [S1, simprocAttr, TTEvG]; first | (refine hK1 _ ?_; clear hK1 K1) | ((first | refine hA ?_ | refine hB ?_); clear hA hB A B) | ((first | apply call_a E110 | apply call_q E110); exact (ih _); (refine hK1 _ ?_; clear hK1 K1)) | (((first | (refine ⟨fun hg => hA ?_, fun hg => hB ?_⟩ <;> clear hA hB A B) | refine ⟨fun hg => ?_, fun hg => ?_⟩) <;> (try simp only [BN2] at hg) <;> (try simp only [hg, cond_true, cond_false])) <;> (try (refine hK1 _ ?_; clear hK1 K1)) <;> (try simp only [BN3] at hg))) | (refine awp_seq_k fun K hK => ?_) | ((first | refine awp_region ?_ | refine awp_draw (by kernel_rfl) ?_ | refine awp_block ?_ | refine awp_exit ?_ | refine awp_skip ?_ | refine awp_ret ?_); (try simp only [NB, simprocAttr])))
  simp only [EndP, FinP, resA, resL, resA1, lastV, lastA, lastAs, pur, purs, take_app, List.take_length, S1, simprocAttr, TTEvG, Nat.le_add_right, Nat.le_refl]

theorem shaped_a {t : Tm} (hk : t.kids.length ≤ 100) (ih : ∀ k ∈ t.kids, ∀ h : Heap, ACalls Tryd.prog gW 110 [aT k] h (fun r h' => r = .b k.form ∧ h' = h)) (h : Heap) (hop : t.op = 1) : ACalls Tryd.prog gW 110 [aT t] h (fun r h' => r = .b t.form ∧ h' = h) := by
  rw [form_leaf (.inl hop)]
  refine acalls_pure (rl := []) mixed Tryd.func110 rfl (rs := [.tmp 2]) rfl Tryd.ntmps110 (by simp) ?_
  repeat' (first | ((first | refine aops_nil ?_ | refine aqops_nil ?_); (try simp only [NB])) | ((repeat ((fail_if_success (refine hK _ ?_)); clear hK K)); refine hK _ ?_; clear hK K) | ((first | refine aops_k fun K1 hK1 => ?_ | refine aqops_k fun K1 hK1 => ?_ | refine awp_cond_k fun A B hA hB => ?_); simp only [S1, simprocAttr, TTEvG, hop]; first | (refine hK1 _ ?_; clear hK1 K1) | ((first | refine hA ?_ | refine hB ?_); clear hA hB A B) | (refine join_x (v := ?_) (fun hg hk9 => ?_) ?_; rotate_left; (focus (try ((try simp only [BN] at hg); simp only [S1, simprocAttr, TTEvG, hop, hg] at hk9 ⊢)); first | exact hk9); (refine hK1 _ ?_; clear hK1 K1)) | (((first | (refine ⟨fun hg => hA ?_, fun hg => hB ?_⟩ <;> clear hA hB A B) | refine ⟨fun hg => ?_, fun hg => ?_⟩) <;> (try simp only [BN2] at hg) <;> (try simp only [hg, cond_true, cond_false])) <;> (try (refine hK1 _ ?_; clear hK1 K1)) <;> (try simp only [BN3] at hg))) | (refine awp_seq_k fun K hK => ?_) | ((first | refine awp_region ?_ | refine awp_draw (by kernel_rfl) ?_ | refine awp_block ?_ | refine awp_exit ?_ | refine awp_skip ?_ | refine awp_ret ?_); (try simp only [NB, simprocAttr])))
  simp only [EndP, FinP, resA, resL, resA1, lastV, lastA, lastAs, pur, purs, take_app, List.take_length, S1, simprocAttr, TTEvG, Nat.le_add_right, Nat.le_refl]
  refine congrArg (fun b => AV.p (PV.bool b)) (Bool.eq_iff_iff.mpr ?_)
  simp [headOk, kidsN, hop]
  try omega

theorem shaped_b {t : Tm} (hk : t.kids.length ≤ 100) (ih : ∀ k ∈ t.kids, ∀ h : Heap, ACalls Tryd.prog gW 110 [aT k] h (fun r h' => r = .b k.form ∧ h' = h)) (h : Heap) (hop : t.op = 2) : ACalls Tryd.prog gW 110 [aT t] h (fun r h' => r = .b t.form ∧ h' = h) := by
  rw [form_leaf (.inr hop)]
  refine acalls_pure (rl := []) mixed Tryd.func110 rfl (rs := [.tmp 2]) rfl Tryd.ntmps110 (by simp) ?_
  repeat' (first | ((first | refine aops_nil ?_ | refine aqops_nil ?_); (try simp only [NB])) | ((repeat ((fail_if_success (refine hK _ ?_)); clear hK K)); refine hK _ ?_; clear hK K) | ((first | refine aops_k fun K1 hK1 => ?_ | refine aqops_k fun K1 hK1 => ?_ | refine awp_cond_k fun A B hA hB => ?_); simp only [S1, simprocAttr, TTEvG, hop]; first | (refine hK1 _ ?_; clear hK1 K1) | ((first | refine hA ?_ | refine hB ?_); clear hA hB A B) | (refine join_x (v := ?_) (fun hg hk9 => ?_) ?_; rotate_left; (focus (try ((try simp only [BN] at hg); simp only [S1, simprocAttr, TTEvG, hop, hg] at hk9 ⊢)); first | exact hk9); (refine hK1 _ ?_; clear hK1 K1)) | (((first | (refine ⟨fun hg => hA ?_, fun hg => hB ?_⟩ <;> clear hA hB A B) | refine ⟨fun hg => ?_, fun hg => ?_⟩) <;> (try simp only [BN2] at hg) <;> (try simp only [hg, cond_true, cond_false])) <;> (try (refine hK1 _ ?_; clear hK1 K1)) <;> (try simp only [BN3] at hg))) | (refine awp_seq_k fun K hK => ?_) | ((first | refine awp_region ?_ | refine awp_draw (by kernel_rfl) ?_ | refine awp_block ?_ | refine awp_exit ?_ | refine awp_skip ?_ | refine awp_ret ?_); (try simp only [NB, simprocAttr])))
  simp only [EndP, FinP, resA, resL, resA1, lastV, lastA, lastAs, pur, purs, take_app, List.take_length, S1, simprocAttr, TTEvG, Nat.le_add_right, Nat.le_refl]
  refine congrArg (fun b => AV.p (PV.bool b)) (Bool.eq_iff_iff.mpr ?_)
  simp [headOk, kidsN, hop]
  try omega

theorem shaped_c {t : Tm} (hk : t.kids.length ≤ 100) (ih : ∀ k ∈ t.kids, ∀ h : Heap, ACalls Tryd.prog gW 110 [aT k] h (fun r h' => r = .b k.form ∧ h' = h)) (h : Heap) (hop : t.op < 1) : ACalls Tryd.prog gW 110 [aT t] h (fun r h' => r = .b t.form ∧ h' = h) := by
  have f1 : (t.op == 1) = false := by simp; omega
  have f2 : (t.op == 2) = false := by simp; omega
  have f3 : decide (t.op < 3) = true := by simp; omega
  rw [Tm.form_eq]
  refine acalls_pure (rl := []) mixed Tryd.func110 rfl (rs := [.tmp 2]) rfl Tryd.ntmps110 (by simp) ?_
  repeat' (first | ((first | refine aops_nil ?_ | refine aqops_nil ?_); (try simp only [NB])) | ((repeat ((fail_if_success (refine hK _ ?_)); clear hK K)); refine hK _ ?_; clear hK K) | ((first | refine aops_k fun K1 hK1 => ?_ | refine aqops_k fun K1 hK1 => ?_ | refine awp_cond_k fun A B hA hB => ?_); simp only [S1, simprocAttr, TTEvG, f1, f2, f3]; first | (refine hK1 _ ?_; clear hK1 K1) | ((first | refine hA ?_ | refine hB ?_); clear hA hB A B) | (refine join_x (v := ?_) (fun hg hk9 => ?_) ?_; rotate_left; (focus (try ((try simp only [BN] at hg); simp only [S1, simprocAttr, TTEvG, f1, f2, f3, hg] at hk9 ⊢)); first | exact hk9); (refine hK1 _ ?_; clear hK1 K1)) | (((first | (refine ⟨fun hg => hA ?_, fun hg => hB ?_⟩ <;> clear hA hB A B) | refine ⟨fun hg => ?_, fun hg => ?_⟩) <;> (try simp only [BN2] at hg) <;> (try simp only [hg, cond_true, cond_false])) <;> (try (refine hK1 _ ?_; clear hK1 K1)) <;> (try simp only [BN3] at hg))) | (refine awp_seq_k fun K hK => ?_) | ((first | refine awp_region ?_ | refine awp_draw (by kernel_rfl) ?_ | refine awp_block ?_ | refine awp_exit ?_ | refine awp_skip ?_ | refine awp_ret ?_); (try simp only [NB, simprocAttr])))
  simp only [EndP, FinP, resA, resL, resA1, lastV, lastA, lastAs, pur, purs, take_app, List.take_length, S1, simprocAttr, TTEvG, Nat.le_add_right, Nat.le_refl]
  have : headOk t.op t.n t.kids.length = false := by
    cases hh : headOk t.op t.n t.kids.length with
    | false => rfl
    | true => simp [headOk] at hh; omega
  simp [this]

theorem shaped_d {t : Tm} (hk : t.kids.length ≤ 100) (ih : ∀ k ∈ t.kids, ∀ h : Heap, ACalls Tryd.prog gW 110 [aT k] h (fun r h' => r = .b k.form ∧ h' = h)) (h : Heap) (hop : 14 < t.op) : ACalls Tryd.prog gW 110 [aT t] h (fun r h' => r = .b t.form ∧ h' = h) := by
  have f1 : (t.op == 1) = false := by simp; omega
  have f2 : (t.op == 2) = false := by simp; omega
  have f3 : decide (t.op < 3) = false := by simp; omega
  have f4 : decide (14 < t.op) = true := by simp; omega
  rw [Tm.form_eq]
  refine acalls_pure (rl := []) mixed Tryd.func110 rfl (rs := [.tmp 2]) rfl Tryd.ntmps110 (by simp) ?_
  repeat' (first | ((first | refine aops_nil ?_ | refine aqops_nil ?_); (try simp only [NB])) | ((repeat ((fail_if_success (refine hK _ ?_)); clear hK K)); refine hK _ ?_; clear hK K) | ((first | refine aops_k fun K1 hK1 => ?_ | refine aqops_k fun K1 hK1 => ?_ | refine awp_cond_k fun A B hA hB => ?_); simp only [S1, simprocAttr, TTEvG, f1, f2, f3, f4]; first | (refine hK1 _ ?_; clear hK1 K1) | ((first | refine hA ?_ | refine hB ?_); clear hA hB A B) | (refine join_x (v := ?_) (fun hg hk9 => ?_) ?_; rotate_left; (focus (try ((try simp only [BN] at hg); simp only [S1, simprocAttr, TTEvG, f1, f2, f3, f4, hg] at hk9 ⊢)); first | exact hk9); (refine hK1 _ ?_; clear hK1 K1)) | (((first | (refine ⟨fun hg => hA ?_, fun hg => hB ?_⟩ <;> clear hA hB A B) | refine ⟨fun hg => ?_, fun hg => ?_⟩) <;> (try simp only [BN2] at hg) <;> (try simp only [hg, cond_true, cond_false])) <;> (try (refine hK1 _ ?_; clear hK1 K1)) <;> (try simp only [BN3] at hg))) | (refine awp_seq_k fun K hK => ?_) | ((first | refine awp_region ?_ | refine awp_draw (by kernel_rfl) ?_ | refine awp_block ?_ | refine awp_exit ?_ | refine awp_skip ?_ | refine awp_ret ?_); (try simp only [NB, simprocAttr])))
  simp only [EndP, FinP, resA, resL, resA1, lastV, lastA, lastAs, pur, purs, take_app, List.take_length, S1, simprocAttr, TTEvG, Nat.le_add_right, Nat.le_refl]
  have : headOk t.op t.n t.kids.length = false := by
    cases hh : headOk t.op t.n t.kids.length with
    | false => rfl
    | true => simp [headOk] at hh; omega
  simp [this]

theorem shaped_e {t : Tm} (hk : t.kids.length ≤ 100) (ih : ∀ k ∈ t.kids, ∀ h : Heap, ACalls Tryd.prog gW 110 [aT k] h (fun r h' => r = .b k.form ∧ h' = h)) (h : Heap) (ho1 : 3 ≤ t.op) (ho2 : t.op ≤ 14) : ACalls Tryd.prog gW 110 [aT t] h (fun r h' => r = .b t.form ∧ h' = h) := by
  have hc := fun (L : Heap) => contains_calls (G := gW) E117 (caps := []) (p := fun k => !k.form) t.kids hk L trivial fun k hm => shaped1_calls k L fun h => ih k hm h
  have f1 : (t.op == 1) = false := by simp; omega
  have f2 : (t.op == 2) = false := by simp; omega
  have f3 : decide (t.op < 3) = false := by simp; omega
  have f4 : decide (14 < t.op) = false := by simp; omega
  have f5 : 0 ≤ t.op := by omega
  have f6 : t.op < ((15 : Nat) : Int) := by omega
  have f7 : t.op < 15 := by omega
  obtain ⟨s, rest, f8⟩ := words_at ho1 ho2
  rw [Tm.form_eq]
  refine acalls_pure (rl := []) mixed Tryd.func110 rfl (rs := [.tmp 2]) rfl Tryd.ntmps110 (by simp) ?_
  repeat' (first | ((first | refine aops_nil ?_ | refine aqops_nil ?_); (try simp only [NB])) | ((repeat ((fail_if_success (refine hK _ ?_)); clear hK K)); refine hK _ ?_; clear hK K) | ((first | refine aops_k fun K1 hK1 => ?_ | refine aqops_k fun K1 hK1 => ?_ | refine awp_cond_k fun A B hA hB => ?_); simp only [S1, simprocAttr, TTEvG, f1, f2, f3, f4, f5, f6, f7, f8, gW_0]; first | (refine hK1 _ ?_; clear hK1 K1) | ((first | refine hA ?_ | refine hB ?_); clear hA hB A B) | ((first | apply call_a E111 | apply call_q E111); exact (hc _); (refine hK1 _ ?_; clear hK1 K1)) | (refine join_x (v := ?_) (fun hg hk9 => ?_) ?_; rotate_left; (focus (try ((try simp only [BN] at hg); simp only [S1, simprocAttr, TTEvG, f1, f2, f3, f4, f5, f6, f7, f8, gW_0, hg] at hk9 ⊢)); first | exact hk9 | ((first | apply call_a E111 | apply call_q E111); exact (hc _); exact hk9)); (refine hK1 _ ?_; clear hK1 K1)) | (((first | (refine ⟨fun hg => hA ?_, fun hg => hB ?_⟩ <;> clear hA hB A B) | refine ⟨fun hg => ?_, fun hg => ?_⟩) <;> (try simp only [BN2] at hg) <;> (try simp only [hg, cond_true, cond_false])) <;> (try (refine hK1 _ ?_; clear hK1 K1)) <;> (try simp only [BN3] at hg))) | (refine awp_seq_k fun K hK => ?_) | ((first | refine awp_region ?_ | refine awp_draw (by kernel_rfl) ?_ | refine awp_block ?_ | refine awp_exit ?_ | refine awp_skip ?_ | refine awp_ret ?_); (try simp only [NB, simprocAttr])))
  · simp only [EndP, FinP, resA, resL, resA1, lastV, lastA, lastAs, pur, purs, take_app, List.take_length, S1, simprocAttr, TTEvG, Nat.le_add_right, Nat.le_refl]
    have : headOk t.op t.n t.kids.length = false := by
      cases hh : headOk t.op t.n t.kids.length with
      | false => rfl
      | true => simp [headOk] at hh hg; omega
    simp [this]
  · simp only [EndP, FinP, resA, resL, resA1, lastV, lastA, lastAs, pur, purs, take_app, List.take_length, S1, simprocAttr, TTEvG, Nat.le_add_right, Nat.le_refl]
    have : headOk t.op t.n t.kids.length = true := by
      simp [headOk] at hg ⊢; omega
    rw [this, any_not, Bool.true_and]


theorem shaped_calls {n : Nat} {t : Tm} (ht : Tm.Ok n t) (h : Heap) : ACalls Tryd.prog gW 110 [aT t] h (fun r h' => r = .b t.form ∧ h' = h) := by
  revert h
  refine Tm.Ok.ind (p := fun n t => ∀ (h : Heap), ACalls Tryd.prog gW 110 [aT t] h (fun r h' => r = .b t.form ∧ h' = h)) (fun n t hk ih h => ?_) ht
  have ih' := fun k hm => (ih k hm).2
  rcases (by omega : t.op = 1 ∨ t.op = 2 ∨ t.op < 1 ∨ 14 < t.op ∨ (3 ≤ t.op ∧ t.op ≤ 14)) with hop | hop | hop | hop | ⟨ho1, ho2⟩
  · exact shaped_a hk ih' h hop
  · exact shaped_b hk ih' h hop
  · exact shaped_c hk ih' h hop
  · exact shaped_d hk ih' h hop
  · exact shaped_e hk ih' h ho1 ho2
end Go.Proofs.YtjpphhcimpclpaaDoor.AM
end

section
set_option linter.unusedVariables false
set_option linter.unusedSimpArgs false
set_option maxRecDepth 4000
set_option maxHeartbeats 4000000
namespace Go.Proofs.YtjpphhcimpclpaaDoor.AM
open Go Go.Proofs
set_option linter.defProp false in
def TTEvH := And.intro T2 (And.intro T3 (And.intro T4 (And.intro T9 (And.intro T27 (And.intro T31 (And.intro T56 (And.intro T58 (And.intro T139 (And.intro T158 T159)))))))))
attribute [local irreducible] awp aops aqops
variable {G : Nat → Option (List PV)}

def tyN (t : Tm) : Int := if t.typed then outN t.op else 0

theorem tyN_ne {o : Int} {k : Tm} : (tyN k != ofN o) = !kidTyped o k := by
  unfold tyN ofN outN kidTyped
  cases k.typed <;> cases truthOp k.op <;> cases wantOp o <;> rfl

theorem any_ty {t : Tm} : (t.kids.any fun k => tyN k != ofN t.op) = !t.typed := by
  have : (fun k => tyN k != ofN t.op) = fun k => !kidTyped t.op k := funext fun k => tyN_ne
  rw [this, Tm.typed_eq, ← any_not, Bool.not_not]

theorem form_op {t : Tm} (h : t.form = true) : 1 ≤ t.op ∧ t.op ≤ 14 ∧ (t.op = 1 ∨ t.op = 2 → t.kids = []) ∧ ∀ k ∈ t.kids, k.form = true := by
  rw [Tm.form_eq, Bool.and_eq_true, List.all_eq_true] at h
  obtain ⟨h1, h2⟩ := h
  simp only [headOk, Bool.and_eq_true, decide_eq_true_eq] at h1
  refine ⟨h1.1.1.1.1.1.1, h1.1.1.1.1.1.2, fun e => ?_, h2⟩
  have h3 := h1.1.1.1.1.2
  unfold kidsN at h3
  rcases e with e | e <;> rw [e] at h3 <;> simp at h3 <;> simp [h3]

theorem typed1_calls (k : Tm) (h : Heap) {b : Nat} {s : ByteArray} {x o y : Int} (hb : h[b]? = some (some ⟨0, [.p (.str s), .i x, .i o, .i y]⟩))
    (ih : ∀ h : Heap, ACalls Tryd.prog gW 103 [aT k] h (fun r h' => r = .i (tyN k) ∧ h' = h)) :
    ACalls Tryd.prog gW 112 [aT k, .ptr b 0 0] h (fun r h' => r = .b (tyN k != o) ∧ h' = h) := by
  have hlt : b < h.length := (List.getElem?_eq_some_iff.mp hb).1
  have hbL : ∀ L : Heap, (h ++ L)[b]? = some (some ⟨0, [.p (.str s), .i x, .i o, .i y]⟩) := fun L => by rw [List.getElem?_append_left hlt]; exact hb
  refine acalls_pure (rl := []) mixed Tryd.func112 rfl (rs := [.tmp 3]) rfl Tryd.ntmps112 (by simp) ?_
  repeat' (first | ((first | refine aops_nil ?_ | refine aqops_nil ?_); (try simp only [NB])) | ((repeat ((fail_if_success (refine hK _ ?_)); clear hK K)); refine hK _ ?_; clear hK K) | ((first | refine aops_k fun K1 hK1 => ?_ | refine aqops_k fun K1 hK1 => ?_ | refine awp_cond_k fun A B hA hB => ?_); simp only [S1, simprocAttr, TTEvH, hbL]; first | (refine hK1 _ ?_; clear hK1 K1) | ((first | refine hA ?_ | refine hB ?_); clear hA hB A B) | ((first | apply call_a E103 | apply call_q E103); exact (ih _); (refine hK1 _ ?_; clear hK1 K1)) | (((first | (refine ⟨fun hg => hA ?_, fun hg => hB ?_⟩ <;> clear hA hB A B) | refine ⟨fun hg => ?_, fun hg => ?_⟩) <;> (try simp only [BN2] at hg) <;> (try simp only [hg, cond_true, cond_false])) <;> (try (refine hK1 _ ?_; clear hK1 K1)) <;> (try simp only [BN3] at hg))) | (refine awp_seq_k fun K hK => ?_) | ((first | refine awp_region ?_ | refine awp_draw (by kernel_rfl) ?_ | refine awp_block ?_ | refine awp_exit ?_ | refine awp_skip ?_ | refine awp_ret ?_); (try simp only [NB, simprocAttr])))
  simp only [EndP, FinP, resA, resL, resA1, lastV, lastA, lastAs, pur, purs, take_app, List.take_length, S1, simprocAttr, TTEvH, Nat.le_add_right, Nat.le_refl]

theorem typed_calls {n : Nat} {t : Tm} (ht : Tm.Ok n t) (hf : t.form = true) (h : Heap) : ACalls Tryd.prog gW 103 [aT t] h (fun r h' => r = .i (tyN t) ∧ h' = h) := by
  revert hf h
  refine Tm.Ok.ind (p := fun n t => t.form = true → ∀ (h : Heap), ACalls Tryd.prog gW 103 [aT t] h (fun r h' => r = .i (tyN t) ∧ h' = h)) (fun n t hk ih hf h => ?_) ht
  obtain ⟨g1, g2, g3, g4⟩ := form_op hf
  by_cases hop : t.op = 1 ∨ t.op = 2
  · have e : tyN t = 1 := by
      unfold tyN
      rw [Tm.typed_eq, g3 hop]
      rcases hop with hop | hop <;> rw [hop] <;> rfl
    rw [e]
    have f1 : (t.op == 1 || t.op == 2) = true := by rcases hop with hop | hop <;> simp [hop]
    refine acalls_pure (rl := []) mixed Tryd.func103 rfl (rs := [.tmp 2]) rfl Tryd.ntmps103 (by simp) ?_
    rcases hop with hop | hop
    · repeat' (first | ((first | refine aops_nil ?_ | refine aqops_nil ?_); (try simp only [NB])) | ((repeat ((fail_if_success (refine hK _ ?_)); clear hK K)); refine hK _ ?_; clear hK K) | ((first | refine aops_k fun K1 hK1 => ?_ | refine aqops_k fun K1 hK1 => ?_ | refine awp_cond_k fun A B hA hB => ?_); simp only [S1, simprocAttr, TTEvH, hop]; first | (refine hK1 _ ?_; clear hK1 K1) | ((first | refine hA ?_ | refine hB ?_); clear hA hB A B) | (refine join_x (v := ?_) (fun hg hk9 => ?_) ?_; rotate_left; (focus (try ((try simp only [BN] at hg); simp only [S1, simprocAttr, TTEvH, hop, hg] at hk9 ⊢)); first | exact hk9); (refine hK1 _ ?_; clear hK1 K1)) | (((first | (refine ⟨fun hg => hA ?_, fun hg => hB ?_⟩ <;> clear hA hB A B) | refine ⟨fun hg => ?_, fun hg => ?_⟩) <;> (try simp only [BN2] at hg) <;> (try simp only [hg, cond_true, cond_false])) <;> (try (refine hK1 _ ?_; clear hK1 K1)) <;> (try simp only [BN3] at hg))) | (refine awp_seq_k fun K hK => ?_) | ((first | refine awp_region ?_ | refine awp_draw (by kernel_rfl) ?_ | refine awp_block ?_ | refine awp_exit ?_ | refine awp_skip ?_ | refine awp_ret ?_); (try simp only [NB, simprocAttr])))
      simp only [EndP, FinP, resA, resL, resA1, lastV, lastA, lastAs, pur, purs, take_app, List.take_length, S1, simprocAttr, TTEvH, Nat.le_add_right, Nat.le_refl]
    · repeat' (first | ((first | refine aops_nil ?_ | refine aqops_nil ?_); (try simp only [NB])) | ((repeat ((fail_if_success (refine hK _ ?_)); clear hK K)); refine hK _ ?_; clear hK K) | ((first | refine aops_k fun K1 hK1 => ?_ | refine aqops_k fun K1 hK1 => ?_ | refine awp_cond_k fun A B hA hB => ?_); simp only [S1, simprocAttr, TTEvH, hop]; first | (refine hK1 _ ?_; clear hK1 K1) | ((first | refine hA ?_ | refine hB ?_); clear hA hB A B) | (refine join_x (v := ?_) (fun hg hk9 => ?_) ?_; rotate_left; (focus (try ((try simp only [BN] at hg); simp only [S1, simprocAttr, TTEvH, hop, hg] at hk9 ⊢)); first | exact hk9); (refine hK1 _ ?_; clear hK1 K1)) | (((first | (refine ⟨fun hg => hA ?_, fun hg => hB ?_⟩ <;> clear hA hB A B) | refine ⟨fun hg => ?_, fun hg => ?_⟩) <;> (try simp only [BN2] at hg) <;> (try simp only [hg, cond_true, cond_false])) <;> (try (refine hK1 _ ?_; clear hK1 K1)) <;> (try simp only [BN3] at hg))) | (refine awp_seq_k fun K hK => ?_) | ((first | refine awp_region ?_ | refine awp_draw (by kernel_rfl) ?_ | refine awp_block ?_ | refine awp_exit ?_ | refine awp_skip ?_ | refine awp_ret ?_); (try simp only [NB, simprocAttr])))
      simp only [EndP, FinP, resA, resL, resA1, lastV, lastA, lastAs, pur, purs, take_app, List.take_length, S1, simprocAttr, TTEvH, Nat.le_add_right, Nat.le_refl]
  · have f1 : (t.op == 1) = false := by simp; omega
    have f2 : (t.op == 2) = false := by simp; omega
    have f5 : 0 ≤ t.op := by omega
    have f6 : t.op < ((15 : Nat) : Int) := by omega
    have f7 : t.op < 15 := by omega
    obtain ⟨s, rest, f8⟩ := words_at (o := t.op) (by omega) g2
    have hc := fun (L : Heap) (b : Nat) (hb : (h ++ L)[b]? = some (some ⟨0, [.p (.str s), .i (kidsN t.op), .i (ofN t.op), .i (outN t.op)]⟩)) => contains_calls (G := gW) E112 (caps := [.ptr b 0 0]) (p := fun k => tyN k != ofN t.op) t.kids hk (h ++ L) (by simp only [avlts, avlt, and_true]; exact (List.getElem?_eq_some_iff.mp hb).1) fun k hm => typed1_calls k _ hb fun h => (ih k hm).2 (g4 k hm) h
    refine acalls_pure (rl := []) mixed Tryd.func103 rfl (rs := [.tmp 2]) rfl Tryd.ntmps103 (by simp) ?_
    repeat' (first | ((first | refine aops_nil ?_ | refine aqops_nil ?_); (try simp only [NB])) | ((repeat ((fail_if_success (refine hK _ ?_)); clear hK K)); refine hK _ ?_; clear hK K) | ((first | refine aops_k fun K1 hK1 => ?_ | refine aqops_k fun K1 hK1 => ?_ | refine awp_cond_k fun A B hA hB => ?_); simp only [S1, simprocAttr, TTEvH, f1, f2, f5, f6, f7, f8, gW_0]; first | (refine hK1 _ ?_; clear hK1 K1) | ((first | refine hA ?_ | refine hB ?_); clear hA hB A B) | ((first | apply call_a E111 | apply call_q E111); exact (hc _ _ (by simp only [S1, simprocAttr, TTEvH])); (refine hK1 _ ?_; clear hK1 K1)) | (refine join_x (v := ?_) (fun hg hk9 => ?_) ?_; rotate_left; (focus (try ((try simp only [BN] at hg); simp only [S1, simprocAttr, TTEvH, f1, f2, f5, f6, f7, f8, gW_0, hg] at hk9 ⊢)); first | exact hk9 | ((first | apply call_a E111 | apply call_q E111); exact (hc _ _ (by simp only [S1, simprocAttr, TTEvH])); exact hk9)); (refine hK1 _ ?_; clear hK1 K1)) | (((first | (refine ⟨fun hg => hA ?_, fun hg => hB ?_⟩ <;> clear hA hB A B) | refine ⟨fun hg => ?_, fun hg => ?_⟩) <;> (try simp only [BN2] at hg) <;> (try simp only [hg, cond_true, cond_false])) <;> (try (refine hK1 _ ?_; clear hK1 K1)) <;> (try simp only [BN3] at hg))) | (refine awp_seq_k fun K hK => ?_) | ((first | refine awp_region ?_ | refine awp_draw (by kernel_rfl) ?_ | refine awp_block ?_ | refine awp_exit ?_ | refine awp_skip ?_ | refine awp_ret ?_); (try simp only [NB, simprocAttr])))
    · rw [any_ty] at hg
      simp only [EndP, FinP, resA, resL, resA1, lastV, lastA, lastAs, pur, purs, take_app, List.take_length, S1, simprocAttr, TTEvH, Nat.le_add_right, Nat.le_refl]
      have : t.typed = false := by simpa using hg
      simp [tyN, this]
    · rw [any_ty] at hg
      simp only [EndP, FinP, resA, resL, resA1, lastV, lastA, lastAs, pur, purs, take_app, List.take_length, S1, simprocAttr, TTEvH, Nat.le_add_right, Nat.le_refl]
      have : t.typed = true := by simpa using hg
      simp [tyN, this]

def wrongN (t : Tm) : Int := if 24 < t.depth then 2 else if t.form then 0 else 4
def checkN (t : Tm) : Int × Int := if wrongN t ≠ 0 then (0, wrongN t) else if t.typed then (outN t.op, 0) else (0, 30)

theorem wrong_calls {n : Nat} {t : Tm} (ht : Tm.Ok n t) (h : Heap) : ACalls Tryd.prog gW 102 [aT t] h (fun r h' => r = .i (wrongN t) ∧ h' = h) := by
  have hd : t.dp 1 = decide (24 < t.depth) := by rw [Tm.dp_depth]; congr 1; rw [eq_iff_iff]; omega
  refine acalls_pure (rl := []) mixed Tryd.func102 rfl (rs := [.tmp 2]) rfl Tryd.ntmps102 (by simp) ?_
  repeat' (first | ((first | refine aops_nil ?_ | refine aqops_nil ?_); (try simp only [NB])) | ((repeat ((fail_if_success (refine hK _ ?_)); clear hK K)); refine hK _ ?_; clear hK K) | ((first | refine aops_k fun K1 hK1 => ?_ | refine aqops_k fun K1 hK1 => ?_ | refine awp_cond_k fun A B hA hB => ?_); simp only [S1, simprocAttr, TTEvH]; first | (refine hK1 _ ?_; clear hK1 K1) | ((first | refine hA ?_ | refine hB ?_); clear hA hB A B) | ((first | apply call_a E109 | apply call_q E109); exact (deep_calls ht 1 _ (by omega) (by omega)); (refine hK1 _ ?_; clear hK1 K1)) | ((first | apply call_a E110 | apply call_q E110); exact (shaped_calls ht _); (refine hK1 _ ?_; clear hK1 K1)) | (((first | (refine ⟨fun hg => hA ?_, fun hg => hB ?_⟩ <;> clear hA hB A B) | refine ⟨fun hg => ?_, fun hg => ?_⟩) <;> (try simp only [BN2] at hg) <;> (try simp only [hg, cond_true, cond_false])) <;> (try (refine hK1 _ ?_; clear hK1 K1)) <;> (try simp only [BN3] at hg))) | (refine awp_seq_k fun K hK => ?_) | ((first | refine awp_region ?_ | refine awp_draw (by kernel_rfl) ?_ | refine awp_block ?_ | refine awp_exit ?_ | refine awp_skip ?_ | refine awp_ret ?_); (try simp only [NB, simprocAttr])))
  all_goals simp only [EndP, FinP, resA, resL, resA1, lastV, lastA, lastAs, pur, purs, take_app, List.take_length, S1, simprocAttr, TTEvH, Nat.le_add_right, Nat.le_refl]
  all_goals simp_all [wrongN]

theorem check_calls {n : Nat} {t : Tm} (ht : Tm.Ok n t) (h : Heap) : ACalls Tryd.prog gW 97 [aT t] h (fun r h' => r = .tup [.i (checkN t).1, .i (checkN t).2] ∧ h' = h) := by
  by_cases hw : wrongN t = 0
  · have hf : t.form = true := by
      unfold wrongN at hw
      split at hw
      · cases hw
      · split at hw
        · assumption
        · cases hw
    refine acalls_pure (rl := []) mixed Tryd.func97 rfl (rs := [.tmp 2, .tmp 3]) rfl Tryd.ntmps97 (by simp) ?_
    repeat' (first | ((first | refine aops_nil ?_ | refine aqops_nil ?_); (try simp only [NB])) | ((repeat ((fail_if_success (refine hK _ ?_)); clear hK K)); refine hK _ ?_; clear hK K) | ((first | refine aops_k fun K1 hK1 => ?_ | refine aqops_k fun K1 hK1 => ?_ | refine awp_cond_k fun A B hA hB => ?_); simp only [S1, simprocAttr, TTEvH, hw]; first | (refine hK1 _ ?_; clear hK1 K1) | ((first | refine hA ?_ | refine hB ?_); clear hA hB A B) | ((first | apply call_a E102 | apply call_q E102); exact (wrong_calls ht _); (refine hK1 _ ?_; clear hK1 K1)) | ((first | apply call_a E103 | apply call_q E103); exact (typed_calls ht hf _); (refine hK1 _ ?_; clear hK1 K1)) | (((first | (refine ⟨fun hg => hA ?_, fun hg => hB ?_⟩ <;> clear hA hB A B) | refine ⟨fun hg => ?_, fun hg => ?_⟩) <;> (try simp only [BN2] at hg) <;> (try simp only [hg, cond_true, cond_false])) <;> (try (refine hK1 _ ?_; clear hK1 K1)) <;> (try simp only [BN3] at hg))) | (refine awp_seq_k fun K hK => ?_) | ((first | refine awp_region ?_ | refine awp_draw (by kernel_rfl) ?_ | refine awp_block ?_ | refine awp_exit ?_ | refine awp_skip ?_ | refine awp_ret ?_); (try simp only [NB, simprocAttr])))
    all_goals simp only [EndP, FinP, resA, resL, resA1, lastV, lastA, lastAs, pur, purs, take_app, List.take_length, S1, simprocAttr, TTEvH, Nat.le_add_right, Nat.le_refl]
    all_goals (cases hty : t.typed <;> cases hto : truthOp t.op <;> simp_all [checkN, tyN, outN])
  · have e : (wrongN t != 0) = true := by simpa using hw
    refine acalls_pure (rl := []) mixed Tryd.func97 rfl (rs := [.tmp 2, .tmp 3]) rfl Tryd.ntmps97 (by simp) ?_
    repeat' (first | ((first | refine aops_nil ?_ | refine aqops_nil ?_); (try simp only [NB])) | ((repeat ((fail_if_success (refine hK _ ?_)); clear hK K)); refine hK _ ?_; clear hK K) | ((first | refine aops_k fun K1 hK1 => ?_ | refine aqops_k fun K1 hK1 => ?_ | refine awp_cond_k fun A B hA hB => ?_); simp only [S1, simprocAttr, TTEvH, e]; first | (refine hK1 _ ?_; clear hK1 K1) | ((first | refine hA ?_ | refine hB ?_); clear hA hB A B) | ((first | apply call_a E102 | apply call_q E102); exact (wrong_calls ht _); (refine hK1 _ ?_; clear hK1 K1)) | (((first | (refine ⟨fun hg => hA ?_, fun hg => hB ?_⟩ <;> clear hA hB A B) | refine ⟨fun hg => ?_, fun hg => ?_⟩) <;> (try simp only [BN2] at hg) <;> (try simp only [hg, cond_true, cond_false])) <;> (try (refine hK1 _ ?_; clear hK1 K1)) <;> (try simp only [BN3] at hg))) | (refine awp_seq_k fun K hK => ?_) | ((first | refine awp_region ?_ | refine awp_draw (by kernel_rfl) ?_ | refine awp_block ?_ | refine awp_exit ?_ | refine awp_skip ?_ | refine awp_ret ?_); (try simp only [NB, simprocAttr])))
    all_goals simp only [EndP, FinP, resA, resL, resA1, lastV, lastA, lastAs, pur, purs, take_app, List.take_length, S1, simprocAttr, TTEvH, Nat.le_add_right, Nat.le_refl]
    all_goals simp_all [checkN]

end Go.Proofs.YtjpphhcimpclpaaDoor.AM
end

section
set_option linter.unusedVariables false
set_option linter.unusedSimpArgs false
set_option maxRecDepth 4000
set_option maxHeartbeats 4000000
namespace Go.Proofs.YtjpphhcimpclpaaDoor.AM
open Go Go.Proofs
set_option linter.defProp false in
def TTNeA := And.intro T2 (And.intro T3 (And.intro T4 (And.intro T31 (And.intro T56 T58))))
attribute [local irreducible] awp aops aqops aeops arun
variable {G : Nat → Option (List PV)}

def noneB (t : Tm) : Bool := (t.op == 0 && t.n == 0) && ((t.kids.length : Int) == 0)
def ofB (t : Tm) (k : Int) : Bool := (checkN t).2 == 0 && (checkN t).1 == k

theorem none_calls (t : Tm) (h : Heap) : ACalls Tryd.prog G 83 [aT t] h (fun r h' => r = .b (noneB t) ∧ h' = h) := by
  refine acalls_pure (rl := []) mixed Tryd.func83 rfl (rs := [.tmp 2]) rfl Tryd.ntmps83 (by simp) ?_
  repeat' (first | ((first | refine aops_nil ?_ | refine aqops_nil ?_); (try simp only [NB])) | ((repeat ((fail_if_success (refine hK _ ?_)); clear hK K)); refine hK _ ?_; clear hK K) | ((first | refine aops_k fun K1 hK1 => ?_ | refine aqops_k fun K1 hK1 => ?_ | refine awp_cond_k fun A B hA hB => ?_); simp only [S1, simprocAttr, TTNeA, List.length_map]; first | (refine hK1 _ ?_; clear hK1 K1) | ((first | refine hA ?_ | refine hB ?_); clear hA hB A B) | (refine join_x (v := ?_) (fun hg hk9 => ?_) ?_; rotate_left; (focus (try ((try simp only [BN] at hg); simp only [S1, simprocAttr, TTNeA, List.length_map, hg] at hk9 ⊢)); first | exact hk9); (refine hK1 _ ?_; clear hK1 K1)) | (((first | (refine ⟨fun hg => hA ?_, fun hg => hB ?_⟩ <;> clear hA hB A B) | refine ⟨fun hg => ?_, fun hg => ?_⟩) <;> (try simp only [BN2] at hg) <;> (try simp only [hg, cond_true, cond_false])) <;> (try (refine hK1 _ ?_; clear hK1 K1)) <;> (try simp only [BN3] at hg))) | (refine awp_seq_k fun K hK => ?_) | ((first | refine awp_region ?_ | refine awp_draw (by kernel_rfl) ?_ | refine awp_block ?_ | refine awp_exit ?_ | refine awp_skip ?_ | refine awp_ret ?_); (try simp only [NB, simprocAttr])))
  all_goals simp only [EndP, FinP, resA, resL, resA1, lastV, lastA, lastAs, pur, purs, take_app, List.take_length, S1, simprocAttr, TTNeA, Nat.le_add_right, Nat.le_refl]
  all_goals (try simp only [noneB, List.length_map])

theorem of_term {n : Nat} {t : Tm} (ht : Tm.Ok n t) (k : Int) (h : Heap) : ACalls Tryd.prog gW 82 [aT t, .i k] h (fun r h' => r = .b (ofB t k) ∧ h' = h) := by
  refine acalls_pure (rl := []) mixed Tryd.func82 rfl (rs := [.tmp 4]) rfl Tryd.ntmps82 (by simp) ?_
  repeat' (first | ((first | refine aops_nil ?_ | refine aqops_nil ?_); (try simp only [NB])) | ((repeat ((fail_if_success (refine hK _ ?_)); clear hK K)); refine hK _ ?_; clear hK K) | ((first | refine aops_k fun K1 hK1 => ?_ | refine aqops_k fun K1 hK1 => ?_ | refine awp_cond_k fun A B hA hB => ?_); simp only [S1, simprocAttr, TTNeA]; first | (refine hK1 _ ?_; clear hK1 K1) | ((first | refine hA ?_ | refine hB ?_); clear hA hB A B) | ((first | apply call_a E97 | apply call_q E97); exact (check_calls ht _); (refine hK1 _ ?_; clear hK1 K1)) | (refine join_x (v := ?_) (fun hg hk9 => ?_) ?_; rotate_left; (focus (try ((try simp only [BN] at hg); simp only [S1, simprocAttr, TTNeA, hg] at hk9 ⊢)); first | exact hk9 | ((first | apply call_a E97 | apply call_q E97); exact (check_calls ht _); exact hk9)); (refine hK1 _ ?_; clear hK1 K1)) | (((first | (refine ⟨fun hg => hA ?_, fun hg => hB ?_⟩ <;> clear hA hB A B) | refine ⟨fun hg => ?_, fun hg => ?_⟩) <;> (try simp only [BN2] at hg) <;> (try simp only [hg, cond_true, cond_false])) <;> (try (refine hK1 _ ?_; clear hK1 K1)) <;> (try simp only [BN3] at hg))) | (refine awp_seq_k fun K hK => ?_) | ((first | refine awp_region ?_ | refine awp_draw (by kernel_rfl) ?_ | refine awp_block ?_ | refine awp_exit ?_ | refine awp_skip ?_ | refine awp_ret ?_); (try simp only [NB, simprocAttr])))
  all_goals simp only [EndP, FinP, resA, resL, resA1, lastV, lastA, lastAs, pur, purs, take_app, List.take_length, S1, simprocAttr, TTNeA, Nat.le_add_right, Nat.le_refl]
  all_goals (try simp only [ofB])

end Go.Proofs.YtjpphhcimpclpaaDoor.AM
end

section
set_option linter.unusedVariables false
set_option linter.unusedSimpArgs false
namespace Go.Proofs.YtjpphhcimpclpaaDoor.AM
open Go

mutual
def nrm : PV → PV
  | .nils => .sl []
  | .sl rows => .sl (nrmRows rows)
  | .int k n => .int k n
  | .bool b => .bool b
  | .str s => .str s
  | .nilp => .nilp
  | .nilf => .nilf
def nrmRow : List PV → List PV
  | [] => []
  | x :: r => nrm x :: nrmRow r
def nrmRows : List (List PV) → List (List PV)
  | [] => []
  | x :: r => nrmRow x :: nrmRows r
end

theorem nrmRow_map : ∀ l : List PV, nrmRow l = l.map nrm
  | [] => rfl
  | x :: r => by simp only [nrmRow, List.map_cons, nrmRow_map r]
theorem nrmRows_map : ∀ l : List (List PV), nrmRows l = l.map nrmRow
  | [] => rfl
  | x :: r => by simp only [nrmRows, List.map_cons, nrmRows_map r]

theorem get2_nrm (rows : List (List PV)) (i j : Nat) : get2 (nrmRows rows) i j = (get2 rows i j).map nrm := by
  unfold get2
  rw [nrmRows_map, List.getElem?_map]
  cases rows[i]? with
  | none => rfl
  | some r => simp [nrmRow_map]

theorem PRel.nrm {w : World} {o : Nat → Prop} {x : PV} {v : Value} (h : PRel w o x v) : PRel w o (AM.nrm x) v := by
  induction h with
  | int k n h => exact .int k n h
  | bool b => exact .bool b
  | str s h => exact .str s h
  | nils => exact .slz none 0
  | nilp => exact .nilp
  | nilf => exact .nilf
  | slz A c => exact .slz A c
  | sl rows blk off c sz f hc hn ho hb hsz hcell hrec ih =>
    have hl : (nrmRows rows).length = rows.length := by rw [nrmRows_map, List.length_map]
    have := PRel.sl (w := w) (own := o) (nrmRows rows) blk off c sz f (by omega) (by omega) ho hb (fun row hr => by
      rw [nrmRows_map] at hr
      obtain ⟨r, hr2, rfl⟩ := List.mem_map.mp hr
      rw [nrmRow_map, List.length_map]
      exact hsz r hr2) (fun i j x hx => by
        rw [get2_nrm] at hx
        obtain ⟨y, hy, rfl⟩ := Option.map_eq_some_iff.mp hx
        exact hcell i j y hy) (fun i j x hx => by
        rw [get2_nrm] at hx
        obtain ⟨y, hy, rfl⟩ := Option.map_eq_some_iff.mp hx
        exact ih i j y hy)
    rw [hl] at this
    exact this

mutual
def nrmA : AV → AV
  | .p x => .p (nrm x)
  | .agg l => .agg (nrmAs l)
  | .tup l => .tup (nrmAs l)
  | .ref b g o s l => .ref b g o s l
  | .ptr b g o => .ptr b g o
  | .pin c => .pin c
  | .fn f l => .fn f l
def nrmAs : List AV → List AV
  | [] => []
  | x :: r => nrmA x :: nrmAs r
end

theorem nrmAs_map : ∀ l : List AV, nrmAs l = l.map nrmA
  | [] => rfl
  | x :: r => by simp only [nrmAs, List.map_cons, nrmAs_map r]

section
variable {P : Program} {G : Nat → Option (List PV)} {ι : Nat → Nat × Nat} {h : Heap} {w : World}

theorem VRel.nrm {x : AV} {v : Value} (hx : VRel ι h w x v) : VRel ι h w (nrmA x) v := by
  induction hx with
  | p x v hx => exact .p _ _ hx.nrm
  | agg cells vs hl hv ih =>
    simp only [nrmA, nrmAs_map]
    refine .agg _ _ (by simpa using hl) fun i x v hx hv' => ?_
    rw [List.getElem?_map] at hx
    obtain ⟨y, hy, rfl⟩ := Option.map_eq_some_iff.mp hx
    exact ih i y v hy hv'
  | tup cells vs hl hv ih =>
    simp only [nrmA, nrmAs_map]
    refine .tup _ _ (by simpa using hl) fun i x v hx hv' => ?_
    rw [List.getElem?_map] at hx
    obtain ⟨y, hy, rfl⟩ := Option.map_eq_some_iff.mp hx
    exact ih i y v hy hv'
  | fn f cells vs hl hv ih => exact .fn f cells vs hl hv
  | ref b g off sz len A c hn hb hg hv => exact .ref b g off sz len A c hn hb hg hv
  | ptr b g off A hb hg hv => exact .ptr b g off A hb hg hv
  | pin cells blk off hv => exact .pin cells blk off hv

theorem ACalls.nrm {f : FuncId} {args : List AV} {K : AV → Heap → Prop} (hc : ACalls P G f (nrmAs args) h K) : ACalls P G f args h K :=
  fun ι w vs hS hv => hc ι w vs hS ⟨by rw [nrmAs_map, List.length_map]; exact hv.1, fun i x v hx hv' => by
    rw [nrmAs_map, List.getElem?_map] at hx
    obtain ⟨y, hy, rfl⟩ := Option.map_eq_some_iff.mp hx
    exact (hv.2 i y v hy hv').nrm⟩
end
end Go.Proofs.YtjpphhcimpclpaaDoor.AM
end

section
set_option linter.unusedVariables false
set_option linter.unusedSimpArgs false
set_option maxRecDepth 4000
set_option maxHeartbeats 4000000
namespace Go.Proofs.YtjpphhcimpclpaaDoor.AM
open Go Go.Proofs
set_option linter.defProp false in
def TTNeB := And.intro T2 (And.intro T3 (And.intro T4 (And.intro T31 (And.intro T56 (And.intro T58 T60)))))
attribute [local irreducible] awp aops aqops aeops arun
variable {G : Nat → Option (List PV)}

abbrev aNode (kind a : Int) (t : Tm) : AV := .agg [.i kind, .i a, .i t.op, .i t.n, .p (.sl (t.kids.map eT))]

def mostN (kind : Int) : Int := if kind = 3 then 3 else if kind = 8 then 4 else 0
def oneB (kind a : Int) (t : Tm) : Bool :=
  if kind = 4 then (decide (0 ≤ a) && decide (a ≤ 3)) && ofB t 1
  else ((decide (1 ≤ kind) && decide (kind ≤ 8)) && (decide (0 ≤ a) && decide (a ≤ mostN kind))) && noneB t

theorem none_zero (h : Heap) : ACalls Tryd.prog G 83 [.agg [.i 0, .i 0, .p .nils]] h (fun r h' => r = .b true ∧ h' = h) := by
  have hz := none_calls (G := G) (.mk 0 0 []) h
  refine ACalls.nrm ?_
  simpa [nrmAs, nrmA, nrm, nrmRow, nrmRows, aT, Tm.op, Tm.n, Tm.kids, noneB] using hz

theorem right_calls {n : Nat} {t : Tm} (ht : Tm.Ok n t) (kind a : Int) (h : Heap) : ACalls Tryd.prog gW 57 [aNode kind a t] h (fun r h' => r = .b (oneB kind a t) ∧ h' = h) := by
  by_cases h4 : kind = 4
  · subst h4
    cases ho : ofB t 1 with
    | false =>
      have hof := fun h => of_term ht 1 h
      rw [ho] at hof
      refine acalls_pure (rl := []) mixed Tryd.func57 rfl (rs := [.tmp 2]) rfl Tryd.ntmps57 (by simp) ?_
      repeat' (first | ((first | refine aops_nil ?_ | refine aqops_nil ?_); (try simp only [NB])) | ((repeat ((fail_if_success (refine hK _ ?_)); clear hK K)); refine hK _ ?_; clear hK K) | ((first | refine aops_k fun K1 hK1 => ?_ | refine aqops_k fun K1 hK1 => ?_ | refine awp_cond_k fun A B hA hB => ?_); simp only [S1, simprocAttr, TTNeB, eT_eq]; first | (refine hK1 _ ?_; clear hK1 K1) | ((first | refine hA ?_ | refine hB ?_); clear hA hB A B) | ((first | apply call_a E82 | apply call_q E82); exact (hof _); (refine hK1 _ ?_; clear hK1 K1)) | ((first | apply call_a E83 | apply call_q E83); exact (none_calls t _); (refine hK1 _ ?_; clear hK1 K1)) | (refine join_x (v := ?_) (fun hg hk9 => ?_) ?_; rotate_left; (focus (try ((try simp only [BN] at hg); simp only [S1, simprocAttr, TTNeB, eT_eq, hg] at hk9 ⊢)); first | exact hk9 | ((first | apply call_a E82 | apply call_q E82); exact (hof _); exact hk9) | ((first | apply call_a E83 | apply call_q E83); exact (none_calls t _); exact hk9)); (refine hK1 _ ?_; clear hK1 K1)) | (((first | (refine ⟨fun hg => hA ?_, fun hg => hB ?_⟩ <;> clear hA hB A B) | refine ⟨fun hg => ?_, fun hg => ?_⟩) <;> (try simp only [BN2] at hg) <;> (try simp only [hg, cond_true, cond_false])) <;> (try (refine hK1 _ ?_; clear hK1 K1)) <;> (try simp only [BN3] at hg))) | (refine awp_seq_k fun K hK => ?_) | ((first | refine awp_region ?_ | refine awp_draw (by kernel_rfl) ?_ | refine awp_block ?_ | refine awp_exit ?_ | refine awp_skip ?_ | refine awp_ret ?_); (try simp only [NB, simprocAttr])))
      all_goals simp only [EndP, FinP, resA, resL, resA1, lastV, lastA, lastAs, pur, purs, take_app, List.take_length, S1, simprocAttr, TTNeB, Nat.le_add_right, Nat.le_refl]
      all_goals simp [oneB, ho]
    | true =>
      have hof := fun h => of_term ht 1 h
      rw [ho] at hof
      refine acalls_pure (rl := []) mixed Tryd.func57 rfl (rs := [.tmp 2]) rfl Tryd.ntmps57 (by simp) ?_
      repeat' (first | ((first | refine aops_nil ?_ | refine aqops_nil ?_); (try simp only [NB])) | ((repeat ((fail_if_success (refine hK _ ?_)); clear hK K)); refine hK _ ?_; clear hK K) | ((first | refine aops_k fun K1 hK1 => ?_ | refine aqops_k fun K1 hK1 => ?_ | refine awp_cond_k fun A B hA hB => ?_); simp only [S1, simprocAttr, TTNeB, eT_eq]; first | (refine hK1 _ ?_; clear hK1 K1) | ((first | refine hA ?_ | refine hB ?_); clear hA hB A B) | ((first | apply call_a E82 | apply call_q E82); exact (hof _); (refine hK1 _ ?_; clear hK1 K1)) | ((first | apply call_a E83 | apply call_q E83); exact (none_zero _); (refine hK1 _ ?_; clear hK1 K1)) | (refine join_x (v := ?_) (fun hg hk9 => ?_) ?_; rotate_left; (focus (try ((try simp only [BN] at hg); simp only [S1, simprocAttr, TTNeB, eT_eq, hg] at hk9 ⊢)); first | exact hk9 | ((first | apply call_a E82 | apply call_q E82); exact (hof _); exact hk9) | ((first | apply call_a E83 | apply call_q E83); exact (none_zero _); exact hk9)); (refine hK1 _ ?_; clear hK1 K1)) | (((first | (refine ⟨fun hg => hA ?_, fun hg => hB ?_⟩ <;> clear hA hB A B) | refine ⟨fun hg => ?_, fun hg => ?_⟩) <;> (try simp only [BN2] at hg) <;> (try simp only [hg, cond_true, cond_false])) <;> (try (refine hK1 _ ?_; clear hK1 K1)) <;> (try simp only [BN3] at hg))) | (refine awp_seq_k fun K hK => ?_) | ((first | refine awp_region ?_ | refine awp_draw (by kernel_rfl) ?_ | refine awp_block ?_ | refine awp_exit ?_ | refine awp_skip ?_ | refine awp_ret ?_); (try simp only [NB, simprocAttr])))
      all_goals simp only [EndP, FinP, resA, resL, resA1, lastV, lastA, lastAs, pur, purs, take_app, List.take_length, S1, simprocAttr, TTNeB, Nat.le_add_right, Nat.le_refl]
      all_goals simp [oneB, ho]
  · have f4 : (kind == 4) = false := by simp [h4]
    by_cases h3 : kind = 3
    · subst h3
      refine acalls_pure (rl := []) mixed Tryd.func57 rfl (rs := [.tmp 2]) rfl Tryd.ntmps57 (by simp) ?_
      repeat' (first | ((first | refine aops_nil ?_ | refine aqops_nil ?_); (try simp only [NB])) | ((repeat ((fail_if_success (refine hK _ ?_)); clear hK K)); refine hK _ ?_; clear hK K) | ((first | refine aops_k fun K1 hK1 => ?_ | refine aqops_k fun K1 hK1 => ?_ | refine awp_cond_k fun A B hA hB => ?_); simp only [S1, simprocAttr, TTNeB, eT_eq]; first | (refine hK1 _ ?_; clear hK1 K1) | ((first | refine hA ?_ | refine hB ?_); clear hA hB A B) | ((first | apply call_a E83 | apply call_q E83); exact (none_calls t _); (refine hK1 _ ?_; clear hK1 K1)) | (refine join_x (v := ?_) (fun hg hk9 => ?_) ?_; rotate_left; (focus (try ((try simp only [BN] at hg); simp only [S1, simprocAttr, TTNeB, eT_eq, hg] at hk9 ⊢)); first | exact hk9 | ((first | apply call_a E83 | apply call_q E83); exact (none_calls t _); exact hk9)); (refine hK1 _ ?_; clear hK1 K1)) | (((first | (refine ⟨fun hg => hA ?_, fun hg => hB ?_⟩ <;> clear hA hB A B) | refine ⟨fun hg => ?_, fun hg => ?_⟩) <;> (try simp only [BN2] at hg) <;> (try simp only [hg, cond_true, cond_false])) <;> (try (refine hK1 _ ?_; clear hK1 K1)) <;> (try simp only [BN3] at hg))) | (refine awp_seq_k fun K hK => ?_) | ((first | refine awp_region ?_ | refine awp_draw (by kernel_rfl) ?_ | refine awp_block ?_ | refine awp_exit ?_ | refine awp_skip ?_ | refine awp_ret ?_); (try simp only [NB, simprocAttr])))
      all_goals simp only [EndP, FinP, resA, resL, resA1, lastV, lastA, lastAs, pur, purs, take_app, List.take_length, S1, simprocAttr, TTNeB, Nat.le_add_right, Nat.le_refl]
      all_goals simp [oneB, mostN, Bool.and_assoc]
    · have f3 : (kind == 3) = false := by simp [h3]
      by_cases h8 : kind = 8
      · subst h8
        refine acalls_pure (rl := []) mixed Tryd.func57 rfl (rs := [.tmp 2]) rfl Tryd.ntmps57 (by simp) ?_
        repeat' (first | ((first | refine aops_nil ?_ | refine aqops_nil ?_); (try simp only [NB])) | ((repeat ((fail_if_success (refine hK _ ?_)); clear hK K)); refine hK _ ?_; clear hK K) | ((first | refine aops_k fun K1 hK1 => ?_ | refine aqops_k fun K1 hK1 => ?_ | refine awp_cond_k fun A B hA hB => ?_); simp only [S1, simprocAttr, TTNeB, eT_eq]; first | (refine hK1 _ ?_; clear hK1 K1) | ((first | refine hA ?_ | refine hB ?_); clear hA hB A B) | ((first | apply call_a E83 | apply call_q E83); exact (none_calls t _); (refine hK1 _ ?_; clear hK1 K1)) | (refine join_x (v := ?_) (fun hg hk9 => ?_) ?_; rotate_left; (focus (try ((try simp only [BN] at hg); simp only [S1, simprocAttr, TTNeB, eT_eq, hg] at hk9 ⊢)); first | exact hk9 | ((first | apply call_a E83 | apply call_q E83); exact (none_calls t _); exact hk9)); (refine hK1 _ ?_; clear hK1 K1)) | (((first | (refine ⟨fun hg => hA ?_, fun hg => hB ?_⟩ <;> clear hA hB A B) | refine ⟨fun hg => ?_, fun hg => ?_⟩) <;> (try simp only [BN2] at hg) <;> (try simp only [hg, cond_true, cond_false])) <;> (try (refine hK1 _ ?_; clear hK1 K1)) <;> (try simp only [BN3] at hg))) | (refine awp_seq_k fun K hK => ?_) | ((first | refine awp_region ?_ | refine awp_draw (by kernel_rfl) ?_ | refine awp_block ?_ | refine awp_exit ?_ | refine awp_skip ?_ | refine awp_ret ?_); (try simp only [NB, simprocAttr])))
        all_goals simp only [EndP, FinP, resA, resL, resA1, lastV, lastA, lastAs, pur, purs, take_app, List.take_length, S1, simprocAttr, TTNeB, Nat.le_add_right, Nat.le_refl]
        all_goals simp [oneB, mostN, Bool.and_assoc]
      · have f8 : (kind == 8) = false := by simp [h8]
        refine acalls_pure (rl := []) mixed Tryd.func57 rfl (rs := [.tmp 2]) rfl Tryd.ntmps57 (by simp) ?_
        repeat' (first | ((first | refine aops_nil ?_ | refine aqops_nil ?_); (try simp only [NB])) | ((repeat ((fail_if_success (refine hK _ ?_)); clear hK K)); refine hK _ ?_; clear hK K) | ((first | refine aops_k fun K1 hK1 => ?_ | refine aqops_k fun K1 hK1 => ?_ | refine awp_cond_k fun A B hA hB => ?_); simp only [S1, simprocAttr, TTNeB, eT_eq, f3, f4, f8]; first | (refine hK1 _ ?_; clear hK1 K1) | ((first | refine hA ?_ | refine hB ?_); clear hA hB A B) | ((first | apply call_a E83 | apply call_q E83); exact (none_calls t _); (refine hK1 _ ?_; clear hK1 K1)) | (refine join_x (v := ?_) (fun hg hk9 => ?_) ?_; rotate_left; (focus (try ((try simp only [BN] at hg); simp only [S1, simprocAttr, TTNeB, eT_eq, f3, f4, f8, hg] at hk9 ⊢)); first | exact hk9 | ((first | apply call_a E83 | apply call_q E83); exact (none_calls t _); exact hk9)); (refine hK1 _ ?_; clear hK1 K1)) | (((first | (refine ⟨fun hg => hA ?_, fun hg => hB ?_⟩ <;> clear hA hB A B) | refine ⟨fun hg => ?_, fun hg => ?_⟩) <;> (try simp only [BN2] at hg) <;> (try simp only [hg, cond_true, cond_false])) <;> (try (refine hK1 _ ?_; clear hK1 K1)) <;> (try simp only [BN3] at hg))) | (refine awp_seq_k fun K hK => ?_) | ((first | refine awp_region ?_ | refine awp_draw (by kernel_rfl) ?_ | refine awp_block ?_ | refine awp_exit ?_ | refine awp_skip ?_ | refine awp_ret ?_); (try simp only [NB, simprocAttr])))
        all_goals simp only [EndP, FinP, resA, resL, resA1, lastV, lastA, lastAs, pur, purs, take_app, List.take_length, S1, simprocAttr, TTNeB, Nat.le_add_right, Nat.le_refl]
        all_goals simp [oneB, mostN, h3, h4, h8, Bool.and_assoc]
end Go.Proofs.YtjpphhcimpclpaaDoor.AM
end

section
set_option linter.unusedVariables false
set_option linter.unusedSimpArgs false
namespace Go.Proofs.YtjpphhcimpclpaaDoor.AM
open Go Go.Proofs

/-- 40 numbers, as cells. -/
def aA (tok : Int → Int) : List AV := (List.range 40).map fun (i : Nat) => AV.i (tok (i : Int))

def setT (tok : Int → Int) (f x : Int) : Int → Int := fun i => if i = f then x else tok i

theorem aA_len (tok : Int → Int) : (aA tok).length = 40 := by simp [aA]

theorem aA_get {tok : Int → Int} {i : Nat} (h : i < 40) : (aA tok)[i]? = some (.i (tok (i : Int))) := by simp [aA, h]

theorem aA_take {tok : Int → Int} {f : Int} {b : Nat} {z : Option (List PV)} (h0 : 0 ≤ f) (h1 : f ≤ 39) : takeA ⟨.int .i64, 1, b, z⟩ ((aA tok).drop f.toNat) = some (.i (tok f)) := by
  have hf : ((f.toNat : Nat) : Int) = f := by omega
  have hl : f.toNat < (aA tok).length := by rw [aA_len]; omega
  rw [List.drop_eq_getElem_cons hl]
  have e : (aA tok)[f.toNat] = .i (tok f) := by
    have := aA_get (tok := tok) (i := f.toNat) (by omega)
    rw [List.getElem?_eq_getElem hl, hf] at this
    simpa using this
  rw [e]
  rfl

theorem aA_set {tok : Int → Int} {f x : Int} (h0 : 0 ≤ f) (h1 : f ≤ 39) : (aA tok).set f.toNat (.i x) = aA (setT tok f x) := by
  apply List.ext_getElem?
  intro i
  rw [List.getElem?_set]
  have hf : ((f.toNat : Nat) : Int) = f := by omega
  rcases Nat.lt_or_ge i 40 with hi | hi
  · rw [aA_get hi, aA_get hi]
    by_cases e : f.toNat = i
    · rw [if_pos e, if_pos (by rw [aA_len]; omega)]
      have : (i : Int) = f := by omega
      simp [setT, this]
    · rw [if_neg e]
      have : (i : Int) ≠ f := by omega
      simp [setT, this]
  · rw [List.getElem?_eq_none (by rw [aA_len]; omega), List.getElem?_eq_none (by rw [aA_len]; omega)]
    by_cases e : f.toNat = i
    · omega
    · rw [if_neg e]

/-! ### What is reckoned -/
def flowB (f : Int) : Bool := decide (0 ≤ f) && decide (f ≤ 39)
def inF (l : List Int) : Bool := l.all flowB
def cnt (l : List Int) (f : Int) : Int := ((l.filter (· == f)).length : Nat)

theorem cnt_nil (f : Int) : cnt [] f = 0 := rfl
theorem cnt_app (l r : List Int) (f : Int) : cnt (l ++ r) f = cnt l f + cnt r f := by simp [cnt]
theorem cnt_one (x f : Int) : cnt [x] f = if x = f then 1 else 0 := by
  by_cases h : x = f <;> simp [cnt, h]
theorem cnt_nonneg (l : List Int) (f : Int) : 0 ≤ cnt l f := by unfold cnt; omega
/-- Enough tokens. -/
def canB (l : List Int) (tok : Int → Int) : Bool := inF l && l.all fun f => !decide (tok f < cnt l f)

/-- Tokens less those that are taken, one by one; none: there are not so many. -/
def takeT : List Int → (Int → Int) → Option (Int → Int)
  | [], tok => some tok
  | f :: r, tok => if flowB f = true ∧ 0 < tok f then takeT r (setT tok f (tok f - 1)) else none

/-- Tokens, and those that are given, one by one; none: there are too many. -/
def giveT : List Int → (Int → Int) → Option (Int → Int)
  | [], tok => some tok
  | f :: r, tok => if 2 < tok f then none else giveT r (setT tok f (tok f + 1))

def lessT (l : List Int) (tok : Int → Int) : Int → Int := fun f => tok f - cnt l f

theorem lessT_cons (f : Int) (r : List Int) (tok : Int → Int) : lessT r (setT tok f (tok f - 1)) = lessT (f :: r) tok := by
  funext i
  have : cnt (f :: r) i = cnt [f] i + cnt r i := by rw [← cnt_app]; rfl
  simp only [lessT, setT, this, cnt_one]
  by_cases h : i = f
  · subst h; simp; omega
  · have : ¬ f = i := fun e => h e.symm
    simp [h, this]

/-- One by one, just if there are enough. -/
theorem takeT_eq : ∀ (l : List Int) (tok : Int → Int), takeT l tok = if canB l tok = true then some (lessT l tok) else none
  | [], tok => by simp [takeT, canB, inF]; funext i; simp [lessT, cnt_nil]
  | f :: r, tok => by
    have hc : ∀ i, cnt (f :: r) i = cnt [f] i + cnt r i := fun i => by rw [← cnt_app]; rfl
    unfold takeT
    by_cases h : flowB f = true ∧ 0 < tok f
    · rw [if_pos h, takeT_eq r, lessT_cons]
      have e : canB r (setT tok f (tok f - 1)) = canB (f :: r) tok := by
        rw [Bool.eq_iff_iff]
        simp only [canB, inF, Bool.and_eq_true, List.all_cons, h.1, true_and, List.all_eq_true, Bool.not_eq_true', decide_eq_false_iff_not, setT, hc, cnt_one]
        constructor
        · rintro ⟨h1, h2⟩
          refine ⟨h1, ?_, ?_⟩
          · by_cases hm : f ∈ r
            · have := h2 f hm; simp at this ⊢; omega
            · have : cnt r f = 0 := by
                unfold cnt
                rw [List.filter_eq_nil_iff.mpr (fun x hx => by intro e; exact hm (by simpa using (beq_iff_eq.mp e) ▸ hx))]
                rfl
              simp [this]; omega
          · intro x hx
            have := h2 x hx
            by_cases e : f = x
            · subst e; simp at this ⊢; omega
            · have e' : ¬ x = f := fun q => e q.symm
              simp [e, e'] at this ⊢; omega
        · rintro ⟨h1, h2, h3⟩
          refine ⟨h1, fun x hx => ?_⟩
          have := h3 x hx
          by_cases e : f = x
          · subst e; simp at this ⊢; omega
          · have e' : ¬ x = f := fun q => e q.symm
            simp [e, e'] at this ⊢; omega
      rw [e]
    · rw [if_neg h, if_neg]
      intro hcan
      apply h
      simp only [canB, inF, Bool.and_eq_true, List.all_cons, Bool.not_eq_true', decide_eq_false_iff_not, hc, cnt_one, if_true] at hcan
      have := cnt_nonneg r f
      exact ⟨hcan.1.1, by omega⟩

/-- What a rule makes of tokens, and what is wrong. -/
def doR (needs gives : List Int) (tok : Int → Int) : Option (Int → Int) × Int :=
  if inF needs = true ∧ inF gives = true then
    if canB needs tok = true then
      match giveT gives (lessT needs tok) with
      | some t => (some t, 0)
      | none => (none, 5)
    else (none, 6)
  else (none, 4)
end Go.Proofs.YtjpphhcimpclpaaDoor.AM
end

section
set_option linter.unusedVariables false
set_option linter.unusedSimpArgs false
set_option maxRecDepth 4000
set_option maxHeartbeats 4000000
namespace Go.Proofs.YtjpphhcimpclpaaDoor.AM
open Go Go.Proofs
set_option linter.defProp false in
def TTRdB := And.intro T2 (And.intro T3 (And.intro T4 T40))
attribute [local irreducible] awp aops aqops aeops
variable {G : Nat → Option (List PV)}

def eI (n : Int) : List PV := [.int .i64 n]
abbrev aI (l : List Int) : AV := .p (.sl (l.map eI))

theorem rowI {l : List Int} {i : Nat} {k : Int} (h : l[i]? = some k) : (l.map eI)[i]? = some [.int .i64 k] := by simp [h, eI]
theorem hitI {l : List Int} {i : Nat} (h : i < l.length) : decide ((i : Int) < (l.length : Int)) = true := by simp; omega
theorem endI {l : List Int} : decide ((l.length : Int) < (l.length : Int)) = false := by simp
theorem nextI {l : List Int} {i : Nat} (hk : l.length ≤ 200) (h : i < l.length) : IntKind.i64.wrap ((i : Int) + 1) = ((i + 1 : Nat) : Int) := by rw [IntWalk.i64_in _ (by omega)]; omega
theorem allI_take {f : Int → Bool} {l : List Int} {i : Nat} {k : Int} (hk : l[i]? = some k) (h : (l.take i).all f = true) (hf : f k = true) : (l.take (i + 1)).all f = true := by
  rw [List.take_add_one, hk]; simp only [List.all_append, h, Option.toList_some, List.all_cons, hf, List.all_nil, Bool.and_self]
theorem allI_no {f : Int → Bool} {l : List Int} {k : Int} (hk : k ∈ l) (hf : f k = false) : l.all f = false := by
  cases h : l.all f with
  | false => rfl
  | true => rw [List.all_eq_true.mp h k hk] at hf; cases hf

theorem flow_calls (f : Int) (h : Heap) : ACalls Tryd.prog G 31 [.i f] h (fun r h' => r = .b (flowB f) ∧ h' = h) := by
  refine acalls_pure (rl := []) mixed Tryd.func31 rfl (rs := [.tmp 2]) rfl Tryd.ntmps31 (by simp) ?_
  repeat' (first | ((first | refine aops_nil ?_ | refine aqops_nil ?_); (try simp only [NB])) | ((repeat ((fail_if_success (refine hK _ ?_)); clear hK K)); refine hK _ ?_; clear hK K) | ((first | refine aops_k fun K1 hK1 => ?_ | refine aqops_k fun K1 hK1 => ?_ | refine awp_cond_k fun A B hA hB => ?_); simp only [S1, simprocAttr, TTRdB]; first | (refine hK1 _ ?_; clear hK1 K1) | ((first | refine hA ?_ | refine hB ?_); clear hA hB A B) | (refine join_x (v := ?_) (fun hg hk9 => ?_) ?_; rotate_left; (focus (try ((try simp only [BN] at hg); simp only [S1, simprocAttr, TTRdB, hg] at hk9 ⊢)); first | exact hk9); (refine hK1 _ ?_; clear hK1 K1)) | (((first | (refine ⟨fun hg => hA ?_, fun hg => hB ?_⟩ <;> clear hA hB A B) | refine ⟨fun hg => ?_, fun hg => ?_⟩) <;> (try simp only [BN2] at hg) <;> (try simp only [hg, cond_true, cond_false])) <;> (try (refine hK1 _ ?_; clear hK1 K1)) <;> (try simp only [BN3] at hg))) | (refine awp_seq_k fun K hK => ?_) | ((first | refine awp_region ?_ | refine awp_draw (by kernel_rfl) ?_ | refine awp_block ?_ | refine awp_exit ?_ | refine awp_skip ?_ | refine awp_ret ?_); (try simp only [NB, simprocAttr])))
  all_goals simp only [EndP, FinP, resA, resL, resA1, lastV, lastA, lastAs, pur, purs, take_app, List.take_length, S1, simprocAttr, TTRdB, Nat.le_add_right, Nat.le_refl]
  all_goals (simp only [flowB, AV.p.injEq, PV.bool.injEq]; rw [Bool.eq_iff_iff]; simp; omega)

/- left out: not in this program -/

/- left out: not in this program -/

end Go.Proofs.YtjpphhcimpclpaaDoor.AM
end

section
set_option linter.unusedVariables false
set_option linter.unusedSimpArgs false
set_option maxRecDepth 4000
set_option maxHeartbeats 4000000
namespace Go.Proofs.YtjpphhcimpclpaaDoor.AM
open Go Go.Proofs
set_option linter.defProp false in
attribute [local irreducible] awp aops aqops aeops arun
variable {G : Nat → Option (List PV)}

structure Fl where
  src : Int
  dst : Int
  els : Bool
  cond : Tm

def eF (f : Fl) : List PV := [.int .i64 f.src, .int .i64 f.dst, .bool f.els, .int .i64 f.cond.op, .int .i64 f.cond.n, .sl (f.cond.kids.map eT)]

theorem rowF {l : List Fl} {i : Nat} {k : Fl} (h : l[i]? = some k) : (l.map eF)[i]? = some (eF k) := by simp [h]
theorem hitF {l : List Fl} {i : Nat} (h : i < l.length) : decide ((i : Int) < (l.length : Int)) = true := by simp; omega
theorem endF {l : List Fl} : decide ((l.length : Int) < (l.length : Int)) = false := by simp
theorem nextF {l : List Fl} {i : Nat} (hk : l.length ≤ 100) (h : i < l.length) : IntKind.i64.wrap ((i : Int) + 1) = ((i + 1 : Nat) : Int) := by rw [IntWalk.i64_in _ (by omega)]; omega

/-- The numbers of those among the first j flows that are asked for. -/
def pickF (q : Fl → Bool) (l : List Fl) : Nat → List Int
  | 0 => []
  | j + 1 => match l[j]? with
    | some f => if q f then pickF q l j ++ [(j : Int)] else pickF q l j
    | none => pickF q l j

def insN (l : List Fl) (i : Int) : List Int := pickF (fun f => f.dst == i) l l.length
def outsN (l : List Fl) (i : Int) : List Int := pickF (fun f => f.src == i) l l.length

theorem pickF_le (q : Fl → Bool) (l : List Fl) : ∀ j, (pickF q l j).length ≤ j
  | 0 => Nat.le_refl _
  | j + 1 => by
    unfold pickF
    have := pickF_le q l j
    split
    · split
      · rw [List.length_append]; simp; omega
      · omega
    · omega

section
variable {P : Program} {rl : List String} {h : Heap}
theorem awp_forG {c : Code} {Q : Exit → St → Prop} {s : St} (N nt : Nat) (l : Nat → List (Nat × AV)) (L : Nat → List (Option Blk)) (p : Nat → Prop) (hi : Ghost P G h s ⟨frL (l 0), nt, h ++ L 0⟩) (hp : p 0)
    (hb : ∀ i, i ≤ N → p i → ∀ K : St → Prop, (∀ s', (i < N ∧ p (i + 1) ∧ Sub h s' (l (i + 1)) (L (i + 1)) nt) → K s') → awp P G rl h c (thenA K Q) ⟨frL (l i), nt, h ++ L i⟩) : awp P G rl h (.loop c) Q s := by
  refine awp_loop (fun n s => ∃ i, i ≤ N ∧ p i ∧ n = N - i ∧ s = ⟨frL (l i), nt, h ++ L i⟩) N _ hi ⟨0, Nat.zero_le _, hp, rfl, rfl⟩ fun n s hI => ?_
  obtain ⟨i, h1, h2, rfl, rfl⟩ := hI
  exact hb i h1 h2 _ fun s' hs => ⟨N - (i + 1), _, by omega, hs.2.2.ghost, i + 1, by omega, hs.2.1, rfl, rfl⟩
end
end Go.Proofs.YtjpphhcimpclpaaDoor.AM
end

section
set_option linter.unusedVariables false
set_option linter.unusedSimpArgs false
set_option maxRecDepth 4000
set_option maxHeartbeats 4000000
namespace Go.Proofs.YtjpphhcimpclpaaDoor.AM
open Go Go.Proofs
set_option linter.defProp false in
def TTRdC := And.intro T2 (And.intro T3 (And.intro T4 (And.intro T40 T42)))
attribute [local irreducible] awp aops aqops aeops
variable {G : Nat → Option (List PV)}

def z40 : List PV := List.replicate 40 (.int .i64 0)
def zT : Int → Int := fun _ => 0
theorem T40z : tinfo Tryd.prog 26 = some ⟨.array 40 3, 40, 320, some z40⟩ := by rw [T26]; rfl
theorem z40_ne : (z40 = []) = False := by simp [z40]
theorem z40_map : z40.map AV.p = aA zT := rfl
theorem aA_scalar (tok : Int → Int) : (aA tok).all AV.scalar = true := by
  rw [List.all_eq_true]; intro x hx
  simp only [aA, List.mem_map] at hx
  obtain ⟨i, _, rfl⟩ := hx
  rfl
theorem aA_ne (tok : Int → Int) : (aA tok).isEmpty = false := by
  have := aA_len tok
  cases h : aA tok with
  | nil => rw [h] at this; cases this
  | cons => rfl
theorem aA_take40 (tok : Int → Int) : (aA tok).take 40 = aA tok := List.take_of_length_le (by rw [aA_len]; exact Nat.le_refl _)
theorem aA_load (tok : Int → Int) (b : Nat) (z : Option (List PV)) : takeA ⟨.array 40 3, 40, b, z⟩ (aA tok) = some (.agg (aA tok)) := by
  unfold takeA
  simp [TI.isAgg, aA_len, aA_take40]
theorem over_at {α : Type} : ∀ (cs c : List α) (k : Nat), k + cs.length = c.length → over c k cs = c.take k ++ cs
  | [], c, k, h => by simp only [over, List.append_nil]; rw [List.take_of_length_le (by simp at h; omega)]
  | v :: r, c, k, h => by
    simp only [over]
    rw [over_at r (c.set k v) (k + 1) (by simp at h ⊢; omega)]
    simp only [List.length_cons] at h
    rw [List.take_add_one, List.getElem?_set_self (by omega), List.take_set_of_le (Nat.le_refl k)]
    simp
theorem over_aA (a b : Int → Int) : over (aA a) 0 (aA b) = aA b := by
  rw [over_at (aA b) (aA a) 0 (by rw [aA_len, aA_len])]; rfl
theorem avlts_all {m : Nat} : ∀ l : List AV, (∀ x ∈ l, ∃ n, x = .i n) → avlts m l
  | [], _ => trivial
  | x :: r, h => by
    obtain ⟨n, rfl⟩ := h x (by simp)
    exact ⟨trivial, avlts_all r fun y hy => h y (by simp [hy])⟩
theorem avlts_aA (m : Nat) (tok : Int → Int) : avlts m (aA tok) := avlts_all _ fun x hx => by
  simp only [aA, List.mem_map] at hx
  obtain ⟨i, _, rfl⟩ := hx
  exact ⟨_, rfl⟩
def aP (tok : Int → Int) : List PV := (List.range 40).map fun (i : Nat) => PV.int .i64 (tok (i : Int))
theorem purs_ints (h : Heap) (n fuel : Nat) : ∀ l : List Int, purs h n fuel (l.map AV.i) = some (l.map (PV.int .i64))
  | [] => by unfold purs; rfl
  | x :: r => by
    simp only [List.map_cons]
    unfold purs pur
    rw [purs_ints h n fuel r]
theorem aA_ints (tok : Int → Int) : aA tok = ((List.range 40).map fun (i : Nat) => tok (i : Int)).map AV.i := by simp [aA, List.map_map, Function.comp_def]
theorem purs_aA (h : Heap) (n : Nat) (tok : Int → Int) : purs h n 5 (aA tok) = some (aP tok) := by
  rw [aA_ints, purs_ints]; simp [aP, List.map_map, Function.comp_def]
theorem aP_map (tok : Int → Int) : (aP tok).map AV.p = aA tok := by simp [aP, aA, List.map_map, Function.comp_def]

theorem takeT_app : ∀ (a b : List Int) (tok : Int → Int), takeT (a ++ b) tok = (takeT a tok).bind (takeT b)
  | [], b, tok => rfl
  | f :: r, b, tok => by
    simp only [List.cons_append, takeT]
    split
    · exact takeT_app r b _
    · rfl

theorem takeT_next {l : List Int} {i : Nat} {k : Int} (hx : l[i]? = some k) {tok t : Int → Int} (hp : takeT (l.take i) tok = some t) :
    takeT (l.take (i + 1)) tok = if flowB k = true ∧ 0 < t k then some (setT t k (t k - 1)) else none := by
  rw [List.take_add_one, hx, Option.toList_some, takeT_app, hp]
  simp [takeT]

theorem takeT_stop {l : List Int} {i : Nat} {k : Int} (hx : l[i]? = some k) {tok t : Int → Int} (hp : takeT (l.take i) tok = some t) (hn : ¬ (flowB k = true ∧ 0 < t k)) : takeT l tok = none := by
  have h := takeT_next hx hp
  rw [if_neg hn] at h
  rw [← List.take_append_drop (i + 1) l, takeT_app, h]; rfl

theorem takeT_le : ∀ (l : List Int) (tok t : Int → Int), takeT l tok = some t → ∀ i, t i ≤ tok i
  | [], tok, t, h, i => by simp [takeT] at h; subst h; exact Int.le_refl _
  | f :: r, tok, t, h, i => by
    unfold takeT at h
    split at h
    · have := takeT_le r _ t h i
      simp only [setT] at this
      split at this <;> (try subst_vars) <;> omega
    · cases h

theorem without_calls (l : List Int) (hl : l.length ≤ 200) (tok : Int → Int) (ht : ∀ i, tok i ≤ 9223372036854775807) (h : Heap) :
    ACalls Tryd.prog G 32 [.agg (aA tok), aI l] h (fun r h' => r = .tup [.agg (aA ((takeT l tok).getD zT)), .b (takeT l tok).isSome] ∧ h' = h) := by
  refine acalls_pure (rl := []) mixed Tryd.func32 rfl (rs := [.cell 4 26, .tmp 5]) rfl Tryd.ntmps32 (by simp) ?_
  refine awp_seq_k fun K hK => ?_
  repeat' (first | ((first | refine aops_nil ?_ | refine aqops_nil ?_); (try simp only [NB]); ((repeat ((fail_if_success (refine hK _ ?_)); clear hK K)); refine hK _ ?_; clear hK K)) | ((first | refine aops_k fun K1 hK1 => ?_ | refine aqops_k fun K1 hK1 => ?_ | refine awp_cond_k fun A B hA hB => ?_); simp only [S1, simprocAttr, TTRdC, T40z, z40_ne, z40_map, aA_len, aA_scalar, aA_ne, over_aA, aA_take40, aA_load]; first | (refine hK1 _ ?_; clear hK1 K1) | ((first | refine hA ?_ | refine hB ?_); clear hA hB A B) | (refine join_x (v := ?_) (fun hg hk9 => ?_) ?_; rotate_left; (focus (try ((try simp only [BN] at hg); simp only [S1, simprocAttr, TTRdC, T40z, z40_ne, z40_map, aA_len, aA_scalar, aA_ne, over_aA, aA_take40, aA_load, hg] at hk9 ⊢)); first | exact hk9); (refine hK1 _ ?_; clear hK1 K1)) | (((first | (refine ⟨fun hg => hA ?_, fun hg => hB ?_⟩ <;> clear hA hB A B) | refine ⟨fun hg => ?_, fun hg => ?_⟩) <;> (try simp only [BN2] at hg) <;> (try simp only [hg, cond_true, cond_false])) <;> (try (refine hK1 _ ?_; clear hK1 K1)) <;> (try simp only [BN3] at hg))) | (fail) | ((first | refine awp_region ?_ | refine awp_draw (by kernel_rfl) ?_ | refine awp_block ?_ | refine awp_exit ?_ | refine awp_skip ?_ | refine awp_ret ?_); (try simp only [NB, simprocAttr]); (try ((repeat ((fail_if_success (refine hK _ ?_)); clear hK K)); refine hK _ ?_; clear hK K))))
  refine awp_seq_k fun K hK => ?_
  repeat' (first | ((first | refine aops_nil ?_ | refine aqops_nil ?_); (try simp only [NB])) | ((repeat ((fail_if_success (refine hK _ ?_)); clear hK K)); refine hK _ ?_; clear hK K) | ((first | refine aops_k fun K1 hK1 => ?_ | refine aqops_k fun K1 hK1 => ?_ | refine awp_cond_k fun A B hA hB => ?_); simp only [S1, simprocAttr, TTRdC, List.length_map]; first | (refine hK1 _ ?_; clear hK1 K1) | ((first | refine hA ?_ | refine hB ?_); clear hA hB A B) | (refine join_x (v := ?_) (fun hg hk9 => ?_) ?_; rotate_left; (focus (try ((try simp only [BN] at hg); simp only [S1, simprocAttr, TTRdC, List.length_map, hg] at hk9 ⊢)); first | exact hk9); (refine hK1 _ ?_; clear hK1 K1)) | (((first | (refine ⟨fun hg => hA ?_, fun hg => hB ?_⟩ <;> clear hA hB A B) | refine ⟨fun hg => ?_, fun hg => ?_⟩) <;> (try simp only [BN2] at hg) <;> (try simp only [hg, cond_true, cond_false])) <;> (try (refine hK1 _ ?_; clear hK1 K1)) <;> (try simp only [BN3] at hg))) | (refine awp_seq_k fun K hK => ?_) | ((first | refine awp_region ?_ | refine awp_draw (by kernel_rfl) ?_ | refine awp_block ?_ | refine awp_exit ?_ | refine awp_skip ?_ | refine awp_ret ?_); (try simp only [NB, simprocAttr])))
  let tk := fun i => (takeT (l.take i) tok).getD zT
  refine awp_for l.length 31 (fun i => [(10, .i i), (9, .i l.length), (8, aI l), (2, .ptr h.length 0 0), (4, .ptr (h.length + 1) 0 0)]) (fun i => [some ⟨0, aA (tk i)⟩, some ⟨0, aA zT⟩]) (fun i => takeT (l.take i) tok = some (tk i)) ?_ rfl fun i hi hp K hK => ?_
  · refine ⟨rfl, ⟨[], by simp [tk, takeT]⟩, ?_, avlts_aA _ _, avlts_aA _ _, trivial⟩
    simp only [keeps, avlt, avlts, blksLt, frL, upd_get, S1, simprocAttr, List.length_map, Int.natCast_zero, AV.p.injEq, PV.int.injEq, PV.bool.injEq, PV.sl.injEq] <;> (try and_intros) <;> (try assumption) <;> (try trivial) <;> (try omega)
  rcases Nat.lt_or_ge i l.length with hlt | hge
  · obtain ⟨k, hx⟩ : ∃ k, l[i]? = some k := ⟨_, List.getElem?_eq_getElem hlt⟩
    have hnext := takeT_next hx hp
    by_cases hc : flowB k = true ∧ 0 < tk i k
    · rw [if_pos hc] at hnext
      have hr : 0 ≤ k ∧ k ≤ 39 := by have := hc.1; simp [flowB] at this; exact this
      have hk40 : k < 40 := by omega
      have hk3 : k.toNat + 1 ≤ 40 := by omega
      have f1 := hc.1
      have f2 : decide (tk i k ≤ 0) = false := by simp; omega
      have hle := takeT_le _ _ _ hp k
      have hw : IntKind.i64.wrap (tk i k - 1) = tk i k - 1 := IntWalk.i64_in _ (by have := ht k; omega)
      have hget := aA_take (tok := tk i) (b := 8) (z := some [.int .i64 0]) hr.1 hr.2
      have hset := aA_set (tok := tk i) (x := tk i k - 1) hr.1 hr.2
      have hfl := fun h => flow_calls (G := G) k h
      rw [f1] at hfl
      repeat' (first | ((first | refine aops_nil ?_ | refine aqops_nil ?_); (try simp only [NB])) | ((repeat ((fail_if_success (refine hK _ ?_)); clear hK K)); refine hK _ ?_; clear hK K) | ((first | refine aops_k fun K1 hK1 => ?_ | refine aqops_k fun K1 hK1 => ?_ | refine awp_cond_k fun A B hA hB => ?_); simp only [S1, simprocAttr, TTRdC, rowI hx, hitI hlt, nextI hl hlt, f1, f2, hw, hget, hset, hr.1, hk40, hk3, Nat.mul_one, aA_len, T40z]; first | (refine hK1 _ ?_; clear hK1 K1) | ((first | refine hA ?_ | refine hB ?_); clear hA hB A B) | ((first | apply call_a E31 | apply call_q E31); exact (hfl _); (refine hK1 _ ?_; clear hK1 K1)) | (refine join_x (v := ?_) (fun hg hk9 => ?_) ?_; rotate_left; (focus (try ((try simp only [BN] at hg); simp only [S1, simprocAttr, TTRdC, rowI hx, hitI hlt, nextI hl hlt, f1, f2, hw, hget, hset, hr.1, hk40, hk3, Nat.mul_one, aA_len, T40z, hg] at hk9 ⊢)); first | exact hk9 | ((first | apply call_a E31 | apply call_q E31); exact (hfl _); exact hk9)); (refine hK1 _ ?_; clear hK1 K1)) | (((first | (refine ⟨fun hg => hA ?_, fun hg => hB ?_⟩ <;> clear hA hB A B) | refine ⟨fun hg => ?_, fun hg => ?_⟩) <;> (try simp only [BN2] at hg) <;> (try simp only [hg, cond_true, cond_false])) <;> (try (refine hK1 _ ?_; clear hK1 K1)) <;> (try simp only [BN3] at hg))) | (refine awp_seq_k fun K hK => ?_) | ((first | refine awp_region ?_ | refine awp_draw (by kernel_rfl) ?_ | refine awp_block ?_ | refine awp_exit ?_ | refine awp_skip ?_ | refine awp_ret ?_); (try simp only [NB, simprocAttr])))
      have e2 : tk (i + 1) = setT (tk i) k (tk i k - 1) := by simp only [tk]; rw [hnext]; rfl
      all_goals refine ⟨hlt, by rw [hnext, e2], ?_⟩
      all_goals rw [e2]
      all_goals refine ⟨rfl, ⟨[], by simp⟩, ?_, avlts_aA _ _, avlts_aA _ _, trivial⟩
      all_goals simp only [keeps, avlt, avlts, blksLt, frL, upd_get, S1, simprocAttr, List.length_map, Int.natCast_zero, AV.p.injEq, PV.int.injEq, PV.bool.injEq, PV.sl.injEq] <;> (try and_intros) <;> (try assumption) <;> (try trivial) <;> (try omega)
    · have hstop := takeT_stop hx hp hc
      cases hf : flowB k with
      | false =>
        have hfl := fun h => flow_calls (G := G) k h
        rw [hf] at hfl
        repeat' (first | ((first | refine aops_nil ?_ | refine aqops_nil ?_); (try simp only [NB])) | ((repeat ((fail_if_success (refine hK _ ?_)); clear hK K)); refine hK _ ?_; clear hK K) | ((first | refine aops_k fun K1 hK1 => ?_ | refine aqops_k fun K1 hK1 => ?_ | refine awp_cond_k fun A B hA hB => ?_); simp only [S1, simprocAttr, TTRdC, rowI hx, hitI hlt, nextI hl hlt, Nat.mul_one, aA_len, T40z, z40_ne, z40_map, aA_scalar, over_aA, aA_take40, aA_load]; first | (refine hK1 _ ?_; clear hK1 K1) | ((first | refine hA ?_ | refine hB ?_); clear hA hB A B) | ((first | apply call_a E31 | apply call_q E31); exact (hfl _); (refine hK1 _ ?_; clear hK1 K1)) | (refine join_x (v := ?_) (fun hg hk9 => ?_) ?_; rotate_left; (focus (try ((try simp only [BN] at hg); simp only [S1, simprocAttr, TTRdC, rowI hx, hitI hlt, nextI hl hlt, Nat.mul_one, aA_len, T40z, z40_ne, z40_map, aA_scalar, over_aA, aA_take40, aA_load, hg] at hk9 ⊢)); first | exact hk9 | ((first | apply call_a E31 | apply call_q E31); exact (hfl _); exact hk9)); (refine hK1 _ ?_; clear hK1 K1)) | (((first | (refine ⟨fun hg => hA ?_, fun hg => hB ?_⟩ <;> clear hA hB A B) | refine ⟨fun hg => ?_, fun hg => ?_⟩) <;> (try simp only [BN2] at hg) <;> (try simp only [hg, cond_true, cond_false])) <;> (try (refine hK1 _ ?_; clear hK1 K1)) <;> (try simp only [BN3] at hg))) | (refine awp_seq_k fun K hK => ?_) | ((first | refine awp_region ?_ | refine awp_draw (by kernel_rfl) ?_ | refine awp_block ?_ | refine awp_exit ?_ | refine awp_skip ?_ | refine awp_ret ?_); (try simp only [NB, simprocAttr])))
        all_goals simp only [EndP, FinP, resA, resL, resA1, lastV, lastA, lastAs, pur, purs, take_app, List.take_length, S1, simprocAttr, TTRdC, Nat.le_add_right, Nat.le_refl, T40z, aA_len, aA_take40, aA_load, purs_aA, aP_map]
        all_goals (rw [hstop]; simp)
      | true =>
        have hr : 0 ≤ k ∧ k ≤ 39 := by simp [flowB] at hf; exact hf
        have hk40 : k < 40 := by omega
        have f2 : decide (tk i k ≤ 0) = true := by
          have : ¬ 0 < tk i k := fun e => hc ⟨hf, e⟩
          simp; omega
        have hget := aA_take (tok := tk i) (b := 8) (z := some [.int .i64 0]) hr.1 hr.2
        have hfl := fun h => flow_calls (G := G) k h
        rw [hf] at hfl
        repeat' (first | ((first | refine aops_nil ?_ | refine aqops_nil ?_); (try simp only [NB])) | ((repeat ((fail_if_success (refine hK _ ?_)); clear hK K)); refine hK _ ?_; clear hK K) | ((first | refine aops_k fun K1 hK1 => ?_ | refine aqops_k fun K1 hK1 => ?_ | refine awp_cond_k fun A B hA hB => ?_); simp only [S1, simprocAttr, TTRdC, rowI hx, hitI hlt, nextI hl hlt, f2, hget, hr.1, hk40, Nat.mul_one, aA_len, T40z, z40_ne, z40_map, aA_scalar, over_aA, aA_take40, aA_load]; first | (refine hK1 _ ?_; clear hK1 K1) | ((first | refine hA ?_ | refine hB ?_); clear hA hB A B) | ((first | apply call_a E31 | apply call_q E31); exact (hfl _); (refine hK1 _ ?_; clear hK1 K1)) | (refine join_x (v := ?_) (fun hg hk9 => ?_) ?_; rotate_left; (focus (try ((try simp only [BN] at hg); simp only [S1, simprocAttr, TTRdC, rowI hx, hitI hlt, nextI hl hlt, f2, hget, hr.1, hk40, Nat.mul_one, aA_len, T40z, z40_ne, z40_map, aA_scalar, over_aA, aA_take40, aA_load, hg] at hk9 ⊢)); first | exact hk9 | ((first | apply call_a E31 | apply call_q E31); exact (hfl _); exact hk9)); (refine hK1 _ ?_; clear hK1 K1)) | (((first | (refine ⟨fun hg => hA ?_, fun hg => hB ?_⟩ <;> clear hA hB A B) | refine ⟨fun hg => ?_, fun hg => ?_⟩) <;> (try simp only [BN2] at hg) <;> (try simp only [hg, cond_true, cond_false])) <;> (try (refine hK1 _ ?_; clear hK1 K1)) <;> (try simp only [BN3] at hg))) | (refine awp_seq_k fun K hK => ?_) | ((first | refine awp_region ?_ | refine awp_draw (by kernel_rfl) ?_ | refine awp_block ?_ | refine awp_exit ?_ | refine awp_skip ?_ | refine awp_ret ?_); (try simp only [NB, simprocAttr])))
        all_goals simp only [EndP, FinP, resA, resL, resA1, lastV, lastA, lastAs, pur, purs, take_app, List.take_length, S1, simprocAttr, TTRdC, Nat.le_add_right, Nat.le_refl, T40z, aA_len, aA_take40, aA_load, purs_aA, aP_map]
        all_goals (rw [hstop]; simp)
  · obtain rfl : i = l.length := by omega
    repeat' (first | ((first | refine aops_nil ?_ | refine aqops_nil ?_); (try simp only [NB])) | ((repeat ((fail_if_success (refine hK _ ?_)); clear hK K)); refine hK _ ?_; clear hK K) | ((first | refine aops_k fun K1 hK1 => ?_ | refine aqops_k fun K1 hK1 => ?_ | refine awp_cond_k fun A B hA hB => ?_); simp only [S1, simprocAttr, TTRdC, endI, T40z, aA_len, aA_scalar, over_aA, aA_take40, aA_load]; first | (refine hK1 _ ?_; clear hK1 K1) | ((first | refine hA ?_ | refine hB ?_); clear hA hB A B) | (refine join_x (v := ?_) (fun hg hk9 => ?_) ?_; rotate_left; (focus (try ((try simp only [BN] at hg); simp only [S1, simprocAttr, TTRdC, endI, T40z, aA_len, aA_scalar, over_aA, aA_take40, aA_load, hg] at hk9 ⊢)); first | exact hk9); (refine hK1 _ ?_; clear hK1 K1)) | (((first | (refine ⟨fun hg => hA ?_, fun hg => hB ?_⟩ <;> clear hA hB A B) | refine ⟨fun hg => ?_, fun hg => ?_⟩) <;> (try simp only [BN2] at hg) <;> (try simp only [hg, cond_true, cond_false])) <;> (try (refine hK1 _ ?_; clear hK1 K1)) <;> (try simp only [BN3] at hg))) | (refine awp_seq_k fun K hK => ?_) | ((first | refine awp_region ?_ | refine awp_draw (by kernel_rfl) ?_ | refine awp_block ?_ | refine awp_exit ?_ | refine awp_skip ?_ | refine awp_ret ?_); (try simp only [NB, simprocAttr])))
    simp only [EndP, FinP, resA, resL, resA1, lastV, lastA, lastAs, pur, purs, take_app, List.take_length, S1, simprocAttr, TTRdC, Nat.le_add_right, Nat.le_refl, T40z, aA_len, aA_take40, aA_load, purs_aA, aP_map]
    have e : l.take l.length = l := List.take_length
    have e1 : tk l.length = (takeT l tok).getD zT := by simp only [tk, e]
    have e2 : (takeT l tok).isSome = true := by rw [e] at hp; rw [hp]; rfl
    rw [e1, e2]
end Go.Proofs.YtjpphhcimpclpaaDoor.AM
end

section
set_option linter.unusedVariables false
set_option linter.unusedSimpArgs false
set_option maxRecDepth 4000
set_option maxHeartbeats 4000000
namespace Go.Proofs.YtjpphhcimpclpaaDoor.AM
open Go Go.Proofs
set_option linter.defProp false in
attribute [local irreducible] awp aops aqops aeops arun
variable {G : Nat → Option (List PV)}

theorem avlts_ints (m : Nat) (l : List Int) : avlts m (l.map AV.i) := avlts_all _ fun x hx => by
  simp only [List.mem_map] at hx
  obtain ⟨i, _, rfl⟩ := hx
  exact ⟨_, rfl⟩

theorem chunk_ints : ∀ l : List Int, chunk 1 l.length (l.map (PV.int .i64)) = l.map eI
  | [] => rfl
  | x :: r => by simp only [List.length_cons, List.map_cons, chunk, List.take_succ_cons, List.take_zero, List.drop_succ_cons, List.drop_zero, chunk_ints r, eI]

theorem pur_ints {h : Heap} {n fuel b g : Nat} {l : List Int} (hb : blkAt h b g = some (l.map AV.i)) (hn : n ≤ b) : pur h n (fuel + 1) (.ref b g 0 1 l.length) = some (.sl (l.map eI)) := by
  unfold pur
  by_cases h0 : l.length = 0
  · rw [if_pos h0]; have := List.eq_nil_of_length_eq_zero h0; subst this; rfl
  · rw [if_neg h0, hb]
    simp only [hn, true_and, Nat.zero_add, Nat.mul_one, List.length_map, Nat.le_refl, if_true, List.drop_zero]
    rw [List.take_of_length_le (by simp), purs_ints]
    simp only [Option.map_some, chunk_ints]

theorem EndP_ints {P : Program} {h : Heap} {K : AV → Prop} {e : Exit} {s : St} (he : e = .normal ∨ e = .ret) {t b g : Nat} {l : List Int} (hf : s.fr t = some (.ref b g 0 1 l.length)) (hb : blkAt s.heap b g = some (l.map AV.i)) (hn : h.length ≤ b)
    (ht : s.heap.take h.length = h) (hle : h.length ≤ s.heap.length) (hk : K (aI l)) : EndP P [.tmp t] h K e s := by
  have key : FinP P [.tmp t] h K s := by
    unfold FinP
    simp only [resA, resL, resA1, hf, lastV, lastA, pur_ints hb hn, Option.map_some]
    exact ⟨ht, hle, hk⟩
  rcases he with rfl | rfl <;> exact key

end Go.Proofs.YtjpphhcimpclpaaDoor.AM
end

section
set_option linter.unusedVariables false
set_option linter.unusedSimpArgs false
set_option maxRecDepth 4000
set_option maxHeartbeats 4000000
namespace Go.Proofs.YtjpphhcimpclpaaDoor.AM
open Go Go.Proofs
set_option linter.defProp false in
def TTNeF := And.intro T2 (And.intro T3 (And.intro T4 (And.intro T23 (And.intro T25 (And.intro T40 (And.intro T56 (And.intro T58 (And.intro T71 T105))))))))
attribute [local irreducible] awp aops aqops aeops arun
variable {G : Nat → Option (List PV)}

mutual
theorem avlt_mono {m n : Nat} (hmn : m ≤ n) : ∀ x : AV, avlt m x → avlt n x
  | .p _, _ => by simp [avlt]
  | .agg l, h => by simp only [avlt] at h ⊢; exact avlts_mono hmn l h
  | .tup l, h => by simp only [avlt] at h ⊢; exact avlts_mono hmn l h
  | .fn f l, h => by simp only [avlt] at h ⊢; exact avlts_mono hmn l h
  | .ref b g o s l, h => by simp only [avlt] at h ⊢; omega
  | .ptr b g o, h => by simp only [avlt] at h ⊢; omega
  | .pin c, _ => by simp [avlt]
theorem avlts_mono {m n : Nat} (hmn : m ≤ n) : ∀ l : List AV, avlts m l → avlts n l
  | [], _ => by simp [avlts]
  | x :: r, h => by simp only [avlts] at h ⊢; exact ⟨avlt_mono hmn x h.1, avlts_mono hmn r h.2⟩
end

theorem app_get {H : Heap} {b : Nat} {x : Option Blk} (hb : H[b]? = some x) (L : Heap) : (H ++ L)[b]? = some x := by
  have : b < H.length := by
    rcases Nat.lt_or_ge b H.length with h | h
    · exact h
    · rw [List.getElem?_eq_none h] at hb; cases hb
  rw [List.getElem?_append_left this]; exact hb

abbrev aF (k : Fl) : AV := .agg [.i k.src, .i k.dst, .b k.els, .i k.cond.op, .i k.cond.n, .p (.sl (k.cond.kids.map eT))]

theorem ins1_calls (k : Fl) (i : Int) (H : Heap) {b g : Nat} (hb : H[b]? = some (some ⟨g, [.i i]⟩)) : ACalls Tryd.prog G 39 [aF k, .ptr b g 0] H (fun r h' => r = .b (k.dst == i) ∧ h' = H) := by
  refine acalls_pure (rl := []) mixed Tryd.func39 rfl (rs := [.tmp 3]) rfl Tryd.ntmps39 (by simp) ?_
  repeat' (first | ((first | refine aops_nil ?_ | refine aqops_nil ?_); (try simp only [NB])) | ((repeat ((fail_if_success (refine hK _ ?_)); clear hK K)); refine hK _ ?_; clear hK K) | ((first | refine aops_k fun K1 hK1 => ?_ | refine aqops_k fun K1 hK1 => ?_ | refine awp_cond_k fun A B hA hB => ?_); simp only [S1, simprocAttr, TTNeF, app_get hb]; first | (refine hK1 _ ?_; clear hK1 K1) | ((first | refine hA ?_ | refine hB ?_); clear hA hB A B) | (((first | (refine ⟨fun hg => hA ?_, fun hg => hB ?_⟩ <;> clear hA hB A B) | refine ⟨fun hg => ?_, fun hg => ?_⟩) <;> (try simp only [BN2] at hg) <;> (try simp only [hg, cond_true, cond_false])) <;> (try (refine hK1 _ ?_; clear hK1 K1)) <;> (try simp only [BN3] at hg))) | (refine awp_seq_k fun K hK => ?_) | ((first | refine awp_region ?_ | refine awp_draw (by kernel_rfl) ?_ | refine awp_block ?_ | refine awp_exit ?_ | refine awp_skip ?_ | refine awp_ret ?_); (try simp only [NB, simprocAttr])))
  simp only [EndP, FinP, resA, resL, resA1, lastV, lastA, lastAs, pur, purs, take_app, List.take_length, S1, simprocAttr, TTNeF, Nat.le_add_right, Nat.le_refl]

theorem outs1_calls (k : Fl) (i : Int) (H : Heap) {b g : Nat} (hb : H[b]? = some (some ⟨g, [.i i]⟩)) : ACalls Tryd.prog G 40 [aF k, .ptr b g 0] H (fun r h' => r = .b (k.src == i) ∧ h' = H) := by
  refine acalls_pure (rl := []) mixed Tryd.func40 rfl (rs := [.tmp 3]) rfl Tryd.ntmps40 (by simp) ?_
  repeat' (first | ((first | refine aops_nil ?_ | refine aqops_nil ?_); (try simp only [NB])) | ((repeat ((fail_if_success (refine hK _ ?_)); clear hK K)); refine hK _ ?_; clear hK K) | ((first | refine aops_k fun K1 hK1 => ?_ | refine aqops_k fun K1 hK1 => ?_ | refine awp_cond_k fun A B hA hB => ?_); simp only [S1, simprocAttr, TTNeF, app_get hb]; first | (refine hK1 _ ?_; clear hK1 K1) | ((first | refine hA ?_ | refine hB ?_); clear hA hB A B) | (((first | (refine ⟨fun hg => hA ?_, fun hg => hB ?_⟩ <;> clear hA hB A B) | refine ⟨fun hg => ?_, fun hg => ?_⟩) <;> (try simp only [BN2] at hg) <;> (try simp only [hg, cond_true, cond_false])) <;> (try (refine hK1 _ ?_; clear hK1 K1)) <;> (try simp only [BN3] at hg))) | (refine awp_seq_k fun K hK => ?_) | ((first | refine awp_region ?_ | refine awp_draw (by kernel_rfl) ?_ | refine awp_block ?_ | refine awp_exit ?_ | refine awp_skip ?_ | refine awp_ret ?_); (try simp only [NB, simprocAttr])))
  simp only [EndP, FinP, resA, resL, resA1, lastV, lastA, lastAs, pur, purs, take_app, List.take_length, S1, simprocAttr, TTNeF, Nat.le_add_right, Nat.le_refl]

theorem flows_calls {f : FuncId} (hE : Enters Tryd.prog f) {caps : List AV} {q : Fl → Bool} (nodes : List (List PV)) (fl : List Fl) (hl : fl.length ≤ 100) (h : Heap) (hcap : avlts h.length caps)
    (hc : ∀ L, ∀ k ∈ fl, ACalls Tryd.prog G f (aF k :: caps) (h ++ L) (fun r h' => r = .b (q k) ∧ h' = h ++ L)) :
    ACalls Tryd.prog G 38 [.agg [.p (.sl nodes), .p (.sl (fl.map eF))], .fn f caps] h (fun r h' => r = aI (pickF q fl fl.length) ∧ h' = h) := by
  refine acalls_pure (rl := []) mixed Tryd.func38 rfl (rs := [.tmp 4]) rfl Tryd.ntmps38 (by simp) ?_
  refine awp_seq_k fun K hK => ?_
  repeat' (first | ((first | refine aops_nil ?_ | refine aqops_nil ?_); (try simp only [NB]); ((repeat ((fail_if_success (refine hK _ ?_)); clear hK K)); refine hK _ ?_; clear hK K)) | ((first | refine aops_k fun K1 hK1 => ?_ | refine aqops_k fun K1 hK1 => ?_ | refine awp_cond_k fun A B hA hB => ?_); simp only [S1, simprocAttr, TTNeF]; first | (refine hK1 _ ?_; clear hK1 K1) | ((first | refine hA ?_ | refine hB ?_); clear hA hB A B) | (((first | (refine ⟨fun hg => hA ?_, fun hg => hB ?_⟩ <;> clear hA hB A B) | refine ⟨fun hg => ?_, fun hg => ?_⟩) <;> (try simp only [BN2] at hg) <;> (try simp only [hg, cond_true, cond_false])) <;> (try (refine hK1 _ ?_; clear hK1 K1)) <;> (try simp only [BN3] at hg))) | (fail) | ((first | refine awp_region ?_ | refine awp_draw (by kernel_rfl) ?_ | refine awp_block ?_ | refine awp_exit ?_ | refine awp_skip ?_ | refine awp_ret ?_); (try simp only [NB, simprocAttr]); (try ((repeat ((fail_if_success (refine hK _ ?_)); clear hK K)); refine hK _ ?_; clear hK K))))
  refine awp_seq_k fun K hK => ?_
  repeat' (first | ((first | refine aops_nil ?_ | refine aqops_nil ?_); (try simp only [NB]); ((repeat ((fail_if_success (refine hK _ ?_)); clear hK K)); refine hK _ ?_; clear hK K)) | ((first | refine aops_k fun K1 hK1 => ?_ | refine aqops_k fun K1 hK1 => ?_ | refine awp_cond_k fun A B hA hB => ?_); simp only [S1, simprocAttr, TTNeF]; first | (refine hK1 _ ?_; clear hK1 K1) | ((first | refine hA ?_ | refine hB ?_); clear hA hB A B) | (((first | (refine ⟨fun hg => hA ?_, fun hg => hB ?_⟩ <;> clear hA hB A B) | refine ⟨fun hg => ?_, fun hg => ?_⟩) <;> (try simp only [BN2] at hg) <;> (try simp only [hg, cond_true, cond_false])) <;> (try (refine hK1 _ ?_; clear hK1 K1)) <;> (try simp only [BN3] at hg))) | (fail) | ((first | refine awp_region ?_ | refine awp_draw (by kernel_rfl) ?_ | refine awp_block ?_ | refine awp_exit ?_ | refine awp_skip ?_ | refine awp_ret ?_); (try simp only [NB, simprocAttr]); (try ((repeat ((fail_if_success (refine hK _ ?_)); clear hK K)); refine hK _ ?_; clear hK K))))
  refine awp_seq_k fun K hK => ?_
  repeat' (first | ((first | refine aops_nil ?_ | refine aqops_nil ?_); (try simp only [NB])) | ((repeat ((fail_if_success (refine hK _ ?_)); clear hK K)); refine hK _ ?_; clear hK K) | ((first | refine aops_k fun K1 hK1 => ?_ | refine aqops_k fun K1 hK1 => ?_ | refine awp_cond_k fun A B hA hB => ?_); simp only [S1, simprocAttr, TTNeF, List.length_map]; first | (refine hK1 _ ?_; clear hK1 K1) | ((first | refine hA ?_ | refine hB ?_); clear hA hB A B) | (((first | (refine ⟨fun hg => hA ?_, fun hg => hB ?_⟩ <;> clear hA hB A B) | refine ⟨fun hg => ?_, fun hg => ?_⟩) <;> (try simp only [BN2] at hg) <;> (try simp only [hg, cond_true, cond_false])) <;> (try (refine hK1 _ ?_; clear hK1 K1)) <;> (try simp only [BN3] at hg))) | (refine awp_seq_k fun K hK => ?_) | ((first | refine awp_region ?_ | refine awp_draw (by kernel_rfl) ?_ | refine awp_block ?_ | refine awp_exit ?_ | refine awp_skip ?_ | refine awp_ret ?_); (try simp only [NB, simprocAttr])))
  have hcap2 := avlts_mono (Nat.le_add_right h.length 2) caps hcap
  have hcap0 := avlts_mono (Nat.le_add_right h.length 1) caps hcap
  refine awp_forG fl.length 25 (fun j => [(11, .i j), (10, .i fl.length), (9, .p (.sl (fl.map eF))), (1, .fn f caps), (5, .ref (h.length + 1) (pickF q fl j).length 0 1 (pickF q fl j).length)])
    (fun j => [some ⟨0, [.p (.sl nodes), .p (.sl (fl.map eF))]⟩, some ⟨(pickF q fl j).length, (pickF q fl j).map AV.i⟩]) (fun j => True) ?_ trivial fun j hj hp K hK => ?_
  · refine (Ghost.adopt 5 1 rfl).trans (Sub.ghost ⟨rfl, ⟨[], by simp [pickF]⟩, ?_, ?_⟩)
    · simp only [keeps, avlt, pickF, upd_get, frL, List.length_cons, List.length_nil]
      simp
      exact hcap2
    · simp [blksLt, avlts, avlt, pickF]
  rcases Nat.lt_or_ge j fl.length with hlt | hge
  · obtain ⟨k, hx⟩ : ∃ k, fl[j]? = some k := ⟨_, List.getElem?_eq_getElem hlt⟩
    have hm := List.mem_of_getElem? hx
    have hle := pickF_le q fl j
    have hmax : (pickF q fl j).length + 1 ≤ maxCount := by unfold maxCount; omega
    have hck := fun L => hc L k hm
    cases hq : q k with
    | false =>
      rw [hq] at hck
      have e1 : pickF q fl (j + 1) = pickF q fl j := by simp only [pickF, hx, hq]; rfl
      repeat' (first | ((first | refine aops_nil ?_ | refine aqops_nil ?_); (try simp only [NB])) | ((repeat ((fail_if_success (refine hK _ ?_)); clear hK K)); refine hK _ ?_; clear hK K) | ((first | refine aops_k fun K1 hK1 => ?_ | refine aqops_k fun K1 hK1 => ?_ | refine awp_cond_k fun A B hA hB => ?_); simp only [S1, simprocAttr, TTNeF, rowF hx, hitF hlt, nextF hl hlt, eF, List.length_map]; first | (refine hK1 _ ?_; clear hK1 K1) | ((first | refine hA ?_ | refine hB ?_); clear hA hB A B) | ((first | apply call_a hE | apply call_q hE); exact (hck _); (refine hK1 _ ?_; clear hK1 K1)) | (((first | (refine ⟨fun hg => hA ?_, fun hg => hB ?_⟩ <;> clear hA hB A B) | refine ⟨fun hg => ?_, fun hg => ?_⟩) <;> (try simp only [BN2] at hg) <;> (try simp only [hg, cond_true, cond_false])) <;> (try (refine hK1 _ ?_; clear hK1 K1)) <;> (try simp only [BN3] at hg))) | (refine awp_seq_k fun K hK => ?_) | ((first | refine awp_region ?_ | refine awp_draw (by kernel_rfl) ?_ | refine awp_block ?_ | refine awp_exit ?_ | refine awp_skip ?_ | refine awp_ret ?_); (try simp only [NB, simprocAttr])))
      all_goals refine ⟨hlt, trivial, ?_⟩
      all_goals simp only [e1]
      all_goals refine ⟨rfl, ⟨_, rfl⟩, ?_, ?_⟩
      · simp only [keeps, avlt, avlts, blksLt, frL, upd_get, S1, simprocAttr, List.length_map, Int.natCast_zero, AV.p.injEq, PV.int.injEq, PV.bool.injEq, PV.sl.injEq] <;> (try and_intros) <;> (try assumption) <;> (try trivial) <;> (try omega)
      · simp only [blksLt, avlts, avlt]; exact ⟨⟨trivial, trivial, trivial⟩, avlts_ints _ _, trivial⟩
    | true =>
      rw [hq] at hck
      have e1 : pickF q fl (j + 1) = pickF q fl j ++ [(j : Int)] := by simp only [pickF, hx, hq]; rfl
      repeat' (first | ((first | refine aops_nil ?_ | refine aqops_nil ?_); (try simp only [NB])) | ((repeat ((fail_if_success (refine hK _ ?_)); clear hK K)); refine hK _ ?_; clear hK K) | ((first | refine aops_k fun K1 hK1 => ?_ | refine aqops_k fun K1 hK1 => ?_ | refine awp_cond_k fun A B hA hB => ?_); simp only [S1, simprocAttr, TTNeF, rowF hx, hitF hlt, nextF hl hlt, eF, List.length_map, hmax, Nat.mul_one, Nat.zero_add]; first | (refine hK1 _ ?_; clear hK1 K1) | ((first | refine hA ?_ | refine hB ?_); clear hA hB A B) | ((first | apply call_a hE | apply call_q hE); exact (hck _); (refine hK1 _ ?_; clear hK1 K1)) | (((first | (refine ⟨fun hg => hA ?_, fun hg => hB ?_⟩ <;> clear hA hB A B) | refine ⟨fun hg => ?_, fun hg => ?_⟩) <;> (try simp only [BN2] at hg) <;> (try simp only [hg, cond_true, cond_false])) <;> (try (refine hK1 _ ?_; clear hK1 K1)) <;> (try simp only [BN3] at hg))) | (refine awp_seq_k fun K hK => ?_) | ((first | refine awp_region ?_ | refine awp_draw (by kernel_rfl) ?_ | refine awp_block ?_ | refine awp_exit ?_ | refine awp_skip ?_ | refine awp_ret ?_); (try simp only [NB, simprocAttr])))
      all_goals refine ⟨hlt, trivial, ?_⟩
      all_goals simp only [e1, List.length_append, List.map_append, List.length_cons, List.length_nil, List.map_cons, List.map_nil, Nat.zero_add]
      all_goals refine ⟨rfl, ⟨_, rfl⟩, ?_, ?_⟩
      · simp only [keeps, avlt, avlts, blksLt, frL, upd_get, S1, simprocAttr, List.length_map, Int.natCast_zero, AV.p.injEq, PV.int.injEq, PV.bool.injEq, PV.sl.injEq] <;> (try and_intros) <;> (try assumption) <;> (try trivial) <;> (try omega)
      · simp only [blksLt, avlts, avlt]; exact ⟨⟨trivial, trivial, trivial⟩, (by have := avlts_ints (h.length + 2) (pickF q fl j ++ [(j : Int)]); simpa using this), trivial⟩
  · obtain rfl : j = fl.length := by omega
    repeat' (first | ((first | refine aops_nil ?_ | refine aqops_nil ?_); (try simp only [NB])) | ((repeat ((fail_if_success (refine hK _ ?_)); clear hK K)); refine hK _ ?_; clear hK K) | ((first | refine aops_k fun K1 hK1 => ?_ | refine aqops_k fun K1 hK1 => ?_ | refine awp_cond_k fun A B hA hB => ?_); simp only [S1, simprocAttr, TTNeF, endF]; first | (refine hK1 _ ?_; clear hK1 K1) | ((first | refine hA ?_ | refine hB ?_); clear hA hB A B) | (((first | (refine ⟨fun hg => hA ?_, fun hg => hB ?_⟩ <;> clear hA hB A B) | refine ⟨fun hg => ?_, fun hg => ?_⟩) <;> (try simp only [BN2] at hg) <;> (try simp only [hg, cond_true, cond_false])) <;> (try (refine hK1 _ ?_; clear hK1 K1)) <;> (try simp only [BN3] at hg))) | (refine awp_seq_k fun K hK => ?_) | ((first | refine awp_region ?_ | refine awp_draw (by kernel_rfl) ?_ | refine awp_block ?_ | refine awp_exit ?_ | refine awp_skip ?_ | refine awp_ret ?_); (try simp only [NB, simprocAttr])))
    exact EndP_ints (.inr rfl) rfl (by simp only [blkAt, get_app, List.getElem?_cons_succ, List.getElem?_cons_zero, if_true]) (by omega) (by simp) (by simp) rfl

theorem ins_calls (nodes : List (List PV)) (fl : List Fl) (hl : fl.length ≤ 100) (i : Int) (h : Heap) : ACalls Tryd.prog G 25 [.agg [.p (.sl nodes), .p (.sl (fl.map eF))], .i i] h (fun r h' => r = aI (insN fl i) ∧ h' = h) := by
  have hf := flows_calls (G := G) (f := 39) E39 (caps := [.ptr (h.length + 1) 0 0]) (q := fun f => f.dst == i) nodes fl hl (h ++ [some ⟨0, [.p (.sl nodes), .p (.sl (fl.map eF))]⟩, some ⟨0, [.i i]⟩]) (by simp [avlts, avlt])
    (fun L k hk => ins1_calls k i _ (app_get (by simp [get_app]) L))
  refine acalls_pure (rl := []) mixed Tryd.func25 rfl (rs := [.tmp 4]) rfl Tryd.ntmps25 (by simp) ?_
  repeat' (first | ((first | refine aops_nil ?_ | refine aqops_nil ?_); (try simp only [NB])) | ((repeat ((fail_if_success (refine hK _ ?_)); clear hK K)); refine hK _ ?_; clear hK K) | ((first | refine aops_k fun K1 hK1 => ?_ | refine aqops_k fun K1 hK1 => ?_ | refine awp_cond_k fun A B hA hB => ?_); simp only [S1, simprocAttr, TTNeF]; first | (refine hK1 _ ?_; clear hK1 K1) | ((first | refine hA ?_ | refine hB ?_); clear hA hB A B) | ((first | apply call_a E38 | apply call_q E38); exact hf; (refine hK1 _ ?_; clear hK1 K1)) | (((first | (refine ⟨fun hg => hA ?_, fun hg => hB ?_⟩ <;> clear hA hB A B) | refine ⟨fun hg => ?_, fun hg => ?_⟩) <;> (try simp only [BN2] at hg) <;> (try simp only [hg, cond_true, cond_false])) <;> (try (refine hK1 _ ?_; clear hK1 K1)) <;> (try simp only [BN3] at hg))) | (refine awp_seq_k fun K hK => ?_) | ((first | refine awp_region ?_ | refine awp_draw (by kernel_rfl) ?_ | refine awp_block ?_ | refine awp_exit ?_ | refine awp_skip ?_ | refine awp_ret ?_); (try simp only [NB, simprocAttr])))
  simp only [EndP, FinP, resA, resL, resA1, lastV, lastA, lastAs, pur, purs, take_app, List.take_length, S1, simprocAttr, TTNeF, Nat.le_add_right, Nat.le_refl]
  rfl

theorem outs_calls (nodes : List (List PV)) (fl : List Fl) (hl : fl.length ≤ 100) (i : Int) (h : Heap) : ACalls Tryd.prog G 26 [.agg [.p (.sl nodes), .p (.sl (fl.map eF))], .i i] h (fun r h' => r = aI (outsN fl i) ∧ h' = h) := by
  have hf := flows_calls (G := G) (f := 40) E40 (caps := [.ptr (h.length + 1) 0 0]) (q := fun f => f.src == i) nodes fl hl (h ++ [some ⟨0, [.p (.sl nodes), .p (.sl (fl.map eF))]⟩, some ⟨0, [.i i]⟩]) (by simp [avlts, avlt])
    (fun L k hk => outs1_calls k i _ (app_get (by simp [get_app]) L))
  refine acalls_pure (rl := []) mixed Tryd.func26 rfl (rs := [.tmp 4]) rfl Tryd.ntmps26 (by simp) ?_
  repeat' (first | ((first | refine aops_nil ?_ | refine aqops_nil ?_); (try simp only [NB])) | ((repeat ((fail_if_success (refine hK _ ?_)); clear hK K)); refine hK _ ?_; clear hK K) | ((first | refine aops_k fun K1 hK1 => ?_ | refine aqops_k fun K1 hK1 => ?_ | refine awp_cond_k fun A B hA hB => ?_); simp only [S1, simprocAttr, TTNeF]; first | (refine hK1 _ ?_; clear hK1 K1) | ((first | refine hA ?_ | refine hB ?_); clear hA hB A B) | ((first | apply call_a E38 | apply call_q E38); exact hf; (refine hK1 _ ?_; clear hK1 K1)) | (((first | (refine ⟨fun hg => hA ?_, fun hg => hB ?_⟩ <;> clear hA hB A B) | refine ⟨fun hg => ?_, fun hg => ?_⟩) <;> (try simp only [BN2] at hg) <;> (try simp only [hg, cond_true, cond_false])) <;> (try (refine hK1 _ ?_; clear hK1 K1)) <;> (try simp only [BN3] at hg))) | (refine awp_seq_k fun K hK => ?_) | ((first | refine awp_region ?_ | refine awp_draw (by kernel_rfl) ?_ | refine awp_block ?_ | refine awp_exit ?_ | refine awp_skip ?_ | refine awp_ret ?_); (try simp only [NB, simprocAttr])))
  simp only [EndP, FinP, resA, resL, resA1, lastV, lastA, lastAs, pur, purs, take_app, List.take_length, S1, simprocAttr, TTNeF, Nat.le_add_right, Nat.le_refl]
  rfl
end Go.Proofs.YtjpphhcimpclpaaDoor.AM
end

section
set_option linter.unusedVariables false
set_option linter.unusedSimpArgs false
set_option maxRecDepth 4000
set_option maxHeartbeats 4000000
namespace Go.Proofs.YtjpphhcimpclpaaDoor.AM
open Go Go.Proofs
set_option linter.defProp false in
def TTNeG := And.intro T2 (And.intro T3 (And.intro T4 (And.intro T22 (And.intro T23 (And.intro T25 (And.intro T40 (And.intro T56 (And.intro T58 (And.intro T60 (And.intro T71 T119))))))))))
attribute [local irreducible] awp aops aqops aeops arun
variable {G : Nat → Option (List PV)}

structure Nd where
  kind : Int
  a : Int
  term : Tm

def eN (k : Nd) : List PV := [.int .i64 k.kind, .int .i64 k.a, .int .i64 k.term.op, .int .i64 k.term.n, .sl (k.term.kids.map eT)]
abbrev aNd (k : Nd) : AV := .agg [.i k.kind, .i k.a, .i k.term.op, .i k.term.n, .p (.sl (k.term.kids.map eT))]
abbrev aNet (ns : List Nd) (fl : List Fl) : AV := .agg [.p (.sl (ns.map eN)), .p (.sl (fl.map eF))]

theorem rowN {l : List Nd} {i : Nat} {k : Nd} (h : l[i]? = some k) : (l.map eN)[i]? = some (eN k) := by simp [h]
theorem hitN {l : List Nd} {i : Nat} (h : i < l.length) : decide ((i : Int) < (l.length : Int)) = true := by simp; omega
theorem endN {l : List Nd} : decide ((l.length : Int) < (l.length : Int)) = false := by simp
theorem nextN {l : List Nd} {i : Nat} (hk : l.length ≤ 100) (h : i < l.length) : IntKind.i64.wrap ((i : Int) + 1) = ((i + 1 : Nat) : Int) := by rw [IntWalk.i64_in _ (by omega)]; omega

def findG {α : Type} (p : α → Bool) : List α → Nat → Int
  | [], _ => -1
  | k :: r, i => if p k then (i : Int) else findG p r (i + 1)

theorem findG_step {α : Type} {p : α → Bool} {l : List α} {i : Nat} {k : α} (hk : l[i]? = some k) : findG p (l.drop i) i = if p k then (i : Int) else findG p (l.drop (i + 1)) (i + 1) := by
  obtain ⟨h, e⟩ := List.getElem?_eq_some_iff.mp hk
  rw [List.drop_eq_getElem_cons h, e]; rfl

def firstN (ns : List Nd) (kind : Int) : Int := findG (fun x => x.kind == kind) ns 0

theorem start1_calls (k : Nd) (H : Heap) : ACalls Tryd.prog G 54 [aNd k] H (fun r h' => r = .b (k.kind == 1) ∧ h' = H) := by
  refine acalls_pure (rl := []) mixed Tryd.func54 rfl (rs := [.tmp 2]) rfl Tryd.ntmps54 (by simp) ?_
  repeat' (first | ((first | refine aops_nil ?_ | refine aqops_nil ?_); (try simp only [NB])) | ((repeat ((fail_if_success (refine hK _ ?_)); clear hK K)); refine hK _ ?_; clear hK K) | ((first | refine aops_k fun K1 hK1 => ?_ | refine aqops_k fun K1 hK1 => ?_ | refine awp_cond_k fun A B hA hB => ?_); simp only [S1, simprocAttr, TTNeG]; first | (refine hK1 _ ?_; clear hK1 K1) | ((first | refine hA ?_ | refine hB ?_); clear hA hB A B) | (((first | (refine ⟨fun hg => hA ?_, fun hg => hB ?_⟩ <;> clear hA hB A B) | refine ⟨fun hg => ?_, fun hg => ?_⟩) <;> (try simp only [BN2] at hg) <;> (try simp only [hg, cond_true, cond_false])) <;> (try (refine hK1 _ ?_; clear hK1 K1)) <;> (try simp only [BN3] at hg))) | (refine awp_seq_k fun K hK => ?_) | ((first | refine awp_region ?_ | refine awp_draw (by kernel_rfl) ?_ | refine awp_block ?_ | refine awp_exit ?_ | refine awp_skip ?_ | refine awp_ret ?_); (try simp only [NB, simprocAttr])))
  simp only [EndP, FinP, resA, resL, resA1, lastV, lastA, lastAs, pur, purs, take_app, List.take_length, S1, simprocAttr, TTNeG, Nat.le_add_right, Nat.le_refl]

theorem end1_calls (k : Nd) (H : Heap) : ACalls Tryd.prog G 87 [aNd k] H (fun r h' => r = .b (k.kind == 2) ∧ h' = H) := by
  refine acalls_pure (rl := []) mixed Tryd.func87 rfl (rs := [.tmp 2]) rfl Tryd.ntmps87 (by simp) ?_
  repeat' (first | ((first | refine aops_nil ?_ | refine aqops_nil ?_); (try simp only [NB])) | ((repeat ((fail_if_success (refine hK _ ?_)); clear hK K)); refine hK _ ?_; clear hK K) | ((first | refine aops_k fun K1 hK1 => ?_ | refine aqops_k fun K1 hK1 => ?_ | refine awp_cond_k fun A B hA hB => ?_); simp only [S1, simprocAttr, TTNeG]; first | (refine hK1 _ ?_; clear hK1 K1) | ((first | refine hA ?_ | refine hB ?_); clear hA hB A B) | (((first | (refine ⟨fun hg => hA ?_, fun hg => hB ?_⟩ <;> clear hA hB A B) | refine ⟨fun hg => ?_, fun hg => ?_⟩) <;> (try simp only [BN2] at hg) <;> (try simp only [hg, cond_true, cond_false])) <;> (try (refine hK1 _ ?_; clear hK1 K1)) <;> (try simp only [BN3] at hg))) | (refine awp_seq_k fun K hK => ?_) | ((first | refine awp_region ?_ | refine awp_draw (by kernel_rfl) ?_ | refine awp_block ?_ | refine awp_exit ?_ | refine awp_skip ?_ | refine awp_ret ?_); (try simp only [NB, simprocAttr])))
  simp only [EndP, FinP, resA, resL, resA1, lastV, lastA, lastAs, pur, purs, take_app, List.take_length, S1, simprocAttr, TTNeG, Nat.le_add_right, Nat.le_refl]

theorem indexN_calls {f : FuncId} (hE : Enters Tryd.prog f) {caps : List AV} {p : Nd → Bool} (ks : List Nd) (hl : ks.length ≤ 100) (h : Heap) (hcap : avlts h.length caps)
    (hc0 : ∀ k ∈ ks, ACalls Tryd.prog G f (aNd k :: caps) h (fun r h' => r = .b (p k) ∧ h' = h)) :
    ACalls Tryd.prog G 53 [.p (.sl (ks.map eN)), .fn f caps] h (fun r h' => r = .i (findG p ks 0) ∧ h' = h) := by
  refine acalls_pure (rl := []) mixed Tryd.func53 rfl (rs := [.tmp 4]) rfl Tryd.ntmps53 (by simp) ?_
  repeat' (first | ((first | refine aops_nil ?_ | refine aqops_nil ?_); (try simp only [NB])) | ((repeat ((fail_if_success (refine hK _ ?_)); clear hK K)); refine hK _ ?_; clear hK K) | ((first | refine aops_k fun K1 hK1 => ?_ | refine aqops_k fun K1 hK1 => ?_ | refine awp_cond_k fun A B hA hB => ?_); simp only [S1, simprocAttr, TTNeG, List.length_map]; first | (refine hK1 _ ?_; clear hK1 K1) | ((first | refine hA ?_ | refine hB ?_); clear hA hB A B) | (((first | (refine ⟨fun hg => hA ?_, fun hg => hB ?_⟩ <;> clear hA hB A B) | refine ⟨fun hg => ?_, fun hg => ?_⟩) <;> (try simp only [BN2] at hg) <;> (try simp only [hg, cond_true, cond_false])) <;> (try (refine hK1 _ ?_; clear hK1 K1)) <;> (try simp only [BN3] at hg))) | (refine awp_seq_k fun K hK => ?_) | ((first | refine awp_region ?_ | refine awp_draw (by kernel_rfl) ?_ | refine awp_block ?_ | refine awp_exit ?_ | refine awp_skip ?_ | refine awp_ret ?_); (try simp only [NB, simprocAttr])))
  refine awp_for ks.length 19 (fun i => [(8, .i i), (7, .i ks.length), (0, .p (.sl (ks.map eN))), (1, .fn f caps)]) (fun i => []) (fun i => findG p ks 0 = findG p (ks.drop i) i) ?_ rfl fun i hi hp K hK => ?_
  · (refine ⟨rfl, (by first | exact ⟨_, rfl⟩ | exact ⟨[], by simp⟩), ?_, ?_⟩ <;> simp only [keeps, avlt, avlts, blksLt, frL, upd_get, S1, simprocAttr, List.length_map, Int.natCast_zero, AV.p.injEq, PV.int.injEq, PV.bool.injEq, PV.sl.injEq] <;> (try and_intros) <;> (try assumption) <;> (try trivial) <;> (try omega))
  rcases Nat.lt_or_ge i ks.length with hlt | hge
  · obtain ⟨k, hx⟩ : ∃ k, ks[i]? = some k := ⟨_, List.getElem?_eq_getElem hlt⟩
    have hm := List.mem_of_getElem? hx
    rw [findG_step hx] at hp
    repeat' (first | ((first | refine aops_nil ?_ | refine aqops_nil ?_); (try simp only [NB])) | ((repeat ((fail_if_success (refine hK _ ?_)); clear hK K)); refine hK _ ?_; clear hK K) | ((first | refine aops_k fun K1 hK1 => ?_ | refine aqops_k fun K1 hK1 => ?_ | refine awp_cond_k fun A B hA hB => ?_); simp only [S1, simprocAttr, TTNeG, rowN hx, hitN hlt, nextN hl hlt, eN]; first | (refine hK1 _ ?_; clear hK1 K1) | ((first | refine hA ?_ | refine hB ?_); clear hA hB A B) | ((first | apply call_a hE | apply call_q hE); exact (hc0 k hm); (refine hK1 _ ?_; clear hK1 K1)) | (((first | (refine ⟨fun hg => hA ?_, fun hg => hB ?_⟩ <;> clear hA hB A B) | refine ⟨fun hg => ?_, fun hg => ?_⟩) <;> (try simp only [BN2] at hg) <;> (try simp only [hg, cond_true, cond_false])) <;> (try (refine hK1 _ ?_; clear hK1 K1)) <;> (try simp only [BN3] at hg))) | (refine awp_seq_k fun K hK => ?_) | ((first | refine awp_region ?_ | refine awp_draw (by kernel_rfl) ?_ | refine awp_block ?_ | refine awp_exit ?_ | refine awp_skip ?_ | refine awp_ret ?_); (try simp only [NB, simprocAttr])))
    · simp only [EndP, FinP, resA, resL, resA1, lastV, lastA, lastAs, pur, purs, take_app, List.take_length, S1, simprocAttr, TTNeG, Nat.le_add_right, Nat.le_refl]
      simp [hp, hg]
    · exact ⟨hlt, by simpa [hg] using hp, by (refine ⟨rfl, (by first | exact ⟨_, rfl⟩ | exact ⟨[], by simp⟩), ?_, ?_⟩ <;> simp only [keeps, avlt, avlts, blksLt, frL, upd_get, S1, simprocAttr, List.length_map, Int.natCast_zero, AV.p.injEq, PV.int.injEq, PV.bool.injEq, PV.sl.injEq] <;> (try and_intros) <;> (try assumption) <;> (try trivial) <;> (try omega))⟩
  · obtain rfl : i = ks.length := by omega
    repeat' (first | ((first | refine aops_nil ?_ | refine aqops_nil ?_); (try simp only [NB])) | ((repeat ((fail_if_success (refine hK _ ?_)); clear hK K)); refine hK _ ?_; clear hK K) | ((first | refine aops_k fun K1 hK1 => ?_ | refine aqops_k fun K1 hK1 => ?_ | refine awp_cond_k fun A B hA hB => ?_); simp only [S1, simprocAttr, TTNeG, endN]; first | (refine hK1 _ ?_; clear hK1 K1) | ((first | refine hA ?_ | refine hB ?_); clear hA hB A B) | (((first | (refine ⟨fun hg => hA ?_, fun hg => hB ?_⟩ <;> clear hA hB A B) | refine ⟨fun hg => ?_, fun hg => ?_⟩) <;> (try simp only [BN2] at hg) <;> (try simp only [hg, cond_true, cond_false])) <;> (try (refine hK1 _ ?_; clear hK1 K1)) <;> (try simp only [BN3] at hg))) | (refine awp_seq_k fun K hK => ?_) | ((first | refine awp_region ?_ | refine awp_draw (by kernel_rfl) ?_ | refine awp_block ?_ | refine awp_exit ?_ | refine awp_skip ?_ | refine awp_ret ?_); (try simp only [NB, simprocAttr])))
    simp only [EndP, FinP, resA, resL, resA1, lastV, lastA, lastAs, pur, purs, take_app, List.take_length, S1, simprocAttr, TTNeG, Nat.le_add_right, Nat.le_refl]
    rw [List.drop_length] at hp
    simp [hp, findG]

theorem start_calls (ns : List Nd) (hl : ns.length ≤ 100) (fs : List (List PV)) (h : Heap) : ACalls Tryd.prog G 35 [.agg [.p (.sl (ns.map eN)), .p (.sl fs)]] h (fun r h' => r = .i (firstN ns 1) ∧ h' = h) := by
  refine acalls_pure (rl := []) mixed Tryd.func35 rfl (rs := [.tmp 2]) rfl Tryd.ntmps35 (by simp) ?_
  repeat' (first | ((first | refine aops_nil ?_ | refine aqops_nil ?_); (try simp only [NB])) | ((repeat ((fail_if_success (refine hK _ ?_)); clear hK K)); refine hK _ ?_; clear hK K) | ((first | refine aops_k fun K1 hK1 => ?_ | refine aqops_k fun K1 hK1 => ?_ | refine awp_cond_k fun A B hA hB => ?_); simp only [S1, simprocAttr, TTNeG]; first | (refine hK1 _ ?_; clear hK1 K1) | ((first | refine hA ?_ | refine hB ?_); clear hA hB A B) | ((first | apply call_a E53 | apply call_q E53); exact (indexN_calls E54 (p := fun x => x.kind == 1) ns hl _ (by simp [avlts]) (fun k hk => start1_calls k _)); (refine hK1 _ ?_; clear hK1 K1)) | (((first | (refine ⟨fun hg => hA ?_, fun hg => hB ?_⟩ <;> clear hA hB A B) | refine ⟨fun hg => ?_, fun hg => ?_⟩) <;> (try simp only [BN2] at hg) <;> (try simp only [hg, cond_true, cond_false])) <;> (try (refine hK1 _ ?_; clear hK1 K1)) <;> (try simp only [BN3] at hg))) | (refine awp_seq_k fun K hK => ?_) | ((first | refine awp_region ?_ | refine awp_draw (by kernel_rfl) ?_ | refine awp_block ?_ | refine awp_exit ?_ | refine awp_skip ?_ | refine awp_ret ?_); (try simp only [NB, simprocAttr])))
  simp only [EndP, FinP, resA, resL, resA1, lastV, lastA, lastAs, pur, purs, take_app, List.take_length, S1, simprocAttr, TTNeG, Nat.le_add_right, Nat.le_refl]
  all_goals rfl

theorem end_calls (ns : List Nd) (hl : ns.length ≤ 100) (fs : List (List PV)) (h : Heap) : ACalls Tryd.prog G 62 [.agg [.p (.sl (ns.map eN)), .p (.sl fs)]] h (fun r h' => r = .i (firstN ns 2) ∧ h' = h) := by
  refine acalls_pure (rl := []) mixed Tryd.func62 rfl (rs := [.tmp 2]) rfl Tryd.ntmps62 (by simp) ?_
  repeat' (first | ((first | refine aops_nil ?_ | refine aqops_nil ?_); (try simp only [NB])) | ((repeat ((fail_if_success (refine hK _ ?_)); clear hK K)); refine hK _ ?_; clear hK K) | ((first | refine aops_k fun K1 hK1 => ?_ | refine aqops_k fun K1 hK1 => ?_ | refine awp_cond_k fun A B hA hB => ?_); simp only [S1, simprocAttr, TTNeG]; first | (refine hK1 _ ?_; clear hK1 K1) | ((first | refine hA ?_ | refine hB ?_); clear hA hB A B) | ((first | apply call_a E53 | apply call_q E53); exact (indexN_calls E87 (p := fun x => x.kind == 2) ns hl _ (by simp [avlts]) (fun k hk => end1_calls k _)); (refine hK1 _ ?_; clear hK1 K1)) | (((first | (refine ⟨fun hg => hA ?_, fun hg => hB ?_⟩ <;> clear hA hB A B) | refine ⟨fun hg => ?_, fun hg => ?_⟩) <;> (try simp only [BN2] at hg) <;> (try simp only [hg, cond_true, cond_false])) <;> (try (refine hK1 _ ?_; clear hK1 K1)) <;> (try simp only [BN3] at hg))) | (refine awp_seq_k fun K hK => ?_) | ((first | refine awp_region ?_ | refine awp_draw (by kernel_rfl) ?_ | refine awp_block ?_ | refine awp_exit ?_ | refine awp_skip ?_ | refine awp_ret ?_); (try simp only [NB, simprocAttr])))
  simp only [EndP, FinP, resA, resL, resA1, lastV, lastA, lastAs, pur, purs, take_app, List.take_length, S1, simprocAttr, TTNeG, Nat.le_add_right, Nat.le_refl]
  all_goals rfl

end Go.Proofs.YtjpphhcimpclpaaDoor.AM
end

section
set_option linter.unusedVariables false
namespace Go.Proofs.YtjpphhcimpclpaaDoor.AM
inductive Rch (es : List (Nat × Nat)) (a : Nat) : Nat → Prop
  | refl : Rch es a a
  | step {b c : Nat} : Rch es a b → (b, c) ∈ es → Rch es a c

theorem Rch.trans {es : List (Nat × Nat)} {a b c : Nat} (h1 : Rch es a b) (h2 : Rch es b c) : Rch es a c := by
  induction h2 with
  | refl => exact h1
  | step _ he ih => exact .step ih he

theorem Rch.closed {es : List (Nat × Nat)} {a b : Nat} {p : Nat → Prop} (h : Rch es a b) (ha : p a) (hc : ∀ e ∈ es, p e.1 → p e.2) : p b := by
  induction h with
  | refl => exact ha
  | step _ he ih => exact hc _ he ih

open Classical in
/-- What is led to from a place, as truths. -/
noncomputable def rchL (es : List (Nat × Nat)) (n a : Nat) : List Bool := (List.range n).map fun i => decide (Rch es a i)

theorem rchL_len (es : List (Nat × Nat)) (n a : Nat) : (rchL es n a).length = n := by simp [rchL]

theorem rchL_of {es : List (Nat × Nat)} {n a : Nat} {l : List Bool} (hl : l.length = n) (h1 : ∀ i : Nat, l[i]? = some true → Rch es a i) (h2 : ∀ i, i < n → Rch es a i → l[i]? = some true) : l = rchL es n a := by
  apply List.ext_getElem?
  intro i
  by_cases hi : i < n
  · have e : (rchL es n a)[i]? = some (@decide (Rch es a i) (Classical.propDecidable _)) := by simp [rchL, hi]
    rw [e, List.getElem?_eq_getElem (by omega)]
    by_cases hr : Rch es a i
    · have := h2 i hi hr
      rw [List.getElem?_eq_getElem (by omega)] at this
      rw [this]; simp [hr]
    · cases hx : l[i] with
      | true => exact (hr (h1 i (by rw [List.getElem?_eq_getElem (by omega), hx]))).elim
      | false => simp [hr]
  · rw [List.getElem?_eq_none (by omega), List.getElem?_eq_none (by rw [rchL_len]; omega)]

/-! Round by round. -/
theorem count_set : ∀ {out : List Bool} {i : Nat}, out[i]? = some false → (out.set i true).count true = out.count true + 1
  | [], i, h => by simp at h
  | x :: r, 0, h => by simp at h; subst h; simp
  | x :: r, i + 1, h => by
    have := count_set (out := r) (i := i) (by simpa using h)
    simp only [List.set_cons_succ, List.count_cons, this]; omega

/-! Breadth first. -/
structure Bfs (es : List (Nat × Nat)) (n a : Nat) (seen : List Bool) (todo : List Nat) : Prop where
  len : seen.length = n
  start : a ∈ todo ∨ seen[a]? = some true
  sound : ∀ i : Nat, seen[i]? = some true → Rch es a i
  soundT : ∀ i ∈ todo, Rch es a i
  closed : ∀ e ∈ es, seen[e.1]? = some true → e.2 ∈ todo ∨ seen[e.2]? = some true

theorem Bfs.init {es : List (Nat × Nat)} {n a : Nat} : Bfs es n a (List.replicate n false) [a] where
  len := by simp
  start := .inl (by simp)
  sound := fun i hi => by rw [List.getElem?_replicate] at hi; split at hi <;> simp at hi
  soundT := fun i hi => by simp at hi; subst hi; exact .refl
  closed := fun e _ hi => by rw [List.getElem?_replicate] at hi; split at hi <;> simp at hi

theorem Bfs.skip {es : List (Nat × Nat)} {n a x : Nat} {seen : List Bool} {todo : List Nat} (h : Bfs es n a seen (x :: todo)) (hx : seen[x]? = some true) : Bfs es n a seen todo where
  len := h.len
  start := by
    rcases h.start with h1 | h1
    · rcases List.mem_cons.mp h1 with rfl | h1
      · exact .inr hx
      · exact .inl h1
    · exact .inr h1
  sound := h.sound
  soundT := fun i hi => h.soundT i (by simp [hi])
  closed := fun e he hs => by
    rcases h.closed e he hs with h1 | h1
    · rcases List.mem_cons.mp h1 with h2 | h1
      · exact .inr (h2 ▸ hx)
      · exact .inl h1
    · exact .inr h1

def nexts (es : List (Nat × Nat)) (x : Nat) : List Nat := (es.filter fun e => e.1 == x).map (·.2)

theorem Bfs.visit {es : List (Nat × Nat)} {n a x : Nat} {seen : List Bool} {todo : List Nat} (h : Bfs es n a seen (x :: todo)) (hx : x < n) : Bfs es n a (seen.set x true) (todo ++ nexts es x) where
  len := by simp [h.len]
  start := by
    have hxx : (seen.set x true)[x]? = some true := by rw [List.getElem?_set]; simp [h.len, hx]
    rcases h.start with h1 | h1
    · rcases List.mem_cons.mp h1 with rfl | h1
      · exact .inr hxx
      · exact .inl (by simp [h1])
    · right
      rw [List.getElem?_set]
      split
      · simp [h.len, hx]
      · exact h1
  sound := fun i hi => by
    rw [List.getElem?_set] at hi
    split at hi
    · rename_i e; subst e; exact h.soundT _ (by simp)
    · exact h.sound i hi
  soundT := fun i hi => by
    rcases List.mem_append.mp hi with hi | hi
    · exact h.soundT i (by simp [hi])
    · simp only [nexts, List.mem_map, List.mem_filter] at hi
      obtain ⟨⟨b, c⟩, ⟨h1, h2⟩, rfl⟩ := hi
      simp at h2; subst h2
      exact .step (h.soundT _ (by simp)) h1
  closed := fun e he hs => by
    have hxx : (seen.set x true)[x]? = some true := by rw [List.getElem?_set]; simp [h.len, hx]
    by_cases hex : e.1 = x
    · left
      rw [List.mem_append]; right
      simp only [nexts, List.mem_map, List.mem_filter]
      exact ⟨e, ⟨he, by simp [hex]⟩, rfl⟩
    · rw [List.getElem?_set, if_neg (fun h => hex h.symm)] at hs
      rcases h.closed e he hs with h1 | h1
      · rcases List.mem_cons.mp h1 with h2 | h1
        · right; rw [h2]; exact hxx
        · left; simp [h1]
      · right
        rw [List.getElem?_set]
        split
        · simp [h.len, hx]
        · exact h1

theorem Bfs.done {es : List (Nat × Nat)} {n a : Nat} {seen : List Bool} (h : Bfs es n a seen []) : seen = rchL es n a := by
  refine rchL_of h.len h.sound fun i _ hr => ?_
  refine hr.closed (p := fun i => seen[i]? = some true) ?_ fun e he hs => ?_
  · rcases h.start with h1 | h1
    · cases h1
    · exact h1
  · rcases h.closed e he hs with h1 | h1
    · cases h1
    · exact h1
/-- What is still to be done, at most. -/
def bfsM (es : List (Nat × Nat)) (seen : List Bool) (todo : List Nat) : Nat := (seen.length - seen.count true) * (es.length + 1) + todo.length

theorem bfsM_skip (es : List (Nat × Nat)) (seen : List Bool) (x : Nat) (todo : List Nat) : bfsM es seen todo < bfsM es seen (x :: todo) := by simp [bfsM]

theorem nexts_len (es : List (Nat × Nat)) (x : Nat) : (nexts es x).length ≤ es.length := by simp [nexts, List.length_filter_le]

theorem bfsM_visit {es : List (Nat × Nat)} {seen : List Bool} {x : Nat} {todo : List Nat} (hx : seen[x]? = some false) : bfsM es (seen.set x true) (todo ++ nexts es x) < bfsM es seen (x :: todo) := by
  have h1 := count_set hx
  have h2 := nexts_len es x
  have h3 : (seen.set x true).count true ≤ (seen.set x true).length := List.count_le_length
  unfold bfsM
  rw [h1, List.length_set, List.length_append, List.length_cons]
  rw [h1, List.length_set] at h3
  have : seen.length - seen.count true = (seen.length - (seen.count true + 1)) + 1 := by omega
  rw [this, Nat.succ_mul]
  omega
end Go.Proofs.YtjpphhcimpclpaaDoor.AM
end

section
set_option linter.unusedVariables false
set_option linter.unusedSimpArgs false
set_option maxRecDepth 4000
set_option maxHeartbeats 4000000
namespace Go.Proofs.YtjpphhcimpclpaaDoor.AM
open Go Go.Proofs
set_option linter.defProp false in
attribute [local irreducible] awp aops aqops aeops arun
variable {G : Nat → Option (List PV)}

def inB (m : Nat) (i : Int) : Bool := decide (0 ≤ i) && decide (i < (m : Int))
def kindAt (ns : List Nd) (i : Int) : Int := match ns[i.toNat]? with | some k => k.kind | none => 0
def splitsB (ns : List Nd) (fl : List Fl) (i : Int) : Bool := kindAt ns i == 5 && decide (2 ≤ ((outsN fl i).length : Int))
def twoB (ns : List Nd) (fl : List Fl) (f : Fl) : Bool :=
  ((inB ns.length f.src && inB ns.length f.dst) && !(f.src == f.dst)) && (if splitsB ns fl f.src = true then (if f.els = true then noneB f.cond else ofB f.cond 2) else (!f.els && noneB f.cond))

theorem inB_iff {m : Nat} {i : Int} : inB m i = true ↔ 0 ≤ i ∧ i < m := by simp [inB]

end Go.Proofs.YtjpphhcimpclpaaDoor.AM
end

section
set_option linter.unusedVariables false
set_option linter.unusedSimpArgs false
set_option maxRecDepth 4000
set_option maxHeartbeats 4000000
namespace Go.Proofs.YtjpphhcimpclpaaDoor.AM
open Go Go.Proofs
set_option linter.defProp false in
attribute [local irreducible] awp aops aqops aeops arun
variable {G : Nat → Option (List PV)}

theorem pickF_mem {q : Fl → Bool} {l : List Fl} : ∀ {j : Nat} {x : Int}, x ∈ pickF q l j → ∃ i f, i < j ∧ x = (i : Int) ∧ l[i]? = some f ∧ q f = true
  | 0, x, h => by simp [pickF] at h
  | j + 1, x, h => by
    unfold pickF at h
    split at h
    · rename_i f hf
      split at h
      · rename_i hq
        rcases List.mem_append.mp h with h | h
        · obtain ⟨i, f', a, b⟩ := pickF_mem h; exact ⟨i, f', by omega, b⟩
        · exact ⟨j, f, by omega, by simpa using h, hf, hq⟩
      · obtain ⟨i, f', a, b⟩ := pickF_mem h; exact ⟨i, f', by omega, b⟩
    · obtain ⟨i, f', a, b⟩ := pickF_mem h; exact ⟨i, f', by omega, b⟩

def elsAt (fl : List Fl) (x : Int) : Bool := match fl[x.toNat]? with | some f => f.els | none => false
def othAt (ns : List Nd) (fl : List Fl) (x : Int) : Bool := match fl[x.toNat]? with | some f => kindAt ns f.dst != 8 | none => false
def cntB (p : Int → Bool) (l : List Int) (j : Nat) : Nat := (l.take j).countP p

theorem cntB_step {p : Int → Bool} {l : List Int} {j : Nat} {x : Int} (h : l[j]? = some x) : cntB p l (j + 1) = cntB p l j + (if p x = true then 1 else 0) := by
  unfold cntB
  rw [List.take_add_one, h]
  simp only [Option.toList_some, List.countP_append, List.countP_cons, List.countP_nil, Nat.zero_add]
theorem cntB_le (p : Int → Bool) (l : List Int) (j : Nat) : cntB p l j ≤ l.length := by
  unfold cntB
  exact Nat.le_trans List.countP_le_length (by rw [List.length_take]; omega)

/-- Rule 3 of a node, but that there is one Start and one End. -/
def threeB (ns : List Nd) (fl : List Fl) (i : Int) : Bool :=
  let a := (insN fl i).length
  let outs := outsN fl i
  let b := outs.length
  let elses := cntB (elsAt fl) outs b
  let others := cntB (othAt ns fl) outs b
  let k := kindAt ns i
  if k = 1 then a == 0 && b == 1
  else if k = 2 then a == 1 && b == 0
  else if k = 5 then (a == 1 && decide (2 ≤ b) && elses == 1) || (decide (2 ≤ a) && b == 1)
  else if k = 6 then (a == 1 && decide (2 ≤ b)) || (decide (2 ≤ a) && b == 1)
  else if k = 7 then a == 1 && decide (2 ≤ b) && others == 0
  else a == 1 && b == 1

end Go.Proofs.YtjpphhcimpclpaaDoor.AM
end

section
set_option linter.unusedVariables false
set_option linter.unusedSimpArgs false
set_option maxRecDepth 4000
set_option maxHeartbeats 4000000
namespace Go.Proofs.YtjpphhcimpclpaaDoor.AM
open Go Go.Proofs
set_option linter.defProp false in
attribute [local irreducible] awp aops aqops aeops arun
variable {G : Nat → Option (List PV)}

def eB (x : Bool) : List PV := [.bool x]
abbrev aBl (l : List Bool) : AV := .p (.sl (l.map eB))

theorem avlts_bools (m : Nat) (l : List Bool) : avlts m (l.map AV.b) := by
  induction l with
  | nil => trivial
  | cons x r ih => exact ⟨trivial, ih⟩

theorem chunk_bools : ∀ l : List Bool, chunk 1 l.length (l.map PV.bool) = l.map eB
  | [] => rfl
  | x :: r => by simp only [List.length_cons, List.map_cons, chunk, List.take_succ_cons, List.take_zero, List.drop_succ_cons, List.drop_zero, chunk_bools r, eB]

theorem purs_bools (h : Heap) (n fuel : Nat) : ∀ l : List Bool, purs h n fuel (l.map AV.b) = some (l.map PV.bool)
  | [] => by unfold purs; rfl
  | x :: r => by
    simp only [List.map_cons]
    unfold purs pur
    rw [purs_bools h n fuel r]

theorem pur_bools {h : Heap} {n fuel b g : Nat} {l : List Bool} {m : Nat} (hm : m = l.length) (hb : blkAt h b g = some (l.map AV.b)) (hn : n ≤ b) : pur h n (fuel + 1) (.ref b g 0 1 m) = some (.sl (l.map eB)) := by
  subst hm
  unfold pur
  by_cases h0 : l.length = 0
  · rw [if_pos h0]; have := List.eq_nil_of_length_eq_zero h0; subst this; rfl
  · rw [if_neg h0, hb]
    simp only [hn, true_and, Nat.zero_add, Nat.mul_one, List.length_map, Nat.le_refl, if_true, List.drop_zero]
    rw [List.take_of_length_le (by simp), purs_bools]
    simp only [Option.map_some, chunk_bools]

theorem EndP_bools {P : Program} {h : Heap} {K : AV → Prop} {e : Exit} {s : St} (he : e = .normal ∨ e = .ret) {t b g m : Nat} {l : List Bool} (hm : m = l.length) (hf : s.fr t = some (.ref b g 0 1 m)) (hb : blkAt s.heap b g = some (l.map AV.b)) (hn : h.length ≤ b)
    (ht : s.heap.take h.length = h) (hle : h.length ≤ s.heap.length) (hk : K (aBl l)) : EndP P [.tmp t] h K e s := by
  have key : FinP P [.tmp t] h K s := by
    unfold FinP
    simp only [resA, resL, resA1, hf, lastV, lastA, pur_bools hm hb hn, Option.map_some]
    exact ⟨ht, hle, hk⟩
  rcases he with rfl | rfl <;> exact key

theorem dropB {l : List Bool} {k : Nat} {x : Bool} (h : l[k]? = some x) : (l.map AV.b).drop k = .p (.bool x) :: (l.drop (k + 1)).map AV.b := by
  obtain ⟨hk, e⟩ := List.getElem?_eq_some_iff.mp h
  rw [← List.map_drop, List.drop_eq_getElem_cons hk, e]; rfl
theorem setB_b (l : List Bool) (k : Nat) : (l.map AV.b).set k (AV.p (.bool true)) = (l.set k true).map AV.b := by
  rw [List.map_set]
theorem flat_one {α : Type} (n : Nat) (x : α) : (List.replicate n [x]).flatMap id = List.replicate n x := by
  induction n with
  | zero => rfl
  | succ n ih => rw [List.replicate_succ, List.flatMap_cons, ih, List.replicate_succ]; rfl
theorem rep_bools (n : Nat) : List.replicate n (AV.p (.bool false)) = (List.replicate n false).map AV.b := by simp

def esF (fl : List Fl) : List (Nat × Nat) := fl.map fun f => (f.src.toNat, f.dst.toNat)
def InN (n : Nat) (fl : List Fl) : Prop := ∀ f ∈ fl, (0 ≤ f.src ∧ f.src < (n : Int)) ∧ 0 ≤ f.dst ∧ f.dst < (n : Int)

end Go.Proofs.YtjpphhcimpclpaaDoor.AM
end
